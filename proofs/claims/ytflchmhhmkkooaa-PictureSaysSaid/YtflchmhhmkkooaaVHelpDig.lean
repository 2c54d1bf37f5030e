/- Package valisehelp: Digits. -/
import Derived.Test.YtflchmhhmkkooaaVBase2
namespace Go.Proofs.YtflchmhhmkkooaaV
open Go Go.RowKit
def digL (n : Nat) : List Int := if h : n < 10 then [48 + (n : Int)] else digL (n / 10) ++ [48 + ((n % 10 : Nat) : Int)]
termination_by n
decreasing_by omega
theorem digL_len : ∀ (k : Nat) {n : Nat}, n < 10 ^ (k + 1) → (digL n).length ≤ k + 1 ∧ digL n ≠ []
  | 0, n, h => by rw [digL, dif_pos (by omega)]; simp
  | k + 1, n, h => by
    rw [digL]
    split
    · simp
    · have := digL_len k (n := n / 10) (by rw [Nat.pow_succ] at h; omega)
      simp only [List.length_append, List.length_cons, List.length_nil]
      exact ⟨by omega, by simp⟩
theorem digL_dig (n : Nat) : ∀ c ∈ digL n, 48 ≤ c ∧ c ≤ 57 := by
  induction n using Nat.strongRecOn with
  | ind n ih =>
    intro c hc
    rw [digL] at hc
    split at hc
    · simp at hc; omega
    · rcases List.mem_append.1 hc with hc | hc
      · exact ih (n / 10) (by omega) c hc
      · simp at hc; omega
theorem digL_u8 (n : Nat) : inR .u8 (digL n) := fun c hc => u8i (by have := digL_dig n c hc; omega)
def valL (v : Int) : List Int → Int
  | [] => v
  | c :: r => valL (10 * v + (c - 48)) r
theorem valL_app (l : List Int) (c v : Int) : valL v (l ++ [c]) = 10 * valL v l + (c - 48) := by
  induction l generalizing v with
  | nil => rfl
  | cons a r ih => exact ih _
theorem valL_dig (n : Nat) : valL 0 (digL n) = n := by
  induction n using Nat.strongRecOn with
  | ind n ih =>
    rw [digL]
    split
    · simp [valL]; omega
    · rw [valL_app, ih (n / 10) (by omega)]; omega
theorem Digits_any : ∀ (n : Nat), n < 1000000000000 → ∀ {w : World}, Calls P n_valisehelp_Digits #[.int .i64 (n : Int)] w (fun e w' => e = .returned (.string (bsOf (digL n))) ∧ Ev w w') := by
  intro n
  induction n using Nat.strongRecOn with
  | ind n ih =>
    intro hn w
    have hlen : ∀ {m : Nat}, m < 1000000000000 → (digL m).length ≤ 12 := fun h => (digL_len 11 (by simpa using h)).1
    refine of_valisehelp_Digits (gIf_dec (fun h => by omega) (fun _ => gIf_dec (fun h => ?_) (fun h => ?_)))
    · rw [i64_id (n := 48 + (n : Int)) (by omega) (by omega), u8_id (n := 48 + (n : Int)) (by omega) (by omega)]
      refine fLit_n [48 + (n : Int)] (Fr.start w) rfl rfl (fun x hx => by simp at hx; subst hx; exact u8i (by omega)) fun v w2 f2 => gConv_bs (f2.nm 0 rfl) ⟨?_, f2.old⟩
      rw [digL, dif_pos (by omega)]
    · have e1 : i64 (Int.tdiv (n : Int) 10) = ((n / 10 : Nat) : Int) := by rw [Int.tdiv_eq_ediv_of_nonneg (by omega), i64_id (by omega) (by omega)]; omega
      have e2 : u8 (i64 (48 + Int.tmod (n : Int) 10)) = 48 + ((n % 10 : Nat) : Int) := by rw [Int.tmod_eq_emod_of_nonneg (by omega), i64_id (by omega) (by omega), u8_id (by omega) (by omega)]; omega
      have hd : digL n = digL (n / 10) ++ [48 + ((n % 10 : Nat) : Int)] := by rw [digL, dif_neg (by omega)]
      have h1 := hlen (m := n / 10) (by omega)
      rw [e1, e2]
      have hR : inR .u8 [48 + ((n % 10 : Nat) : Int)] := fun x hx => by simp at hx; subst hx; exact u8i (by omega)
      have fin : ∀ {w' : World}, Ev w w' → gBin P .add t_string shS (.string (bsOf (digL (n / 10)))) (.string (bsOf [48 + ((n % 10 : Nat) : Int)])) fun (t25 : ByteArray) => (fun e w' => e = .returned (.string (bsOf (digL n))) ∧ Ev w w') (Ending.returned (.string t25)) w' := fun he =>
        gBin_cat (by simp; omega) ⟨by rw [hd], he⟩
      refine ⟨fun _ => True, trivial, ?_, ?_⟩
      · refine gCall_of (ih (n / 10) (by omega) (by omega)) ?_
        rintro _ w4 ⟨rfl, h4⟩
        exact ⟨_, rfl, trivial, fLit_n [48 + ((n % 10 : Nat) : Int)] ((Fr.start w).ev ((Ev.drew0 w).trans h4)) rfl rfl hR fun v w5 f5 => ⟨trivial, gConv_bs (f5.nm 0 rfl) ⟨trivial, fin f5.old⟩⟩⟩
      · refine fLit_n [48 + ((n % 10 : Nat) : Int)] ((Fr.start w).ev (Ev.drew0 w)) rfl rfl hR fun v w7 f7 => ⟨trivial, ?_, ?_⟩
        · refine gCall_of (ih (n / 10) (by omega) (by omega)) ?_
          rintro _ w8 ⟨rfl, h8⟩
          have f8 := f7.ev h8
          exact ⟨_, rfl, trivial, gConv_bs (f8.nm 0 rfl) ⟨trivial, fin f8.old⟩⟩
        · refine gConv_bs (f7.nm 0 rfl) ⟨trivial, gCall_of (ih (n / 10) (by omega) (by omega)) ?_⟩
          rintro _ w8 ⟨rfl, h8⟩
          have f8 := f7.ev h8
          exact ⟨_, rfl, trivial, fin f8.old⟩
end Go.Proofs.YtflchmhhmkkooaaV
