/- Package text: the writer, Caps, Uncaps; the same of valiseref22. -/
import Derived.Test.YthnljfogfaoahaaDoorVHelpIdx
namespace Go.Proofs.YthnljfogfaoahaaDoorV
open Go Go.RowKit
def capB (c : Int) : Bool := decide (65 ≤ c ∧ c ≤ 90)
def capE (c : Int) : List Int := if capB c = true then [2, c + 32] else if c = 2 ∨ c = 3 then [3, c] else [c]
def capL (xs : List Int) : List Int := xs.flatMap capE
def capsT (xs : List Int) : List Int × Bool := if xs.any capB = true ∧ xs.length ≤ 1048576 then (capL xs, true) else ([], false)
/-- So many bytes may be. -/
def limT (most : Int) : Int := if 0 > most then 0 else if 1048576 < most then 1048576 else most
/-- The bytes with capitals, put behind what is there. -/
def uncL (lim : Int) : Nat → List Int → List Int → List Int × Int
  | 0, _, out => (out, 0)
  | _ + 1, [], out => (out, 0)
  | f + 1, c :: r, out =>
    if c = 2 ∨ c = 3 then
      (match r with
       | [] => ([], 3)
       | d :: r' =>
         if c = 2 ∧ 97 ≤ d ∧ d ≤ 122 then (if ((out ++ [d - 32]).length : Int) > lim then ([], 5) else uncL lim f r' (out ++ [d - 32]))
         else if c = 3 ∧ (d = 2 ∨ d = 3) then (if ((out ++ [d]).length : Int) > lim then ([], 5) else uncL lim f r' (out ++ [d]))
         else ([], 4))
    else if ((out ++ [c]).length : Int) > lim then ([], 5) else uncL lim f r (out ++ [c])
theorem capE_u8 {c : Int} (h : 0 ≤ c ∧ c < 256) : inR .u8 (capE c) := fun x hx => by
  unfold capE capB at hx
  split at hx
  · rename_i hc
    have hc := of_decide_eq_true hc
    simp at hx; exact u8i (by omega)
  · split at hx <;> (simp at hx; exact u8i (by omega))
theorem capE_len (c : Int) : (capE c).length ≤ 2 ∧ 1 ≤ (capE c).length := by unfold capE; split; simp; split <;> simp
theorem capL_len : ∀ (xs : List Int), (capL xs).length ≤ 2 * xs.length
  | [] => by simp [capL]
  | c :: r => by
    have := capL_len r
    have h2 := capE_len c
    unfold capL at this ⊢
    simp only [List.flatMap_cons, List.length_append, List.length_cons]; omega
theorem capL_snoc (xs : List Int) (i : Nat) (h : i < xs.length) : capL (xs.take (i + 1)) = capL (xs.take i) ++ capE (rd xs i) := by
  unfold capL
  rw [List.take_succ_eq_append_getElem h, rd_nat xs i h, List.flatMap_append, List.flatMap_cons, List.flatMap_nil, List.append_nil]
section
variable {b : Value} {xs : List Int} {w : World}
theorem capital_any {c : Int} {w : World} : Calls P n_text_capital #[.int .u8 c] w (fun e w' => e = .returned (.bool (capB c)) ∧ w' = w) := by
  refine of_text_capital (gIf_dec (fun h => ⟨?_, rfl⟩) (fun h => ⟨?_, rfl⟩))
  · unfold capB; congr 2; exact decide_eq_decide.2 ⟨fun h2 => ⟨h, h2⟩, fun h2 => h2.2⟩
  · unfold capB; rw [decide_eq_false (fun h2 => h h2.1)]
theorem tput_any {ad : Addr} {v l : Value} {ys : List Int} (h : Wr eB w ad v xs) (hl : Nm .u8 w l ys) (hb : (xs.length + ys.length) * 8 ≤ 140737488355328) : Calls P n_text_writer_put #[.pointer (some ad), l] w (fun e w' => e = .returned (.tuple #[]) ∧ ∃ v', WrS eB w w' ad v v' (xs ++ ys)) :=
  of_text_writer_put (gNil_some (gLoad_v (h.1.cell (j := 0) rfl) (wrApp h hl hb fun v' w' hw => ⟨rfl, v', hw⟩)))
theorem over_eq (most : Int) : (if (if 1048576 < most then 1048576 else most) > 0 then (if 1048576 < most then 1048576 else most) else 0) = limT most := by unfold limT; split <;> split <;> split <;> omega
theorem over_any {ad : Addr} {v : Value} {most : Int} (h : Wr eB w ad v xs) : Calls P n_text_writer_over #[.pointer (some ad), .int .i64 most] w (fun e w' => e = .returned (.bool (decide ((xs.length : Int) > limT most))) ∧ w' = w) := by
  refine of_text_writer_over (gNil_some (gLoad_v (h.1.cell (j := 0) rfl) (gLen_nm h.2.1.nm ⟨?_, rfl⟩)))
  rw [over_eq]
/-- Bytes of a literal, put. -/
theorem fPutLit {w0 : World} {F : List It} {ad : Addr} {v : Value} {K : World → Prop} {parts : Array (Nat × Value)} {n : Nat} (ys : List Int) (hp : parts.toList = enumV 0 (ys.map (.int .u8))) (hn : ys.length = n) (hy : inR .u8 ys) (h : Fr w0 w (wIt eB ad v xs :: F)) (hb : xs.length ≤ 1000000000) (hn2 : n ≤ 100) (hk : ∀ v' w', Fr w0 w' (wIt eB ad v' (xs ++ ys) :: F) → K w') :
    gLit P t_sl_uint8 n parts w fun l w1 => gCall P n_text_writer_put shU #[.pointer (some ad), l] w1 K :=
  fLit_n ys h hp hn hy (fun l w1 f1 => gCall_u (tput_any (f1.get 1 rfl) (f1.nm 0 rfl) (by omega)) fun w2 ⟨v', hw⟩ => hk v' w2 ((f1.wr 1 rfl hw).drop 0)) (by omega)
theorem Caps_any (hb : Nm .u8 w b xs) (hl : xs.length ≤ 100000000) : Calls P n_text_Caps #[b] w (TupB w (capsT xs)) := by
  have hno : ¬ (xs.any capB = true ∧ xs.length ≤ 1048576) → capsT xs = ([], false) := fun h => by unfold capsT; rw [if_neg h]
  refine of_text_Caps ⟨fun w' => (xs.any capB = true ∧ xs.length ≤ 1048576) ∧ w = w', gCall_b0 (ContainsFunc_any (by kernel_rfl) capital_any hb (by omega)) (gIf_b (fun h => ?_) (fun h => ?_)), ?_⟩
  · have h : xs.any capB = true := by simpa using h
    refine gLen_nm hb (gIf_dec (fun hg => ?_) (fun hg => ⟨⟨h, by omega⟩, rfl⟩))
    rw [hno (by omega)]; exact ⟨_, rfl, Ch.refl _ w, ON.nil _ _ _ _⟩
  · have h : xs.any capB = false := by simpa using h
    rw [hno (by rw [h]; simp)]; exact ⟨_, rfl, Ch.refl _ w, ON.nil _ _ _ _⟩
  rintro _ _ ⟨hok, rfl⟩
  refine fAlloc (z := .agg #[.slice none 0 0]) (Fr.start w) (by kernel_rfl) fun ad w1 f1 => ?_
  have f1 := f1.asW (e := eB) 0 rfl
  rw [Addr.add_zero' ad]
  refine gLen_nm hb ⟨fun i w' => ∃ (j : Nat) (v : Value), i = j ∧ j ≤ xs.length ∧ Fr w w' [wIt eB ad v (capL (xs.take j))], fun i _ => xs.length - i.toNat, ⟨0, _, rfl, by omega, f1⟩, ?_⟩
  rintro _ i w2 ⟨j, v, rfl, hj, f2⟩
  have hcl := capL_len (xs.take j)
  rw [List.length_take, Nat.min_eq_left hj] at hcl
  refine gIf_dec (fun hlt => ?_) (fun hge => ?_)
  · have hlt' : j < xs.length := by omega
    have hc := rd_u8 hb.2 j
    have hs := capL_snoc xs j hlt'
    have hsu := capE_u8 hc
    rw [i64_id (n := (j : Int) + 1) (by omega) (by omega)]
    refine gIdx_nm (hb.ev f2.old) (by omega) hlt fun a1 c1 _ => gLoad_i c1 (gCall_b0 capital_any (gIf_b (fun hcap => ?_) (fun hcap => ?_)))
    · have he : capE (rd xs j) = [2, u8 (rd xs j + 32)] := by
        have := of_decide_eq_true hcap
        unfold capE; rw [if_pos hcap, u8_id (by omega) (by omega)]
      rw [he] at hs hsu
      refine fPutLit [2, u8 (rd xs j + 32)] rfl rfl hsu f2 (by omega) (by decide) fun v' w3 f3 => ?_
      rw [← hs] at f3
      exact ⟨⟨j + 1, v', rfl, by omega, f3⟩, by dsimp only; omega⟩
    · have fin2 : (rd xs j = 2 ∨ rd xs j = 3) → gLit P t_sl_uint8 2 #[(0, .int .u8 3), (1, .int .u8 (rd xs j))] w2 fun (t42 : Value) ww8 => gCall P n_text_writer_put shU #[.pointer (some ad), t42] ww8 fun ww9 => (∃ (j' : Nat) (v : Value), ((j : Int) + 1) = j' ∧ j' ≤ xs.length ∧ Fr w ww9 [wIt eB ad v (capL (xs.take j'))]) ∧ xs.length - ((j : Int) + 1).toNat < xs.length - (j : Int).toNat := fun h23 => by
        have he : capE (rd xs j) = [3, rd xs j] := by unfold capE; rw [if_neg (by rw [hcap]; simp), if_pos h23]
        rw [he] at hs hsu
        refine fPutLit [3, rd xs j] rfl rfl hsu f2 (by omega) (by decide) fun v' w3 f3 => ?_
        rw [← hs] at f3
        exact ⟨⟨j + 1, v', rfl, by omega, f3⟩, by omega⟩
      refine gIf_neqq (fun n2 => gIf_eq (fun e3 => fin2 (.inr e3)) (fun n3 => ?_)) (fun e2 => fin2 (.inl e2))
      have he : capE (rd xs j) = [rd xs j] := by unfold capE; rw [if_neg (by rw [hcap]; simp), if_neg (by omega)]
      rw [he] at hs hsu
      refine fPutLit [rd xs j] rfl rfl hsu f2 (by omega) (by decide) fun v' w3 f3 => ?_
      rw [← hs] at f3
      exact ⟨⟨j + 1, v', rfl, by omega, f3⟩, by dsimp only; omega⟩
  · obtain rfl : j = xs.length := by omega
    have hW : Wr eB w2 ad v (capL (xs.take xs.length)) := f2.get 0 rfl
    refine gLoad_v (hW.1.cell (j := 0) rfl) ?_
    have hc : capsT xs = (capL (xs.take xs.length), true) := by unfold capsT; rw [if_pos hok, List.take_length]
    rw [hc]
    refine ⟨v, rfl, f2.old, ?_⟩
    exact on_new hW.2.1 fun g hg => (f2.ft 0 rfl (k := g) (.inr hg)).1
end
end Go.Proofs.YthnljfogfaoahaaDoorV
