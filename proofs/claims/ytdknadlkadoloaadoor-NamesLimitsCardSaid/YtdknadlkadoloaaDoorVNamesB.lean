/- Entries in memory; byName; sorting them by exchanges. -/
import Derived.Test.YtdknadlkadoloaaDoorVNodes7
import Derived.Test.YtdknadlkadoloaaDoorVNamesA
import Derived.Test.YtdknadlkadoloaaDoorVCopy
namespace Go.Proofs.YtdknadlkadoloaaDoorV
open Go Go.RowKit
/-! ### Cells -/
/-- An entry: its name, the slice of its bytes, and what these are. -/
abbrev E3 := ByteArray × Value × List Int
instance : Inhabited E3 := ⟨(⟨#[]⟩, .slice none 0 0, [])⟩
def c3 (u : E3) : List Value := [.string u.1, u.2.1]
def cells3 (us : List E3) : List Value := us.flatMap c3
def er (u : E3) : En := (u.1, u.2.2)
theorem cells3_cons (u : E3) (us : List E3) : cells3 (u :: us) = .string u.1 :: u.2.1 :: cells3 us := rfl
theorem cells3_len : ∀ us : List E3, (cells3 us).length = us.length * 2
  | [] => rfl
  | u :: us => by rw [cells3_cons]; simp only [List.length_cons, cells3_len us]; omega
theorem cells3_app (a b : List E3) : cells3 (a ++ b) = cells3 a ++ cells3 b := by simp [cells3]
theorem cells3_get : ∀ {us : List E3} {i : Nat} {u : E3}, us[i]? = some u → (cells3 us)[i * 2]? = some (.string u.1) ∧ (cells3 us)[i * 2 + 1]? = some u.2.1
  | [], _, _, h => by simp at h
  | x :: us, 0, u, h => by
    simp at h; subst h; exact ⟨rfl, rfl⟩
  | x :: us, i + 1, u, h => by
    have h2 := cells3_get (us := us) (i := i) (u := u) (by simpa using h)
    rw [cells3_cons, show (i + 1) * 2 = i * 2 + 2 by omega]
    simpa using h2
theorem cells3_take (us : List E3) (i : Nat) : (cells3 us).take (i * 2) = cells3 (us.take i) := by
  induction us generalizing i with
  | nil => simp [cells3]
  | cons u us ih =>
    cases i with
    | zero => simp [cells3]
    | succ i => rw [cells3_cons, show (i + 1) * 2 = i * 2 + 1 + 1 by omega, List.take_succ_cons, List.take_succ_cons, ih, List.take_succ_cons, cells3_cons]
theorem cells3_drop (us : List E3) (i : Nat) : (cells3 us).drop (i * 2) = cells3 (us.drop i) := by
  induction us generalizing i with
  | nil => simp [cells3]
  | cons u us ih =>
    cases i with
    | zero => simp
    | succ i => rw [cells3_cons, show (i + 1) * 2 = i * 2 + 1 + 1 by omega, List.drop_succ_cons, List.drop_succ_cons, ih, List.drop_succ_cons]
theorem cells3_set {us : List E3} {i : Nat} {u : E3} (h : i < us.length) : (cells3 us).take (i * 2) ++ c3 u ++ (cells3 us).drop (i * 2 + 2) = cells3 (us.set i u) := by
  rw [cells3_take, show i * 2 + 2 = (i + 1) * 2 by omega, cells3_drop, List.set_eq_take_append_cons_drop, if_pos h, cells3_app, cells3_cons]
  simp [c3]
theorem one3 {us : List E3} (h : ∀ u ∈ us, u.2.1.oneCell' = true) : ∀ v ∈ cells3 us, v.oneCell' = true := fun v hv => by
  obtain ⟨u, hu, hv⟩ := List.mem_flatMap.1 hv
  simp only [c3, List.mem_cons, List.not_mem_nil, or_false] at hv
  rcases hv with rfl | rfl
  · rfl
  · exact h u hu
/-- A slice of entries reads so. -/
def Es (w : World) (v : Value) (us : List E3) : Prop := Sl w 2 v us.length (cells3 us) ∧ ∀ u ∈ us, Nm .u8 w u.2.1 u.2.2
theorem Es.ev {w w' : World} {v : Value} {us : List E3} (h : Es w v us) (he : Ev w w') : Es w' v us := ⟨h.1.ev he, fun u hu => (h.2 u hu).ev he⟩
theorem Nm.oc {k : IntKind} {w : World} {v : Value} {xs : List Int} (h : Nm k w v xs) : v.oneCell' = true := by obtain ⟨a, c, rfl, _⟩ := h.shape; rfl
theorem Es.cell {w : World} {v : Value} {us : List E3} (h : Es w v us) {i : Nat} {u : E3} (hu : us[i]? = some u) {ad : Addr} (hc : ∀ j x, j < 2 → (cells3 us)[i * 2 + j]? = some x → w.cell? (ad.add j) = some x) : w.cell? (ad.add 0) = some (.string u.1) ∧ w.cell? (ad.add 1) = some u.2.1 :=
  ⟨hc 0 _ (by omega) (cells3_get hu).1, hc 1 _ (by omega) (cells3_get hu).2⟩
/-! ### A row that is told by its places -/
def lst (n : Nat) (f : Nat → E3) : List E3 := (List.range n).map f
theorem lst_len (n : Nat) (f : Nat → E3) : (lst n f).length = n := by simp [lst]
theorem lst_get {n i : Nat} (f : Nat → E3) (h : i < n) : (lst n f)[i]? = some (f i) := by simp [lst, h]
def put1 (f : Nat → E3) (i : Nat) (u : E3) : Nat → E3 := fun k => if k = i then u else f k
theorem lst_set {n i : Nat} (f : Nat → E3) (u : E3) (h : i < n) : (lst n f).set i u = lst n (put1 f i u) := by
  refine List.ext_getElem? fun j => ?_
  rw [List.getElem?_set]
  by_cases hj : j < n
  · rw [lst_get (put1 f i u) hj]
    by_cases e : i = j
    · subst e; rw [if_pos rfl, if_pos (by rw [lst_len]; exact h)]; simp [put1]
    · rw [if_neg e, lst_get f hj]; simp [put1, show ¬ j = i from fun h => e h.symm]
  · rw [List.getElem?_eq_none (l := lst n (put1 f i u)) (by rw [lst_len]; omega), if_neg (by omega), List.getElem?_eq_none (by rw [lst_len]; omega)]
theorem lst_of (us : List E3) : us = lst us.length (fun i => us.getD i default) := by
  refine List.ext_getElem? fun j => ?_
  by_cases hj : j < us.length
  · rw [lst_get _ hj, List.getElem?_eq_getElem hj]; simp [hj]
  · rw [List.getElem?_eq_none (by omega), List.getElem?_eq_none (by rw [lst_len]; omega)]
theorem put1_swp (f : Nat → E3) (i j : Nat) : put1 (put1 f i (f j)) j (f i) = swp f i j := by
  funext k; unfold put1 swp
  by_cases h1 : k = j
  · rw [if_pos h1]
    by_cases h2 : k = i
    · rw [if_pos h2, ← h1, ← h2]
    · rw [if_neg h2, if_pos h1]
  · rw [if_neg h1]
    by_cases h2 : k = i
    · rw [if_pos h2, if_pos h2]
    · rw [if_neg h2, if_neg h2, if_neg h1]
def fIt (e : TypeId) (v : Value) (n : Nat) (f : Nat → E3) : It := rIt e 2 v n (cells3 (lst n f))
def Ok1 (f : Nat → E3) : Prop := ∀ k, (f k).2.1.oneCell' = true
theorem Ok1.perm {f g : Nat → E3} {a b : Nat} (h : Ok1 f) (hp : PermOn a b f g) : Ok1 g := fun k => by obtain ⟨s, t, e, _⟩ := hp; rw [e]; exact h _
section
variable {w0 w w' : World} {G : List It} {e : TypeId} {v : Value} {n : Nat} {f : Nat → E3}
theorem fIdxLdB {i : Int} {ki : IntKind} {B : World → Prop} {K : ByteArray → Value → Prop} (h : Fr w0 w (fIt e v n f :: G)) (j : Nat) (hij : i = (j : Int)) (hj : j < n) (hB : ∀ w', B w' → Ev w w') (hk : K (f j).1 (f j).2.1) :
    gIdx P t_sl_api_Entry v (.int ki i) fun ad => gLoadB P t_api_Entry (.part (.agg [.str, .val])) (.pointer (some ad)) B fun s d => K s d := by
  have ho : w.ownsRow 0 e 2 v n (cells3 (lst n f)) := h.1
  refine gIdx_r ho hij hj fun ad hs => gLoadB_agg [.string (f j).1, (f j).2.1] (fun w' hw q u hq => ?_) hk
  have hg := cells3_get (lst_get f hj)
  have hc0 := SltR.cell ho hs (q := 0) hg.1
  have hc1 := SltR.cell ho hs (q := 1) hg.2
  rcases q with _ | _ | q
  · simp at hq; subst hq; exact Ch.cell (hB w' hw) hc0 fun h => h
  · simp at hq; subst hq; exact Ch.cell (hB w' hw) hc1 fun h => h
  · simp at hq
theorem fIdxSt {i : Int} {ki : IntKind} {K : World → Prop} (h : Fr w0 w (fIt e v n f :: G)) (j : Nat) (u : E3) (hij : i = (j : Int)) (hj : j < n) (hu : u.2.1.oneCell' = true) (hk : ∀ w', Fr w0 w' (fIt e v n (put1 f j u) :: G) → K w') :
    gIdx P t_sl_api_Entry v (.int ki i) fun ad => gStore P t_api_Entry (.pointer (some ad)) (.agg #[.string u.1, u.2.1]) w K := by
  have ho : w.ownsRow 0 e 2 v n (cells3 (lst n f)) := h.1
  refine gIdx_r ho hij hj fun ad hs => fStoreR (j := j) h 0 rfl hs hj rfl (fun x hx => ?_) fun w' hw => hk w' ?_
  · simp at hx; rcases hx with rfl | rfl
    · rfl
    · exact hu
  · have hset := cells3_set (us := lst n f) (i := j) (u := u) (by rw [lst_len]; exact hj)
    rw [show (#[Value.string u.1, u.2.1] : Array Value).toList = c3 u from rfl, hset, lst_set f u hj] at hw
    exact hw
theorem drewEv {w w' : World} (h : w' = w.drew) : Ev w.drew w' := by subst h; exact Ch.refl _ _
/-- What a comparison hands back. -/
def cmpN (a b : ByteArray) : Int := Lib.compareBytes a.data.toList b.data.toList
theorem Compare_any (a b : ByteArray) : Calls P n_strings_Compare #[.string a, .string b] w (fun e w' => e = .returned (.int .i64 (cmpN a b)) ∧ w' = w) :=
  of_strings_Compare (gCall_i0 (n := cmpN a b) (of_internal_bytealg_CompareString (gExt_i (by kernel_rfl) (Lib.run_compareString a b w) ⟨rfl, rfl⟩ (by kernel_rfl))) ⟨rfl, rfl⟩)
theorem byName_any (a b : ByteArray) (da db : Value) (ha : da.oneCell' = true) (hb : db.oneCell' = true) : Calls P n_names_byName #[.agg #[.string a, da], .agg #[.string b, db]] w (fun e w' => e = .returned (.int .i64 (cmpN a b)) ∧ Ev w w') :=
  of_names_byName (fBox (Fr.start w) fun a2 w1 f1 => fBox f1 fun b3 w2 f2 => gLoad_s (f2.cell 1 0 rfl rfl) (gLoad_s (f2.cell 0 0 rfl rfl) (gCall_i0 (Compare_any a b) ⟨rfl, f2.old⟩)))
abbrev byV : Value := .func (.func n_names_byName) #[] #[]
/-- byName, called through a value. -/
theorem gCmp {a b : ByteArray} {da db : Value} {K : Int → World → Prop} (ha : da.oneCell' = true) (hb : db.oneCell' = true) (hk : ∀ w', Ev w w' → K (cmpN a b) w') : gCallV P byV (shI .i64) #[.agg #[.string a, da], .agg #[.string b, db]] w K :=
  ⟨_, _, _, rfl, by kernel_rfl, gCall_i (byName_any a b da db ha hb) hk⟩
theorem cmpN_lt (a b : ByteArray) : decide (cmpN a b < 0) = nlt a b := ncmp_lt a b
/-- Two are exchanged, as it stands in the text: x[i], x[j] = x[j], x[i], where j is read first. -/
theorem gSwap {i j : Int} {K : World → Prop} (h : Fr w0 w (fIt e v n f :: G)) (ho : Ok1 f) (p q : Nat) (hip : i = (p : Int)) (hjq : j = (q : Int)) (hp : p < n) (hq : q < n) (hk : ∀ w', Fr w0 w' (fIt e v n (swp f p q) :: G) → K w') :
    ∃ B C : World → Prop, (B w.drew ∧ C w.drew) ∧ gIdx P t_sl_api_Entry v (.int .i64 j) fun ad1 => gLoadB P t_api_Entry (.part (.agg [.str, .val])) (.pointer (some ad1)) C fun s1 d1 => gIdx P t_sl_api_Entry v (.int .i64 i) fun ad2 => gLoadB P t_api_Entry (.part (.agg [.str, .val])) (.pointer (some ad2)) C fun s2 d2 =>
      gIdx P t_sl_api_Entry v (.int .i64 i) fun ad3 => gStore P t_api_Entry (.pointer (some ad3)) (.agg #[.string s1, d1]) w.drew fun w2 => B w2 ∧ gIdx P t_sl_api_Entry v (.int .i64 j) fun ad4 => gStore P t_api_Entry (.pointer (some ad4)) (.agg #[.string s2, d2]) w2 fun w3 => B w3 ∧ K w3 := by
  have hd := h.drew
  refine ⟨fun _ => True, fun w' => w' = w.drew, ⟨trivial, rfl⟩, fIdxLdB hd q hjq hq (fun _ => drewEv) (fIdxLdB hd p hip hp (fun _ => drewEv) (fIdxSt hd p (f q) hip hp (ho q) fun w2 h2 => ⟨trivial, fIdxSt h2 q (f p) hjq hq (ho p) fun w3 h3 => ⟨trivial, hk w3 ?_⟩⟩))⟩
  rw [put1_swp] at h3; exact h3
theorem Ok1.sw (ho : Ok1 f) (i j : Nat) : Ok1 (swp f i j) := fun k => by unfold Go.Proofs.YtdknadlkadoloaaDoorV.swp; split; exact ho _; split; exact ho _; exact ho _
theorem swapRange_any (hv : Fr w0 w (fIt e v n f :: G)) (ho : Ok1 f) (a b m : Nat) (cv : Value) (h1 : a + m ≤ b) (h2 : b + m ≤ n) (hn : n ≤ 1000000000000) :
    Calls P n_slices_swapRangeCmpFunc_api_Entry #[v, .int .i64 a, .int .i64 b, .int .i64 m, cv] w (fun e' w' => e' = .returned (.tuple #[]) ∧ Fr w0 w' (fIt e v n (swR a b m f) :: G)) := by
  refine of_slices_swapRangeCmpFunc_api_Entry ⟨fun i w' => ∃ j : Nat, i = (j : Int) ∧ j ≤ m ∧ Ok1 (swR a b j f) ∧ Fr w0 w' (fIt e v n (swR a b j f) :: G), fun i _ => m - i.toNat, ⟨0, rfl, Nat.zero_le _, by rw [swR_zero]; exact ho, by rw [swR_zero]; exact hv⟩, ?_⟩
  rintro _ i w1 ⟨j, rfl, hj, ho1, g1⟩
  refine gIf_dec (fun hlt => ?_) (fun hge => ?_)
  · have hlt' : j < m := by omega
    refine gSwap g1 ho1 (a + j) (b + j) (by rw [i64_id (by omega) (by omega)]; omega) (by rw [i64_id (by omega) (by omega)]; omega) (by omega) (by omega) fun w2 g2 => ?_
    rw [swR_step a b j f (by omega)] at g2
    refine ⟨⟨j + 1, by rw [i64_id (by omega) (by omega)]; omega, by omega, ?_, g2⟩, by dsimp only; rw [i64_id (by omega) (by omega)]; omega⟩
    rw [← swR_step a b j f (by omega)]; exact ho1.sw _ _
  · obtain rfl : j = m := by omega
    exact ⟨rfl, g1⟩
theorem swR_ok (ho : Ok1 f) (a b m : Nat) : Ok1 (swR a b m f) := fun k => by unfold swR; split; exact ho _; split; exact ho _; exact ho _
theorem rotate_any (hv : Fr w0 w (fIt e v n f :: G)) (ho : Ok1 f) (a m b : Nat) (cv : Value) (h1 : a < m) (h2 : m < b) (h3 : b ≤ n) (hn : n ≤ 1000000000000) :
    Calls P n_slices_rotateCmpFunc_api_Entry #[v, .int .i64 a, .int .i64 m, .int .i64 b, cv] w (fun e' w' => e' = .returned (.tuple #[]) ∧ Fr w0 w' (fIt e v n (rot a m b f) :: G)) := by
  refine of_slices_rotateCmpFunc_api_Entry ⟨fun i j w' => ∃ (p q : Nat) (g : Nat → E3), i = (p : Int) ∧ j = (q : Int) ∧ 0 < p ∧ 0 < q ∧ a + p ≤ m ∧ m + q ≤ b ∧ Ok1 g ∧ rot (m - p) m (m + q) g = rot a m b f ∧ Fr w0 w' (fIt e v n g :: G), fun i j _ => (i + j).toNat, ?_, ?_⟩
  · refine ⟨m - a, b - m, f, by rw [i64_id (by omega) (by omega)]; omega, by rw [i64_id (by omega) (by omega)]; omega, by omega, by omega, by omega, by omega, ho, ?_, hv⟩
    rw [show m - (m - a) = a by omega, show m + (b - m) = b by omega]
  rintro _ i j w1 ⟨p, q, g, rfl, rfl, hp, hq, hp1, hq1, hg, hr, g1⟩
  refine gIf_neq (fun hne => gIf_dec (fun hgt => ?_) (fun hle => ?_)) (fun heq => ?_)
  · rw [i64_id (n := (m : Int) - p) (by omega) (by omega), show ((m : Int) - p) = ((m - p : Nat) : Int) by omega]
    refine gCall_u (swapRange_any g1 hg (m - p) m q cv (by omega) (by omega) hn) fun w2 g2 => ?_
    rw [i64_id (n := (p : Int) - q) (by omega) (by omega)]
    refine ⟨⟨p - q, q, _, by omega, rfl, by omega, hq, by omega, hq1, swR_ok hg _ _ _, ?_, g2⟩, by dsimp only; omega⟩
    rw [rot_gt m p q g (by omega) (by omega)]; exact hr
  · have hlt : p < q := by omega
    rw [i64_id (n := (m : Int) - p) (by omega) (by omega), i64_id (n := (m : Int) + q) (by omega) (by omega), i64_id (n := (m : Int) + q - p) (by omega) (by omega), show ((m : Int) - p) = ((m - p : Nat) : Int) by omega, show ((m : Int) + q - p) = ((m + q - p : Nat) : Int) by omega]
    refine gCall_u (swapRange_any g1 hg (m - p) (m + q - p) p cv (by omega) (by omega) hn) fun w2 g2 => ?_
    rw [i64_id (n := (q : Int) - p) (by omega) (by omega)]
    refine ⟨⟨p, q - p, _, rfl, by omega, hp, by omega, hp1, by omega, swR_ok hg _ _ _, ?_, g2⟩, by dsimp only; omega⟩
    rw [rot_le m p q g (by omega) hlt]; exact hr
  · obtain rfl : p = q := by omega
    rw [i64_id (n := (m : Int) - p) (by omega) (by omega), show ((m : Int) - p) = ((m - p : Nat) : Int) by omega]
    refine gCall_u (swapRange_any g1 hg (m - p) m p cv (by omega) (by omega) hn) fun w2 g2 => ⟨rfl, ?_⟩
    rw [rot_eq m p g (by omega), hr] at g2
    exact g2
end
end Go.Proofs.YtdknadlkadoloaaDoorV
