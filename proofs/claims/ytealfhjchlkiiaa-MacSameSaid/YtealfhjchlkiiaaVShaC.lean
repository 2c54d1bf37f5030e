/- Package sha: New, Write. -/
import Derived.Test.YtealfhjchlkiiaaVShaB
namespace Go.Proofs.YtealfhjchlkiiaaV
open Go Go.RowKit
section
variable {w0 w w' : World} {F G : List It}
theorem Fr.perm (hp : F.Perm G) : Fr w0 w F → Fr w0 w G := by
  induction hp with
  | nil => exact fun h => h
  | cons a hp ih => exact fun h => ⟨h.1, h.2.1, fun jt hj => h.2.2.1 jt (hp.mem_iff.2 hj), ih h.2.2.2⟩
  | swap a b l =>
    intro h
    refine ⟨h.2.2.2.1, h.2.2.2.2.1, fun jt hj k hk hjk => ?_, h.1, h.2.1, fun jt hj => h.2.2.1 jt (by simp [hj]), h.2.2.2.2.2.2⟩
    rcases List.mem_cons.1 hj with rfl | hj
    · exact h.2.2.1 a (by simp) k hjk hk
    · exact h.2.2.2.2.2.1 jt hj k hk hjk
  | trans _ _ ih1 ih2 => exact fun h => ih2 (ih1 h)
theorem perm_front {α : Type} {it : α} : ∀ {F : List α} {i : Nat}, F[i]? = some it → F.Perm (it :: F.eraseIdx i)
  | [], _, h => by cases h
  | a :: F, 0, h => by
    simp only [List.getElem?_cons_zero, Option.some.injEq] at h
    subst h; exact List.Perm.refl _
  | a :: F, i + 1, h => by
    simp only [List.getElem?_cons_succ] at h
    exact ((perm_front h).cons a).trans (List.Perm.swap it a _)
/-- A thing ahead of the others. -/
theorem Fr.front (h : Fr w0 w F) (i : Nat) {it : It} (hi : F[i]? = some it) : Fr w0 w (it :: F.eraseIdx i) := h.perm (perm_front hi)
end
/-- The state behind so many blocks of a text. -/
def stK (msg : List Int) : Nat → List Int
  | 0 => h0F
  | k + 1 => cmpF kF (stK msg k) ((msg.drop (64 * k)).take 64)
def restF (msg : List Int) : List Int := msg.drop (64 * (msg.length / 64))
def hCells (msg : List Int) (ka : Addr) (rv : Value) : List Value := (stK msg (msg.length / 64)).map (.int .u32) ++ [.pointer (some ka), rv, .int .u64 (msg.length : Int)]
theorem stK_len (msg : List Int) : ∀ k, (stK msg k).length = 8
  | 0 => h0F_len
  | k + 1 => cmpF_len _ _ (stK_len msg k)
theorem stK_app (msg x : List Int) : ∀ k, 64 * k ≤ msg.length → stK (msg ++ x) k = stK msg k
  | 0, _ => rfl
  | k + 1, h => by
    rw [stK, stK, stK_app msg x k (by omega), List.drop_append_of_le_length (by omega), List.take_append_of_le_length (by rw [List.length_drop]; omega)]
theorem restF_len (msg : List Int) : (restF msg).length = msg.length % 64 := by unfold restF; rw [List.length_drop]; omega
theorem hCells_len (msg : List Int) (ka : Addr) (rv : Value) : (hCells msg ka rv).length = 11 := by unfold hCells; rw [List.length_append, List.length_map, stK_len]; rfl
/-- The cells of a hash, however its numbers are. -/
def hC (st : List Int) (ka : Addr) (rv : Value) (n : Int) : List Value := st.map (.int .u32) ++ [.pointer (some ka), rv, .int .u64 n]
theorem hC_get {st : List Int} {ka : Addr} {rv : Value} {n : Int} (h : st.length = 8) : (hC st ka rv n)[8]? = some (.pointer (some ka)) ∧ (hC st ka rv n)[9]? = some rv ∧ (hC st ka rv n)[10]? = some (.int .u64 n) := by
  obtain ⟨a, b, c, d, e, f, g, i, rfl⟩ := len8 h; exact ⟨rfl, rfl, rfl⟩
theorem hC_set9 {st : List Int} {ka : Addr} {rv rv' : Value} {n : Int} (h : st.length = 8) : (hC st ka rv n).set 9 rv' = hC st ka rv' n := by
  obtain ⟨a, b, c, d, e, f, g, i, rfl⟩ := len8 h; rfl
theorem hC_set10 {st : List Int} {ka : Addr} {rv : Value} {n m : Int} (h : st.length = 8) : (hC st ka rv n).set 10 (.int .u64 m) = hC st ka rv m := by
  obtain ⟨a, b, c, d, e, f, g, i, rfl⟩ := len8 h; rfl
theorem hC_len {st : List Int} {ka : Addr} {rv : Value} {n : Int} (h : st.length = 8) : (hC st ka rv n).length = 11 := by
  obtain ⟨a, b, c, d, e, f, g, i, rfl⟩ := len8 h; rfl
theorem hC_drop {st : List Int} {ka : Addr} {rv : Value} {n : Int} (h : st.length = 8) : (hC st ka rv n).drop 8 = [.pointer (some ka), rv, .int .u64 n] ∧ (hC st ka rv n).take 8 = st.map (.int .u32) := by
  obtain ⟨a, b, c, d, e, f, g, i, rfl⟩ := len8 h; exact ⟨rfl, rfl⟩
section
variable {w0 w w' : World} {F : List It}
theorem shaNew_any {w : World} : Calls P n_sha_New #[] w (fun e w' => ∃ ad ka, e = .returned (.pointer (some ad)) ∧ ∀ {w0 : World} {F : List It}, Fr w0 w F → Fr w0 w' (sIt ad (hCells [] ka (.slice none 0 0)) :: sIt ka (kF.map (.int .u32)) :: F)) := by
  have hkl := kF_len
  refine of_sha_New (gCall_of constants_any ?_)
  rintro _ w1 ⟨rfl, h1⟩
  refine ⟨_, rfl, ?_⟩
  refine gAlloc_of (z := .agg (Array.replicate 64 (.int .u32 0))) (by kernel_rfl) fun k1 w2 h2 hk1 hs2 hS2 => ?_
  rw [zero64u] at hS2
  have h64 : (kF.map (Value.int .u32)).length = 64 := by rw [List.length_map, hkl]
  have hone : ∀ u ∈ (kF.map (Value.int .u32)).toArray.toList, u.oneCell' = true := fun u hu => by obtain ⟨x, _, rfl⟩ := List.mem_map.1 (by simpa using hu); rfl
  have hle : (kF.map (Value.int .u32)).toArray.size ≤ (List.replicate 64 (Value.int .u32 0)).length := by rw [List.size_toArray, h64, List.length_replicate]; exact Nat.le_refl _
  refine gStore_agg0 hS2 hle hone (fun w3 h3 hs3 hS3 => ?_) (by rw [List.size_toArray, h64]; kernel_rfl)
  have hS3 : St w3 k1 (kF.map (.int .u32)) := by
    have e : (List.replicate 64 (Value.int .u32 0)).drop ((kF.map (Value.int .u32)).toArray.size) = [] := List.drop_of_length_le (by rw [List.size_toArray, h64, List.length_replicate]; exact Nat.le_refl _)
    rw [e, List.append_nil, List.toList_toArray] at hS3; exact hS3
  obtain ⟨a, b, c, d, e, f, g, i, hh⟩ := len8 h0F_len
  refine gCall_of first_any ?_
  rintro _ w4 ⟨rfl, h4⟩
  rw [hh]
  refine ⟨_, _, _, _, _, _, _, _, rfl, ?_⟩
  refine gBox_of fun ad w5 h5 had hs5 hS5 => ⟨ad, k1, rfl, fun {w0 F} f0 => ?_⟩
  have f1 := f0.ev h1
  have f2 : Fr w0 w2 (sIt k1 (List.replicate 64 (.int .u32 0)) :: F) := f1.new h2 hS2 fun k hk => by have hk : k = k1.block := hk; subst hk1; dsimp only at hk; omega
  have f3 : Fr w0 w3 (sIt k1 (kF.map (.int .u32)) :: F) := f2.upd (jt := sIt k1 (kF.map (.int .u32))) 0 rfl h3 (fun k _ hh => .inl hh.1) hS3 fun k hk => .inl hk
  have f4 := f3.ev h4
  have hc : hCells [] k1 (.slice none 0 0) = [.int .u32 a, .int .u32 b, .int .u32 c, .int .u32 d, .int .u32 e, .int .u32 f, .int .u32 g, .int .u32 i, .pointer (some k1), .slice none 0 0, .int .u64 0] := by
    unfold hCells
    rw [show stK [] (([] : List Int).length / 64) = h0F from rfl, hh]; rfl
  rw [hc]
  exact f4.new h5 hS5 fun k hk => by have hk : k = ad.block := hk; subst had; dsimp only at hk; omega
/-- A block is taken, in a frame. -/
theorem fTake {ad ka : Addr} {b rv : Value} {st bs : List Int} {n : Int} {K : World → Prop} (f : Fr w0 w F) (i j : Nat) (hi : F[i]? = some (sIt ad (hC st ka rv n))) (hj : F[j]? = some (sIt ka (kF.map (.int .u32)))) (hl : st.length = 8) (hb : Nm .u8 w b bs) (hbl : bs.length = 64)
    (hk : ∀ w', Fr w0 w' (F.set i (sIt ad (hC (cmpF kF st bs) ka rv n))) → Ch (Rg ad 8) w w' → K w') : gCall P n_sha_state_take shU #[.pointer (some ad), b, .pointer (some ka)] w K := by
  have hS : St w ad (hC st ka rv n) := f.get i hi
  have hsub := hS.sub 0 8
  rw [Addr.add_zero', List.drop_zero, (hC_drop hl).2] at hsub
  refine gCall_u (take_any hsub hl (f.get j hj) kF_len hb hbl) fun w1 ⟨h1, s1⟩ => hk w1 (f.upd i hi h1 (fun k _ hh => .inl hh.1) ?_ fun k hk => .inl hk) h1
  have hcl := cmpF_len kF bs hl
  have := hS.put (k := 0) h1 (by rw [Addr.add_zero']; exact s1) (fun q hq hor hh => by
    rw [List.length_map, hcl] at hor
    have := hh.2; omega) (by rw [List.length_map, hcl, hC_len hl]; decide)
  rw [List.take_zero, List.nil_append, List.length_map, hcl, Nat.zero_add, (hC_drop hl).1] at this
  exact this
theorem Write_any {ad ka : Addr} {rv pv : Value} {msg : List Int} {xss : List (List Int)} {us : List Value} (f : Fr w0 w (sIt ad (hCells msg ka rv) :: oIt .u8 eB rv (restF msg) :: sIt ka (kF.map (.int .u32)) :: F))
    (hp : ∀ {w' : World} {c : List Value} {v : Value} {r : List Int}, Fr w0 w' (sIt ad c :: oIt .u8 eB v r :: sIt ka (kF.map (.int .u32)) :: F) → Sl w' 1 pv xss.length us ∧ ∀ (i : Nat) (u : Value) (xs : List Int), us[i]? = some u → xss[i]? = some xs → Nm .u8 w' u xs) (hl : msg.length + xss.flatten.length ≤ 1000000000) (hxl : xss.length ≤ 1000000000) :
    Calls P n_sha_Hash_Write #[.pointer (some ad), pv] w (fun e w' => e = .returned (.tuple #[]) ∧ ∃ rv', Fr w0 w' (sIt ad (hCells (msg ++ xss.flatten) ka rv') :: oIt .u8 eB rv' (restF (msg ++ xss.flatten)) :: sIt ka (kF.map (.int .u32)) :: F)) := by
  have h8 : ∀ {m : List Int} {v : Value}, (hCells m ka v)[8]? = some (.pointer (some ka)) := fun {m v} => (hC_get (stK_len m _)).1
  refine of_sha_Hash_Write ⟨fun w' => w' = w, gEq_pnil (gIf_nf (gNil_some (gLoad_p (f.cell 0 8 rfl h8) (gEq_pnil (gIf_f rfl))))), ?_⟩
  rintro _ _ rfl
  rename_i w
  refine gLen_slv (hp f).1 ?_
  refine ⟨fun i w' => ∃ (j : Nat) (rv' : Value), i = j ∧ j ≤ xss.length ∧ Fr w0 w' (sIt ad (hCells (msg ++ (xss.take j).flatten) ka rv') :: oIt .u8 eB rv' (restF (msg ++ (xss.take j).flatten)) :: sIt ka (kF.map (.int .u32)) :: F), fun i _ => xss.length - i.toNat, ⟨0, rv, rfl, by omega, by simpa using f⟩, ?_⟩
  rintro _ i w1 ⟨j, rv1, rfl, hj, f1⟩
  refine gIf_dec (fun hlt => ?_) (fun hge => ?_)
  · have hlt' : j < xss.length := by omega
    obtain ⟨m1, hm1⟩ : ∃ m, m = msg ++ (xss.take j).flatten := ⟨_, rfl⟩
    obtain ⟨x, hx⟩ : ∃ x, x = xss[j] := ⟨_, rfl⟩
    have hm2 : msg ++ (xss.take (j + 1)).flatten = m1 ++ x := by rw [List.take_succ_eq_append_getElem hlt', List.flatten_append, hm1, hx]; simp
    have hlen2 : (m1 ++ x).length ≤ 1000000000 := by
      rw [← hm2, List.length_append]
      have : (xss.take (j + 1)).flatten.length ≤ xss.flatten.length := by
        have e := congrArg List.length (congrArg List.flatten (List.take_append_drop (j + 1) xss))
        rw [List.flatten_append, List.length_append] at e; omega
      omega
    have hlen3 := hlen2
    rw [List.length_append] at hlen3
    rw [← hm1] at f1
    rw [i64_id (n := (j : Int) + 1) (by omega) (by omega)]
    have hgx : xss[j]? = some x := by rw [List.getElem?_eq_getElem hlt', hx]
    obtain ⟨q0, hq0⟩ : ∃ q, q = m1.length / 64 := ⟨_, rfl⟩
    have f1 : Fr w0 w1 (sIt ad (hC (stK m1 q0) ka rv1 (m1.length : Int)) :: oIt .u8 eB rv1 (restF m1) :: sIt ka (kF.map (.int .u32)) :: F) := by rw [hq0]; exact f1
    have hsl := stK_len m1 q0
    refine gIdx_1 (hp f1).1 (by omega) hlt fun a1 u hu hc _ => gLoad_v hc ?_
    rw [Int.toNat_natCast] at hu
    refine gNil_some (gLoad_i (f1.cell 0 10 rfl (hC_get hsl).2.2) (gLen_nm ((hp f1).2 j u x hu hgx) (gNil_some (fStore f1 0 10 rfl (fun w2 f2 => ?_) (by rw [hC_len hsl]; decide)))))
    rw [hC_set10 hsl] at f2
    have f2 : Fr w0 w2 (sIt ad (hC (stK m1 q0) ka rv1 ((m1 ++ x).length : Int)) :: oIt .u8 eB rv1 (restF m1) :: sIt ka (kF.map (.int .u32)) :: F) := by
      rw [show u64 ((m1.length : Int) + u64 (x.length : Int)) = ((m1 ++ x).length : Int) by rw [u64_def, u64_def, List.length_append]; omega] at f2
      exact f2
    have hrl := restF_len m1
    refine gNil_some (gLoad_v (f2.cell 0 9 rfl (hC_get hsl).2.1) (fApp f2 1 rfl ((hp f2).2 j u x hu hgx) (by omega) fun rv2 w3 f3 => gNil_some ?_))
    refine fStore f3 0 9 rfl (fun w4 f4 => ?_) (by rw [hC_len hsl]; decide) (by obtain ⟨a, c, e, _⟩ := (f3.nm 1 rfl).shape; rw [e]; rfl) (f3.nm 1 rfl).one
    rw [hC_set9 hsl] at f4
    obtain ⟨sa, sc, rfl, hsc⟩ := (f3.nm 1 rfl).shape
    have hR : restF m1 ++ x = (m1 ++ x).drop (64 * q0) := by unfold restF; rw [← hq0, List.drop_append_of_le_length (by omega)]
    have hRl : (restF m1 ++ x).length = (m1 ++ x).length - 64 * q0 := by rw [hR, List.length_drop]
    refine ⟨fun at' w' => ∃ t : Nat, at' = ((64 * t : Nat) : Int) ∧ 64 * t ≤ (restF m1 ++ x).length ∧ Fr w0 w' (sIt ad (hC (stK (m1 ++ x) (q0 + t)) ka (.slice sa (restF m1 ++ x).length sc) ((m1 ++ x).length : Int)) :: oIt .u8 eB (.slice sa (restF m1 ++ x).length sc) (restF m1 ++ x) :: sIt ka (kF.map (.int .u32)) :: F), fun at' _ => (restF m1 ++ x).length - at'.toNat, ?_, ?_⟩
    · refine ⟨0, rfl, by omega, ?_⟩
      rw [Nat.add_zero, stK_app m1 x q0 (by omega)]
      exact f4
    rintro _ _ w6 ⟨t, rfl, ht, f6⟩
    have hsl6 := stK_len (m1 ++ x) (q0 + t)
    have hN6 := f6.nm 1 rfl
    have ea : i64 (((64 * t : Nat) : Int) + 64) = ((64 * t + 64 : Nat) : Int) := by rw [i64_id (by omega) (by omega)]; omega
    rw [ea]
    refine gNil_some (gLoad_v (f6.cell 0 9 rfl (hC_get hsl6).2.1) (gLen_nm hN6 (gIf_dec (fun hle => ?_) (fun hgt => ?_))))
    · have hle' : 64 * t + 64 ≤ (restF m1 ++ x).length := by omega
      refine ⟨fun w' => w'.cell? (ad.add 9) = some (.slice sa (restF m1 ++ x).length sc) ∧ w'.cell? (ad.add 8) = some (.pointer (some ka)), ⟨f6.cell 0 9 rfl (hC_get hsl6).2.1, f6.cell 0 8 rfl (hC_get hsl6).1⟩, gNil_some (gNil_some (gLoadB_v (fun w' h => h.1) ?_))⟩
      refine gSlice_any (sz := 1) (l := 64 * t) (h := 64 * t + 64) (.inr ⟨_, rfl⟩) (.inr ⟨_, rfl⟩) (by omega) (by omega) ?_ (by kernel_rfl)
      refine gNil_some (gLoadB_p (fun w' h => h.2) ?_)
      rw [Addr.add_zero']
      have hsub := hN6.drew.sub (64 * t) (64 * t + 64) (by omega) hle'
      have hdr : (restF m1 ++ x).drop (64 * t) = (m1 ++ x).drop (64 * (q0 + t)) := by rw [hR, List.drop_drop, ← Nat.mul_add]
      rw [Nat.add_sub_cancel_left, hdr] at hsub
      refine fTake f6.drew 0 2 rfl rfl hsl6 hsub (by rw [List.length_take, List.length_drop]; omega) fun w7 f7 h7 => ?_
      have f7 : Fr w0 w7 (sIt ad (hC (stK (m1 ++ x) (q0 + (t + 1))) ka (.slice sa (restF m1 ++ x).length sc) ((m1 ++ x).length : Int)) :: oIt .u8 eB (.slice sa (restF m1 ++ x).length sc) (restF m1 ++ x) :: sIt ka (kF.map (.int .u32)) :: F) := f7
      have hsl7 := stK_len (m1 ++ x) (q0 + (t + 1))
      refine ⟨⟨f7.cell 0 9 rfl (hC_get hsl7).2.1, f7.cell 0 8 rfl (hC_get hsl7).1⟩, ⟨t + 1, by omega, by omega, f7⟩, by dsimp only; omega⟩
    · have hml : (m1 ++ x).length = m1.length + x.length := List.length_append
      have hq : q0 + t = (m1 ++ x).length / 64 := by omega
      refine gNil_some (gLoad_v (f6.cell 0 9 rfl (hC_get hsl6).2.1) ?_)
      refine gSlice_any (sz := 1) (l := 64 * t) (h := (restF m1 ++ x).length) (.inr ⟨_, rfl⟩) (.inl ⟨rfl, rfl⟩) (by omega) hsc ?_ (by kernel_rfl)
      have hsub := hN6.sub (64 * t) (restF m1 ++ x).length ht (Nat.le_refl _)
      have hdr : (restF m1 ++ x).drop (64 * t) = restF (m1 ++ x) := by rw [hR, List.drop_drop, ← Nat.mul_add, hq]; rfl
      rw [List.take_of_length_le (by simp), hdr] at hsub
      have hrl2 := restF_len (m1 ++ x)
      have hbd : (restF (m1 ++ x)).length * 8 ≤ 140737488355328 := by omega
      refine fApp0 f6 hsub hbd fun rv3 w8 f8 => gNil_some (fStore f8 1 9 rfl (fun w9 f9 => ?_) (by rw [hC_len hsl6]; decide) (by obtain ⟨a, c, e, _⟩ := (f8.nm 0 rfl).shape; rw [e]; rfl) (f8.nm 0 rfl).one)
      rw [hC_set9 hsl6, hq] at f9
      have f9 := (f9.drop 2).perm (List.Perm.swap _ _ _)
      refine ⟨⟨j + 1, rv3, rfl, by omega, ?_⟩, by dsimp only; omega⟩
      rw [hm2]
      exact f9
  · have : j = xss.length := by omega
    subst this
    rw [List.take_length] at f1
    exact ⟨rfl, rv1, f1⟩
end
end Go.Proofs.YtealfhjchlkiiaaV
