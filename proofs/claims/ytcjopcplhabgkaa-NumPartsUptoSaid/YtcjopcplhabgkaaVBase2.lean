/- Small things that texts of functions share, second part. -/
import Derived.Test.YtcjopcplhabgkaaVBase
import Derived.Test.YtcjopcplhabgkaaVNodes6
import Derived.Laws.Concat
namespace Go.Proofs.YtcjopcplhabgkaaV
open Go Go.RowKit
section
variable {w0 w : World} {F : List It} {f : FuncId} {args : Array Value}
/-- A call that hands back new bytes. -/
theorem fCallB {K : Value → World → Prop} {xs : List Int} (h : Fr w0 w F) (hc : Calls P f args w (NewB w xs)) (hk : ∀ v w', Fr w0 w' (oIt .u8 eB v xs :: F) → K v w') : gCall P f shV args w K :=
  gCall_v hc fun v w' ⟨h1, h2⟩ => hk v w' (h.newO h1 h2)
/-- They are put behind one's own. -/
theorem fAppL {ty : TypeId} {b : Value} {K : Value → World → Prop} {xs ys : List Int} (h : Fr w0 w (oIt .u8 eB b xs :: F)) (hc : Calls P f args w (NewB w ys)) (hb : (xs.length + ys.length) * 8 ≤ 140737488355328) (hk : ∀ b' w', Fr w0 w' (oIt .u8 eB b' (xs ++ ys) :: F) → K b' w') :
    gCall P f shV args w fun l w1 => gApp P #[t_sl_uint8, t_sl_uint8] ty #[b, l] w1 K :=
  fCallB h hc fun _ _ f1 => fApp f1 1 rfl (f1.nm 0 rfl) hb fun b' w' f2 => hk b' w' (f2.drop 0)
theorem fAppB {ty : TypeId} {b : Value} {K : Value → World → Prop} {xs : List Int} {x : Int} {parts : Array (Nat × Value)} (hp : parts = #[(0, .int .u8 x)]) (h : Fr w0 w (oIt .u8 eB b xs :: F)) (hx : 0 ≤ x ∧ x < 256) (hb : (xs.length + 1) * 8 ≤ 140737488355328) (hk : ∀ b' w', Fr w0 w' (oIt .u8 eB b' (xs ++ [x]) :: F) → K b' w') :
    gLit P t_sl_uint8 1 parts w fun l w1 => gApp P #[t_sl_uint8, t_sl_uint8] ty #[b, l] w1 K :=
  fLit_n [x] h (by rw [hp]; rfl) rfl (fun y hy => by simp at hy; subst hy; exact u8i hx) fun _ _ f1 => fApp f1 1 rfl (f1.nm 0 rfl) hb fun b' w' f2 => hk b' w' (f2.drop 0)
end
/-- Bytes, and whether there are any; bytes, and an error. -/
def TupB (w : World) (r : List Int × Bool) (e : Ending) (w' : World) : Prop := ∃ v, e = .returned (.tuple #[v, .bool r.2]) ∧ Ev w w' ∧ ON .u8 eB w' w.heap.size v r.1
section
variable {w0 w : World} {F : List It} {f : FuncId} {args : Array Value}
theorem fCallTB {r : List Int × Bool} {K : Value → Bool → World → Prop} (h : Fr w0 w F) (hc : Calls P f args w (TupB w r)) (hk : ∀ v w', Fr w0 w' (oIt .u8 eB v r.1 :: F) → K v r.2 w') : gCall P f (.tup [.one .val, .one .bool]) args w K :=
  gCall_of hc fun _ w' ⟨v, h1, h2, h3⟩ => ⟨v, r.2, h1, hk v w' (h.newO h2 h3)⟩
theorem fCallTE {r : List Int × Int} {K : Value → Int → World → Prop} (h : Fr w0 w F) (hc : Calls P f args w (TupE w r)) (hk : ∀ v w', Fr w0 w' (oIt .u8 eB v r.1 :: F) → K v r.2 w') : gCall P f (.tup [.one .val, .one (.int .i64)]) args w K :=
  gCall_of hc fun _ w' ⟨v, h1, h2, h3⟩ => ⟨v, r.2, h1, hk v w' (h.newO h2 h3)⟩
/-! ### Bytes that grow behind a pointer -/
theorem Fr.asW (h : Fr w0 w F) (i : Nat) {ad : Addr} {e : TypeId} (hi : F[i]? = some (sIt ad [.slice none 0 0])) : Fr w0 w (F.set i (wIt e ad (.slice none 0 0) [])) :=
  h.upd (S := No) i hi (Ch.refl _ w) (fun _ _ h => h.elim) ⟨h.get i hi, ON.nil _ _ _ _, fun h => by cases h⟩ fun k hk => .inl (by rcases hk with hk | hk; exact hk; cases hk)
theorem Fr.wr {w' : World} {ad : Addr} {e : TypeId} {v v' : Value} {xs ys : List Int} (h : Fr w0 w F) (i : Nat) (hi : F[i]? = some (wIt e ad v xs)) (g : WrS e w w' ad v v' ys) : Fr w0 w' (F.set i (wIt e ad v' ys)) :=
  h.upd i hi g.2.1 (fun k _ hh => .inl hh) g.1 fun k hk => by
    rcases hk with hk | hk
    · exact .inl (.inl hk)
    · rcases g.2.2 with hm | hm
      · exact .inl (.inr (hm ▸ hk))
      · exact .inr (hm k hk)
theorem wrApp {ty : TypeId} {ad : Addr} {v y : Value} {xs ys : List Int} {K : World → Prop} (h : Wr eB w ad v xs) (hy : Nm .u8 w y ys) (hb : (xs.length + ys.length) * 8 ≤ 140737488355328) (hk : ∀ v' w', WrS eB w w' ad v v' (xs ++ ys) → K w') :
    gApp P #[t_sl_uint8, t_sl_uint8] ty #[v, y] w fun t ww1 => gNil (some ad) fun a => gStore P t_sl_uint8 (.pointer (some (Addr.add a 0))) t ww1 fun ww2 => K ww2 := by
  refine gApp_on h.2.1 hy hb (Nat.zero_le _) fun v2 w2 hO2 hc2 hm2 => gNil_some ?_
  have hS2 : St w2 ad [v] := h.1.ch hc2 fun _ _ hh => h.2.2 hh
  rw [Addr.add_zero']
  refine gStore_st0 hS2 (by simp) (by obtain ⟨a, c, rfl, _⟩ := hO2.nm.shape; rfl) hO2.one fun w3 h3 hs3 hS3 => hk v2 w3 ?_
  have hv2 : v2.ownBlock ≠ some ad.block := by
    rcases hm2 with hh | hh
    · rw [hh]; exact h.2.2
    · intro hg; have := hh _ hg; have := h.1.lt; omega
  exact ⟨⟨by simpa using hS3, hO2.ch h3 fun g i hg hh => hv2 (by rw [hg, hh.1]), hv2⟩, Ch.trans (hc2.mono fun _ _ _ h => .inr h) h3 fun n i _ hh => .inl hh.1, hm2⟩
end
theorem rd_drop {xs r : List Int} {a : Nat} {c : Int} (h : xs.drop a = c :: r) : rd xs a = c ∧ a < xs.length ∧ xs.drop (a + 1) = r := by
  have hlt : a < xs.length := by
    rcases Nat.lt_or_ge a xs.length with h1 | h1
    · exact h1
    · rw [List.drop_of_length_le h1] at h; cases h
  rw [List.drop_eq_getElem_cons hlt] at h
  injection h with h1 h2
  exact ⟨by rw [rd_nat xs a hlt]; exact h1, hlt, h2⟩
theorem drop_rd {xs : List Int} {a : Nat} (h : a < xs.length) : xs.drop a = rd xs a :: xs.drop (a + 1) := by rw [List.drop_eq_getElem_cons h, rd_nat xs a h]
theorem drop_more {xs ys zs : List Int} {a : Nat} (h : xs.drop a = ys ++ zs) : xs.drop (a + ys.length) = zs := by rw [← List.drop_drop, h, List.drop_left]
theorem tmod_nat (a : Int) {m : Int} (h0 : 0 < m) (h1 : m ≤ 1000000000000) : ∃ k : Nat, (k : Int) < m ∧ i64 (Int.tmod (u64 a) m) = (k : Int) := by
  have hu : 0 ≤ u64 a := by rw [u64_def]; omega
  have h2 := Int.emod_nonneg (u64 a) (show m ≠ 0 by omega)
  have h3 := Int.emod_lt_of_pos (u64 a) h0
  refine ⟨(u64 a % m).toNat, by omega, ?_⟩
  rw [Int.tmod_eq_emod_of_nonneg hu, i64_id (by omega) (by omega)]; omega
/-! ### Texts -/
theorem bsOf_size (xs : List Int) : (bsOf xs).size = xs.length := by show (List.map _ xs).toArray.size = _; simp
theorem bsOf_app (xs ys : List Int) : bsOf xs ++ bsOf ys = bsOf (xs ++ ys) := by
  apply ByteArray.ext
  rw [ByteArray.data_append]
  simp [bsOf]
theorem gBin_cat {P : Program} {t : TypeId} {xs ys : List Int} {K : ByteArray → Prop} (hl : xs.length + ys.length ≤ 1000000000000) (hk : K (bsOf (xs ++ ys))) : gBin P .add t shS (.string (bsOf xs)) (.string (bsOf ys)) K := by
  refine ⟨bsOf (xs ++ ys), fun w => ?_, hk⟩
  rw [← bsOf_app]
  rw [binOp_string_add, run_string_add_sum w _ _ (by rw [bsOf_size, bsOf_size]; omega)]
  rfl
end Go.Proofs.YtcjopcplhabgkaaV
