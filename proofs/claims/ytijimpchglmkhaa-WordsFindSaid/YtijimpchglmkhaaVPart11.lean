import Derived.Test.YtijimpchglmkhaaVPart10
set_option linter.unusedVariables false
set_option linter.unusedSimpArgs false
/- The law WordsFind. -/
namespace Go.Proofs.YtijimpchglmkhaaV
open Go Go.RowKit
section
variable {w0 w : World} {F : List It}
theorem SameT_any {a b : Value} {L M : List (List Int)} (ha : NL .u8 w a L) (hb : NL .u8 w b M) (hl : L.length ≤ 1000000000) :
    Calls P n_valisehelp_Same_byte #[a, b, .func (.func n_valisehelp_Bytes) #[] #[]] w (fun e w' => e = .returned (.bool (decide (L = M))) ∧ Ev w w') := by
  obtain ⟨us, ra, na⟩ := ha
  obtain ⟨vs, rb, nb⟩ := hb
  have hul : us.length = L.length := by obtain ⟨_, _, _, _, h, _⟩ := ra; omega
  have hvl : vs.length = M.length := by obtain ⟨_, _, _, _, h, _⟩ := rb; omega
  refine of_valisehelp_Same_byte (gLen_slv ra (gLen_slv rb (gIf_neq (fun hne => ⟨by rw [decide_eq_false fun h => hne (by rw [h])], Ch.refl _ w⟩) (fun heq => ?_))))
  have hle : L.length = M.length := by omega
  refine ⟨fun i w' => ∃ j : Nat, i = j ∧ j ≤ L.length ∧ (∀ q : Nat, q < j → L[q]? = M[q]?) ∧ Ev w w', fun i _ => L.length - i.toNat, ⟨0, rfl, by omega, (fun q h => by omega), Ch.refl _ w⟩, ?_⟩
  rintro _ i w1 ⟨j, rfl, hj, hq, h1⟩
  refine gLen_slv (ra.ev h1) (gIf_dec (fun hlt => ?_) (fun hge => ⟨?_, h1⟩))
  · have hjl : j < L.length := by omega
    refine ⟨fun w' => w' = w1.drew, rfl, gIdx_1 (ra.ev h1) (by omega) (by omega) fun a1 u hu c1 _ => gLoadB_v (at1 c1) (gIdx_1 (rb.ev h1) (by omega) (by omega) fun a2 v hv c2 _ => gLoadB_v (at1 c2) (gCallV_of rfl (by kernel_rfl) (show Calls P n_valisehelp_Bytes #[u, v] w1.drew _ from Bytes_any ((na j u L[j] (by simpa using hu) (by simp [hjl])).ev h1.drew) ((nb j v (M[j]'(by omega)) (by simpa using hv) (by simp [show j < M.length by omega])).ev h1.drew)) ?_))⟩
    rintro _ _ ⟨rfl, rfl⟩
    refine ⟨_, rfl, rfl, gIf_nb (fun h => ⟨?_, h1.drew⟩) (fun h => ?_)⟩
    · have h := of_decide_eq_false h
      rw [decide_eq_false fun e => h (by simp [e])]
    · have h := of_decide_eq_true h
      rw [i64_id (n := (j : Int) + 1) (by omega) (by omega)]
      refine ⟨⟨j + 1, by omega, by omega, fun q hq' => ?_, h1.drew⟩, by dsimp only; omega⟩
      rcases Nat.lt_or_ge q j with h2 | h2
      · exact hq q h2
      · obtain rfl : q = j := by omega
        rw [List.getElem?_eq_getElem hjl, List.getElem?_eq_getElem (by omega), h]
  · rw [decide_eq_true]
    refine List.ext_getElem? fun q => ?_
    by_cases h : q < L.length
    · exact hq q (by omega)
    · rw [List.getElem?_eq_none (by omega), List.getElem?_eq_none (by omega)]
theorem fSpoilT {v : Value} {xs : List Int} (f : Fr w0 w F) (q : Nat) (hq : F[q]? = some (tIt eB1 v xs)) (hl : xs.length ≤ 1000000000) :
    Calls P n_valisehelp_Spoil #[v] w (fun e w' => e = .returned (.tuple #[]) ∧ ∃ ys, ys.length = xs.length ∧ Fr w0 w' (F.set q (tIt eB1 v ys))) := by
  have hql : q < F.length := (List.getElem?_eq_some_iff.1 hq).1
  refine of_valisehelp_Spoil ⟨fun i w' => ∃ (j : Nat) (ys : List Int), i = j ∧ j ≤ xs.length ∧ ys.length = xs.length ∧ Fr w0 w' (F.set q (tIt eB1 v ys)), fun i _ => xs.length - i.toNat, ⟨0, xs, rfl, by omega, rfl, ?_⟩, ?_⟩
  · have e : F.set q (tIt eB1 v xs) = F := by
      refine List.ext_getElem? fun i => ?_
      rw [List.getElem?_set]
      split
      · rename_i e; subst e; rw [hq]
      · rfl
    rw [e]; exact f
  rintro _ i w1 ⟨j, ys, rfl, hj, hy, f1⟩
  have hq1 : (F.set q (tIt eB1 v ys))[q]? = some (tIt eB1 v ys) := by rw [List.getElem?_set, if_pos rfl, if_pos hql]
  have hN : Nm .u8 w1 v ys := Tx.nm (f1.get q hq1)
  refine gLen_nm hN (gIf_dec (fun hlt => ?_) (fun hge => ⟨rfl, ys, hy, f1⟩))
  refine gGet hN (by omega) (by omega) (fSetT f1 q hq1 j rfl (by omega) (iXor_u8 _ _) fun w2 f2 => ?_)
  rw [List.set_set] at f2
  rw [i64_id (n := (j : Int) + 1) (by omega) (by omega)]
  exact ⟨⟨j + 1, _, rfl, by omega, by rw [List.length_set]; exact hy, f2⟩, by dsimp only; omega⟩
theorem WordsFind_law {b : Value} {xs : List Int} (hb : Nm .u8 w b xs) : Calls P n_valiselaw21_WordsFind #[b] w (Holds w) := by
  refine of_valiselaw21_WordsFind (gLen_nm hb (gIf_dec (fun _ => awake21_end (Ch.refl No w)) (fun hle => ?_)))
  have hl : xs.length ≤ 3000 := by omega
  refine gCall_v (Own_byte_any hb (by omega) (by decide)) fun i w1 ⟨h1, hi⟩ => gCall_of (Find_any hi.nm (by omega)) ?_
  intro e w2 hF
  obtain ⟨t, T, rfl, hT, f2, hN2⟩ := FindE.nl hF
  obtain ⟨hrg1, hrg2⟩ := findW_rg xs
  have hTl : T.length ≤ 64 := by have := congrArg List.length hT; rw [List.length_map] at this; omega
  have hb2 : ∀ {w' : World} {G : List It}, Fr w1 w' G → Nm .u8 w' b xs ∧ Owd .u8 w' i xs 71 := fun f => ⟨hb.ev (h1.trans f.old), hi.ev f.old⟩
  refine ⟨t, rfl, fun w' => Fr w1 w' (wdP t T), ?_, ?_⟩
  · refine gCall_b awake21_any fun w4 h4 => ?_
    have f4 := f2.ev h4
    refine gIf_nn (gCall_v (refFind_any (hb2 f4).1 (by omega)) fun t19 w5 ⟨h5, hN5⟩ => ?_)
    have f5 := f4.ev h5
    refine gCall_b (of_valiselaw21_texts (gCall_b (SameT_any ((hN2.ev h4).ev h5) hN5 (by omega)) fun w6 h6 => ⟨rfl, h6⟩)) fun w6 h6 => ?_
    rw [decide_eq_true rfl]
    have f6 := f5.ev h6
    exact gIf_nn (gCall_b (Kept_byte_any (hb2 f6).2 (hb2 f6).1 (by omega)) fun w7 h7 => gIf_f (f6.ev h7))
  rintro _ w8 f8
  refine gLen_slv (f8.row 0 rfl) ⟨fun i w' => ∃ (k : Nat) (M : List (Value × List Int)), i = (k : Int) ∧ k ≤ T.length ∧ M.map (·.1) = T.reverse.map (·.1) ∧ (∀ u ∈ M, u.2.length ≤ 24) ∧ Fr w1 w' (rIt eW 1 t T.length (T.map (·.1)) :: M.map fun u => tIt eB1 u.1 u.2), fun i _ => (T.length - i).toNat, ⟨0, T.reverse, rfl, Nat.zero_le _, rfl, fun u hu => ?_, f8⟩, ?_⟩
  · have : u.2 ∈ findW xs := by rw [← hT]; exact List.mem_map.2 ⟨u, List.mem_reverse.1 hu, rfl⟩
    exact (hrg2 _ this).2
  rintro _ i9 w9 ⟨k, M, rfl, hk, hM, hMl, f9⟩
  refine gIf_dec (fun hlt => ?_) (fun hge => ?_)
  · have hkl : k < T.length := by omega
    refine gIdx_1 (f9.row 0 rfl) (by omega) (by omega) fun ad v hv hc _ => gLoad_v hc ?_
    have hve : v = T[k].1 := by
      rw [Int.toNat_natCast, List.getElem?_map, List.getElem?_eq_getElem hkl] at hv
      simpa using hv.symm
    have hm : v ∈ M.map (·.1) := by
      rw [hM, hve]
      exact List.mem_map.2 ⟨T[k], List.mem_reverse.2 (List.getElem_mem hkl), rfl⟩
    obtain ⟨u, hu, rfl⟩ := List.mem_map.1 hm
    obtain ⟨q, hq⟩ := List.mem_iff_getElem?.1 hu
    have hql := (List.getElem?_eq_some_iff.1 hq).1
    refine gCall_u (fSpoilT (v := u.1) (xs := u.2) f9 (q + 1) (by rw [List.getElem?_cons_succ, List.getElem?_map, hq]; rfl) (by have := hMl u hu; omega)) fun w10 ⟨ys, hy, f10⟩ => ?_
    rw [i64_id (n := (k : Int) + 1) (by omega) (by omega)]
    refine ⟨⟨k + 1, M.set q (u.1, ys), by omega, by omega, ?_, fun x hx => ?_, ?_⟩, by dsimp only; omega⟩
    · rw [← hM, List.map_set]
      refine List.ext_getElem? fun i => ?_
      rw [List.getElem?_set]
      split
      · rename_i e; subst e; rw [if_pos (by rw [List.length_map]; exact hql), List.getElem?_map, hq]; rfl
      · rfl
    · rcases List.mem_or_eq_of_mem_set hx with hx | rfl
      · exact hMl x hx
      · rw [hy]; exact hMl u hu
    · rw [List.map_set]
      exact f10
  · exact gCall_b (Kept_byte_any (hb2 f9).2 (hb2 f9).1 (by omega)) fun w11 h11 => ⟨rfl, (h1.trans f9.old).trans h11⟩
end
end Go.Proofs.YtijimpchglmkhaaV
