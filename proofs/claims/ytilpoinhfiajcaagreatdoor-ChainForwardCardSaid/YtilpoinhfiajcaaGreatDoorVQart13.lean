import Derived.Ground.SlsfProg
import Derived.Ground.GgzProg
import Derived.Ground.SlbNamesProg
import Derived.Shelf.SlSortCmp.NoneTotal
import Derived.Shelf.SlIter.Stops
import Derived.Shelf.LaysM
import Derived.Shelf.Bytes.SlIndexWhole
import Derived.Shelf.Bytes.SlCountWhole
import Derived.Test.YtilpoinhfiajcaaGreatDoorProg
import Derived.Laws.IdiomStrings
import Derived.Test.YtilpoinhfiajcaaGreatDoorVQart12
set_option linter.unusedVariables false
set_option linter.unusedSimpArgs false
/- Contracts of the library at this program, laid by the kit. -/
namespace Go.Proofs
open Go.Shelf
def Tryz.lays185_ren : Go.Shelf.Ren := ⟨fun | 185 => 161 | 187 => 198 | 115 => 40 | 253 => 199 | 224 => 200 | 254 => 201 | 255 => 219 | 291 => 220 | n => n, fun | 37 => 22 | 3 => 3 | 4 => 4 | 0 => 0 | 5 => 5 | 46 => 153 | 9 => 9 | 146 => 247 | 51 => 146 | n => n, fun | 1 => 0 | n => n⟩
theorem Tryz.lays185 : Go.Proofs.Lays.n185 Tryz.prog Tryz.lays185_ren := {
  mixed := by kernel_rfl
  f115 := Tryz.func40.trans (congrArg some (by kernel_rfl))
  f185 := Tryz.func161.trans (congrArg some (by kernel_rfl))
  f187 := Tryz.func198.trans (congrArg some (by kernel_rfl))
  f224 := Tryz.func200.trans (congrArg some (by kernel_rfl))
  f253 := Tryz.func199.trans (congrArg some (by kernel_rfl))
  f254 := Tryz.func201.trans (congrArg some (by kernel_rfl))
  f255 := Tryz.func219.trans (congrArg some (by kernel_rfl))
  f291 := Tryz.func220.trans (congrArg some (by kernel_rfl))
  t0 := Tryz.underlying0
  a0 := Tryz.isAgg0
  z0 := Tryz.sizeOf0
  v0 := Tryz.zeroValue0
  t3 := Tryz.underlying3
  a3 := Tryz.isAgg3
  z3 := Tryz.sizeOf3
  v3 := Tryz.zeroValue3
  t4 := Tryz.underlying4
  a4 := Tryz.isAgg4
  z4 := Tryz.sizeOf4
  v4 := Tryz.zeroValue4
  t5 := Tryz.underlying5
  a5 := Tryz.isAgg5
  z5 := Tryz.sizeOf5
  v5 := Tryz.zeroValue5
  t9 := Tryz.underlying9
  a9 := Tryz.isAgg9
  z9 := Tryz.sizeOf9
  v9 := Tryz.zeroValue9
  t37 := Tryz.underlying22
  a37 := Tryz.isAgg22
  z37 := Tryz.sizeOf22
  v37 := Tryz.zeroValue22
  t46 := Tryz.underlying153
  a46 := Tryz.isAgg153
  z46 := Tryz.sizeOf153
  v46 := Tryz.zeroValue153
  t51 := Tryz.underlying146
  a51 := Tryz.isAgg146
  z51 := Tryz.sizeOf146
  v51 := Tryz.zeroValue146
  t146 := Tryz.underlying247
  a146 := Tryz.isAgg247
  z146 := Tryz.sizeOf247
  v146 := Tryz.zeroValue247
  g1 := by kernel_rfl }
open Go.Proofs Go.RowKit Go.Lib in
theorem Tryz.bytes_Index_at (a1 a2 : Addr) (n c1 k c2 : Nat) (xs ys : List Int) (m : Int) (w : World) (hx : xs.length = n) (hy : ys.length = k) (hr1 : ∀ x ∈ xs, 0 ≤ x ∧ x < 256) (hr2 : ∀ y ∈ ys, 0 ≤ y ∧ y < 256) (hc1 : ∀ i, i < n → w.cell? (a1.add i) = some (.int .u8 (xs.getD i 0))) (hc2 : ∀ i, i < k → w.cell? (a2.add i) = some (.int .u8 (ys.getD i 0))) (hcap : n ≤ c1) (hs : n < 4294967281) (hk : k ≤ 9223372036854775807) (hm : w.cell? ⟨0, 0, none⟩ = some (.int .i64 m)) :
    Calls Tryz.prog 161 #[.slice (some a1) n c1, .slice (some a2) k c2] w fun e w' => e = .returned (.int .i64 (Lib.index (Lib.bytesOf xs) (Lib.bytesOf ys))) ∧ ∃ q, w' = w.drewN q := Any.bytes_Index_at Tryz.lays185 a1 a2 n c1 k c2 xs ys m w hx hy hr1 hr2 hc1 hc2 hcap hs hk hm
def Tryz.laysM185_ren : Go.Shelf.Ren := ⟨fun | 185 => 161 | 187 => 198 | 115 => 40 | 253 => 199 | 224 => 200 | 254 => 201 | 255 => 219 | 291 => 220 | n => n, fun | 37 => 22 | 3 => 3 | 4 => 4 | 0 => 0 | 5 => 5 | 46 => 153 | 9 => 9 | 146 => 247 | 51 => 146 | n => n, fun | 1 => 0 | n => n⟩
theorem Tryz.laysM185 : Go.Proofs.LaysM.n185 Tryz.prog Tryz.laysM185_ren := {
  mixed := by kernel_rfl
  f115 := Tryz.func40.trans (congrArg some (by kernel_rfl))
  f185 := Tryz.func161.trans (congrArg some (by kernel_rfl))
  f187 := Tryz.func198.trans (congrArg some (by kernel_rfl))
  f224 := Tryz.func200.trans (congrArg some (by kernel_rfl))
  f253 := Tryz.func199.trans (congrArg some (by kernel_rfl))
  f254 := Tryz.func201.trans (congrArg some (by kernel_rfl))
  f255 := Tryz.func219.trans (congrArg some (by kernel_rfl))
  f291 := Tryz.func220.trans (congrArg some (by kernel_rfl))
  t0 := Tryz.underlying0
  a0 := Tryz.isAgg0
  z0 := Tryz.sizeOf0
  v0 := Tryz.zeroValue0
  t3 := Tryz.underlying3
  a3 := Tryz.isAgg3
  z3 := Tryz.sizeOf3
  v3 := Tryz.zeroValue3
  t4 := Tryz.underlying4
  a4 := Tryz.isAgg4
  z4 := Tryz.sizeOf4
  v4 := Tryz.zeroValue4
  t5 := Tryz.underlying5
  a5 := Tryz.isAgg5
  z5 := Tryz.sizeOf5
  v5 := Tryz.zeroValue5
  t9 := Tryz.underlying9
  a9 := Tryz.isAgg9
  z9 := Tryz.sizeOf9
  v9 := Tryz.zeroValue9
  t37 := Tryz.underlying22
  a37 := Tryz.isAgg22
  z37 := Tryz.sizeOf22
  v37 := Tryz.zeroValue22
  t46 := Tryz.underlying153
  a46 := Tryz.isAgg153
  z46 := Tryz.sizeOf153
  v46 := Tryz.zeroValue153
  t51 := Tryz.underlying146
  a51 := Tryz.isAgg146
  z51 := Tryz.sizeOf146
  v51 := Tryz.zeroValue146
  t146 := Tryz.underlying247
  a146 := Tryz.isAgg247
  z146 := Tryz.sizeOf247
  v146 := Tryz.zeroValue247
  g1 := by kernel_rfl
  i0 := by kernel_rfl
  i3 := by kernel_rfl
  i4 := by kernel_rfl
  i5 := by kernel_rfl
  i9 := by kernel_rfl
  i37 := by kernel_rfl
  i46 := by kernel_rfl
  i51 := by kernel_rfl
  i146 := by kernel_rfl
  m1 := by kernel_rfl
  s1_3 := fun w h => Go.Proofs.cell_of_shapedOpen_int (zero := #[.int .i64 0]) (t := 3) h (of_decide_eq_true (by kernel_rfl)) (by kernel_rfl) rfl (by kernel_rfl) (by kernel_rfl) Tryz.underlying3 }
def Tryz.laysSlC13_ren : Go.Shelf.Ren := ⟨fun | 13 => 103 | 24 => 159 | 25 => 160 | 12 => 161 | 31 => 197 | 19 => 198 | 20 => 40 | 21 => 199 | 22 => 200 | 23 => 201 | 29 => 219 | 30 => 220 | n => n, fun | 22 => 22 | 3 => 3 | 4 => 4 | 0 => 0 | 5 => 5 | 9 => 9 | 33 => 153 | 40 => 247 | 39 => 146 | n => n, fun | 0 => 0 | n => n⟩
theorem Tryz.laysSlC13 : Go.Proofs.SlLaysC.n13 Tryz.prog Tryz.laysSlC13_ren := {
  mixed := by kernel_rfl
  f12 := Tryz.func161.trans (congrArg some (by kernel_rfl))
  f13 := Tryz.func103.trans (congrArg some (by kernel_rfl))
  f19 := Tryz.func198.trans (congrArg some (by kernel_rfl))
  f20 := Tryz.func40.trans (congrArg some (by kernel_rfl))
  f21 := Tryz.func199.trans (congrArg some (by kernel_rfl))
  f22 := Tryz.func200.trans (congrArg some (by kernel_rfl))
  f23 := Tryz.func201.trans (congrArg some (by kernel_rfl))
  f25 := Tryz.func160.trans (congrArg some (by kernel_rfl))
  f29 := Tryz.func219.trans (congrArg some (by kernel_rfl))
  f30 := Tryz.func220.trans (congrArg some (by kernel_rfl))
  t0 := Tryz.underlying0
  a0 := Tryz.isAgg0
  z0 := Tryz.sizeOf0
  v0 := Tryz.zeroValue0
  t3 := Tryz.underlying3
  a3 := Tryz.isAgg3
  z3 := Tryz.sizeOf3
  v3 := Tryz.zeroValue3
  t4 := Tryz.underlying4
  a4 := Tryz.isAgg4
  z4 := Tryz.sizeOf4
  v4 := Tryz.zeroValue4
  t5 := Tryz.underlying5
  a5 := Tryz.isAgg5
  z5 := Tryz.sizeOf5
  v5 := Tryz.zeroValue5
  t9 := Tryz.underlying9
  a9 := Tryz.isAgg9
  z9 := Tryz.sizeOf9
  v9 := Tryz.zeroValue9
  t22 := Tryz.underlying22
  a22 := Tryz.isAgg22
  z22 := Tryz.sizeOf22
  v22 := Tryz.zeroValue22
  t33 := Tryz.underlying153
  a33 := Tryz.isAgg153
  z33 := Tryz.sizeOf153
  v33 := Tryz.zeroValue153
  t39 := Tryz.underlying146
  a39 := Tryz.isAgg146
  z39 := Tryz.sizeOf146
  v39 := Tryz.zeroValue146
  t40 := Tryz.underlying247
  a40 := Tryz.isAgg247
  z40 := Tryz.sizeOf247
  v40 := Tryz.zeroValue247
  g0 := by kernel_rfl }
open Go.RowKit Go.Lib in
theorem Tryz.bytes_Count_at (a1 a2 : Addr) (n c1 k c2 : Nat) (xs ys : List Int) (m : Int) (w : World) (hx : xs.length = n) (hy : ys.length = k) (hr1 : ∀ x ∈ xs, 0 ≤ x ∧ x < 256) (hr2 : ∀ y ∈ ys, 0 ≤ y ∧ y < 256) (hc1 : ∀ i, i < n → w.cell? (a1.add i) = some (.int .u8 (xs.getD i 0))) (hc2 : ∀ i, i < k → w.cell? (a2.add i) = some (.int .u8 (ys.getD i 0))) (hcap : n ≤ c1) (hs : n < 4294967281) (hk : k ≤ 9223372036854775807) (h2 : 2 ≤ k) (hm : w.cell? ⟨0, 0, none⟩ = some (.int .i64 m)) :
    Calls Tryz.prog 103 #[.slice (some a1) n c1, .slice (some a2) k c2] w fun e w' => e = .returned (.int .i64 (Lib.count (Lib.bytesOf xs) (Lib.bytesOf ys))) ∧ ∃ q, w' = w.drewN q := Any.bytes_Count_at Tryz.laysSlC13 a1 a2 n c1 k c2 xs ys m w hx hy hr1 hr2 hc1 hc2 hcap hs hk h2 hm
def Tryz.laysSlF6_f193_ren : Go.Shelf.Ren := ⟨fun | 6 => 193 | 15 => 218 | 14 => 217 | 28 => 231 | 29 => 232 | 20 => 223 | 21 => 224 | 22 => 225 | 23 => 226 | 24 => 227 | 25 => 228 | 26 => 229 | 27 => 230 | 46 => 233 | 47 => 234 | 48 => 235 | 49 => 236 | 50 => 237 | 57 => 238 | n => n, fun | 22 => 176 | 24 => 9 | 25 => 183 | 3 => 3 | 39 => 153 | 0 => 0 | 53 => 146 | 55 => 68 | 4 => 4 | 46 => 251 | 45 => 250 | 50 => 255 | 5 => 5 | 9 => 9 | 66 => 263 | 70 => 140 | 76 => 267 | 77 => 149 | n => n, fun | n => n⟩
theorem Tryz.laysSlF6_f193 : Go.Proofs.SlLaysF.n6 Tryz.prog Tryz.laysSlF6_f193_ren := {
  mixed := by kernel_rfl
  f6 := ⟨Tryz.f193.name, by decide, Tryz.func193.trans (congrArg some (by kernel_rfl))⟩
  f14 := ⟨Tryz.f217.name, by decide, Tryz.func217.trans (congrArg some (by kernel_rfl))⟩
  f15 := Tryz.func218.trans (congrArg some (by kernel_rfl))
  f20 := ⟨Tryz.f223.name, by decide, Tryz.func223.trans (congrArg some (by kernel_rfl))⟩
  f21 := ⟨Tryz.f224.name, by decide, Tryz.func224.trans (congrArg some (by kernel_rfl))⟩
  f22 := ⟨Tryz.f225.name, by decide, Tryz.func225.trans (congrArg some (by kernel_rfl))⟩
  f23 := ⟨Tryz.f226.name, by decide, Tryz.func226.trans (congrArg some (by kernel_rfl))⟩
  f24 := ⟨Tryz.f227.name, by decide, Tryz.func227.trans (congrArg some (by kernel_rfl))⟩
  f25 := ⟨Tryz.f228.name, by decide, Tryz.func228.trans (congrArg some (by kernel_rfl))⟩
  f26 := ⟨Tryz.f229.name, by decide, Tryz.func229.trans (congrArg some (by kernel_rfl))⟩
  f27 := ⟨Tryz.f230.name, by decide, Tryz.func230.trans (congrArg some (by kernel_rfl))⟩
  f28 := Tryz.func231.trans (congrArg some (by kernel_rfl))
  f29 := Tryz.func232.trans (congrArg some (by kernel_rfl))
  f46 := ⟨Tryz.f233.name, by decide, Tryz.func233.trans (congrArg some (by kernel_rfl))⟩
  f47 := Tryz.func234.trans (congrArg some (by kernel_rfl))
  f48 := Tryz.func235.trans (congrArg some (by kernel_rfl))
  f49 := ⟨Tryz.f236.name, by decide, Tryz.func236.trans (congrArg some (by kernel_rfl))⟩
  f50 := ⟨Tryz.f237.name, by decide, Tryz.func237.trans (congrArg some (by kernel_rfl))⟩
  f57 := ⟨Tryz.f238.name, by decide, Tryz.func238.trans (congrArg some (by kernel_rfl))⟩
  t0 := Tryz.underlying0
  a0 := Tryz.isAgg0
  z0 := Tryz.sizeOf0
  v0 := Tryz.zeroValue0
  t3 := Tryz.underlying3
  a3 := Tryz.isAgg3
  z3 := Tryz.sizeOf3
  v3 := Tryz.zeroValue3
  t4 := Tryz.underlying4
  a4 := Tryz.isAgg4
  z4 := Tryz.sizeOf4
  v4 := Tryz.zeroValue4
  t5 := Tryz.underlying5
  a5 := Tryz.isAgg5
  z5 := Tryz.sizeOf5
  v5 := Tryz.zeroValue5
  t9 := Tryz.underlying9
  a9 := Tryz.isAgg9
  z9 := Tryz.sizeOf9
  v9 := Tryz.zeroValue9
  t22 := Tryz.underlying176
  a22 := Tryz.isAgg176
  z22 := Tryz.sizeOf176
  v22 := Tryz.zeroValue176
  a24 := Tryz.isAgg9
  z24 := Tryz.sizeOf9
  t25 := Tryz.underlying183
  a25 := Tryz.isAgg183
  z25 := Tryz.sizeOf183
  v25 := Tryz.zeroValue183
  t39 := Tryz.underlying153
  a39 := Tryz.isAgg153
  z39 := Tryz.sizeOf153
  v39 := Tryz.zeroValue153
  t45 := Tryz.underlying250
  a45 := Tryz.isAgg250
  z45 := Tryz.sizeOf250
  v45 := Tryz.zeroValue250
  t46 := Tryz.underlying251
  a46 := Tryz.isAgg251
  z46 := Tryz.sizeOf251
  v46 := Tryz.zeroValue251
  t50 := Tryz.underlying255
  a50 := Tryz.isAgg255
  z50 := Tryz.sizeOf255
  v50 := Tryz.zeroValue255
  t53 := Tryz.underlying146
  a53 := Tryz.isAgg146
  z53 := Tryz.sizeOf146
  v53 := Tryz.zeroValue146
  t55 := Tryz.underlying68
  a55 := Tryz.isAgg68
  z55 := Tryz.sizeOf68
  v55 := Tryz.zeroValue68
  t66 := Tryz.underlying263
  a66 := Tryz.isAgg263
  z66 := Tryz.sizeOf263
  v66 := Tryz.zeroValue263
  t70 := Tryz.underlying140
  a70 := Tryz.isAgg140
  z70 := Tryz.sizeOf140
  v70 := Tryz.zeroValue140
  t76 := Tryz.underlying267
  a76 := Tryz.isAgg267
  z76 := Tryz.sizeOf267
  v76 := Tryz.zeroValue267
  t77 := Tryz.underlying149
  a77 := Tryz.isAgg149
  z77 := Tryz.sizeOf149
  v77 := Tryz.zeroValue149 }
def Tryz.laysSlF06_f193_ren : Go.Shelf.Ren := ⟨fun | 6 => 193 | 15 => 218 | 14 => 217 | 28 => 231 | 29 => 232 | 20 => 223 | 21 => 224 | 22 => 225 | 23 => 226 | 24 => 227 | 25 => 228 | 26 => 229 | 27 => 230 | 46 => 233 | 47 => 234 | 48 => 235 | 49 => 236 | 50 => 237 | 57 => 238 | n => n, fun | 22 => 176 | 24 => 9 | 25 => 183 | 3 => 3 | 39 => 153 | 0 => 0 | 53 => 146 | 55 => 68 | 4 => 4 | 46 => 251 | 45 => 250 | 50 => 255 | 5 => 5 | 9 => 9 | 66 => 263 | 70 => 140 | 76 => 267 | 77 => 149 | n => n, fun | n => n⟩
theorem Tryz.laysSlF06_f193 : Go.Proofs.SlLaysF0.n6 Tryz.prog Tryz.laysSlF06_f193_ren := {
  mixed := by kernel_rfl
  f6 := ⟨Tryz.f193.name, by decide, Tryz.func193.trans (congrArg some (by kernel_rfl))⟩
  f14 := ⟨Tryz.f217.name, by decide, Tryz.func217.trans (congrArg some (by kernel_rfl))⟩
  f15 := Tryz.func218.trans (congrArg some (by kernel_rfl))
  f20 := ⟨Tryz.f223.name, by decide, Tryz.func223.trans (congrArg some (by kernel_rfl))⟩
  f21 := ⟨Tryz.f224.name, by decide, Tryz.func224.trans (congrArg some (by kernel_rfl))⟩
  f22 := ⟨Tryz.f225.name, by decide, Tryz.func225.trans (congrArg some (by kernel_rfl))⟩
  f23 := ⟨Tryz.f226.name, by decide, Tryz.func226.trans (congrArg some (by kernel_rfl))⟩
  f24 := ⟨Tryz.f227.name, by decide, Tryz.func227.trans (congrArg some (by kernel_rfl))⟩
  f25 := ⟨Tryz.f228.name, by decide, Tryz.func228.trans (congrArg some (by kernel_rfl))⟩
  f26 := ⟨Tryz.f229.name, by decide, Tryz.func229.trans (congrArg some (by kernel_rfl))⟩
  f27 := ⟨Tryz.f230.name, by decide, Tryz.func230.trans (congrArg some (by kernel_rfl))⟩
  f28 := Tryz.func231.trans (congrArg some (by kernel_rfl))
  f29 := Tryz.func232.trans (congrArg some (by kernel_rfl))
  f46 := ⟨Tryz.f233.name, by decide, Tryz.func233.trans (congrArg some (by kernel_rfl))⟩
  f47 := Tryz.func234.trans (congrArg some (by kernel_rfl))
  f48 := Tryz.func235.trans (congrArg some (by kernel_rfl))
  f49 := ⟨Tryz.f236.name, by decide, Tryz.func236.trans (congrArg some (by kernel_rfl))⟩
  f50 := ⟨Tryz.f237.name, by decide, Tryz.func237.trans (congrArg some (by kernel_rfl))⟩
  f57 := ⟨Tryz.f238.name, by decide, Tryz.func238.trans (congrArg some (by kernel_rfl))⟩
  t0 := Tryz.underlying0
  a0 := Tryz.isAgg0
  z0 := Tryz.sizeOf0
  v0 := Tryz.zeroValue0
  t3 := Tryz.underlying3
  a3 := Tryz.isAgg3
  z3 := Tryz.sizeOf3
  v3 := Tryz.zeroValue3
  t4 := Tryz.underlying4
  a4 := Tryz.isAgg4
  z4 := Tryz.sizeOf4
  v4 := Tryz.zeroValue4
  t5 := Tryz.underlying5
  a5 := Tryz.isAgg5
  z5 := Tryz.sizeOf5
  v5 := Tryz.zeroValue5
  t9 := Tryz.underlying9
  a9 := Tryz.isAgg9
  z9 := Tryz.sizeOf9
  v9 := Tryz.zeroValue9
  t22 := Tryz.underlying176
  a22 := Tryz.isAgg176
  z22 := Tryz.sizeOf176
  v22 := Tryz.zeroValue176
  t25 := Tryz.underlying183
  a25 := Tryz.isAgg183
  z25 := Tryz.sizeOf183
  v25 := Tryz.zeroValue183
  t39 := Tryz.underlying153
  a39 := Tryz.isAgg153
  z39 := Tryz.sizeOf153
  v39 := Tryz.zeroValue153
  t45 := Tryz.underlying250
  a45 := Tryz.isAgg250
  z45 := Tryz.sizeOf250
  v45 := Tryz.zeroValue250
  t46 := Tryz.underlying251
  a46 := Tryz.isAgg251
  z46 := Tryz.sizeOf251
  v46 := Tryz.zeroValue251
  t50 := Tryz.underlying255
  a50 := Tryz.isAgg255
  z50 := Tryz.sizeOf255
  v50 := Tryz.zeroValue255
  t53 := Tryz.underlying146
  a53 := Tryz.isAgg146
  z53 := Tryz.sizeOf146
  v53 := Tryz.zeroValue146
  t55 := Tryz.underlying68
  a55 := Tryz.isAgg68
  z55 := Tryz.sizeOf68
  v55 := Tryz.zeroValue68
  t66 := Tryz.underlying263
  a66 := Tryz.isAgg263
  z66 := Tryz.sizeOf263
  v66 := Tryz.zeroValue263
  t70 := Tryz.underlying140
  a70 := Tryz.isAgg140
  z70 := Tryz.sizeOf140
  v70 := Tryz.zeroValue140
  t76 := Tryz.underlying267
  a76 := Tryz.isAgg267
  z76 := Tryz.sizeOf267
  v76 := Tryz.zeroValue267
  t77 := Tryz.underlying149
  a77 := Tryz.isAgg149
  z77 := Tryz.sizeOf149
  v77 := Tryz.zeroValue149 }
open Go.RowKit Go.Lib Go.Sort in
theorem Tryz.slices_SortFunc_none {α : Type} [Inhabited α] (p : Option Addr) (cap : Nat) (fv : Value) (w : World) :
    Calls Tryz.prog 193 #[.slice p 0 cap, fv] w fun e w' => e = .returned (.tuple #[]) ∧ w' = w := AnyF.slices_SortFunc_none Tryz.laysSlF06_f193 p cap fv w
open Go.RowKit Go.Lib Go.Sort in
theorem Tryz.slices_SortFunc_total {α : Type} [Inhabited α] (enc : α → Value) (h1 : OneCell enc) (cf : α → α → Int) (hO : SWO (ltOf cf)) (g : Nat) (cb : Array Value) (blk off cap : Nat) (d : Array α) (w : World) (eg : ∀ args w, (callFunc g args).run Tryz.prog w = .ok (.enter g args) w) (hcmp : CmpLays1 Tryz.prog g cb enc cf blk off d.size w) (hH : Holds enc w blk off d) (hblk : blk < w.heap.size) (hsz : d.size < 4611686018427387904) (hT : ∀ x y, (ltOf cf) x y = false → (ltOf cf) y x = false → x = y) :
    Calls Tryz.prog 193 #[.slice (some ⟨blk, off, none⟩) d.size cap, .func (.func g) #[] cb] w fun e w' =>
      e = .returned (.tuple #[]) ∧ ∃ n os, w' = sortWorld enc w blk off n (d.toList.mergeSort fun x y => !(ltOf cf) y x).toArray os := Any.slices_SortFunc_total Tryz.laysSlF6_f193 enc h1 cf hO g cb blk off cap d w eg hcmp hH hblk hsz hT
def Tryz.laysKeys_ren : Go.Shelf.Ren := ⟨fun | 10 => 194 | n => n, fun | 33 => 228 | 23 => 174 | 0 => 0 | 4 => 4 | 26 => 9 | 3 => 3 | n => n, fun | n => n⟩
theorem Tryz.laysKeys : Go.Proofs.SlLaysZ.n10 Tryz.prog Tryz.laysKeys_ren := {
  mixed := by kernel_rfl
  f10 := ⟨Tryz.f194.name, by decide, Tryz.func194.trans (congrArg some (by kernel_rfl))⟩
  t0 := Tryz.underlying0
  a0 := Tryz.isAgg0
  z0 := Tryz.sizeOf0
  v0 := Tryz.zeroValue0
  t4 := Tryz.underlying4
  a4 := Tryz.isAgg4
  z4 := Tryz.sizeOf4
  v4 := Tryz.zeroValue4
  t23 := Tryz.underlying174
  a23 := Tryz.isAgg174
  z23 := Tryz.sizeOf174
  v23 := Tryz.zeroValue174
  t26 := Tryz.underlying9
  a26 := Tryz.isAgg9
  z26 := Tryz.sizeOf9
  v26 := Tryz.zeroValue9
  t33 := Tryz.underlying228
  a33 := Tryz.isAgg228
  z33 := Tryz.sizeOf228
  v33 := Tryz.zeroValue228 }
end Go.Proofs

/- Package words: the order of words as the program reckons it; sorting. -/
namespace Go.Proofs.YtilpoinhfiajcaaGreatDoorV
open Go Go.RowKit
section
variable {w0 w : World} {F : List It} {b : Nat} {ws : List (List UInt8)}
/-- A literal, and the very world behind it. -/
theorem gLitE {t : TypeId} {n : Nat} {parts : Array (Nat × Value)} {K : Value → World → Prop} (vs : List Value) (hp : parts.toList = enumV 0 vs) (hn : vs.length = n) (h0 : 0 < n) (hm : n ≤ 1000000) (h1 : ∀ v ∈ vs, v.cells = #[v])
    (hk : ∀ v o, (w.alloc o).ownsRow w.heap.size (elOf P t) 1 v n vs → K v (w.alloc o)) (ht : sl1 P t = true := by kernel_rfl) : gLit P t n parts w K := by
  obtain ⟨hu, i, z, hi, hsz, hz⟩ := sl1_ok ht
  obtain ⟨c0, hc0, hrun⟩ : ∃ c0 : Array Value, c0.size = n ∧ (Instr.buildSlice t n parts).run P w = .ok (.slice (some ⟨w.heap.size, 0, none⟩) n n) (w.alloc (.cells (setAll c0 0 vs) (elOf P t))) := by
    simp only [Instr.buildSlice, Sem.run_bind, run_underlying hu, Result.andThen_ok, sizeOf, typeInfo, run_program, hi, Sem.run_pure, hsz, Nat.mul_one]
    rw [if_neg (by omega)]
    refine ⟨(Array.range n).map (z.cells[· % z.cells.size]!), by simp, ?_⟩
    rw [if_neg (by omega)]
    simp only [Sem.run_bind, zeroValue, typeInfo, run_program, Result.andThen_ok, hi, hz, Sem.run_pure]
    rw [hp, show (fun i => some (i, 1)) = (fun i => some (i * 1, 1)) by funext i; rw [Nat.mul_one], fill_enum vs h1 0 _ (by simp; omega)]
    simp [newRow]
  have hl := setAll_list vs 0 c0 (by omega)
  simp only [List.take_zero, List.nil_append] at hl
  refine ⟨_, _, hrun, hk _ _ ?_⟩
  have hs : (setAll c0 0 vs).size = n := by rw [← Array.length_toList, hl, hn]
  exact ownsRow_new w (elOf P t) _ n n (Nat.le_refl _) (by unfold maxLen; omega) hs (by rw [hl, List.take_of_length_le (by omega)]) hn
theorem Or2_any {v : Value} {a c : Int} (h : Nm .i64 w v [a, c]) : Calls P n_cmp_Or_int #[v] w (fun e w' => e = .returned (.int .i64 (if a ≠ 0 then a else c)) ∧ w' = w) := by
  refine of_cmp_Or_int (gLen_nm h ⟨fun i w' => w' = w ∧ (i = 0 ∨ (i = 1 ∧ a = 0) ∨ (i = 2 ∧ a = 0 ∧ c = 0)), fun i _ => (2 - i).toNat, ⟨rfl, .inl rfl⟩, ?_⟩)
  rintro _ i _ ⟨rfl, hi⟩
  refine gIf_dec (fun hlt => gGet h (by omega) (by simp at hlt; simp; omega) ?_) (fun hge => ?_)
  · rcases hi with rfl | ⟨rfl, ha⟩ | ⟨rfl, _⟩
    · refine gIf_neq (fun hne => ⟨?_, rfl⟩) (fun he => ⟨⟨rfl, .inr (.inl ⟨by decide, he⟩)⟩, by dsimp only; decide⟩)
      rw [show rd [a, c] 0 = a from rfl] at hne ⊢
      rw [if_pos hne]
    · refine gIf_neq (fun hne => ⟨?_, rfl⟩) (fun he => ⟨⟨rfl, .inr (.inr ⟨by decide, ha, he⟩)⟩, by dsimp only; decide⟩)
      rw [show rd [a, c] 1 = c from rfl] at hne ⊢
      rw [if_neg (by omega)]
    · simp at hlt
  · rcases hi with rfl | ⟨rfl, ha⟩ | ⟨rfl, ha, hc⟩
    · simp at hge
    · simp at hge
    · rw [if_neg (by omega), hc]; exact ⟨rfl, rfl⟩
theorem worth_any {tp : Addr} {s : List UInt8} (hc : w.cell? tp = some (.map (some b))) (hM : MapI w b ws) (hs : s.length ≤ 24) (hl : ws.length ≤ 1000000000) : Calls P n_words_Find_1 #[.string (mkS s), .pointer (some tp)] w (fun e w' => e = .returned (.int .i64 (wth (fun s => ws.count s) s)) ∧ w' = w) := by
  have hr := wth_rg hl hs
  have hct : ws.count s ≤ ws.length := List.count_le_length
  refine of_words_Find_1 (gLoad_v hc (gLookup hM (by omega) ⟨?_, rfl⟩))
  unfold wth at hr ⊢
  rw [mkS_size, i64_id (n := ((ws.count s : Nat) : Int) - 1) (by omega) (by omega), i64_id (n := (((ws.count s : Nat) : Int) - 1) * ((s.length : Nat) : Int)) (by dsimp only at hr; omega) (by dsimp only at hr; omega)]
theorem cmpI_rg (x y : Int) : -1 ≤ cmpI x y ∧ cmpI x y ≤ 1 := by unfold cmpI; split <;> (try split) <;> omega
theorem cmpS_rg (x y : List UInt8) : -1 ≤ cmpS x y ∧ cmpS x y ≤ 1 := by unfold cmpS; split <;> (try split) <;> omega
theorem order_any {wp tp : Addr} {x y : List UInt8} (hw : w.cell? wp = some (.func (.func n_words_Find_1) #[] #[.pointer (some tp)])) (hc : w.cell? tp = some (.map (some b))) (hM : MapI w b ws) (hx : x.length ≤ 24) (hy : y.length ≤ 24) (hl : ws.length ≤ 1000000000) :
    Calls P n_words_Find_2 #[.string (mkS x), .string (mkS y), .pointer (some wp)] w (fun e w' => e = .returned (.int .i64 (cfU (fun s => ws.count s) x y)) ∧ ∃ o, w' = w.drew.alloc o) := by
  have hMd : MapI w.drew b ws := hM.ch (Ev.drew0 w)
  refine of_words_Find_2 ⟨fun w' => w'.cell? wp = some (.func (.func n_words_Find_1) #[] #[.pointer (some tp)]), hw, gLoadB_v (fun w' h => h) (gLoadB_v (fun w' h => h) (gCallV_of rfl (by kernel_rfl) (show Calls P n_words_Find_1 #[.string (mkS y), .pointer (some tp)] _ _ from worth_any hc hMd hy hl) ?_))⟩
  rintro _ _ ⟨rfl, rfl⟩
  refine ⟨_, rfl, hw, gCallV_of rfl (by kernel_rfl) (show Calls P n_words_Find_1 #[.string (mkS x), .pointer (some tp)] _ _ from worth_any hc hMd hx hl) ?_⟩
  rintro _ _ ⟨rfl, rfl⟩
  refine ⟨_, rfl, hw, gCall_of cmpInt_any ?_⟩
  rintro _ _ ⟨rfl, rfl⟩
  refine ⟨_, rfl, hw, gCall_of cmpStr_any ?_⟩
  rintro _ _ ⟨rfl, rfl⟩
  obtain ⟨d1, hd1⟩ : ∃ d, d = cmpI (wth (fun s => ws.count s) y) (wth (fun s => ws.count s) x) := ⟨_, rfl⟩
  have r1 := cmpI_rg (wth (fun s => ws.count s) y) (wth (fun s => ws.count s) x)
  have r2 := cmpS_rg x y
  refine ⟨_, rfl, hw, gLitE [.int .i64 (cmpI (wth (fun s => ws.count s) y) (wth (fun s => ws.count s) x)), .int .i64 (cmpS x y)] rfl rfl (by decide) (by decide) (fun v hv => by simp at hv; rcases hv with rfl | rfl <;> rfl) fun v o ho => ?_⟩
  have hkeep : (w.drew.alloc o).cell? wp = some (.func (.func n_words_Find_1) #[] #[.pointer (some tp)]) := (Ev.alloc w.drew o).cell hw fun h => h
  have hN : Nm .i64 (w.drew.alloc o) v [cmpI (wth (fun s => ws.count s) y) (wth (fun s => ws.count s) x), cmpS x y] := ⟨Sl.of_ownS (sz := 1) ho, fun z hz => by
    have h1 : IntKind.i64.min = -9223372036854775808 := by decide
    have h2 : IntKind.i64.max = 9223372036854775807 := by decide
    rw [h1, h2]
    simp at hz
    rcases hz with rfl | rfl <;> omega⟩
  refine ⟨hkeep, gCall_of (Or2_any hN) ?_⟩
  rintro _ _ ⟨rfl, rfl⟩
  exact ⟨_, rfl, hkeep, rfl, o, rfl⟩
/-! ### The sort -/
noncomputable abbrev eS : TypeId := elOf P t_sl_string
/-- A short word. -/
abbrev Wd := { s : List UInt8 // s.length ≤ 24 }
instance : Inhabited Wd := ⟨⟨[], by decide⟩⟩
def enW (x : Wd) : Value := .string (mkS x.1)
def cfW (c : List UInt8 → Nat) (x y : Wd) : Int := cfU c x.1 y.1
theorem swoW (c : List UInt8 → Nat) : Sort.SWO (ltOf (cfW c)) where
  irrefl x := ltU_irr c x.1
  trans x y z h1 h2 := ltU_trans (c := c) (x := x.1) (y := y.1) (z := z.1) h1 h2
  ntrans x y z h1 h2 := by
    have h1 : ltU c x.1 y.1 = false := h1
    have h2 : ltU c y.1 z.1 = false := h2
    show ltU c x.1 z.1 = false
    have := leU_trans c z.1 y.1 x.1 (by rw [h2]; rfl) (by rw [h1]; rfl)
    simpa using this
theorem putCells_list {α : Type} [Inhabited α] (enc : α → Value) (d : Array α) (c : Array Value) (h : d.size ≤ c.size) : (Sort.putCells enc 0 d c).size = c.size ∧ (Sort.putCells enc 0 d c).toList.take d.size = d.toList.map enc := by
  refine ⟨by simp [Sort.putCells], List.ext_getElem? fun i => ?_⟩
  by_cases hi : i < d.size
  · rw [List.getElem?_take, if_pos hi, Array.getElem?_toList, List.getElem?_map, Array.getElem?_toList]
    simp only [Sort.putCells, Array.getElem?_mapIdx]
    rw [Array.getElem?_eq_getElem (by omega), Array.getElem?_eq_getElem hi]
    simp [hi]
  · rw [List.getElem?_eq_none (by simp; omega), List.getElem?_eq_none (by simp; omega)]
theorem sortWorld_ch {α : Type} [Inhabited α] {enc : α → Value} {g m : Nat} {d : Array α} {os : Array Obj} {cur : Array Value} {e : TypeId} {f : Nat × Nat} (hg : w.heap[g]? = some (.cells cur e f)) :
    Ch (Bk g) w (sortWorld enc w g 0 m d os) ∧ (sortWorld enc w g 0 m d os).heap[g]? = some (.cells (Sort.putCells enc 0 d cur) e f) := by
  have hold : ∀ k, k < w.heap.size → (sortWorld enc w g 0 m d os).heap[k]? = (w.heap[k]?).map fun o => if k = g then Sort.onCells (Sort.putCells enc 0 d) o else o := fun k hk => by
    show (((w.heap.modify g (Sort.onCells (Sort.putCells enc 0 d))) ++ os))[k]? = _
    rw [Array.getElem?_append_left (by simpa using hk), Array.getElem?_modify]
    by_cases e : g = k
    · subst e; simp
    · rw [if_neg e]; simp [Ne.symm e]
  have hnew : (sortWorld enc w g 0 m d os).heap[g]? = some (.cells (Sort.putCells enc 0 d cur) e f) := by rw [hold g (hlt hg), hg]; simp [Sort.onCells]
  refine ⟨⟨rfl, rfl, rfl, ?_, fun k hk hn => ?_, fun k c e' f' hc => ?_, fun k o hk ho => ?_⟩, hnew⟩
  · show w.heap.size ≤ (((w.heap.modify g (Sort.onCells (Sort.putCells enc 0 d))) ++ os)).size
    simp
  · have hne : k ≠ g := fun h => hn 0 h
    rw [hold k hk]; simp [hne]
  · by_cases hkg : k = g
    · subst hkg
      rw [hg] at hc
      injection hc with hc
      injection hc with h1 h2 h3
      subst h1; subst h2; subst h3
      exact ⟨_, hnew, by simp [Sort.putCells], fun i hi => (hi rfl).elim⟩
    · exact ⟨c, by rw [hold k (hlt hc), hc]; simp [hkg], rfl, fun _ _ => rfl⟩
  · have hkg : k ≠ g := ne_cells hg hk ho
    rw [hold k (hlt hk), hk]; simp [hkg]
/-- Words are sorted by their worth. -/
theorem fSort {v : Value} {wp tp : Addr} {ss : List (List UInt8)} {K : World → Prop} (f : Fr w0 w (rIt eS 1 v ss.length (ss.map fun s => Value.string (mkS s)) :: F)) (hs : ∀ s ∈ ss, s.length ≤ 24) (hn : ss.length ≤ 1000000000)
    (hw : sIt wp [.func (.func n_words_Find_1) #[] #[.pointer (some tp)]] ∈ F) (hc : sIt tp [.map (some b)] ∈ F) (hM : MapI w b ws) (hl : ws.length ≤ 1000000000)
    (hk : ∀ w', MapI w' b ws → Fr w0 w' (rIt eS 1 v ss.length ((ss.mergeSort fun x y => !ltU (fun s => ws.count s) y x).map fun s => Value.string (mkS s)) :: F) → K w') :
    gCall P n_slices_SortFunc_string_string shU #[v, .func (.func n_words_Find_2) #[] #[.pointer (some wp)]] w K := by
  have hrow : w.ownsRow 0 eS 1 v ss.length (ss.map fun s => Value.string (mkS s)) := f.get 0 rfl
  rcases row_cases hrow with ⟨rfl, h0⟩ | ⟨g, c, rfl⟩
  · have e0 : ss = [] := List.eq_nil_of_length_eq_zero h0
    subst e0
    refine gCall_of (Tryz.slices_SortFunc_none (α := Unit) none 0 _ w) ?_
    rintro _ _ ⟨rfl, rfl⟩
    exact ⟨rfl, hk _ hM (by simpa using f)⟩
  obtain ⟨cur, hg, hnc, hcm, hcs, htk, _⟩ := row_block hrow
  obtain ⟨d, hd⟩ : ∃ d : Array Wd, d = (ss.attach.map fun s => (⟨s.1, hs s.1 s.2⟩ : Wd)).toArray := ⟨_, rfl⟩
  have hdl : d.toList.map (·.1) = ss := by rw [hd]; simp
  have hds : d.size = ss.length := by rw [← Array.length_toList, ← List.length_map (·.1), hdl]
  have hde : d.toList.map enW = ss.map fun s => Value.string (mkS s) := by rw [← hdl, List.map_map]; rfl
  have hH : Sort.Holds enW w g 0 d := fun j hj => by
    have h1 : cur[j]? = some (enW d[j]!) := by
      have : (cur.toList.take (ss.length * 1))[j]? = some (enW d[j]!) := by
        rw [htk, ← hde, List.getElem?_map, Array.getElem?_toList, Array.getElem?_eq_getElem hj]
        simp [hj]
      rw [List.getElem?_take, if_pos (by omega), Array.getElem?_toList] at this
      exact this
    refine ⟨?_, ?_⟩
    · simp only [World.cell?, hg, Nat.zero_add]; exact h1
    · simp [World.frozen?, hg]
  have hpg : ∀ {q : Addr} {u : Value}, sIt q [u] ∈ F → q.block ≠ g := fun {q u} hq e => by
    refine f.2.2.1 _ hq g (show Value.ownBlock _ = some g from rfl) ?_
    exact e.symm
  have hcell : ∀ {q : Addr} {u : Value}, sIt q [u] ∈ F → w.cell? q = some u := fun {q u} hq => by
    have := St.cell (j := 0) (u := u) (f.mem (List.mem_cons_of_mem _ hq)).1 rfl
    rwa [Addr.add_zero'] at this
  have hcmp : CmpLays1 P n_words_Find_2 #[.pointer (some wp)] enW (cfW fun s => ws.count s) g 0 d.size w := fun m os dk hdk x y => by
    have hch := (sortWorld_ch (enc := enW) (m := m) (d := dk) (os := os) hg).1
    have keep : ∀ {q : Addr} {u : Value}, sIt q [u] ∈ F → (sortWorld enW w g 0 m dk os).cell? q = some u := fun hq => hch.cell (hcell hq) (hpg hq)
    refine (order_any (keep hw) (keep hc) (hM.ch hch) x.2 y.2 hl).mono ?_
    rintro e w' ⟨rfl, o, rfl⟩
    refine ⟨rfl, 1, #[o], ?_⟩
    show _ = Sort.grow _ _
    rw [← Sort.alloc_eq_grow]; rfl
  have hcon := Tryz.slices_SortFunc_total enW (fun _ => rfl) (cfW fun s => ws.count s) (swoW _) n_words_Find_2 #[.pointer (some wp)] g 0 c d w (call_ok_enters (by kernel_rfl)) hcmp hH (hlt hg) (by omega) (fun x y h1 h2 => Subtype.ext (ltU_total (c := fun s => ws.count s) h1 h2))
  rw [hds] at hcon
  refine gCall_of hcon ?_
  clear hcon hcmp
  rintro _ w' ⟨rfl, n, os, hw'⟩
  refine ⟨rfl, ?_⟩
  obtain ⟨sd, hsd⟩ : ∃ sd : Array Wd, sd = (d.toList.mergeSort fun x y => !(ltOf (cfW fun s => ws.count s)) y x).toArray := ⟨_, rfl⟩
  rw [← hsd] at hw'
  have hsl : sd.size = ss.length := by rw [hsd]; simp [← hds]
  have hse : sd.toList.map enW = (ss.mergeSort fun x y => !ltU (fun s => ws.count s) y x).map fun s => Value.string (mkS s) := by
    have h1 : (d.toList.mergeSort fun x y => !(ltOf (cfW fun s => ws.count s)) y x).map (·.1) = (d.toList.map (·.1)).mergeSort fun x y => !ltU (fun s => ws.count s) y x := List.map_mergeSort fun a _ b _ => rfl
    rw [hdl] at h1
    rw [← h1, hsd, List.map_map]; rfl
  have hcl : cur.size = c := by omega
  obtain ⟨hch, hgn⟩ := sortWorld_ch (enc := enW) (m := n) (d := sd) (os := os) hg
  rw [← hw'] at hch hgn
  obtain ⟨p1, p2⟩ := putCells_list enW sd cur (by omega)
  rw [hsl, hse] at p2
  have ok : w'.ownsRow 0 eS 1 (rowV g ss.length c) ss.length ((ss.mergeSort fun x y => !ltU (fun s => ws.count s) y x).map fun s => Value.string (mkS s)) := row_of hgn hnc hcm (by rw [p1, hcs]) (by rw [Nat.mul_one]; exact p2)
  exact hk w' (hM.ch hch) (f.upd (jt := rIt eS 1 (rowV g ss.length c) ss.length ((ss.mergeSort fun x y => !ltU (fun s => ws.count s) y x).map fun s => Value.string (mkS s))) 0 rfl hch (fun k _ hh => .inl (by rw [hh]; rfl)) ok fun k hk => .inl hk)
end
end Go.Proofs.YtilpoinhfiajcaaGreatDoorV

/- Package words: the keys of a map, collected and sorted. -/
namespace Go.Proofs.YtilpoinhfiajcaaGreatDoorV
open Go Go.RowKit Go.Maps
section
variable {w0 w : World} {F : List It} {b : Nat} {ws : List (List UInt8)}
theorem strKeys_nodup {D : Dt} {n : Nat} (h : w.ownsMap P t_string RI b n D) : (strKeys D).Nodup := by
  obtain ⟨es, rfl, hp, _⟩ := h.entries keyS
  obtain ⟨es', he, hk⟩ := h.keysOf
  have he : es = es' := by injection he
  subst he
  unfold strKeys
  refine List.pairwise_map.2 (hp.imp_of_mem fun {p q} hp1 hq1 hne e => hne ?_)
  obtain ⟨v, hv⟩ := hk p hp1
  obtain ⟨v2, hv2⟩ := hk q hq1
  obtain ⟨x, _, hx, _⟩ := Maps.keyOf_str (by kernel_rfl) hv
  obtain ⟨y, _, hy, _⟩ := Maps.keyOf_str (by kernel_rfl) hv2
  rw [hx, hy] at e ⊢
  have : x = y := e
  rw [this]
theorem MapI.kept {w' : World} (h : MapI w b ws) (k : KeepsOthers w w') : MapI w' b ws := by
  obtain ⟨o, h1, h2⟩ := h.block
  exact h.keep fun o' ho => by rw [h1] at ho; injection ho with ho; subst ho; exact k.same _ _ h1 h2
theorem fAllocK {t : TypeId} {z : Value} {K : Addr → World → Prop} (h : Fr w0 w F) (hz : (P.info? t).bind (·.zero) = some z) (hk : ∀ ad w', KeepsOthers w w' → Fr w0 w' (sIt ad z.cells.toList :: F) → K ad w') : gAlloc P t w K :=
  gAlloc_of hz fun ad w' he ha _ hS => hk ad w' he.others (h.new he hS fun k hk => by have hk : k = ad.block := hk; subst ha; dsimp only at hk; omega)
theorem Fr.leftW : ∀ {F G : List It}, Fr w0 w (F ++ G) → Fr w0 w F
  | [], _, h => h.old
  | _ :: _, _, h => ⟨h.1, h.2.1, fun jt hj => h.2.2.1 jt (List.mem_append_left _ hj), Fr.leftW h.2.2.2⟩
/-- The map's keys, in whatever order. -/
theorem Keys_any {K : Value → World → Prop} (f : Fr w0 w F) (m0 : Value) (hm : m0.cells = #[m0]) (hk : ∀ mb w', KeepsOthers w w' → (mb.off = 0 ∧ mb.spot = none) → Fr w0 w' (sIt mb [m0] :: F) → K (.func (.func n_maps_Keys_map_string_int_string_int_1) #[] #[.pointer (some mb)]) w') : gCall P n_maps_Keys_map_string_int_string_int shV #[m0] w K := by
  refine gCall_of (R := fun e w' => ∃ mb, e = .returned (.func (.func n_maps_Keys_map_string_int_string_int_1) #[] #[.pointer (some mb)]) ∧ KeepsOthers w w' ∧ (mb.off = 0 ∧ mb.spot = none) ∧ Fr w0 w' (sIt mb [m0] :: F)) (of_maps_Keys_map_string_int_string_int (gBox_of fun mb w1 he ha _ hS => ?_)) ?_
  · have f1 := f.new (jt := sIt mb m0.cells.toList) he hS fun k hk => by have hk : k = mb.block := hk; subst ha; dsimp only at hk; omega
    rw [hm] at f1
    exact ⟨mb, rfl, he.others, by subst ha; exact ⟨rfl, rfl⟩, f1⟩
  · rintro _ w' ⟨mb, rfl, h1, h2, f1⟩
    exact ⟨_, rfl, hk mb w' h1 h2 f1⟩
theorem fLitK {t : TypeId} {n : Nat} {parts : Array (Nat × Value)} {K : Value → World → Prop} (us : List Value) (h : Fr w0 w F) (hp : parts.toList = enumV 0 us) (hn : us.length = n) (h1 : ∀ v ∈ us, v.cells = #[v])
    (hk : ∀ v w', KeepsOthers w w' → Fr w0 w' F → Sl w' 1 v n us → K v w') (hm : n ≤ 1000000 := by decide) (ht : sl1 P t = true := by kernel_rfl) : gLit P t n parts w K :=
  gLit_1 us hp hn hm h1 (fun v w' he ho => hk v w' he.others (h.ev he) (Sl.of_ownS (sz := 1) ho)) ht
theorem fAppK {t ty : TypeId} {sz n m : Nat} {v y : Value} {cs ds : List Value} {K : Value → World → Prop} (b : Nat) (h : Fr w0 w F) (i : Nat) (hi : F[i]? = some (rIt (elOf P t) sz v n cs)) (hy : Sl w sz y m ds) (h1 : ∀ u ∈ ds, u.oneCell' = true) (hb : (n + m) * b ≤ 140737488355328) (hm : n + m ≤ maxLen)
    (hk : ∀ v' w', KeepsOthers w w' → Fr w0 w' (F.set i (rIt (elOf P t) sz v' (n + m) (cs ++ ds))) → K v' w') (ht : slRow P t sz b = true := by kernel_rfl) (hsz : 0 < sz := by decide) : gApp P #[t, t] ty #[v, y] w K := by
  obtain ⟨hu, ii, z, hii, hz, hs, hzs, hbb⟩ := slRow_ok ht
  obtain ⟨v', w', hr, ho, hc, hmv⟩ := run_append_ownS (P := P) t ty hu hii hz hs hzs hsz (h.get i hi) hy h1 (Nat.le_trans (Nat.mul_le_mul_left _ hbb) hb) hm (Nat.zero_le _)
  refine ⟨v', w', hr, hk v' w' hc.others (h.upd i hi hc (fun k _ hh => .inl hh) ho fun k hk => ?_)⟩
  rcases hmv with hmv | hmv
  · have hk : v'.ownBlock = some k := hk
    rw [hmv] at hk; exact .inl hk
  · exact .inr (hmv k hk)
theorem fStoreK {t : TypeId} {ad : Addr} {c u : Value} {K : World → Prop} (h : Fr w0 w F) (i : Nat) (hi : F[i]? = some (sIt ad [c])) (hk : ∀ w', KeepsOthers w w' → Fr w0 w' (F.set i (sIt ad [u])) → K w') (hu : u.oneCell' = true) (hcl : u.cells = #[u]) (ht : flat1 P t = true := by kernel_rfl) :
    gStore P t (.pointer (some ad)) u w K :=
  gStore_st0 (h.get i hi) (Nat.zero_lt_succ _) hu hcl (fun w' hc _ hS => hk w' hc.others (h.upd i hi hc (fun k _ hh => .inl hh.1) hS fun k hk => .inl hk)) ht
def CollE (w : World) (ws : List (List UInt8)) (e : Ending) (w' : World) : Prop := ∃ (v : Value) (ss : List (List UInt8)), e = .returned v ∧ ss.Nodup ∧ (∀ x, x ∈ ss ↔ x ∈ ws) ∧ Fr w w' [rIt eS 1 v ss.length (ss.map fun s => Value.string (mkS s))]
theorem Append_any {mb : Addr} (hc : w.cell? mb = some (.map (some b))) (h0 : mb.off = 0 ∧ mb.spot = none) (hM : MapI w b ws) (hl : ws.length ≤ 1000000000) : Calls P n_slices_AppendSeq_string_string #[.slice none 0 0, .func (.func n_maps_Keys_map_string_int_string_int_1) #[] #[.pointer (some mb)]] w (CollE w ws) := by
  obtain ⟨D, hD, hI, hat, hhas⟩ := hM
  obtain ⟨g, o, sp⟩ := mb
  obtain ⟨rfl, rfl⟩ := h0
  have hsz : Maps.size D ≤ ws.length := by
    obtain ⟨es, clock, _, _, h3, rfl⟩ := hD
    have : Maps.size (DataW.map ((es.toList.map (WideElems.rg P t_string RI)).foldr DataW.insert [])) = es.size := by
      simp [Maps.size, length_sorted]
    omega
  refine of_slices_AppendSeq_string_string (fBox (Fr.start w) fun sb w1 f1 => ?_)
  have f1 : Fr w w1 [sIt sb [.slice none 0 0]] := f1
  have hblk : ∀ {w' : World}, Ev w w' → w'.ownsMap P t_string RI b ws.length D := fun {w'} he => by
    obtain ⟨es, clock, h1, h2⟩ := hD
    exact ⟨es, clock, he.oth _ _ h1 rfl, h2⟩
  have hseq := AnyZ.keys_stops Tryz.laysKeys Fence.wide 4 trivial rfl (by decide) g b ws.length D w1 (World.block_lt_of_cell? w1 _ (f1.old.cell hc fun h => h)) (f1.old.cell hc fun h => h) (hblk f1.old)
  refine ⟨_, _, rfl, by kernel_rfl, List UInt8, encStr, KeepsWalks, _, _, Maps.size D, fun pre W => ∃ v, Fr w W [rIt eS 1 v pre.length (pre.map fun s => Value.string (mkS s)), sIt sb [v]], hseq, fun h k => walksK_t h k, fun W l o o' h1 h2 h3 h4 => walksK_b W l o o' h1 h2 h3 h4, ?_, ⟨_, f1.nilR eS 1⟩, ?_, ?_⟩
  · rintro pre W W' row ⟨v, fG⟩ hg hr
    exact ⟨v, fG.grownW hg fun r e => ⟨Nat.le_trans f1.old.size (hr r e).1, (hr r e).2⟩⟩
  · rintro pre x W ⟨v, fG⟩ hlen
    have hv : v.cells = #[v] ∧ v.oneCell' = true := by
      have := fG.row 0 rfl
      obtain ⟨a, c, rfl, _⟩ := this
      exact ⟨rfl, rfl⟩
    refine gLoad_v (fG.cell0W 1 rfl) (fLitK [encStr x] fG rfl rfl (fun u hu => by rw [List.mem_singleton.1 hu]; rfl) fun t10 w4 k4 f4 s4 => ?_)
    refine fAppK 16 (m := 1) f4 0 rfl s4 (fun u hu => by rw [List.mem_singleton.1 hu]; rfl) (by omega) (by unfold maxLen; omega) (fun v' w5 k5 f5 => ?_) (by kernel_rfl)
    have hv' : v'.cells = #[v'] ∧ v'.oneCell' = true := by
      have := f5.row 0 rfl
      obtain ⟨a, c, rfl, _⟩ := this
      exact ⟨rfl, rfl⟩
    refine fStoreK f5 1 rfl (fun w6 k6 f6 => ?_) hv'.2 hv'.1
    have ko := k4.trans (k5.trans k6)
    refine ⟨ko, ko.walks, v', ?_⟩
    rw [List.length_append, List.map_append]
    exact f6
  · rintro DD xs W hD2 ⟨hp, hx⟩ ⟨v, fG⟩ hdef
    refine gLoad_v (fG.cell0W 1 rfl) ⟨hdef, v, xs, rfl, ?_, fun x => ?_, ?_⟩
    · exact hp.nodup_iff.2 (strKeys_nodup hD)
    · rw [hx x, hhas x]
    · exact (fG.putObjW (Nat.le_trans f1.old.size hD2) hdef rfl).picksN 2 [0] (by decide) (by decide)
/-- slices.SortedFunc of a map's keys: the words, by their worth. -/
theorem fSorted {mb wp tp : Addr} {K : Value → World → Prop} (f : Fr w0 w F) (h0 : mb.off = 0 ∧ mb.spot = none) (hm : sIt mb [.map (some b)] ∈ F) (hw : sIt wp [.func (.func n_words_Find_1) #[] #[.pointer (some tp)]] ∈ F) (hc : sIt tp [.map (some b)] ∈ F) (hM : MapI w b ws) (hl : ws.length ≤ 1000000000) (h24 : ∀ s ∈ ws, s.length ≤ 24)
    (hk : ∀ v w', MapI w' b ws → Fr w0 w' (rIt eS 1 v (sortedU ws).length ((sortedU ws).map fun s => Value.string (mkS s)) :: F) → K v w') :
    gCall P n_slices_SortedFunc_string shV #[.func (.func n_maps_Keys_map_string_int_string_int_1) #[] #[.pointer (some mb)], .func (.func n_words_Find_2) #[] #[.pointer (some wp)]] w K := by
  have hcell : ∀ {q : Addr} {u : Value}, sIt q [u] ∈ F → w.cell? q = some u := fun {q u} hq => by
    have := St.cell (j := 0) (u := u) (f.mem hq).1 rfl
    rwa [Addr.add_zero'] at this
  refine gCall_of (R := fun e w' => ∃ v, e = .returned v ∧ MapI w' b ws ∧ Fr w0 w' (rIt eS 1 v (sortedU ws).length ((sortedU ws).map fun s => Value.string (mkS s)) :: F)) (of_slices_SortedFunc_string (gCall_of (R := CollE w ws) (of_slices_Collect_string (gCall_of (Append_any (hcell hm) h0 hM hl) ?_)) ?_)) ?_
  · rintro e w1 ⟨v, ss, rfl, h⟩
    exact ⟨v, rfl, v, ss, rfl, h⟩
  · rintro _ w1 ⟨v, ss, rfl, hn, hx, g1⟩
    have f1 := f.glue g1
    have hlen : ss.length ≤ ws.length := by
      have : ss.Perm (dd ws) := perm_of_mem hn (nodup_dd ws) fun x => by rw [hx x, mem_dd]
      rw [this.length_eq, ← (sortedU_perm ws).length_eq]; exact sortedU_len ws
    refine ⟨v, rfl, fSort f1 (fun s hs => h24 s ((hx s).1 hs)) (by omega) hw hc (hM.ch g1.old) hl fun w2 hM2 f2 => ?_⟩
    rw [sorted_of hn hx] at f2
    refine ⟨v, rfl, hM2, ?_⟩
    have hsl : ss.length = (sortedU ws).length := by rw [← sorted_of hn hx, (List.mergeSort_perm _ _).length_eq]
    rw [← hsl]
    exact f2
  · rintro _ w' ⟨v, rfl, h1, h2⟩
    exact ⟨v, rfl, hk v w' h1 h2⟩
end
end Go.Proofs.YtilpoinhfiajcaaGreatDoorV

/- Package words: bytes of a text; Find. -/
namespace Go.Proofs.YtilpoinhfiajcaaGreatDoorV
open Go Go.RowKit
/-! ### []byte(s) -/
def Tx (e : TypeId) (w : World) (v : Value) (xs : List Int) : Prop := ∃ g c cur, v = .slice (some ⟨g, 0, none⟩) xs.length c ∧ xs.length ≤ c ∧ w.heap[g]? = some (.cells cur e (cur.size, cur.size + 1)) ∧ cur.size = c ∧ cur.toList.take xs.length = xs.map (Value.int .u8) ∧ inR .u8 xs
theorem Tx.ch {e : TypeId} {S : SS} {w w' : World} {v : Value} {xs : List Int} (h : Tx e w v xs) (hc : Ch S w w') (hs : ∀ k i, v.ownBlock = some k → ¬ S k i) : Tx e w' v xs := by
  obtain ⟨g, c, cur, rfl, h1, h2, h3⟩ := h
  exact ⟨g, c, cur, rfl, h1, by rw [hc.blk g (hlt h2) fun i => hs g i rfl]; exact h2, h3⟩
theorem Tx.nm {e : TypeId} {w : World} {v : Value} {xs : List Int} (h : Tx e w v xs) : Nm .u8 w v xs := by
  obtain ⟨g, c, cur, rfl, h1, h2, h3, h4, h5⟩ := h
  refine ⟨⟨some ⟨g, 0, none⟩, c, rfl, h1, by simp, fun ad ha j u hj => ?_, fun h => by cases h⟩, h5⟩
  injection ha with ha; subst ha
  rw [Addr.add_lit]
  have hjl : j < xs.length := by simpa using (List.getElem?_eq_some_iff.1 hj).1
  rw [← h4, List.getElem?_take, if_pos hjl, Array.getElem?_toList] at hj
  simp [World.cell?, h2, hj]
def tIt (e : TypeId) (v : Value) (xs : List Int) : It := ⟨fun b => v.ownBlock = some b, fun w => Tx e w v xs, fun _ _ h hk => by
    obtain ⟨g, c, cur, rfl, _, h1, _⟩ := h
    simp [Value.ownBlock] at hk; subst hk; exact ⟨_, _, _, h1⟩, fun _ _ _ h hc hs => h.ch hc hs, fun _ _ h _ hc => by
    obtain ⟨g, c, cur, rfl, h1, h2, h3⟩ := h; exact ⟨g, c, cur, rfl, h1, by rw [hc _ _ _ _ h2]; exact h2, h3⟩⟩
def strBytes (P : Program) (s d : TypeId) : Bool := match P.underlying s, P.underlying d with
  | some .string, some (.slice e) => (match P.underlying e with | some (.int .u8) => true | _ => false)
  | _, _ => false
section
variable {w0 w : World} {F : List It}
theorem fConvSb {s d : TypeId} {l : List UInt8} {K : Value → World → Prop} (f : Fr w0 w F) (hl : l.length ≤ 1000000) (hk : ∀ v w', KeepsOthers w w' → Fr w0 w' (tIt (elOf P d) v (iU l) :: F) → K v w') (ht : strBytes P s d = true := by kernel_rfl) : gConv P s d shV (.string (mkS l)) w K := by
  unfold strBytes at ht
  split at ht
  · rename_i e hs hd
    split at ht
    · rename_i he
      have hel : elOf P d = e := by unfold elOf; rw [hd]
      rw [hel] at hk
      have hge := grownCap_ge w (mkS l).size 0 e
      have hil := iU_len l
      have hsz : (mkS l).size = l.length := mkS_size l
      have hrs : (bytesRow (mkS l) (grownCap w (mkS l).size 0 e)).size = grownCap w (mkS l).size 0 e := by
        unfold bytesRow
        have : (mkS l).data.size = l.length := by simp [mkS]
        simp only [Array.size_append, Array.size_map, Array.size_replicate, this, hsz] at *
        omega
      refine ⟨_, _, run_bytes_of_string w s d e (mkS l) hs hd he, hk _ _ (Ev.trans (Ev.drew0 w) (Ev.alloc w.drew _)).others (f.new (jt := tIt e _ (iU l)) (Ev.trans (Ev.drew0 w) (Ev.alloc w.drew _)) ⟨w.heap.size, _, _, by rw [hil, hsz], by rw [hil]; omega, heap_alloc_new w.drew _, hrs, ?_, iU_u8 l⟩ fun k hk => ?_)⟩
      · unfold bytesRow
        rw [Array.toList_append, List.take_left' (by simp [mkS, iU_len])]
        simp [mkS, iU, Function.comp_def]
      · have : w.heap.size = k := by simpa [tIt, Value.ownBlock] using hk
        omega
    · cases ht
  · cases ht
/-! ### Words in memory of one's own -/
noncomputable abbrev eW : TypeId := elOf P t_sl_sl_uint8
noncomputable abbrev eB1 : TypeId := elOf P t_sl_uint8
noncomputable def wdP (v : Value) (T : List (Value × List Int)) : List It := rIt eW 1 v T.length (T.map (·.1)) :: T.reverse.map fun u => tIt eB1 u.1 u.2
theorem wdP_step {out v : Value} {T : List (Value × List Int)} {xs : List Int} {K : Value → World → Prop} (f : Fr w0 w (tIt eB1 v xs :: wdP out T ++ F)) (hl : T.length ≤ 1000) (hk : ∀ out' w', KeepsOthers w w' → Fr w0 w' (wdP out' (T ++ [(v, xs)]) ++ F) → K out' w') :
    gLit P t_sl_sl_uint8 1 #[(0, v)] w fun t20 w5 => gApp P #[t_sl_sl_uint8, t_sl_sl_uint8] t_sl_sl_uint8 #[out, t20] w5 K := by
  have hn : Nm .u8 w v xs := Tx.nm (f.get 0 rfl)
  have ho : v.oneCell' = true := by obtain ⟨a, c, rfl, _⟩ := hn.shape; rfl
  refine fLitK [v] f rfl rfl (fun u hu => by rw [List.mem_singleton.1 hu]; exact hn.one) fun t5 w5 k5 f5 s5 => ?_
  refine fAppK 24 (m := 1) f5 1 rfl s5 (fun x hx => by rw [List.mem_singleton.1 hx]; exact ho) (by omega) (by unfold maxLen; omega) (fun v' w6 k6 f6 => hk v' w6 (k5.trans k6) ?_) (by kernel_rfl)
  have f7 := f6.picksN 2 [1, 0] (by decide) (by decide)
  have e1 : wdP v' (T ++ [(v, xs)]) ++ F = rIt eW 1 v' (T.length + 1) (T.map (·.1) ++ [v]) :: tIt eB1 v xs :: ((T.reverse.map fun u => tIt eB1 u.1 u.2) ++ F) := by
    unfold wdP; rw [List.map_append, List.length_append, List.reverse_append]; rfl
  rw [e1]; exact f7
theorem wdP_at {v : Value} {T : List (Value × List Int)} (f : Fr w0 w (wdP v T ++ F)) : Sl w 1 v T.length (T.map (·.1)) ∧ ∀ u ∈ T, Nm .u8 w u.1 u.2 := by
  refine ⟨f.row 0 rfl, fun u hu => Tx.nm (e := eB1) ?_⟩
  have hm : tIt eB1 u.1 u.2 ∈ wdP v T ++ F := List.mem_append_left _ (List.mem_cons_of_mem _ (List.mem_map.2 ⟨u, List.mem_reverse.2 hu, rfl⟩))
  exact (f.mem hm).1
/-! ### Find -/
def FindE (w : World) (L : List (List UInt8)) (e : Ending) (w' : World) : Prop := ∃ (v : Value) (T : List (Value × List Int)), e = .returned v ∧ T.map (·.2) = L.map iU ∧ Fr w w' (wdP v T)
theorem findU_rest {ws : List (List UInt8)} {c : List UInt8 → Bool} {k : Nat} (hk : k < ws.length) : ((ws.take (k + 1)).filter c).take 64 = if c ws[k] = true ∧ (((ws.take k).filter c).take 64).length < 64 then ((ws.take k).filter c).take 64 ++ [ws[k]] else ((ws.take k).filter c).take 64 := by
  rw [List.take_succ_eq_append_getElem hk, List.filter_append]
  by_cases hc : c ws[k] = true
  · rw [List.filter_cons_of_pos hc, List.filter_nil]
    by_cases hl : (((ws.take k).filter c).take 64).length < 64
    · rw [if_pos ⟨hc, hl⟩]
      have : ((ws.take k).filter c).length < 64 := by rw [List.length_take] at hl; omega
      rw [List.take_of_length_le (l := (ws.take k).filter c ++ [ws[k]]) (by simp; omega), List.take_of_length_le (l := (ws.take k).filter c) (by omega)]
    · rw [if_neg fun h => hl h.2]
      have : 64 ≤ ((ws.take k).filter c).length := by rw [List.length_take] at hl; omega
      rw [List.take_append_of_le_length this]
  · rw [if_neg fun h => hc h.1, List.filter_cons_of_neg hc, List.filter_nil, List.append_nil]
theorem Find_any {b : Value} {xs : List Int} (hb : Nm .u8 w b xs) (hl : xs.length ≤ 10000000) : Calls P n_words_Find #[b] w (FindE w (findU (wordsU xs))) := by
  obtain ⟨W, hW⟩ : ∃ W, W = wordsU xs := ⟨_, rfl⟩
  have hwl := wordsU_len xs.length xs (Nat.le_refl _)
  rw [← hW] at hwl ⊢
  refine of_words_Find (gMakeMap fun w1 e1 hM1 => ?_)
  obtain ⟨B, hB⟩ : ∃ B, B = w.heap.size := ⟨_, rfl⟩
  rw [← hB] at hM1 ⊢
  refine fAllocK (z := .map none) ((Fr.start w).ev e1) (by kernel_rfl) fun tp w2 k2 f2 => fStoreK f2 0 rfl (fun w3 k3 f3 => ?_) rfl rfl
  have f3 : Fr w w3 [sIt tp [.map (some B)]] := f3
  have hM3 := (hM1.kept k2).kept k3
  refine ⟨fun b' w' => ∃ (p : Nat) (ws : List (List UInt8)), p ≤ xs.length ∧ Nm .u8 w b' (xs.drop p) ∧ ws ++ wordsU (xs.drop p) = W ∧ MapI w' B ws ∧ Fr w w' [sIt tp [.map (some B)]], fun b' _ => (match b' with | .slice _ n _ => n | _ => 0), ⟨0, [], Nat.zero_le _, by rw [List.drop_zero]; exact hb, by rw [List.drop_zero, hW]; rfl, hM3, f3⟩, ?_⟩
  rintro _ b' w4 ⟨p, ws, hp, hb', hws, hM4, f4⟩
  have hb4 := hb'.ev f4.old
  have hdl : (xs.drop p).length = xs.length - p := List.length_drop
  have hwsl : ws.length ≤ xs.length := by have := congrArg List.length hws; rw [List.length_append] at this; omega
  refine gLen_nm hb4 (gIf_dec (fun hgt => ?_) (fun hle => ?_))
  · refine gCall_of (run_any hb4 (by omega)) ?_
    rintro _ w5 ⟨rfl, hw5⟩
    obtain rfl : w4 = w5 := hw5.symm
    have hrl := runN_le (xs.drop p)
    have hne : xs.drop p ≠ [] := fun h => by rw [h] at hgt; simp at hgt
    obtain ⟨n, hn⟩ : ∃ n, n = runN (xs.drop p) := ⟨_, rfl⟩
    have hst := wordsU_step hne
    rw [← hn] at hrl hst ⊢
    refine ⟨_, rfl, fun w' => MapI w' B (ws ++ (if 3 ≤ n ∧ n ≤ 24 then [bU ((xs.drop p).take n)] else [])) ∧ Fr w w' [sIt tp [.map (some B)]], gIf_dec (fun h3 => gIf_dec (fun h24 => ?_) (fun h24 => ?_)) (fun h3 => ?_), ?_⟩
    · refine ⟨fun w' => w'.cell? tp = some (.map (some B)), f4.drew.cell0W 0 rfl, gLoadB_v (fun w' h => h) (gSlice_nm (hb4.drew) 0 n (.inl ⟨rfl, rfl⟩) (.inr ⟨_, rfl⟩) (Nat.zero_le _) (by omega) fun hs => gConv_bs hs ⟨f4.drew.cell0W 0 rfl, ?_⟩)⟩
      rw [bsOf_mk, List.drop_zero, Nat.sub_zero]
      have hwl1 : (bU ((xs.drop p).take n)).length ≤ 1000 := by rw [bU_len, List.length_take]; omega
      have hM5 : MapI w4.drew B ws := hM4.ch (Ev.drew0 w4)
      have hcl : ws.count (bU ((xs.drop p).take n)) ≤ ws.length := List.count_le_length
      refine gLookup hM5 hwl1 ⟨f4.drew.cell0W 0 rfl, gBump hM5 hwl1 (by omega) (by rw [i64_id (by omega) (by omega)]) fun w6 hg hM6 => ?_⟩
      have f6 : Fr w w6 [sIt tp [.map (some B)]] := f4.drew.grownW hg fun r e => by
        injection e with e; subst e
        exact ⟨by omega, hM5.block⟩
      refine ⟨f6.cell0W 0 rfl, ?_, f6⟩
      rw [if_pos (by omega)]; exact hM6
    · rw [if_neg (by omega), List.append_nil]; exact ⟨hM4, f4⟩
    · rw [if_neg (by omega), List.append_nil]; exact ⟨hM4, f4⟩
    · rintro _ w7 ⟨hM7, f7⟩
      have hmx : (if 1 > ((n : Nat) : Int) then (1 : Int) else ((n : Nat) : Int)) = (((if 1 > n then 1 else n) : Nat) : Int) := by split <;> split <;> omega
      obtain ⟨m, hm⟩ : ∃ m, m = (if 1 > n then 1 else n) := ⟨_, rfl⟩
      rw [hmx, ← hm]
      rw [← hm] at hst
      have hm1 : 1 ≤ m ∧ m ≤ xs.length - p := by rw [hm]; split <;> omega
      refine gSlice_nm (hb'.ev f7.old) m (xs.drop p).length (.inr ⟨_, rfl⟩) (.inl ⟨rfl, rfl⟩) (by omega) (Nat.le_refl _) fun hs => ?_
      have hsub := hb'.sub m (xs.drop p).length (by omega) (Nat.le_refl _)
      rw [List.take_of_length_le (by rw [List.length_drop]; omega), List.drop_drop] at hsub
      refine ⟨⟨p + m, _, by omega, hsub, ?_, hM7, f7⟩, ?_⟩
      · rw [List.append_assoc, ← List.drop_drop, ← hst]; exact hws
      · obtain ⟨a1, c1, e1, _⟩ := hb'.shape
        obtain ⟨a2, c2, e2, _⟩ := hsub.shape
        rw [e2, e1]
        dsimp only
        rw [List.length_drop, List.length_drop]; omega
  · have hnil : xs.drop p = [] := List.eq_nil_of_length_eq_zero (by omega)
    rw [hnil, wordsU_nil, List.append_nil] at hws
    subst hws
    refine fAllocK (z := .nilFunc) f4 (by kernel_rfl) fun wp w5 k5 f5 => fStoreK f5 0 rfl (fun w6 k6 f6 => ?_) rfl rfl
    have f6 : Fr w w6 [sIt wp [.func (.func n_words_Find_1) #[] #[.pointer (some tp)]], sIt tp [.map (some B)]] := f6
    have hM6 := (hM4.kept k5).kept k6
    refine gLoad_v (f6.cell0W 1 rfl) (Keys_any f6 _ rfl fun mb w7 k7 h0 f7 => ?_)
    have hM7 := hM6.kept k7
    refine fSorted (mb := mb) (wp := wp) (tp := tp) f7 h0 (by simp) (by simp) (by simp) hM7 (by omega) (fun s hs => (hwl.2 s hs).2) fun v w8 hM8 f8 => ?_
    obtain ⟨S, hS⟩ : ∃ S, S = sortedU ws := ⟨_, rfl⟩
    rw [← hS] at f8
    have hSl : S.length ≤ ws.length := by rw [hS]; exact sortedU_len ws
    have hSm : ∀ s ∈ S, s.length ≤ 24 := fun s hs => (hwl.2 s (mem_sortedU.1 (hS ▸ hs))).2
    refine gLen_slv (f8.row 0 rfl) ⟨fun out i w' => ∃ (k : Nat) (T : List (Value × List Int)), i = (k : Int) ∧ k ≤ S.length ∧ T.map (·.2) = (((S.take k).filter fun s => decide (1 < ws.count s)).take 64).map iU ∧ MapI w' B ws ∧ Fr w w' (wdP out T ++ [rIt eS 1 v S.length (S.map fun s => Value.string (mkS s)), sIt tp [.map (some B)]]), fun _ i _ => (S.length - i).toNat, ⟨0, [], rfl, Nat.zero_le _, rfl, hM8, ?_⟩, ?_⟩
    · have := (f8.picksN 4 [0, 3] (by decide) (by decide)).nilR eW 1
      exact this
    rintro _ out i w9 ⟨k, T, rfl, hk, hT, hM9, f9⟩
    have hTl : T.length ≤ 64 := by have := congrArg List.length hT; rw [List.length_map, List.length_map, List.length_take] at this; omega
    have hrow : ∀ {w' : World} {out : Value} {T : List (Value × List Int)}, Fr w w' (wdP out T ++ [rIt eS 1 v S.length (S.map fun s => Value.string (mkS s)), sIt tp [.map (some B)]]) → Sl w' 1 v S.length (S.map fun s => Value.string (mkS s)) ∧ w'.cell? tp = some (.map (some B)) := fun {w' out T} f => by
      refine ⟨Sl.of_ownS (sz := 1) (f.mem (it := rIt eS 1 v S.length (S.map fun s => Value.string (mkS s))) (by simp)).1, ?_⟩
      have := St.cell (j := 0) (u := Value.map (some B)) (f.mem (it := sIt tp [.map (some B)]) (by simp)).1 rfl
      rwa [Addr.add_zero'] at this
    refine gIf_dec (fun hlt => ?_) (fun hge => ?_)
    · have hkS : k < S.length := by omega
      obtain ⟨h1, h2⟩ := hrow f9
      refine gIdx_1 h1 (by omega) (by omega) fun a u hua hc _ => ?_
      have hue : u = .string (mkS S[k]) := by
        rw [Int.toNat_natCast, List.getElem?_map, List.getElem?_eq_getElem hkS] at hua
        simpa using hua.symm
      subst hue
      refine gLoad_s hc (gLoad_v h2 (gLookup hM9 (by have := hSm S[k] (List.getElem_mem hkS); omega) ?_))
      have hnext := findU_rest (ws := S) (c := fun s => decide (1 < ws.count s)) hkS
      have hlen : (((S.take k).filter fun s => decide (1 < ws.count s)).take 64).length = T.length := by have := congrArg List.length hT; simpa using this.symm
      rw [hlen] at hnext
      have skip : ¬ ((fun s => decide (1 < ws.count s)) S[k] = true ∧ T.length < 64) → (∃ (k' : Nat) (T' : List (Value × List Int)), i64 ((k : Int) + 1) = (k' : Int) ∧ k' ≤ S.length ∧ T'.map (·.2) = (((S.take k').filter fun s => decide (1 < ws.count s)).take 64).map iU ∧ MapI w9 B ws ∧ Fr w w9 (wdP out T' ++ [rIt eS 1 v S.length (S.map fun s => Value.string (mkS s)), sIt tp [.map (some B)]])) ∧ (S.length - i64 ((k : Int) + 1)).toNat < (S.length - (k : Int)).toNat := fun hn => by
        rw [if_neg hn] at hnext
        exact ⟨⟨k + 1, T, by rw [i64_id (by omega) (by omega)]; omega, by omega, by rw [hnext]; exact hT, hM9, f9⟩, by rw [i64_id (by omega) (by omega)]; omega⟩
      refine gIf_dec (fun hc1 => gLen_slv (wdP_at f9).1 (gIf_dec (fun h64 => ?_) (fun h64 => skip fun h => by omega))) (fun hc1 => skip fun h => by have := of_decide_eq_true h.1; omega)
      rw [if_pos ⟨decide_eq_true (by omega), by omega⟩] at hnext
      refine fConvSb f9 (by have := hSm S[k] (List.getElem_mem hkS); omega) fun u w10 k10 f10 => wdP_step f10 (by omega) fun out' w11 k11 f11 => ⟨⟨k + 1, _, by rw [i64_id (by omega) (by omega)]; omega, by omega, ?_, (hM9.kept k10).kept k11, f11⟩, by dsimp only; rw [i64_id (by omega) (by omega)]; omega⟩
      rw [hnext, List.map_append, List.map_append, hT]; rfl
    · obtain rfl : k = S.length := by omega
      rw [List.take_length] at hT
      refine ⟨out, T, rfl, by rw [hT, hS]; rfl, ?_⟩
      exact f9.leftW
end
end Go.Proofs.YtilpoinhfiajcaaGreatDoorV

/- Package words: Pack, Unpack. -/
namespace Go.Proofs.YtilpoinhfiajcaaGreatDoorV
open Go Go.RowKit
def txtB (L : List (List Int)) : List Int := (L.map fun u => numB u.length ++ u).flatten
theorem txtB_next {L : List (List Int)} {k : Nat} (hk : k < L.length) : txtB (L.take (k + 1)) = txtB (L.take k) ++ numB L[k].length ++ L[k] := by
  unfold txtB
  rw [List.take_succ_eq_append_getElem hk, List.map_append, List.flatten_append]; simp
def findW (xs : List Int) : List (List Int) := (findU (wordsU xs)).map iU
def packWd (xs : List Int) : List Int × Bool := if findW xs = [] ∨ xs.length > 1048576 then ([], false) else (numB (findW xs).length ++ txtB (findW xs) ++ applyW (findW xs) xs, true)
theorem findU_sub (ws : List (List UInt8)) : (findU ws).length ≤ 64 ∧ ∀ s ∈ findU ws, s ∈ ws ∧ 1 < ws.count s := by
  unfold findU
  refine ⟨by rw [List.length_take]; omega, fun s hs => ?_⟩
  have := List.mem_filter.1 (List.mem_of_mem_take hs)
  exact ⟨mem_sortedU.1 this.1, of_decide_eq_true this.2⟩
theorem findW_rg (xs : List Int) : (findW xs).length ≤ 64 ∧ ∀ u ∈ findW xs, 3 ≤ u.length ∧ u.length ≤ 24 := by
  unfold findW
  refine ⟨by rw [List.length_map]; exact (findU_sub _).1, fun u hu => ?_⟩
  obtain ⟨s, hs, rfl⟩ := List.mem_map.1 hu
  rw [iU_len]
  exact (wordsU_len xs.length xs (Nat.le_refl _)).2 s ((findU_sub _).2 s hs).1
theorem apS_len (L : List (List Int)) : ∀ (f : Nat) (xs : List Int), xs.length ≤ f → (apS L f xs).length ≤ 2 * xs.length
  | 0, xs, _ => by simp [apS]
  | f + 1, xs, h => by
    rw [apS]
    by_cases hx : xs = []
    · rw [if_pos hx]; exact Nat.zero_le _
    · have h0 : 0 < xs.length := List.length_pos_iff.2 hx
      have h1 := mxR_pos xs
      have h2 := tokW_len L xs
      have h3 : mxR xs ≤ xs.length := by unfold mxR; have := runN_le xs; split <;> omega
      have ih := apS_len L f (xs.drop (mxR xs)) (by rw [List.length_drop]; omega)
      rw [List.length_drop] at ih
      rw [if_neg hx, List.length_append]; omega
theorem applyW_len (L : List (List Int)) (xs : List Int) : (applyW L xs).length ≤ 2 * xs.length := apS_len L _ xs (Nat.le_refl _)
theorem txtB_len {L : List (List Int)} (h : ∀ u ∈ L, u.length ≤ 24) : (txtB L).length ≤ L.length * 34 := by
  induction L with
  | nil => simp [txtB]
  | cons u L ih =>
    have h1 := ih fun x hx => h x (List.mem_cons_of_mem _ hx)
    have h2 := h u List.mem_cons_self
    have h3 : (numB u.length).length ≤ 10 := numB_len64 (by omega)
    have e : txtB (u :: L) = numB u.length ++ u ++ txtB L := rfl
    rw [e, List.length_append, List.length_append, List.length_cons, Nat.succ_mul]; omega
section
variable {w0 w : World} {F : List It}
theorem wdP_nl {v : Value} {T : List (Value × List Int)} (f : Fr w0 w (wdP v T ++ F)) : NL .u8 w v (T.map (·.2)) := by
  obtain ⟨h1, h2⟩ := wdP_at f
  refine ⟨T.map (·.1), by rw [List.length_map]; exact h1, fun i u xs hu hx => ?_⟩
  rw [List.getElem?_map] at hu hx
  cases ht : T[i]? with
  | none => rw [ht] at hu; cases hu
  | some t =>
    rw [ht] at hu hx
    simp at hu hx
    subst hu; subst hx
    exact h2 t (List.mem_of_getElem? ht)
theorem FindE.nl {xs : List Int} {e : Ending} {w' : World} (h : FindE w (findU (wordsU xs)) e w') : ∃ (v : Value) (T : List (Value × List Int)), e = .returned v ∧ T.map (·.2) = findW xs ∧ Fr w w' (wdP v T) ∧ NL .u8 w' v (findW xs) := by
  obtain ⟨v, T, rfl, hT, f⟩ := h
  refine ⟨v, T, rfl, hT, f, ?_⟩
  have := wdP_nl (F := []) (by rw [List.append_nil]; exact f)
  rwa [hT] at this
theorem gLen_nl {v : Value} {L : List (List Int)} {K : Nat → Prop} (h : NL .u8 w v L) (hk : K L.length) : gLen P t_sl_sl_uint8 v K := let ⟨_, h1, _⟩ := h; gLen_slv h1 hk
theorem wPack_any {b : Value} {xs : List Int} (hb : Nm .u8 w b xs) (hl : xs.length ≤ 10000000) : Calls P n_words_Pack #[b] w (TupB w (packWd xs)) := by
  refine of_words_Pack (gCall_of (Find_any hb hl) ?_)
  intro e w1 hF
  obtain ⟨t9, T, rfl, hT, f1, hN1⟩ := hF.nl
  obtain ⟨hL64, hLu⟩ := findW_rg xs
  have hal := applyW_len (findW xs) xs
  have htl := txtB_len (L := findW xs) fun u hu => (hLu u hu).2
  have no : (findW xs = [] ∨ xs.length > 1048576) → TupB w (packWd xs) (.returned (.tuple #[.slice none 0 0, .bool false])) w1 := fun h => by
    unfold packWd; rw [if_pos h]; exact ⟨_, rfl, f1.old, ON.nil _ _ _ _⟩
  refine ⟨t9, rfl, fun w' => w' = w1 ∧ ¬ (findW xs = [] ∨ xs.length > 1048576), gLen_nl hN1 (gIf_neqq (fun hne => gLen_nm (hb.ev f1.old) (gIf_dec (fun hgt => no (.inr (by omega))) (fun hle => ⟨rfl, fun h => ?_⟩))) (fun he => no (.inl (List.eq_nil_of_length_eq_zero (by omega))))), ?_⟩
  · rcases h with h | h
    · rw [h] at hne; exact hne rfl
    · omega
  rintro _ w2 ⟨hw2, hok⟩
  obtain rfl : w1 = w2 := hw2.symm
  unfold packWd
  rw [if_neg hok]
  obtain ⟨L, hL⟩ : ∃ L, L = findW xs := ⟨_, rfl⟩
  rw [← hL] at hT hN1 hL64 hLu hal htl hok ⊢
  have hxl : xs.length ≤ 1048576 := by omega
  have nlF : ∀ {w' : World} {G : List It}, Fr w w' (G ++ wdP t9 T) → NL .u8 w' t9 L := fun {w' G} f => by
    have := wdP_nl (F := []) (by rw [List.append_nil]; exact (by have h := f.dropN G.length; rwa [List.drop_left' rfl] at h))
    rwa [hT] at this
  refine fNewW f1 fun o v w3 f3 => gLen_nl (nlF (G := [_]) f3) ?_
  rw [show u64 (L.length : Int) = (L.length : Int) by rw [u64_def]; omega]
  refine fNum f3 0 rfl (by omega) (by simp) fun v4 w4 f4 => gLen_nl (nlF (G := [_]) f4) ?_
  have f4 : Fr w w4 (wIt eB o v4 ([] ++ numB (L.length : Int).toNat) :: wdP t9 T) := f4
  rw [List.nil_append, Int.toNat_natCast] at f4
  have hnl : (numB L.length).length ≤ 10 := numB_len64 (by omega)
  have htk : ∀ k, (txtB (L.take k)).length ≤ 64 * 34 := fun k => by
    have h1 := txtB_len (L := L.take k) fun u hu => (hLu u (List.mem_of_mem_take hu)).2
    have h2 := Nat.mul_le_mul_right 34 (show (L.take k).length ≤ 64 by rw [List.length_take]; omega)
    omega
  refine ⟨fun i w' => ∃ (k : Nat) (v' : Value), i = (k : Int) ∧ k ≤ L.length ∧ Fr w w' (wIt eB o v' (numB L.length ++ txtB (L.take k)) :: wdP t9 T), fun i _ => (L.length - i).toNat, ⟨0, v4, rfl, Nat.zero_le _, by simpa [txtB] using f4⟩, ?_⟩
  rintro _ i w5 ⟨k, v5, rfl, hk, f5⟩
  have hk5 := htk k
  refine gIf_dec (fun hlt => ?_) (fun hge => ?_)
  · have hkL : k < L.length := by omega
    have hu := hLu L[k] (List.getElem_mem hkL)
    have hTl : T.length = L.length := by rw [← hT, List.length_map]
    have hTk : T[k].2 = L[k] := by simp only [← hT, List.getElem_map]
    have wd : ∀ {w' : World}, Fr w w' (wdP t9 T) → Sl w' 1 t9 T.length (T.map (·.1)) ∧ ∀ u ∈ T, Nm .u8 w' u.1 u.2 := fun f => wdP_at (F := []) (by rw [List.append_nil]; exact f)
    refine gIdx_1 (wd (f5.dropN 1)).1 (by omega) (by omega) fun a u hua hc _ => ?_
    have hue : u = T[k].1 := by
      rw [Int.toNat_natCast, List.getElem?_map, List.getElem?_eq_getElem (by omega)] at hua
      simpa using hua.symm
    subst hue
    refine gLoad_v hc ?_
    refine fTextW (ys := L[k]) f5 0 rfl (fun w' f' => by rw [← hTk]; exact (wd f').2 T[k] (List.getElem_mem _)) (by rw [List.length_append]; omega) fun v6 w6 f6 => ⟨⟨k + 1, v6, by rw [i64_id (by omega) (by omega)]; omega, hkL, ?_⟩, by dsimp only; rw [i64_id (by omega) (by omega)]; omega⟩
    · rw [txtB_next hkL]; simpa [List.append_assoc] using f6
  · obtain rfl : k = L.length := by omega
    rw [List.take_length] at f5
    have htl2 : (txtB L).length ≤ 64 * 34 := by have := htk L.length; rwa [List.take_length] at this
    refine gCall_v (wApply_any (hb.ev f5.old) (by omega) (nlF (G := [_]) f5)) fun t33 w7 ⟨h7, o7⟩ => ?_
    rw [List.take_of_length_le (show L.length ≤ 64 by omega)] at o7
    have f7 := f5.newO h7 o7
    refine fLitV [t33] f7 rfl rfl (fun u hu => by rw [List.mem_singleton.1 hu]; exact o7.nm.one) fun t34 w8 f8 => ?_
    refine fRawW (yss := [applyW L xs]) f8 2 rfl (fun w' f' => NL.of (f'.sl 0 rfl) rfl fun j u ys hu hy => ?_) (by simp only [List.flatten_cons, List.flatten_nil, List.append_nil, List.length_append]; omega) (by simp) fun v9 w9 f9 => ?_
    · rcases j with _ | j
      · simp at hu hy; subst hu; subst hy; exact f'.nm 1 rfl
      · simp at hu
    · simp only [List.flatten_cons, List.flatten_nil, List.append_nil] at f9
      refine fBytesW f9 2 rfl (by simp only [List.length_append]; omega) fun y w10 f10 => ⟨y, rfl, f10.old, f10.on 0 rfl⟩
end
end Go.Proofs.YtilpoinhfiajcaaGreatDoorV

/- Package words: Unpack. -/
namespace Go.Proofs.YtilpoinhfiajcaaGreatDoorV
open Go Go.RowKit
section
variable {w0 w : World} {F : List It}
variable {G : List It}
end
end Go.Proofs.YtilpoinhfiajcaaGreatDoorV

/- Package bytes: Index, Count, ReplaceAll of 0d 0a. -/
namespace Go.Proofs.YtilpoinhfiajcaaGreatDoorV
open Go Go.RowKit
/-- Where 0d 0a stands first. -/
def idxC : List Int → Option Nat
  | [] => none
  | a :: r => if a = 13 ∧ r.head? = some 10 then some 0 else (idxC r).map (· + 1)
/-- How often it stands there. -/
def pairs : List Int → Nat
  | 13 :: 10 :: r => 1 + pairs r
  | _ :: r => pairs r
  | [] => 0
/-- Each of them is 0a. -/
def repl : List Int → List Int
  | 13 :: 10 :: r => 10 :: repl r
  | c :: r => c :: repl r
  | [] => []
theorem pairs_no {a : Int} {r : List Int} (h : ¬ (a = 13 ∧ r.head? = some 10)) : pairs (a :: r) = pairs r ∧ repl (a :: r) = a :: repl r := by
  constructor
  · rw [pairs]
    rintro r' rfl rfl; exact h ⟨rfl, rfl⟩
  · rw [repl]
    rintro r' rfl rfl; exact h ⟨rfl, rfl⟩
theorem idxC_none : ∀ {xs : List Int}, idxC xs = none → pairs xs = 0 ∧ repl xs = xs
  | [], _ => ⟨rfl, rfl⟩
  | a :: r, h => by
    rw [idxC] at h
    split at h
    · cases h
    · rename_i hn
      obtain ⟨h1, h2⟩ := idxC_none (Option.map_eq_none_iff.1 h)
      obtain ⟨h3, h4⟩ := pairs_no hn
      rw [h3, h4, h1, h2]; exact ⟨rfl, rfl⟩
theorem idxC_some : ∀ {xs : List Int} {i : Nat}, idxC xs = some i → i + 2 ≤ xs.length ∧ pairs xs = 1 + pairs (xs.drop (i + 2)) ∧ repl xs = xs.take i ++ 10 :: repl (xs.drop (i + 2))
  | [], _, h => by cases h
  | a :: r, i, h => by
    rw [idxC] at h
    split at h
    · rename_i hc
      injection h with h; subst h
      obtain ⟨rfl, hr⟩ := hc
      cases r with
      | nil => cases hr
      | cons b r => injection hr with hr; subst hr; exact ⟨by simp, rfl, rfl⟩
    · rename_i hn
      rw [Option.map_eq_some_iff] at h
      obtain ⟨j, hj, rfl⟩ := h
      obtain ⟨h1, h2, h3⟩ := idxC_some hj
      obtain ⟨h4, h5⟩ := pairs_no hn
      rw [h4, h5, h2, h3]
      exact ⟨by simp; omega, rfl, rfl⟩
theorem u8_inj {a b : Int} (ha : 0 ≤ a ∧ a < 256) (hb : 0 ≤ b ∧ b < 256) : (UInt8.ofNat a.toNat == UInt8.ofNat b.toNat) = decide (a = b) := by
  by_cases h : a = b
  · subst h; simp
  · rw [decide_eq_false h]
    apply beq_eq_false_iff_ne.2
    intro e
    have e2 := congrArg UInt8.toNat e
    rw [UInt8.toNat_ofNat', UInt8.toNat_ofNat', Nat.mod_eq_of_lt (by omega), Nat.mod_eq_of_lt (by omega)] at e2
    omega
theorem index_eq : ∀ {xs : List Int}, inR .u8 xs → Lib.index (Lib.bytesOf xs) (Lib.bytesOf [13, 10]) = (match idxC xs with | none => -1 | some i => (i : Int))
  | [], _ => rfl
  | a :: r, h => by
    have ha := h.u8 (x := a) (by simp)
    have hr : inR .u8 r := fun x hx => h x (List.mem_cons_of_mem _ hx)
    have ih := index_eq hr
    have hp : (Lib.bytesOf [13, 10]).isPrefixOf (Lib.bytesOf (a :: r)) = decide (a = 13 ∧ r.head? = some 10) := by
      show (UInt8.ofNat (13 : Int).toNat == UInt8.ofNat a.toNat && (Lib.bytesOf [10]).isPrefixOf (Lib.bytesOf r)) = _
      rw [u8_inj (by decide) ha]
      cases r with
      | nil => simp [Lib.bytesOf]
      | cons b r =>
        have hb := hr.u8 (x := b) (by simp)
        show (_ && (UInt8.ofNat (10 : Int).toNat == UInt8.ofNat b.toNat && List.isPrefixOf [] _)) = _
        rw [u8_inj (by decide) hb]
        simp only [List.isPrefixOf_nil_left, Bool.and_true, List.head?_cons, Option.some.injEq]
        by_cases h1 : a = 13 <;> by_cases h2 : b = 10 <;> simp [h1, h2, eq_comm]
    have hu : Lib.index (Lib.bytesOf (a :: r)) (Lib.bytesOf [13, 10]) = if (Lib.bytesOf [13, 10]).isPrefixOf (Lib.bytesOf (a :: r)) then 0 else if Lib.index (Lib.bytesOf r) (Lib.bytesOf [13, 10]) == -1 then -1 else Lib.index (Lib.bytesOf r) (Lib.bytesOf [13, 10]) + 1 := rfl
    rw [hu, hp, ih, idxC]
    by_cases hc : a = 13 ∧ r.head? = some 10
    · rw [if_pos hc, if_pos (by simpa using hc)]; rfl
    · rw [if_neg hc, if_neg (by simpa using hc)]
      cases idxC r with
      | none => rfl
      | some i =>
        have : (((i : Int)) == -1) = false := beq_eq_false_iff_ne.2 (by omega)
        simp only [this, Option.map_some]; simp
theorem count_eq : ∀ (n : Nat) {xs : List Int}, xs.length ≤ n → inR .u8 xs → Lib.count (Lib.bytesOf xs) (Lib.bytesOf [13, 10]) = pairs xs
  | n, xs, hn, h => by
    have hi := index_eq h
    cases hx : idxC xs with
    | none =>
      rw [hx] at hi
      rw [Lib.count_miss hi, (idxC_none hx).1]
    | some i =>
      rw [hx] at hi
      obtain ⟨h1, h2, _⟩ := idxC_some hx
      cases n with
      | zero => omega
      | succ n =>
        rw [Lib.count_hit (by decide) hi, h2]
        have e : (Lib.bytesOf xs).drop (i + (Lib.bytesOf [13, 10]).length) = Lib.bytesOf (xs.drop (i + 2)) := by simp [Lib.bytesOf, List.map_drop]
        rw [e, count_eq n (by rw [List.length_drop]; omega) (h.drop _)]
/-- How often a byte stands there. -/
def cntB (c : Int) (xs : List Int) : Nat := xs.countP (fun x => decide (x = c))
theorem countByte_eq {c : Int} (hc : 0 ≤ c ∧ c < 256) : ∀ {xs : List Int}, inR .u8 xs → Lib.countByte (Lib.bytesOf xs) c.toNat.toUInt8 = cntB c xs
  | [], _ => rfl
  | a :: r, h => by
    have ha := h.u8 (x := a) (by simp)
    have hr : inR .u8 r := fun x hx => h x (List.mem_cons_of_mem _ hx)
    have ih := countByte_eq hc hr
    unfold Lib.countByte cntB at *
    have e : Lib.bytesOf (a :: r) = UInt8.ofNat a.toNat :: Lib.bytesOf r := rfl
    rw [e, List.count_cons, ih, List.countP_cons]
    have := u8_inj ha hc
    rw [show (UInt8.ofNat a.toNat == c.toNat.toUInt8) = decide (a = c) from this]
end Go.Proofs.YtilpoinhfiajcaaGreatDoorV

/- Package bytes: the contracts of Index, Count, ReplaceAll at 0d 0a. -/
namespace Go.Proofs.YtilpoinhfiajcaaGreatDoorV
open Go Go.RowKit
section
variable {w : World} {b sep : Value} {xs : List Int}
/-- The variable that bytes.Index reads holds some number. -/
def MaxL (w : World) : Prop := ∃ m : Int, w.cell? ⟨0, 0, none⟩ = some (.int .i64 m)
theorem maxL_of {w : World} (h : w.ShapedOpen P) : MaxL w := Tryz.laysM185.s1_3 w h
theorem MaxL.ev {w w' : World} (h : MaxL w) (he : Ev w w') : MaxL w' := let ⟨m, hm⟩ := h; ⟨m, he.cell hm fun h => h⟩
theorem Nm.at {k : IntKind} {ad : Addr} {n c : Nat} (h : Nm k w (.slice (some ad) n c) xs) : n = xs.length ∧ n ≤ c ∧ ∀ i, i < n → w.cell? (ad.add i) = some (.int k (xs.getD i 0)) := by
  obtain ⟨a, c', e, h1, h2, h3, h4⟩ := h.1
  injection e with e1 e2 e3
  subst e2
  refine ⟨rfl, by omega, fun i hi => h3 ad e1.symm i _ ?_⟩
  rw [List.getElem?_map, List.getD_eq_getElem?_getD, List.getElem?_eq_getElem hi]; rfl
theorem Ev.drewN (w : World) (q : Nat) : Ev w (w.drewN q) := ⟨rfl, rfl, rfl, Nat.le_refl _, fun _ _ _ => rfl, fun _ c _ _ h => ⟨c, h, rfl, fun _ _ => rfl⟩, fun _ _ h _ => h⟩
theorem crlf_u8 : ∀ y ∈ ([13, 10] : List Int), 0 ≤ y ∧ y < 256 := fun y hy => by simp at hy; rcases hy with rfl | rfl <;> decide
def idxI (xs : List Int) : Int := match idxC xs with | none => -1 | some i => (i : Int)
theorem idxI_short {xs : List Int} (h : xs.length < 2) : idxI xs = -1 := by
  unfold idxI
  cases hx : idxC xs with
  | none => rfl
  | some i => have := (idxC_some hx).1; omega
theorem bIndex_any (hb : Nm .u8 w b xs) (hs : Nm .u8 w sep [13, 10]) (hM : MaxL w) (hl : xs.length ≤ 1000000000) : Calls P n_bytes_Index #[b, sep] w (fun e w' => e = .returned (.int .i64 (idxI xs)) ∧ Ev w w') := by
  obtain ⟨m, hM⟩ := hM
  obtain ⟨a1, c1, rfl, hc1⟩ := hb.shape
  obtain ⟨a2, c2, rfl, hc2⟩ := hs.shape
  cases a2 with
  | none => obtain ⟨a, c, e, h1, h2, h3, h4⟩ := hs.1; injection e with e1 e2 e3; have := h4 e1.symm; cases this
  | some a2 =>
    cases a1 with
    | none =>
      have h0 : xs.length = 0 := by obtain ⟨a, c, e, h1, h2, h3, h4⟩ := hb.1; injection e with e1 e2 e3; exact h4 e1.symm
      rw [idxI_short (by omega)]
      refine of_bytes_Index (gLen_nm hs (gIf_f (gIf_f (gLen_nm hb (gIf_eq (fun e => ?_) (fun _ => gLen_nm hb (gIf_dec (fun _ => ⟨rfl, Ch.refl _ w⟩) (fun h => ?_))))))))
      · simp at e; omega
      · simp at h; omega
    | some a1 =>
      have h1 := hb.at
      have h2 := hs.at
      refine (Tryz.bytes_Index_at a1 a2 xs.length c1 2 c2 xs [13, 10] m w rfl rfl (fun x hx => hb.2.u8 hx) crlf_u8 h1.2.2 h2.2.2 hc1 (by omega) (by decide) hM).mono fun e w' ⟨he, q, hw⟩ => ⟨?_, by rw [hw]; exact Ev.drewN w q⟩
      rw [he, index_eq hb.2]; rfl
theorem bCount2_any (hb : Nm .u8 w b xs) (hs : Nm .u8 w sep [13, 10]) (hM : MaxL w) (hl : xs.length ≤ 1000000000) : Calls P n_bytes_Count #[b, sep] w (fun e w' => e = .returned (.int .i64 (pairs xs)) ∧ Ev w w') := by
  have hM' := hM
  obtain ⟨m, hM⟩ := hM
  obtain ⟨a1, c1, rfl, hc1⟩ := hb.shape
  obtain ⟨a2, c2, rfl, hc2⟩ := hs.shape
  cases a2 with
  | none => obtain ⟨a, c, e, h1, h2, h3, h4⟩ := hs.1; injection e with e1 e2 e3; have := h4 e1.symm; cases this
  | some a2 =>
    cases a1 with
    | none =>
      have h0 : xs.length = 0 := by obtain ⟨a, c, e, h1, h2, h3, h4⟩ := hb.1; injection e with e1 e2 e3; exact h4 e1.symm
      obtain rfl := List.eq_nil_of_length_eq_zero h0
      refine of_bytes_Count (gLen_nm hs (gIf_f (gLen_nm hs (gIf_f ⟨fun v n w' => v = .slice none 0 c1 ∧ n = 0 ∧ w' = w, fun _ _ _ => 0, ⟨rfl, rfl, rfl⟩, ?_⟩))))
      rintro _ _ _ _ ⟨rfl, rfl, rfl⟩
      exact gCall_i (bIndex_any hb hs hM' (by simp)) fun w' h' => gIf_t ⟨rfl, h'⟩
    | some a1 =>
      have h1 := hb.at
      have h2 := hs.at
      refine (Tryz.bytes_Count_at a1 a2 xs.length c1 2 c2 xs [13, 10] m w rfl rfl (fun x hx => hb.2.u8 hx) crlf_u8 h1.2.2 h2.2.2 hc1 (by omega) (by decide) (by decide) hM).mono fun e w' ⟨he, q, hw⟩ => ⟨?_, by rw [hw]; exact Ev.drewN w q⟩
      rw [he, count_eq xs.length (Nat.le_refl _) hb.2]
theorem run_bCount (hb : Nm .u8 w b xs) {c : Int} (hc : 0 ≤ c ∧ c < 256) : (Extern.BytealgCount.count #[b, .int .u8 c]).run P w = .ok (.int .i64 (cntB c xs)) w := by
  obtain ⟨a1, c1, rfl, hc1⟩ := hb.shape
  cases a1 with
  | none =>
    have h0 : xs.length = 0 := by obtain ⟨a, c, e, h1, h2, h3, h4⟩ := hb.1; injection e with e1 e2 e3; exact h4 e1.symm
    obtain rfl := List.eq_nil_of_length_eq_zero h0
    exact Lib.run_countNil w 0 c1 c
  | some a1 =>
    have h1 := hb.at
    rw [Lib.run_countAt w a1 xs.length c1 xs rfl h1.2.2 c, countByte_eq hc hb.2]
theorem bCount1_any {c : Int} (hb : Nm .u8 w b xs) (hs : Nm .u8 w sep [c]) : Calls P n_bytes_Count #[b, sep] w (fun e w' => e = .returned (.int .i64 (cntB c xs)) ∧ w' = w) := by
  have hc := hs.2.u8 (x := c) (by simp)
  exact of_bytes_Count (gLen_nm hs (gIf_f (gLen_nm hs (gIf_t (gIdx_nm hs (by decide) (by simp) fun ad c1 _ => gLoad_i c1 (gExt_i (e := Extern.BytealgCount.count) (by kernel_rfl) (run_bCount hb hc) ⟨rfl, rfl⟩))))))
theorem repl_len : ∀ (n : Nat) (xs : List Int), xs.length ≤ n → (repl xs).length + pairs xs = xs.length
  | n, xs, hn => by
    cases hx : idxC xs with
    | none => obtain ⟨h1, h2⟩ := idxC_none hx; rw [h1, h2]; rfl
    | some i =>
      obtain ⟨h1, h2, h3⟩ := idxC_some hx
      cases n with
      | zero => omega
      | succ n =>
        have := repl_len n (xs.drop (i + 2)) (by rw [List.length_drop]; omega)
        rw [h2, h3]
        simp only [List.length_append, List.length_cons, List.length_take, List.length_drop] at this ⊢
        omega
theorem bReplace_any {nw : Value} (hb : Nm .u8 w b xs) (hs : Nm .u8 w sep [13, 10]) (hn : Nm .u8 w nw [10]) (hM : MaxL w) (hl : xs.length ≤ 1000000000) : Calls P n_bytes_Replace #[b, sep, nw, .int .i64 (-1)] w (NewB w (repl xs)) := by
  refine of_bytes_Replace ⟨fun m w' => m = (pairs xs : Int) ∧ Ev w w', gIf_t (gCall_i (bCount2_any hb hs hM hl) fun w' h' => ⟨rfl, h'⟩), ?_⟩
  rintro _ _ w2 ⟨rfl, h2⟩
  refine gIf_eq (fun e0 => ?_) (fun hne => ⟨fun n w' => n = (pairs xs : Int) ∧ w' = w2, gIf_f ⟨rfl, rfl⟩, ?_⟩)
  · have hid : idxC xs = none := by
      cases hx : idxC xs with
      | none => rfl
      | some i => have := (idxC_some hx).2.1; omega
    rw [(idxC_none hid).2]
    exact fApp0 (Fr.start w |>.ev h2) (hb.ev h2) (by omega) fun v w3 f3 => ⟨v, rfl, f3.old, f3.on 0 rfl⟩
  rintro _ _ _ ⟨rfl, rfl⟩
  rename_i w2
  have hrl := repl_len xs.length xs (Nat.le_refl _)
  obtain ⟨L, hL⟩ : ∃ L, L = (repl xs).length := ⟨_, rfl⟩
  refine gLen_nm hb (gLen_nm hn (gLen_nm hs ?_))
  have eL : i64 ((xs.length : Int) + i64 ((pairs xs : Int) * i64 (((1 : Nat) : Int) - ((2 : Nat) : Int)))) = (L : Int) := by
    rw [show i64 (((1 : Nat) : Int) - ((2 : Nat) : Int)) = -1 by decide, i64_id (n := (pairs xs : Int) * -1) (by omega) (by omega), i64_id (by omega) (by omega)]; omega
  have eL' : i64 ((xs.length : Int) + i64 ((pairs xs : Int) * i64 ((([10] : List Int).length : Int) - (([13, 10] : List Int).length : Int)))) = (L : Int) := eL
  rw [eL']
  refine fMake_len (k := .u8) ((Fr.start w).ev h2) (by omega) fun g w3 f3 => gLen_nm hs (gIf_t ?_)
  obtain ⟨sa, sc, rfl, hsc⟩ := hb.shape
  refine ⟨fun wv st t w' => ∃ (j s p : Nat) (zs : List Int), t = j ∧ st = s ∧ wv = p ∧ j + pairs (xs.drop s) = pairs xs ∧ s ≤ xs.length ∧ zs.length = L ∧ p ≤ L ∧ repl xs = zs.take p ++ repl (xs.drop s) ∧ Fr w w' [bufIt .u8 eB g zs], fun _ _ t _ => pairs xs - t.toNat, ⟨0, 0, 0, _, rfl, rfl, rfl, by simp, by omega, by simp, by omega, by simp, f3⟩, ?_⟩
  rintro _ _ _ _ w4 ⟨j, s, p, zs, rfl, rfl, rfl, hj, hs1, hzl, hp, hrep, f4⟩
  have hbw := hb.ev f4.old
  have hsub := hbw.sub s xs.length hs1 (Nat.le_refl _)
  rw [List.take_of_length_le (by simp)] at hsub
  have hrs := repl_len _ (xs.drop s) (Nat.le_refl _)
  have hlen := congrArg List.length hrep
  rw [List.length_append, List.length_take, Nat.min_eq_left (by omega), ← hL] at hlen
  rw [List.length_drop] at hrs
  refine gIf_dec (fun hlt => ?_) (fun hge => ?_)
  · refine gSlice_any (sz := 1) (l := s) (h := xs.length) (.inr ⟨_, rfl⟩) (.inl ⟨rfl, rfl⟩) (by omega) hsc ?_ (by kernel_rfl)
    refine gCall_i (bIndex_any hsub (hs.ev f4.old) (hM.ev f4.old) (by rw [List.length_drop]; omega)) fun w5 h5 => ⟨fun _ => True, trivial, ?_⟩
    have f5 := (f4.ev h5).drew
    unfold idxI
    cases hx : idxC (xs.drop s) with
    | none => have := (idxC_none hx).1; omega
    | some i =>
      obtain ⟨g1, g2, g3⟩ := idxC_some hx
      rw [List.length_drop] at g1
      rw [List.drop_drop] at g2 g3
      have hrs2 := repl_len _ (xs.drop (s + (i + 2))) (Nat.le_refl _)
      rw [List.length_drop] at hrs2
      dsimp only
      rw [show i64 ((s : Int) + (i : Int)) = ((s + i : Nat) : Int) by rw [i64_id (by omega) (by omega)]; omega]
      have hbw5 := hb.ev f5.old
      have hsub2 := hbw5.sub s (s + i) (by omega) (by omega)
      rw [Nat.add_sub_cancel_left] at hsub2
      have hl3 := congrArg List.length g3
      simp only [List.length_append, List.length_cons, List.length_take, List.length_drop] at hl3
      refine gSlice_any (sz := 1) (l := p) (h := L) (.inr ⟨_, rfl⟩) (.inl ⟨rfl, rfl⟩) (by omega) (by omega) ?_ (by kernel_rfl)
      refine gSlice_any (sz := 1) (l := s) (h := s + i) (.inr ⟨_, rfl⟩) (.inr ⟨_, rfl⟩) (by omega) (by omega) ?_ (by kernel_rfl)
      refine fCopy f5 0 rfl hzl hp (Nat.le_refl _) hsub2 fun w6 m hm f6 => ⟨trivial, ?_⟩
      have hm' : m = i := by rw [hm, List.length_take, List.length_drop]; omega
      subst hm'
      rw [List.take_of_length_le (l := (xs.drop s).take m) (by rw [List.length_take]; omega)] at f6
      rw [show i64 ((p : Int) + (m : Int)) = ((p + m : Nat) : Int) by rw [i64_id (by omega) (by omega)]; omega]
      refine gSlice_any (sz := 1) (l := p + m) (h := L) (.inr ⟨_, rfl⟩) (.inl ⟨rfl, rfl⟩) (by omega) (by omega) ?_ (by kernel_rfl)
      have hzl6 : (zs.take p ++ (xs.drop s).take m ++ zs.drop (p + m)).length = L := by simp; omega
      refine fCopy f6 0 rfl hzl6 (by omega) (Nat.le_refl _) (hn.ev f6.old) fun w7 q hq f7 => gLen_nm hs ?_
      have hq' : q = 1 := by rw [hq, List.length_singleton]; omega
      subst hq'
      obtain ⟨A, hA⟩ : ∃ A, A = zs.take p ++ (xs.drop s).take m := ⟨_, rfl⟩
      have hAl : A.length = p + m := by rw [hA]; simp; omega
      rw [← hA, List.take_left' hAl] at f7
      rw [← hA] at hzl6
      rw [show i64 (((p + m : Nat) : Int) + ((1 : Nat) : Int)) = ((p + m + 1 : Nat) : Int) by rw [i64_id (by omega) (by omega)]; omega, show i64 (((s + m : Nat) : Int) + (([13, 10] : List Int).length : Int)) = ((s + (m + 2) : Nat) : Int) by show i64 (((s + m : Nat) : Int) + ((2 : Nat) : Int)) = _; rw [i64_id (by omega) (by omega)]; omega, i64_id (n := (j : Int) + 1) (by omega) (by omega)]
      refine ⟨⟨j + 1, s + (m + 2), p + m + 1, _, rfl, rfl, rfl, by omega, by omega, ?_, by omega, ?_, f7⟩, by omega⟩
      · have := hzl6
        simp only [List.length_append, List.length_drop, List.take_succ_cons, List.take_nil, List.length_cons, List.length_nil] at this ⊢
        omega
      · rw [hrep, g3]
        have e1 : (A ++ List.take 1 [(10 : Int)] ++ (A ++ zs.drop (p + m)).drop (p + m + 1)).take (p + m + 1) = A ++ [10] := by
          rw [show List.take 1 [(10 : Int)] = [10] from rfl, List.take_left' (by simp [hAl])]
        rw [e1, hA]; simp
  · have hp0 : pairs (xs.drop s) = 0 := by omega
    have hid : idxC (xs.drop s) = none := by
      cases hx : idxC (xs.drop s) with
      | none => rfl
      | some i => have := (idxC_some hx).2.1; omega
    rw [(idxC_none hid).2] at hrep hlen
    rw [List.length_drop] at hlen
    have f5 := f4.drew
    refine ⟨fun _ => True, trivial, ?_⟩
    refine gSlice_any (sz := 1) (l := p) (h := L) (.inr ⟨_, rfl⟩) (.inl ⟨rfl, rfl⟩) (by omega) (by omega) ?_ (by kernel_rfl)
    refine gSlice_any (sz := 1) (l := s) (h := xs.length) (.inr ⟨_, rfl⟩) (.inl ⟨rfl, rfl⟩) (by omega) hsc ?_ (by kernel_rfl)
    refine fCopy f5 0 rfl hzl hp (Nat.le_refl _) hsub fun w6 m hm f6 => ⟨trivial, ?_⟩
    rw [List.length_drop] at hm
    have hpm : p + m = L := by omega
    rw [show i64 ((p : Int) + (m : Int)) = (L : Int) by rw [i64_id (by omega) (by omega)]; omega]
    refine gSlice_any (sz := 1) (l := 0) (h := L) (.inr ⟨_, rfl⟩) (.inr ⟨_, rfl⟩) (by omega) (by omega) ?_ (by kernel_rfl)
    have hL0 : 0 < L := by
      cases hx : idxC xs with
      | none => have := (idxC_none hx).1; omega
      | some i => rw [hL, (idxC_some hx).2.2, List.length_append, List.length_cons]; omega
    rw [subV_z hL0]
    have hzs : zs.take p ++ (xs.drop s).take m ++ zs.drop (p + m) = repl xs := by
      rw [List.drop_of_length_le (l := zs) (by omega), List.append_nil, List.take_of_length_le (l := xs.drop s) (by rw [List.length_drop]; omega), ← hrep]
    rw [hzs] at f6
    have hB : FB .u8 eB w6 g (repl xs) := f6.get 0 rfl
    have ho := hB.on L (by omega)
    rw [← hL, List.take_of_length_le (by omega)] at ho
    exact ⟨_, rfl, f6.old, ho.low (f6.ft 0 rfl (k := g) rfl).1⟩
theorem bReplaceAll_any {nw : Value} (hb : Nm .u8 w b xs) (hs : Nm .u8 w sep [13, 10]) (hn : Nm .u8 w nw [10]) (hM : MaxL w) (hl : xs.length ≤ 1000000000) : Calls P n_bytes_ReplaceAll #[b, sep, nw] w (NewB w (repl xs)) :=
  of_bytes_ReplaceAll (gCall_v (bReplace_any hb hs hn hM hl) fun v w' ⟨h1, h2⟩ => ⟨v, rfl, h1, h2⟩)
end
end Go.Proofs.YtilpoinhfiajcaaGreatDoorV
