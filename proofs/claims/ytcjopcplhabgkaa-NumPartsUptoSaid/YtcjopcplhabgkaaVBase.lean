/- Small things that all texts of functions share. -/
import Derived.Test.YtcjopcplhabgkaaVTab
import Derived.Test.YtcjopcplhabgkaaVBits
import Derived.Test.YtcjopcplhabgkaaVLawG
import Derived.Test.YtcjopcplhabgkaaVS
namespace Go.Proofs.YtcjopcplhabgkaaV
open Go Go.RowKit
/-- The element type of []byte. -/
noncomputable abbrev eB : TypeId := elOf P t_sl_uint8
theorem u8i {x : Int} (h : 0 ≤ x ∧ x < 256) : IntKind.u8.min ≤ x ∧ x ≤ IntKind.u8.max := by simp [IntKind.min, IntKind.max, IntKind.signed, IntKind.bits]; omega
theorem u8_rng {a : Int} (h : IntKind.u8.min ≤ a ∧ a ≤ IntKind.u8.max) : 0 ≤ a ∧ a < 256 := by simp [IntKind.min, IntKind.max, IntKind.signed, IntKind.bits] at h; omega
theorem u32_rng {a : Int} (h : IntKind.u32.min ≤ a ∧ a ≤ IntKind.u32.max) : 0 ≤ a ∧ a < 4294967296 := by simp [IntKind.min, IntKind.max, IntKind.signed, IntKind.bits] at h; omega
theorem i32_rng {a : Int} (h : IntKind.i32.min ≤ a ∧ a ≤ IntKind.i32.max) : -2147483648 ≤ a ∧ a ≤ 2147483647 := by simp [IntKind.min, IntKind.max, IntKind.signed, IntKind.bits] at h; omega
theorem u64_rng {a : Int} (h : IntKind.u64.min ≤ a ∧ a ≤ IntKind.u64.max) : 0 ≤ a ∧ a < 18446744073709551616 := by simp [IntKind.min, IntKind.max, IntKind.signed, IntKind.bits] at h; omega
theorem i64_rng {a : Int} (h : IntKind.i64.min ≤ a ∧ a ≤ IntKind.i64.max) : -9223372036854775808 ≤ a ∧ a ≤ 9223372036854775807 := by simp [IntKind.min, IntKind.max, IntKind.signed, IntKind.bits] at h; omega
/-- Bytes in new memory. -/
def NewB (w : World) (xs : List Int) (e : Ending) (w' : World) : Prop := ∃ v, e = .returned v ∧ Ev w w' ∧ ON .u8 eB w' w.heap.size v xs
/-- Bytes in new memory, or none, and an error. -/
def TupE (w : World) (r : List Int × Int) (e : Ending) (w' : World) : Prop := ∃ v, e = .returned (.tuple #[v, .int .i64 r.2]) ∧ Ev w w' ∧ ON .u8 eB w' w.heap.size v r.1
section
variable {P : Program} {w : World} {f : FuncId} {args : Array Value}
theorem gCall_v0 {v : Value} {K : Value → World → Prop} (h : Calls P f args w fun e w' => e = .returned v ∧ w' = w) (hk : K v w) : gCall P f shV args w K :=
  gCall_of h fun _ w' ⟨h1, h2⟩ => ⟨v, h1, by subst h2; exact hk⟩
theorem gCall_u0 {K : World → Prop} (h : Calls P f args w fun e w' => e = .returned (.tuple #[]) ∧ w' = w) (hk : K w) : gCall P f shU args w K :=
  gCall_of h fun _ w' ⟨h1, h2⟩ => ⟨h1, by subst h2; exact hk⟩
theorem gCall_p0 {p : Option Addr} {K : Option Addr → World → Prop} (h : Calls P f args w fun e w' => e = .returned (.pointer p) ∧ w' = w) (hk : K p w) : gCall P f shP args w K :=
  gCall_of h fun _ w' ⟨h1, h2⟩ => ⟨p, h1, by subst h2; exact hk⟩
end
theorem gCall_tup {f : FuncId} {args : Array Value} {w : World} {r : List Int × Int} {K : Value → Int → World → Prop} (h : Calls P f args w (TupE w r)) (hk : ∀ v w', Ev w w' → ON .u8 eB w' w.heap.size v r.1 → K v r.2 w') : gCall P f (.tup [.one .val, .one (.int .i64)]) args w K :=
  gCall_of h fun _ w' ⟨v, h1, h2, h3⟩ => ⟨v, r.2, h1, hk v w' h2 h3⟩
end Go.Proofs.YtcjopcplhabgkaaV
