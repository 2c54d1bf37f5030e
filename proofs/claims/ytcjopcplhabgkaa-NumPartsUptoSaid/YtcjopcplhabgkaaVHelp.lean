/- Package valisehelp: Bytes. -/
import Derived.Test.YtcjopcplhabgkaaVBase
namespace Go.Proofs.YtcjopcplhabgkaaV
open Go Go.RowKit
theorem Bytes_any {a b : Value} {xs ys : List Int} {w : World} (ha : Nm .u8 w a xs) (hb : Nm .u8 w b ys) : Calls P n_valisehelp_Bytes #[a, b] w (fun e w' => e = .returned (.bool (decide (xs = ys))) ∧ w' = w) :=
  of_valisehelp_Bytes (gConv_bs ha (gConv_bs hb ⟨by rw [bsOf_eq ha.2 hb.2], rfl⟩))
end Go.Proofs.YtcjopcplhabgkaaV
