/- The law KindFits as a call. No conditions but those named. -/
import Derived.Test.YtcfleoaldoebhaaAKz
import Derived.Test.YtcfleoaldoebhaaBrg
namespace Go.Proofs.Ytcfleoaldoebhaa
set_option linter.unusedVariables false
open Go.RowKit
theorem kindFits_calls (l : List Int) (A0 : Option Addr) (n0 cap0 : Nat) (x : Int) (w : World) (hl : Ints w (Lt w) (.slice A0 n0 cap0) l) (hlen : l.length * 8 ≤ 140737488351232) (hx : I64 x) :
    Calls Try.prog 6 #[.slice A0 n0 cap0, .int .i64 x] w fun e w' => e = .returned (.bool true) ∧ Below w.heap.size w w' :=
  (kindFits_ps l x hlen).calls_bool (vts_ints hl (vts_int vts_nil))
end Go.Proofs.Ytcfleoaldoebhaa
