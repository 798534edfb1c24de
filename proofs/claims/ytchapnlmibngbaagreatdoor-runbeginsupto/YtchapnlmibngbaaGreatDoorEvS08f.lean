/- The examples are so. -/
import Derived.Test.YtchapnlmibngbaaGreatDoorEvS08e
set_option linter.all false
open Go Go.Proofs Go.Proofs.BhE
namespace Go.Proofs.BhE.T
set_option maxRecDepth 1000000
theorem fe0 : PureFn Tryz.prog 10 [] (.returned (.bool true)) := ansOf_ok C_ok orcE_ok mixed (loops := 100000) (n := 60) (by kernel_rfl)
def ft1_10 : List (List Value × Value) := [([], (.bool true))]
theorem ft1_10_ok : ∀ e ∈ ft1_10, PureFn Tryz.prog 10 e.1 (.returned e.2) := List.forall_mem_cons.2 ⟨fe0, List.forall_mem_nil _⟩
noncomputable def forc1_10 : FuncId → List Value → Option (A AEnd) := orcFn 10 (tabF ft1_10) orcE
theorem forc1_10_ok : OrcOk Tryz.prog forc1_10 := orcFn_ok orcE_ok (tabF_spec ft1_10_ok)
noncomputable def orcF : FuncId → List Value → Option (A AEnd) := forc1_10
theorem orcF_ok : OrcOk Tryz.prog orcF := forc1_10_ok
end Go.Proofs.BhE.T
