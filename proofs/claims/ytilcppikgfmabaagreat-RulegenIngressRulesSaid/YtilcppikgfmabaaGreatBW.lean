/- The closed check of the law, run by the evaluator. -/
import Derived.Test.YtilcppikgfmabaaGreatBE2
import Derived.Test.YtilcppikgfmabaaGreatChecked
import Derived.KernelRfl
namespace Go.Proofs.YtilcppikgfmabaaGreat
open Go.RowKit Go.Proofs.YtilcppikgfmabaaGreat.Ve
set_option maxRecDepth 100000
theorem works_true : isB true (evCall Tryz.prog 60 5 [] (Ve.w0 Tryz.prog)) = true := by decide +kernel
theorem works_calls (w : World) : Calls Tryz.prog 5 #[] w fun en w' => en = .returned (.bool true) ∧ Below w.heap.size w w' := closed_run (by kernel_rfl) works_true w
end Go.Proofs.YtilcppikgfmabaaGreat
