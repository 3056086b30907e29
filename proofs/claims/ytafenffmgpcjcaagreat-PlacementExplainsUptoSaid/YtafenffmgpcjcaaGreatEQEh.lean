/- Texts of the proof: EQEh. -/
import Derived.Test.YtafenffmgpcjcaaGreatRows
import Derived.JoinedOf
import Derived.KernelRfl
namespace Go.Proofs.YtafenffmgpcjcaaGreat.placementExplains
open Go
set_option linter.unusedVariables false
set_option maxRecDepth 100000
theorem k0 : (fun (P : Program) (f : FuncId) (fn : Func) (s : ChangeSpec) (c : OpenClaim)=>(c.wf (OpenSpec.ofChange s) : Bool)) Tryz.prog 5 Tryz.f5 (Rows.OpenSpec.upto Rows.placementExplainsSpec).bare Rows.placementExplainsUptoRow = true:=by kernel_rfl
theorem k1 : (fun (P : Program) (f : FuncId) (fn : Func) (s : ChangeSpec) (c : OpenClaim)=>(laidOutB P : Bool)) Tryz.prog 5 Tryz.f5 (Rows.OpenSpec.upto Rows.placementExplainsSpec).bare Rows.placementExplainsUptoRow = true:=by kernel_rfl
theorem k3 : (fun (P : Program) (f : FuncId) (fn : Func) (s : ChangeSpec) (c : OpenClaim)=>(fn.params.all (P.readableRec ·) : Bool)) Tryz.prog 5 Tryz.f5 (Rows.OpenSpec.upto Rows.placementExplainsSpec).bare Rows.placementExplainsUptoRow = true:=by kernel_rfl
theorem k4 : (fun (P : Program) (f : FuncId) (fn : Func) (s : ChangeSpec) (c : OpenClaim)=>(namedTie P c.named s.vars : Bool)) Tryz.prog 5 Tryz.f5 (Rows.OpenSpec.upto Rows.placementExplainsSpec).bare Rows.placementExplainsUptoRow = true:=by kernel_rfl
theorem k5 : (fun (P : Program) (f : FuncId) (fn : Func) (s : ChangeSpec) (c : OpenClaim)=>((c.stops == []) : Bool)) Tryz.prog 5 Tryz.f5 (Rows.OpenSpec.upto Rows.placementExplainsSpec).bare Rows.placementExplainsUptoRow = true:=by kernel_rfl
theorem k6 : (fun (P : Program) (f : FuncId) (fn : Func) (s : ChangeSpec) (c : OpenClaim)=>((P.stops == []) : Bool)) Tryz.prog 5 Tryz.f5 (Rows.OpenSpec.upto Rows.placementExplainsSpec).bare Rows.placementExplainsUptoRow = true:=by kernel_rfl
theorem k7 : (fun (P : Program) (f : FuncId) (fn : Func) (s : ChangeSpec) (c : OpenClaim)=>((c.knobs == []) : Bool)) Tryz.prog 5 Tryz.f5 (Rows.OpenSpec.upto Rows.placementExplainsSpec).bare Rows.placementExplainsUptoRow = true:=by kernel_rfl
theorem k8 : (fun (P : Program) (f : FuncId) (fn : Func) (s : ChangeSpec) (c : OpenClaim)=>((P.stopKnobs == []) : Bool)) Tryz.prog 5 Tryz.f5 (Rows.OpenSpec.upto Rows.placementExplainsSpec).bare Rows.placementExplainsUptoRow = true:=by kernel_rfl
theorem k9 : (fun (P : Program) (f : FuncId) (fn : Func) (s : ChangeSpec) (c : OpenClaim)=>((c.inPlace == P.inPlace f) : Bool)) Tryz.prog 5 Tryz.f5 (Rows.OpenSpec.upto Rows.placementExplainsSpec).bare Rows.placementExplainsUptoRow = true:=by kernel_rfl
end Go.Proofs.YtafenffmgpcjcaaGreat.placementExplains
