/- Texts of the proof: EQEj. -/
import Derived.Test.YtafenffmgpcjcaaGreatRows
import Derived.JoinedOf
import Derived.KernelRfl
namespace Go.Proofs.YtafenffmgpcjcaaGreat.placementExplains
open Go
set_option linter.unusedVariables false
set_option maxRecDepth 100000
theorem k12 : (fun (P : Program) (f : FuncId) (fn : Func) (s : ChangeSpec) (c : OpenClaim)=>((c.named == P.varsNamed f) : Bool)) Tryz.prog 5 Tryz.f5 (Rows.OpenSpec.upto Rows.placementExplainsSpec).bare Rows.placementExplainsUptoRow = true:=by kernel_rfl
theorem k22 : (fun (P : Program) (f : FuncId) (fn : Func) (s : ChangeSpec) (c : OpenClaim)=>((c.plainKeys == P.plainKeys) : Bool)) Tryz.prog 5 Tryz.f5 (Rows.OpenSpec.upto Rows.placementExplainsSpec).bare Rows.placementExplainsUptoRow = true:=by kernel_rfl
theorem k23 : (fun (P : Program) (f : FuncId) (fn : Func) (s : ChangeSpec) (c : OpenClaim)=>(c.shortTexts.isNone : Bool)) Tryz.prog 5 Tryz.f5 (Rows.OpenSpec.upto Rows.placementExplainsSpec).bare Rows.placementExplainsUptoRow = true:=by kernel_rfl
theorem k24 : (fun (P : Program) (f : FuncId) (fn : Func) (s : ChangeSpec) (c : OpenClaim)=>(P.stopsHeard : Bool)) Tryz.prog 5 Tryz.f5 (Rows.OpenSpec.upto Rows.placementExplainsSpec).bare Rows.placementExplainsUptoRow = true:=by kernel_rfl
theorem k25 : (fun (P : Program) (f : FuncId) (fn : Func) (s : ChangeSpec) (c : OpenClaim)=>(P.mayEnter : Bool)) Tryz.prog 5 Tryz.f5 (Rows.OpenSpec.upto Rows.placementExplainsSpec).bare Rows.placementExplainsUptoRow = true:=by kernel_rfl
theorem k26 : (fun (P : Program) (f : FuncId) (fn : Func) (s : ChangeSpec) (c : OpenClaim)=>((c.lifted == P.liftsFinal) : Bool)) Tryz.prog 5 Tryz.f5 (Rows.OpenSpec.upto Rows.placementExplainsSpec).bare Rows.placementExplainsUptoRow = true:=by kernel_rfl
theorem k27 : (fun (P : Program) (f : FuncId) (fn : Func) (s : ChangeSpec) (c : OpenClaim)=>((P.make == some c.make) : Bool)) Tryz.prog 5 Tryz.f5 (Rows.OpenSpec.upto Rows.placementExplainsSpec).bare Rows.placementExplainsUptoRow = true:=by kernel_rfl
theorem k28 : (fun (P : Program) (f : FuncId) (fn : Func) (s : ChangeSpec) (c : OpenClaim)=>((c.kinds == (if c.domain.isEmpty then [] else fn.params.toList.map fun t=>match P.underlying t with | some (.int k)=>some k | _=>none)) : Bool)) Tryz.prog 5 Tryz.f5 (Rows.OpenSpec.upto Rows.placementExplainsSpec).bare Rows.placementExplainsUptoRow = true:=by kernel_rfl
theorem k29 : (fun (P : Program) (f : FuncId) (fn : Func) (s : ChangeSpec) (c : OpenClaim)=>((c.pinned == c.pinnedBy) : Bool)) Tryz.prog 5 Tryz.f5 (Rows.OpenSpec.upto Rows.placementExplainsSpec).bare Rows.placementExplainsUptoRow = true:=by kernel_rfl
theorem k30 : (fun (P : Program) (f : FuncId) (fn : Func) (s : ChangeSpec) (c : OpenClaim)=>((c.veiled == (fn.params.toList ++ s.plain.varTypes P ++ fn.resultTypes.toList).any (P.veiledRec ·)) : Bool)) Tryz.prog 5 Tryz.f5 (Rows.OpenSpec.upto Rows.placementExplainsSpec).bare Rows.placementExplainsUptoRow = true:=by kernel_rfl
theorem k31 : (fun (P : Program) (f : FuncId) (fn : Func) (s : ChangeSpec) (c : OpenClaim)=>(c.veiledFits P fn.params.toList (fn.params.toList ++ s.plain.varTypes P ++ fn.resultTypes.toList) : Bool)) Tryz.prog 5 Tryz.f5 (Rows.OpenSpec.upto Rows.placementExplainsSpec).bare Rows.placementExplainsUptoRow = true:=by kernel_rfl
end Go.Proofs.YtafenffmgpcjcaaGreat.placementExplains
