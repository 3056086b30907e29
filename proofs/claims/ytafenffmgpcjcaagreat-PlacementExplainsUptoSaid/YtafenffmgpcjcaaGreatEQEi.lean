/- Texts of the proof: EQEi. -/
import Derived.Test.YtafenffmgpcjcaaGreatRows
import Derived.JoinedOf
import Derived.KernelRfl
namespace Go.Proofs.YtafenffmgpcjcaaGreat.placementExplains
open Go
set_option linter.unusedVariables false
set_option maxRecDepth 100000
theorem k2 : (fun (P : Program) (f : FuncId) (fn : Func) (s : ChangeSpec) (c : OpenClaim)=>(mapsRowed P : Bool)) Tryz.prog 5 Tryz.f5 (Rows.OpenSpec.upto Rows.placementExplainsSpec).bare Rows.placementExplainsUptoRow = true:=by kernel_rfl
theorem k10 : (fun (P : Program) (f : FuncId) (fn : Func) (s : ChangeSpec) (c : OpenClaim)=>((c.unfollowed == P.unfollowed f) : Bool)) Tryz.prog 5 Tryz.f5 (Rows.OpenSpec.upto Rows.placementExplainsSpec).bare Rows.placementExplainsUptoRow = true:=by kernel_rfl
theorem k11 : (fun (P : Program) (f : FuncId) (fn : Func) (s : ChangeSpec) (c : OpenClaim)=>((c.recurses == P.recurses f) : Bool)) Tryz.prog 5 Tryz.f5 (Rows.OpenSpec.upto Rows.placementExplainsSpec).bare Rows.placementExplainsUptoRow = true:=by kernel_rfl
theorem k13 : (fun (P : Program) (f : FuncId) (fn : Func) (s : ChangeSpec) (c : OpenClaim)=>((c.maps == (fn.params.toList ++ s.plain.varTypes P).any (P.mapsRec ·)) : Bool)) Tryz.prog 5 Tryz.f5 (Rows.OpenSpec.upto Rows.placementExplainsSpec).bare Rows.placementExplainsUptoRow = true:=by kernel_rfl
theorem k14 : (fun (P : Program) (f : FuncId) (fn : Func) (s : ChangeSpec) (c : OpenClaim)=>((c.ifaces == (fn.params.toList ++ s.plain.varTypes P).any (P.ifacesRec ·)) : Bool)) Tryz.prog 5 Tryz.f5 (Rows.OpenSpec.upto Rows.placementExplainsSpec).bare Rows.placementExplainsUptoRow = true:=by kernel_rfl
theorem k15 : (fun (P : Program) (f : FuncId) (fn : Func) (s : ChangeSpec) (c : OpenClaim)=>((c.mapsOut == P.mapsAmong fn.resultTypes.toList) : Bool)) Tryz.prog 5 Tryz.f5 (Rows.OpenSpec.upto Rows.placementExplainsSpec).bare Rows.placementExplainsUptoRow = true:=by kernel_rfl
theorem k16 : (fun (P : Program) (f : FuncId) (fn : Func) (s : ChangeSpec) (c : OpenClaim)=>((c.loops == (fn.params.toList ++ s.plain.varTypes P).any (P.loopsFrom ·)) : Bool)) Tryz.prog 5 Tryz.f5 (Rows.OpenSpec.upto Rows.placementExplainsSpec).bare Rows.placementExplainsUptoRow = true:=by kernel_rfl
theorem k17 : (fun (P : Program) (f : FuncId) (fn : Func) (s : ChangeSpec) (c : OpenClaim)=>((c.wideKeys == (fn.params.toList ++ s.plain.varTypes P ++ fn.resultTypes.toList).any (P.wideKeysFrom ·)) : Bool)) Tryz.prog 5 Tryz.f5 (Rows.OpenSpec.upto Rows.placementExplainsSpec).bare Rows.placementExplainsUptoRow = true:=by kernel_rfl
theorem k18 : (fun (P : Program) (f : FuncId) (fn : Func) (s : ChangeSpec) (c : OpenClaim)=>(s.vars.all (P.varReadable ·) : Bool)) Tryz.prog 5 Tryz.f5 (Rows.OpenSpec.upto Rows.placementExplainsSpec).bare Rows.placementExplainsUptoRow = true:=by kernel_rfl
theorem k19 : (fun (P : Program) (f : FuncId) (fn : Func) (s : ChangeSpec) (c : OpenClaim)=>(fn.resultTypes.all (fun t=>P.readableRec t && decide (t < P.types.size)) : Bool)) Tryz.prog 5 Tryz.f5 (Rows.OpenSpec.upto Rows.placementExplainsSpec).bare Rows.placementExplainsUptoRow = true:=by kernel_rfl
theorem k20 : (fun (P : Program) (f : FuncId) (fn : Func) (s : ChangeSpec) (c : OpenClaim)=>((c.ifacesOut == fn.resultTypes.toList.any (P.ifacesRec ·)) : Bool)) Tryz.prog 5 Tryz.f5 (Rows.OpenSpec.upto Rows.placementExplainsSpec).bare Rows.placementExplainsUptoRow = true:=by kernel_rfl
theorem k21 : (fun (P : Program) (f : FuncId) (fn : Func) (s : ChangeSpec) (c : OpenClaim)=>((c.loopsOut == fn.resultTypes.toList.any (P.loopsFrom ·)) : Bool)) Tryz.prog 5 Tryz.f5 (Rows.OpenSpec.upto Rows.placementExplainsSpec).bare Rows.placementExplainsUptoRow = true:=by kernel_rfl
end Go.Proofs.YtafenffmgpcjcaaGreat.placementExplains
