/- Texts of the proof: GQGi. -/
import Derived.Test.YtafenffmgpcjcaaGreatRows
import Derived.JoinedOf
import Derived.KernelRfl
namespace Go.Proofs.YtafenffmgpcjcaaGreat.placementSearches
open Go
set_option linter.unusedVariables false
set_option maxRecDepth 100000
theorem k2:(fun (P:Program) (f:FuncId) (fn:Func) (s:ChangeSpec) (c:OpenClaim)=>(mapsRowed P:Bool)) Tryz.prog 3 Tryz.f3 (Rows.OpenSpec.upto Rows.placementSearchesSpec).bare Rows.placementSearchesUptoRow=true:=by kernel_rfl
theorem k10:(fun (P:Program) (f:FuncId) (fn:Func) (s:ChangeSpec) (c:OpenClaim)=>((c.unfollowed == P.unfollowed f):Bool)) Tryz.prog 3 Tryz.f3 (Rows.OpenSpec.upto Rows.placementSearchesSpec).bare Rows.placementSearchesUptoRow=true:=by kernel_rfl
theorem k11:(fun (P:Program) (f:FuncId) (fn:Func) (s:ChangeSpec) (c:OpenClaim)=>((c.recurses == P.recurses f):Bool)) Tryz.prog 3 Tryz.f3 (Rows.OpenSpec.upto Rows.placementSearchesSpec).bare Rows.placementSearchesUptoRow=true:=by kernel_rfl
theorem k13:(fun (P:Program) (f:FuncId) (fn:Func) (s:ChangeSpec) (c:OpenClaim)=>((c.maps == (fn.params.toList ++ s.plain.varTypes P).any (P.mapsRec ·)):Bool)) Tryz.prog 3 Tryz.f3 (Rows.OpenSpec.upto Rows.placementSearchesSpec).bare Rows.placementSearchesUptoRow=true:=by kernel_rfl
theorem k14:(fun (P:Program) (f:FuncId) (fn:Func) (s:ChangeSpec) (c:OpenClaim)=>((c.ifaces == (fn.params.toList ++ s.plain.varTypes P).any (P.ifacesRec ·)):Bool)) Tryz.prog 3 Tryz.f3 (Rows.OpenSpec.upto Rows.placementSearchesSpec).bare Rows.placementSearchesUptoRow=true:=by kernel_rfl
theorem k15:(fun (P:Program) (f:FuncId) (fn:Func) (s:ChangeSpec) (c:OpenClaim)=>((c.mapsOut == P.mapsAmong fn.resultTypes.toList):Bool)) Tryz.prog 3 Tryz.f3 (Rows.OpenSpec.upto Rows.placementSearchesSpec).bare Rows.placementSearchesUptoRow=true:=by kernel_rfl
theorem k16:(fun (P:Program) (f:FuncId) (fn:Func) (s:ChangeSpec) (c:OpenClaim)=>((c.loops == (fn.params.toList ++ s.plain.varTypes P).any (P.loopsFrom ·)):Bool)) Tryz.prog 3 Tryz.f3 (Rows.OpenSpec.upto Rows.placementSearchesSpec).bare Rows.placementSearchesUptoRow=true:=by kernel_rfl
theorem k17:(fun (P:Program) (f:FuncId) (fn:Func) (s:ChangeSpec) (c:OpenClaim)=>((c.wideKeys == (fn.params.toList ++ s.plain.varTypes P ++ fn.resultTypes.toList).any (P.wideKeysFrom ·)):Bool)) Tryz.prog 3 Tryz.f3 (Rows.OpenSpec.upto Rows.placementSearchesSpec).bare Rows.placementSearchesUptoRow=true:=by kernel_rfl
theorem k18:(fun (P:Program) (f:FuncId) (fn:Func) (s:ChangeSpec) (c:OpenClaim)=>(s.vars.all (P.varReadable ·):Bool)) Tryz.prog 3 Tryz.f3 (Rows.OpenSpec.upto Rows.placementSearchesSpec).bare Rows.placementSearchesUptoRow=true:=by kernel_rfl
theorem k19:(fun (P:Program) (f:FuncId) (fn:Func) (s:ChangeSpec) (c:OpenClaim)=>(fn.resultTypes.all (fun t=>P.readableRec t && decide (t < P.types.size)):Bool)) Tryz.prog 3 Tryz.f3 (Rows.OpenSpec.upto Rows.placementSearchesSpec).bare Rows.placementSearchesUptoRow=true:=by kernel_rfl
theorem k20:(fun (P:Program) (f:FuncId) (fn:Func) (s:ChangeSpec) (c:OpenClaim)=>((c.ifacesOut == fn.resultTypes.toList.any (P.ifacesRec ·)):Bool)) Tryz.prog 3 Tryz.f3 (Rows.OpenSpec.upto Rows.placementSearchesSpec).bare Rows.placementSearchesUptoRow=true:=by kernel_rfl
theorem k21:(fun (P:Program) (f:FuncId) (fn:Func) (s:ChangeSpec) (c:OpenClaim)=>((c.loopsOut == fn.resultTypes.toList.any (P.loopsFrom ·)):Bool)) Tryz.prog 3 Tryz.f3 (Rows.OpenSpec.upto Rows.placementSearchesSpec).bare Rows.placementSearchesUptoRow=true:=by kernel_rfl
end Go.Proofs.YtafenffmgpcjcaaGreat.placementSearches
