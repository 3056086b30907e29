/- Texts of the proof: EQEk. -/
import Derived.Test.YtafenffmgpcjcaaGreatEQEh
import Derived.Test.YtafenffmgpcjcaaGreatEQEi
import Derived.Test.YtafenffmgpcjcaaGreatEQEj
import Derived.JoinedOf
import Derived.KernelRfl
namespace Go.Proofs.YtafenffmgpcjcaaGreat.placementExplains
open Go
set_option linter.unusedVariables false
set_option maxRecDepth 100000
theorem and_i {a b : Bool} (ha : a = true) (hb : b = true) : (a && b) = true:=by rw [ha,hb]; rfl
theorem joined_of {P : Program} {f : FuncId} {fn : Func} {s : ChangeSpec} {c : OpenClaim}
  (k0 : (c.wf (OpenSpec.ofChange s)) = true)
  (k1 : (laidOutB P) = true)
  (k2 : (mapsRowed P) = true)
  (k3 : (fn.params.all (P.readableRec ·)) = true)
  (k4 : (namedTie P c.named s.vars) = true)
  (k5 : ((c.stops == [])) = true)
  (k6 : ((P.stops == [])) = true)
  (k7 : ((c.knobs == [])) = true)
  (k8 : ((P.stopKnobs == [])) = true)
  (k9 : ((c.inPlace == P.inPlace f)) = true)
  (k10 : ((c.unfollowed == P.unfollowed f)) = true)
  (k11 : ((c.recurses == P.recurses f)) = true)
  (k12 : ((c.named == P.varsNamed f)) = true)
  (k13 : ((c.maps == (fn.params.toList ++ s.plain.varTypes P).any (P.mapsRec ·))) = true)
  (k14 : ((c.ifaces == (fn.params.toList ++ s.plain.varTypes P).any (P.ifacesRec ·))) = true)
  (k15 : ((c.mapsOut == P.mapsAmong fn.resultTypes.toList)) = true)
  (k16 : ((c.loops == (fn.params.toList ++ s.plain.varTypes P).any (P.loopsFrom ·))) = true)
  (k17 : ((c.wideKeys == (fn.params.toList ++ s.plain.varTypes P ++ fn.resultTypes.toList).any (P.wideKeysFrom ·))) = true)
  (k18 : (s.vars.all (P.varReadable ·)) = true)
  (k19 : (fn.resultTypes.all (fun t=>P.readableRec t && decide (t < P.types.size))) = true)
  (k20 : ((c.ifacesOut == fn.resultTypes.toList.any (P.ifacesRec ·))) = true)
  (k21 : ((c.loopsOut == fn.resultTypes.toList.any (P.loopsFrom ·))) = true)
  (k22 : ((c.plainKeys == P.plainKeys)) = true)
  (k23 : (c.shortTexts.isNone) = true)
  (k24 : (P.stopsHeard) = true)
  (k25 : (P.mayEnter) = true)
  (k26 : ((c.lifted == P.liftsFinal)) = true)
  (k27 : ((P.make == some c.make)) = true)
  (k28 : ((c.kinds == (if c.domain.isEmpty then [] else fn.params.toList.map fun t=>match P.underlying t with | some (.int k)=>some k | _=>none))) = true)
  (k29 : ((c.pinned == c.pinnedBy)) = true)
  (k30 : ((c.veiled == (fn.params.toList ++ s.plain.varTypes P ++ fn.resultTypes.toList).any (P.veiledRec ·))) = true)
  (k31 : (c.veiledFits P fn.params.toList (fn.params.toList ++ s.plain.varTypes P ++ fn.resultTypes.toList)) = true)
  : joinedFacts P f fn s c = true:=(and_i (and_i (and_i (and_i (and_i (and_i (and_i (and_i (and_i (and_i (and_i (and_i (and_i (and_i (and_i (and_i (and_i (and_i (and_i (and_i (and_i (and_i (and_i (and_i (and_i (and_i (and_i (and_i (and_i (and_i (and_i k0 k1) k2) k3) k4) k5) k6) k7) k8) k9) k10) k11) k12) k13) k14) k15) k16) k17) k18) k19) k20) k21) k22) k23) k24) k25) k26) k27) k28) k29) k30) k31)
theorem closed : joinedFacts Tryz.prog 5 Tryz.f5 (Rows.OpenSpec.upto Rows.placementExplainsSpec).bare Rows.placementExplainsUptoRow = true:=joined_of k0 k1 k2 k3 k4 k5 k6 k7 k8 k9 k10 k11 k12 k13 k14 k15 k16 k17 k18 k19 k20 k21 k22 k23 k24 k25 k26 k27 k28 k29 k30 k31
end Go.Proofs.YtafenffmgpcjcaaGreat.placementExplains
