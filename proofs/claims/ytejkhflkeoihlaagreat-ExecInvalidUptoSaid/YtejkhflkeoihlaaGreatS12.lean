/- Texts of the proof: S12. -/
import Derived.Test.YtejkhflkeoihlaaGreatS11
namespace Go.Proofs.YtejkhflkeoihlaaGreat
open Go.RowKit Go.Proofs.YtejkhflkeoihlaaGreat.Vf
set_option linter.unusedVariables false
set_option linter.unusedSimpArgs false
set_option maxRecDepth 100000
set_option maxHeartbeats 4000000
def sumTo {α : Type} (f : α→Nat) (l : List α) : Nat→Int
 | 0=>0
 | i + 1=>match l[i]? with
  | some x=>IntKind.i64.wrap (sumTo f l i + f x)
  | none=>sumTo f l i
theorem sumTo_next {α : Type} {f : α→Nat} {l : List α} {i : Nat} {x : α} (h : l[i]? = some x) : sumTo f l (i + 1) = IntKind.i64.wrap (sumTo f l i + f x):=by rw [sumTo,h]
def bigM (d : PrgD) (c : CfgD) : Bool:=decide (60 < sumTo List.length c.rows c.rows.length) || decide (60 < sumTo (fun a : ActD=>a.body.l.length) d.acts.l d.acts.l.length) || decide ((12 : Int) < d.headers.l.length) || decide ((16 : Int) < d.tables.l.length) || decide ((16 : Int) < d.states.l.length) || decide ((30 : Int) < d.control.l.length) || decide ((8 : Int) < c.regs.length)
theorem big_g (d : PrgD) (c : CfgD) (hB : CfgB c) (ha : d.acts.l.length ≤ maxLen) : Gives Tryz.prog 13 [fPrg d,fCfg c] (boolF (bigM d c)):=by
 have b1:=hB.rows
 refine Gives.of mixed Tryz.func13 rfl rfl rfl (by kernel_rfl) ?_
 simp [fPrg,cPrg]
 refine forX mixed c.rows.length (fun i s=>Vf.Sl [(2,.ref 0 0),(3,.ref 1 0),(5,.f (intF (sumTo List.length c.rows i))),(6,.f (intF 0)),(7,.f (intF i))] 76 [aPrg d,(cCfg c).map .f] [] s) (by kernel_rfl) (Sl.of rfl rfl rfl) ?_
 rintro i ⟨ts,hh,kk⟩ hi ⟨rfl,rfl,f,rfl⟩
 by_cases hlt : i < c.rows.length
 ·obtain ⟨x,hx,hx'⟩:=nth_of hlt
  have hw:=wrap64 (x:=(i : Int) + 1) (by omega) (by omega)
  have hn:=sumTo_next (f:=List.length) hx'
  simp [hlt,hx,hw]
  rw [← hn]
  exact Sl.of rfl rfl rfl
 obtain rfl : i = c.rows.length:=by omega
 simp
 refine forX mixed d.acts.l.length (fun i s=>Vf.Sl [(2,.ref 0 0),(3,.ref 1 0),(5,.f (intF (sumTo List.length c.rows c.rows.length))),(6,.f (intF (sumTo (fun a : ActD=>a.body.l.length) d.acts.l i))),(8,.f (intF i))] 76 [aPrg d,(cCfg c).map .f] [] s) (by kernel_rfl) (Sl.of rfl rfl rfl) ?_
 clear hi hlt
 rintro i ⟨ts,hh,kk⟩ hi ⟨rfl,rfl,f,rfl⟩
 by_cases hlt : i < d.acts.l.length
 ·obtain ⟨x,hx,hx'⟩:=nth_of hlt
  have hw:=wrap64 (x:=(i : Int) + 1) (by omega) (by unfold maxLen at ha; omega)
  have hn:=sumTo_next (f:=fun a : ActD=>a.body.l.length) hx'
  simp [hlt,hx,hw,aPrg]
  rw [← hn]
  exact Sl.of rfl rfl rfl
 obtain rfl : i = d.acts.l.length:=by omega
 unfold bigM
 generalize sumTo List.length c.rows c.rows.length = A
 generalize sumTo (fun a : ActD=>a.body.l.length) d.acts.l d.acts.l.length = B
 by_cases c1 : 60 < A
 ·simp [c1,aPrg]
 by_cases c2 : 60 < B
 ·simp [c1,c2,aPrg]
 by_cases c3 : (12 : Int) < d.headers.l.length
 ·simp [c1,c2,c3,aPrg]
 by_cases c4 : (16 : Int) < d.tables.l.length
 ·simp [c1,c2,c3,c4,aPrg]
 by_cases c5 : (16 : Int) < d.states.l.length
 ·simp [c1,c2,c3,c4,c5,aPrg]
 by_cases c6 : (30 : Int) < d.control.l.length
 ·simp [c1,c2,c3,c4,c5,c6,aPrg]
 by_cases c7 : (8 : Int) < c.regs.length
 ·simp [c1,c2,c3,c4,c5,c6,c7,aPrg]
 ·simp [c1,c2,c3,c4,c5,c6,c7,aPrg]
def bigP (x : PlD) (c : CfgD) : Bool:=bigM x.prg c || decide ((30 : Int) < x.units.length) || decide ((200 : Int) < x.slots.length) || decide ((40 : Int) < x.stage.length)
theorem bigP_g (x : PlD) (c : CfgD) (hB : CfgB c) (ha : x.prg.acts.l.length ≤ maxLen) : Gives Tryz.prog 4 [fPl x,fCfg c] (boolF (bigP x c)):=by
 have hb:=big_g x.prg c hB ha
 simp only [fPrg,cPrg] at hb
 refine Gives.of mixed Tryz.func4 rfl rfl rfl (by kernel_rfl) ?_
 simp [fPl,cPl,cPrg]
 refine call_g hb ?_
 unfold bigP
 cases c0 : bigM x.prg c with
 | true=>simp
 | false =>
 by_cases c1 : (30 : Int) < x.units.length
 ·simp [c1]
 by_cases c2 : (200 : Int) < x.slots.length
 ·simp [c1,c2]
 by_cases c3 : (40 : Int) < x.stage.length
 ·simp [c1,c2,c3]
 ·simp [c1,c2,c3]
end Go.Proofs.YtejkhflkeoihlaaGreat
