/- Texts of the proof: GS12. -/
import Derived.Test.YtafenffmgpcjcaaGreatGS11
import Derived.Test.YtafenffmgpcjcaaGreatGS7
import Derived.Test.YtafenffmgpcjcaaGreatGS6
import Derived.Test.YtafenffmgpcjcaaGreatGS8
namespace Go.Proofs.YtafenffmgpcjcaaGreat
open Go.RowKit Go.Proofs.YtafenffmgpcjcaaGreat.Vf
set_option linter.unusedVariables false
set_option linter.unusedSimpArgs false
set_option maxRecDepth 100000
set_option maxHeartbeats 4000000
def rrI1 (d:PrgD) (i:Nat) (s:St):Prop:=noneT (fun i=>(prgReg d i).isSome) (List.range d.regs.l.length) i∧∃ g,Vf.Sl [(1,.ref 0 0),(2,.ref 1 0),(3,.f (intF i))] 47 (aPrg d::Z4::g) [] s
def rrI2 (d:PrgD) (nm:ByteArray) (E:Int) (i k:Nat) (s:St):Prop:=∃ e:Int,(e ≠ 0→e=E)∧(e=0→E=(if (d.regs.l.take i).any (fun y=>sEq y.name nm) then (7:Int) else 0)∧noneT (fun y:RegD=>sEq y.name nm) (d.regs.l.take i) k)∧∃ g,Vf.Sl [(1,.ref 0 0),(2,.ref 1 0),(3,.f (intF i)),(4,.f (intF e)),(5,.f (intF k))] 47 (aPrg d::Z4::g) [] s
theorem rregs_g (d:PrgD) (hn:NmOk d) (hl:d.regs.l.length < 100000):Gives Tryz.prog 65 [fPrg d] (fDiag ((scan d.regs.l.length (prgReg d)).getD (0,0,0,0))):=by
 refine Gives.of mixed Tryz.func65 rfl rfl rfl (by kernel_rfl) ?_
 generalize hv:(scan d.regs.l.length (prgReg d)).getD (0,0,0,0)=v
 simp [fPrg,cPrg]
 refine forX mixed d.regs.l.length (rrI1 d) (by kernel_rfl) ⟨.zero,[],Sl.of rfl rfl rfl⟩ ?_
 rintro i ⟨ts,hh,kk⟩ hi ⟨hno,g,rfl,rfl,f,rfl⟩
 by_cases hlt:i < d.regs.l.length
 ·obtain ⟨x,hx,hx'⟩:=nth_of hlt
  have hw:=wrap64 (x:=(i:Int)+1) (by omega) (by omega)
  have hxn:=hn.regs x (List.mem_of_getElem? hx')
  generalize hE:(if regCheck x=0 then (if (d.regs.l.take i).any (fun y=>sEq y.name x.name) then (7:Int) else 0) else regCheck x)=E
  have hP:prgReg d i=if E=0 then none else some (E,3,(i:Int),0):=by
   have e:prgReg d i=firstD [req (regCheck x) 3 i 0,req (dupS (d.regs.l.map (·.name)) i) 3 i 0]:=by simp only [prgReg,hx']
   have e2:=first3 0 (regCheck x) (dupS (d.regs.l.map (·.name)) i) 3 i
   have e4:firstD [req 0 3 (i:Int) 0,req (regCheck x) 3 i 0,req (dupS (d.regs.l.map (·.name)) i) 3 i 0]=firstD [req (regCheck x) 3 i 0,req (dupS (d.regs.l.map (·.name)) i) 3 i 0]:=rfl
   rw [e,← e4,e2,dupS_any (·.name) hx']
   have:e3 0 (regCheck x) (if (d.regs.l.take i).any (fun y=>sEq y.name x.name) then 7 else 0)=E:=by
    rw [← hE]
    unfold e3
    simp only [if_true]
   rw [this]
  have out:∀ e,prgReg d i=some e→v=e:=fun e he=>by rw [← hv,scan_at hno hlt he]; rfl
  have hA:regCheck x ≠ 0→regCheck x=E:=fun h=>by rw [← hE,if_neg h]
  have hB:regCheck x=0→E=if (d.regs.l.take i).any (fun y=>sEq y.name x.name) then (7:Int) else 0:=fun h=>by rw [← hE,if_pos h]
  simp [hlt,hx,aPrg]
  refine call_g (rreg_g x hxn) ?_
  simp
  refine forX mixed (i+1) (rrI2 d x.name E i) (by kernel_rfl) ⟨_,hA,fun h=>⟨hB h,.zero⟩,_,Sl.of rfl rfl rfl⟩ ?_
  rintro k ⟨ts,hh,kk⟩ hk ⟨e,hE1,hE2,g,rfl,rfl,f,rfl⟩
  by_cases he:e=0
  ·subst he
   obtain ⟨hB,hno2⟩:=hE2 rfl
   have hB0:=hB
   by_cases hkt:k < i
   ·obtain ⟨y,hy,hy'⟩:=nth_of (show k < d.regs.l.length by omega)
    have hyt:(d.regs.l.take i)[k]?=some y:=by rw [List.getElem?_take_of_lt hkt]; exact hy'
    have hw':=wrap64 (x:=(k:Int)+1) (by omega) (by omega)
    cases hs:sEq y.name x.name with
    | true =>
     rw [any_hit hyt hs,if_pos rfl] at hB
     simp [hkt,hlt,(show k < d.regs.l.length by omega),hx,hy,aPrg,hs,hw']
     exact ⟨by omega,7,fun _=>hB.symm,(fun h=>by cases h),_,Sl.of rfl rfl rfl⟩
    | false =>
     simp [hkt,hlt,(show k < d.regs.l.length by omega),hx,hy,aPrg,hs,hw']
     exact ⟨by omega,0,fun h=>absurd rfl h,fun _=>⟨hB0,hno2.next hyt hs⟩,_,Sl.of rfl rfl rfl⟩
   ·have hki:¬ (k:Int) < i:=by omega
    have hnone:(d.regs.l.take i).any (fun y=>sEq y.name x.name)=false:=by
     rw [List.any_eq_false]
     intro y hy
     obtain ⟨j,hj,rfl⟩:=List.getElem_of_mem hy
     have hj':j < i:=by rw [List.length_take] at hj; omega
     have:=hno2 j _ (by omega) (List.getElem?_eq_getElem hj)
     simpa using this
    rw [hnone,if_neg (by decide)] at hB
    simp [hki,aPrg,hw]
    exact ⟨hno.next (range_at hlt) (by rw [hP,if_pos hB]; rfl),_,Sl.of rfl rfl rfl⟩
  ·have hEe:=hE1 he
   have hEn:¬ E=0:=by rw [← hEe]; exact he
   have ho:=out _ (hP.trans (if_neg hEn))
   by_cases hki:(k:Int) < i
   ·simp [hki,he,aPrg]
    refine call_g (rat_g e 3 i 0) ?_
    simp [ho,hEe,Z4]
   ·simp [hki,he,aPrg]
    refine call_g (rat_g e 3 i 0) ?_
    simp [ho,hEe,Z4]
 ·obtain rfl:i=d.regs.l.length:=by omega
  rw [scan_of hno] at hv
  subst hv
  simp [aPrg,Z4]
def ractsI1 (d:PrgD) (i:Nat) (s:St):Prop:=noneT (fun i=>(prgAct d i).isSome) (List.range d.acts.l.length) i∧∃ g,Vf.Sl [(1,.ref 0 0),(2,.ref 1 0),(3,.f (intF i))] 47 (aPrg d::Z4::g) [] s
def ractsI2 (d:PrgD) (nm:ByteArray) (i k:Nat) (s:St):Prop:=noneT (fun y:ActD=>sEq y.name nm) (d.acts.l.take i) k∧∃ g,Vf.Sl [(1,.ref 0 0),(2,.ref 1 0),(3,.f (intF i)),(6,.f (intF k))] 47 (aPrg d::Z4::g) [] s
theorem racts_g (d:PrgD) (hn:NmOk d) (hl:d.acts.l.length < 100000):Gives Tryz.prog 66 [fPrg d] (fDiag ((scan d.acts.l.length (prgAct d)).getD (0,0,0,0))):=by
 refine Gives.of mixed Tryz.func66 rfl rfl rfl (by kernel_rfl) ?_
 generalize hv:(scan d.acts.l.length (prgAct d)).getD (0,0,0,0)=v
 simp [fPrg,cPrg]
 refine forX mixed d.acts.l.length (ractsI1 d) (by kernel_rfl) ⟨.zero,[],Sl.of rfl rfl rfl⟩ ?_
 rintro i ⟨ts,hh,kk⟩ hi ⟨hno,g,rfl,rfl,f,rfl⟩
 by_cases hlt:i < d.acts.l.length
 ·obtain ⟨x,hx,hx'⟩:=nth_of hlt
  have hw:=wrap64 (x:=(i:Int)+1) (by omega) (by omega)
  have hP:prgAct d i=firstD [req (actCheck d i).2 4 i (actCheck d i).1,req (if (d.acts.l.take i).any (fun y=>sEq y.name x.name) then 7 else 0) 4 i 0]:=by
   unfold prgAct
   rw [dupS_any (·.name) hx']
  have out:∀ e,prgAct d i=some e→v=e:=fun e he=>by rw [← hv,scan_at hno hlt he]; rfl
  simp [hlt,hx,aPrg]
  refine call_g (ract_g d hn i) ?_
  by_cases h0:(actCheck d i).2=0
  case neg =>
   have ho:=out ((actCheck d i).2,4,(i:Int),(actCheck d i).1) (by rw [hP]; simp only [firstD,req,h0,if_false])
   simp [h0]
   refine call_g (rat_g (actCheck d i).2 4 i (actCheck d i).1) ?_
   simp [ho,Z4]
  simp [h0]
  refine forX mixed i (ractsI2 d x.name i) (by kernel_rfl) ⟨.zero,_,Sl.of rfl rfl rfl⟩ ?_
  rintro k ⟨ts,hh,kk⟩ hk ⟨hno2,g,rfl,rfl,f,rfl⟩
  by_cases hkt:k < i
  ·obtain ⟨y,hy,hy'⟩:=nth_of (show k < d.acts.l.length by omega)
   have hyt:(d.acts.l.take i)[k]?=some y:=by rw [List.getElem?_take_of_lt hkt]; exact hy'
   have hw':=wrap64 (x:=(k:Int)+1) (by omega) (by omega)
   cases hs:sEq y.name x.name with
   | true =>
    have ho:=out (7,4,(i:Int),0) (by rw [hP,any_hit hyt hs]; simp only [firstD,req,h0,if_true]; rfl)
    simp [hkt,hlt,(show k < d.acts.l.length by omega),hx,hy,aPrg,hs]
    refine call_g (rat_g 7 4 i 0) ?_
    simp [ho,Z4]
   | false =>
    simp [hkt,hlt,(show k < d.acts.l.length by omega),hx,hy,aPrg,hs,hw']
    exact ⟨hno2.next hyt hs,_,Sl.of rfl rfl rfl⟩
  ·obtain rfl:k=i:=by omega
   have ha:=hno2.all (by rw [List.length_take]; omega)
   simp [aPrg,hw]
   exact ⟨hno.next (range_at hlt) (by rw [hP,ha]; simp only [firstD,req,h0,if_true]; rfl),_,Sl.of rfl rfl rfl⟩
 ·obtain rfl:i=d.acts.l.length:=by omega
  rw [scan_of hno] at hv
  subst hv
  simp [aPrg,Z4]
def rtblsI1 (d:PrgD) (i:Nat) (s:St):Prop:=noneT (fun i=>(prgTbl d i).isSome) (List.range d.tables.l.length) i∧∃ g,Vf.Sl [(1,.ref 0 0),(2,.ref 1 0),(3,.f (intF i))] 47 (aPrg d::Z4::g) [] s
def rtblsI2 (d:PrgD) (nm:ByteArray) (i k:Nat) (s:St):Prop:=noneT (fun y:TblD=>sEq y.name nm) (d.tables.l.take i) k∧∃ g,Vf.Sl [(1,.ref 0 0),(2,.ref 1 0),(3,.f (intF i)),(6,.f (intF k))] 47 (aPrg d::Z4::g) [] s
theorem rtbls_g (d:PrgD) (hn:NmOk d) (ht:∀ t ∈ d.tables.l,TblOk t) (hN:PrgN d) (hl:d.tables.l.length < 100000):Gives Tryz.prog 67 [fPrg d] (fDiag ((scan d.tables.l.length (prgTbl d)).getD (0,0,0,0))):=by
 refine Gives.of mixed Tryz.func67 rfl rfl rfl (by kernel_rfl) ?_
 generalize hv:(scan d.tables.l.length (prgTbl d)).getD (0,0,0,0)=v
 simp [fPrg,cPrg]
 refine forX mixed d.tables.l.length (rtblsI1 d) (by kernel_rfl) ⟨.zero,[],Sl.of rfl rfl rfl⟩ ?_
 rintro i ⟨ts,hh,kk⟩ hi ⟨hno,g,rfl,rfl,f,rfl⟩
 by_cases hlt:i < d.tables.l.length
 ·obtain ⟨x,hx,hx'⟩:=nth_of hlt
  have hw:=wrap64 (x:=(i:Int)+1) (by omega) (by omega)
  have hP:prgTbl d i=firstD [req (tblCheck d i).2 5 i (tblCheck d i).1,req (if (d.tables.l.take i).any (fun y=>sEq y.name x.name) then 7 else 0) 5 i 0]:=by
   unfold prgTbl
   rw [dupS_any (·.name) hx']
  have out:∀ e,prgTbl d i=some e→v=e:=fun e he=>by rw [← hv,scan_at hno hlt he]; rfl
  simp [hlt,hx,aPrg]
  refine call_g (rtbl_g d hn ht hN i) ?_
  by_cases h0:(tblCheck d i).2=0
  case neg =>
   have ho:=out ((tblCheck d i).2,5,(i:Int),(tblCheck d i).1) (by rw [hP]; simp only [firstD,req,h0,if_false])
   simp [h0]
   refine call_g (rat_g (tblCheck d i).2 5 i (tblCheck d i).1) ?_
   simp [ho,Z4]
  simp [h0]
  refine forX mixed i (rtblsI2 d x.name i) (by kernel_rfl) ⟨.zero,_,Sl.of rfl rfl rfl⟩ ?_
  rintro k ⟨ts,hh,kk⟩ hk ⟨hno2,g,rfl,rfl,f,rfl⟩
  by_cases hkt:k < i
  ·obtain ⟨y,hy,hy'⟩:=nth_of (show k < d.tables.l.length by omega)
   have hyt:(d.tables.l.take i)[k]?=some y:=by rw [List.getElem?_take_of_lt hkt]; exact hy'
   have hw':=wrap64 (x:=(k:Int)+1) (by omega) (by omega)
   cases hs:sEq y.name x.name with
   | true =>
    have ho:=out (7,5,(i:Int),0) (by rw [hP,any_hit hyt hs]; simp only [firstD,req,h0,if_true]; rfl)
    simp [hkt,hlt,(show k < d.tables.l.length by omega),hx,hy,aPrg,hs]
    refine call_g (rat_g 7 5 i 0) ?_
    simp [ho,Z4]
   | false =>
    simp [hkt,hlt,(show k < d.tables.l.length by omega),hx,hy,aPrg,hs,hw']
    exact ⟨hno2.next hyt hs,_,Sl.of rfl rfl rfl⟩
  ·obtain rfl:k=i:=by omega
   have ha:=hno2.all (by rw [List.length_take]; omega)
   simp [aPrg,hw]
   exact ⟨hno.next (range_at hlt) (by rw [hP,ha]; simp only [firstD,req,h0,if_true]; rfl),_,Sl.of rfl rfl rfl⟩
 ·obtain rfl:i=d.tables.l.length:=by omega
  rw [scan_of hno] at hv
  subst hv
  simp [aPrg,Z4]
theorem gf0 {a:FV} {l:List FV}:getF (a::l) 0=some a:=rfl
theorem gf1 {a b:FV} {l:List FV}:getF (a::b::l) 1=some b:=rfl
theorem gf2 {a b c:FV} {l:List FV}:getF (a::b::c::l) 2=some c:=rfl
def fldE (l:List FldD) (i:Nat):Int:=(hdrField l i).getD 0
def rfdI (l:List FldD) (c:Cap) (n:Nat) (x:FldD) (k:Nat) (s:St):Prop:=noneT (fun y:FldD=>sEq y.name x.name) (l.take n) k∧∃ g,Vf.Sl [(0,.f (.sl (encL fFld l) c)),(1,.f (intF n)),(5,.f (intF k))] 43 g [] s
theorem rfield_g (l:List FldD) (c:Cap) (n:Nat) (x:FldD) (hx:l[n]?=some x) (hl:l.length < 2^62) (hs:x.name.size < 2^62):Gives Tryz.prog 124 [.sl (encL fFld l) c,intF n] (intF (fldE l n)):=by
 refine Gives.of mixed Tryz.func124 rfl rfl rfl (by kernel_rfl) ?_
 obtain ⟨hn,_⟩:=List.getElem?_eq_some_iff.1 hx
 obtain ⟨z,hz,hz'⟩:=nth_of hn
 rw [hx] at hz'
 obtain rfl:=Option.some.inj hz'
 have hf:fldE l n=if !ident x.name then 6 else if badW x.width then 10 else if (l.take n).any (fun g=>sEq g.name x.name) then 7 else 0:=by
  unfold fldE hdrField
  simp only [hx]
  cases ident x.name <;> cases badW x.width <;> cases (l.take n).any (fun g=>sEq g.name x.name) <;> rfl
 generalize fldE l n=v at hf
 simp [hn,hz]
 refine call_g (rident_g x.name hs) ?_
 cases i1:ident x.name with
 | false=>rw [i1] at hf; have hf:v=6:=hf; simp [hf]
 | true =>
 rw [i1,if_neg (by decide)] at hf
 by_cases w1:x.width < 1
 ·rw [if_pos (by simp [badW,w1])] at hf
  simp [hn,hz,w1,hf]
 by_cases w2:32 < x.width
 ·rw [if_pos (by simp [badW,w2])] at hf
  simp [hn,hz,w1,w2,hf]
 rw [if_neg (by simp [badW,w1,w2])] at hf
 simp [hn,hz,w1,w2]
 refine forX mixed n (rfdI l c n x) (by kernel_rfl) ⟨.zero,[],Sl.of rfl rfl rfl⟩ ?_
 rintro k ⟨ts,hh,kk⟩ hk ⟨hno2,g,rfl,rfl,f,rfl⟩
 by_cases hkt:k < n
 ·obtain ⟨y,hy,hy'⟩:=nth_of (show k < l.length by omega)
  have hyt:(l.take n)[k]?=some y:=by rw [List.getElem?_take_of_lt hkt]; exact hy'
  have hw':=wrap64 (x:=(k:Int)+1) (by omega) (by omega)
  cases he:sEq y.name x.name with
  | true =>
   rw [any_hit hyt he,if_pos rfl] at hf
   simp [hkt,hn,(show k < l.length by omega),hz,hy,he,hf]
  | false =>
   simp [hkt,hn,(show k < l.length by omega),hz,hy,he,hw']
   exact ⟨hno2.next hyt he,_,Sl.of rfl rfl rfl⟩
 ·obtain rfl:k=n:=by omega
  rw [hno2.all (by rw [List.length_take]; omega),if_neg (by decide)] at hf
  simp [hf]
theorem prgMeta_eq {d:PrgD} {i:Nat} {x:FldD} (hx:d.meta_.l[i]?=some x):prgMeta d i=if fldE d.meta_.l i=0 then none else some (fldE d.meta_.l i,2,(i:Int),0):=by
 have e:prgMeta d i=firstD [req (if ident x.name then 0 else 6) 2 i 0,req (if badW x.width then 10 else 0) 2 i 0,req (dupS (d.meta_.l.map (·.name)) i) 2 i 0]:=by simp only [prgMeta,hx]
 rw [e,first3,dupS_any (·.name) hx]
 have:e3 (if ident x.name then 0 else 6) (if badW x.width then 10 else 0) (if (d.meta_.l.take i).any (fun y=>sEq y.name x.name) then 7 else 0)=fldE d.meta_.l i:=by
  unfold fldE hdrField e3
  simp only [hx]
  cases ident x.name <;> cases badW x.width <;> cases (d.meta_.l.take i).any (fun g=>sEq g.name x.name) <;> rfl
 rw [this]
def wantA:AV:=.f (.sl [.agg [strF (mName 0),intF 8],.agg [strF (mName 1),intF 8],.agg [strF (mName 2),intF 1]] .full)
def rmI1 (d:PrgD) (i:Nat) (s:St):Prop:=noneT (fun i=>(prgMeta d i).isSome) (List.range d.meta_.l.length) i∧∃ g,Vf.Sl [(1,.ref 0 0),(2,.ref 1 0),(3,.f (intF i))] 58 (aPrg d::Z4::g) [] s
def rmI2 (d:PrgD) (i:Nat) (s:St):Prop:=(∀ j,j < i→metaIs d.meta_.l j (mName j) (mWid j)=true)∧∃ g,Vf.Sl [(1,.ref 0 0),(2,.ref 1 0),(5,wantA),(6,.f (intF i))] 58 (aPrg d::Z4::g) [] s
theorem rmeta_g (d:PrgD) (hn:NmOk d):Gives Tryz.prog 64 [fPrg d] (fDiag ((prgMetas d).getD (0,0,0,0))):=by
 refine Gives.of mixed Tryz.func64 rfl rfl rfl (by kernel_rfl) ?_
 have hR:=mets_eq d
 generalize prgMetas d=R at *
 simp [fPrg,cPrg]
 by_cases c0:12 < d.meta_.l.length
 ·have c0':12 < (d.meta_.l.length:Int):=by omega
  have hR:R=some (12,2,0,0):=by rw [hR]; simp only [firstD,req,c0,if_true]; rfl
  simp [c0']
  refine call_g (rat_g 12 2 0 0) ?_
  simp [hR]
 have c0':¬ 12 < (d.meta_.l.length:Int):=by omega
 have hR:R=firstD [scan d.meta_.l.length (prgMeta d),req (if metaIs d.meta_.l 0 (mName 0) (mWid 0) then 0 else 5) 2 0 0,req (if metaIs d.meta_.l 1 (mName 1) (mWid 1) then 0 else 5) 2 1 0,req (if metaIs d.meta_.l 2 (mName 2) (mWid 2) then 0 else 5) 2 2 0]:=by
  rw [hR,if_neg c0]; rfl
 simp [c0']
 refine forX mixed d.meta_.l.length (rmI1 d) (by kernel_rfl) ⟨.zero,[],Sl.of rfl rfl rfl⟩ ?_
 rintro i ⟨ts,hh,kk⟩ hi ⟨hno,g,rfl,rfl,f,rfl⟩
 by_cases hlt:i < d.meta_.l.length
 ·obtain ⟨x,hx,hx'⟩:=nth_of hlt
  have hw:=wrap64 (x:=(i:Int)+1) (by omega) (by omega)
  have hP:=prgMeta_eq hx'
  simp [hlt,hx,aPrg]
  refine call_g (rfield_g d.meta_.l .un i x hx' (by omega) (hn.meta_ x (List.mem_of_getElem? hx'))) ?_
  by_cases h0:fldE d.meta_.l i=0
  ·simp [h0,hw]
   exact ⟨hno.next (range_at hlt) (by rw [hP,if_pos h0]; rfl),_,Sl.of rfl rfl rfl⟩
  ·have ho:R=some (fldE d.meta_.l i,2,(i:Int),0):=by rw [hR,scan_at hno hlt (hP.trans (if_neg h0))]; rfl
   simp [h0]
   refine call_g (rat_g (fldE d.meta_.l i) 2 i 0) ?_
   simp [ho,Z4]
 obtain rfl:i=d.meta_.l.length:=by omega
 rw [scan_of hno] at hR
 have hR:R=firstD [req (if metaIs d.meta_.l 0 (mName 0) (mWid 0) then 0 else 5) 2 0 0,req (if metaIs d.meta_.l 1 (mName 1) (mWid 1) then 0 else 5) 2 1 0,req (if metaIs d.meta_.l 2 (mName 2) (mWid 2) then 0 else 5) 2 2 0]:=hR
 simp [aPrg]
 refine forX mixed 3 (rmI2 d) (by kernel_rfl) ⟨fun j h=>by omega,_,Sl.of rfl rfl rfl⟩ ?_
 clear hi hno hlt
 rintro i ⟨ts,hh,kk⟩ hi ⟨hm,g,rfl,rfl,f,rfl⟩
 by_cases hi3:i=3
 ·subst hi3
  rw [hm 0 (by omega),hm 1 (by omega),hm 2 (by omega)] at hR
  have hR:R=none:=hR
  simp [aPrg,hR,Z4,wantA]
 have hbad:metaIs d.meta_.l i (mName i) (mWid i)=false→R=some (5,2,(i:Int),0):=fun hb=>by
  rw [hR]
  have h3:i=0∨i=1∨i=2:=by omega
  rcases h3 with rfl | rfl | rfl
  ·rw [hb]; rfl
  ·rw [hm 0 (by omega),hb]; rfl
  ·rw [hm 0 (by omega),hm 1 (by omega),hb]; rfl
 have hgo:metaIs d.meta_.l i (mName i) (mWid i)=true→∀ j,j < i+1→metaIs d.meta_.l j (mName j) (mWid j)=true:=fun h j hj=>by
  rcases Nat.lt_or_ge j i with h1 | h1
  ·exact hm j h1
  ·obtain rfl:j=i:=by omega
   exact h
 by_cases hlt:i < d.meta_.l.length
 ·obtain ⟨x,hx,hx'⟩:=nth_of hlt
  have hmi:metaIs d.meta_.l i (mName i) (mWid i)=(sEq x.name (mName i) && decide (x.width=mWid i)):=by
   unfold metaIs
   rw [hx']
   rfl
  have hlt':¬ (d.meta_.l.length:Int)≤i:=by omega
  have hw:=wrap64 (x:=(i:Int)+1) (by omega) (by omega)
  have h3:i=0∨i=1∨i=2:=by omega
  cases e:(sEq x.name (mName i) && decide (x.width=mWid i)) with
  | true =>
   have hg:=hgo (hmi.trans e)
   have e':(!sEq x.name (mName i) || !decide (x.width=mWid i))=false:=by rw [← Bool.not_and,e]; rfl
   rcases h3 with rfl | rfl | rfl
   ·have q:¬ d.meta_.l=[]:=fun h=>by rw [h] at hlt; exact absurd hlt (by decide)
    have q2:0 < d.meta_.l.length:=hlt
    simp only [mName,mWid] at e'
    simp [wantA,aPrg,mName,q,q2,hx,gf0,gf1,gf2,e',Vf.wrap64]
    exact ⟨hg,_,Sl.of rfl rfl rfl⟩
   ·have q:¬ (d.meta_.l.length:Int)≤1:=by omega
    have q2:1 < d.meta_.l.length:=hlt
    simp only [mName,mWid] at e'
    simp [wantA,aPrg,mName,q,q2,hx,gf0,gf1,gf2,e',Vf.wrap64]
    exact ⟨hg,_,Sl.of rfl rfl rfl⟩
   ·have q:¬ (d.meta_.l.length:Int)≤2:=by omega
    have q2:2 < d.meta_.l.length:=hlt
    simp only [mName,mWid] at e'
    simp [wantA,aPrg,mName,q,q2,hx,gf0,gf1,gf2,e',Vf.wrap64]
    exact ⟨hg,_,Sl.of rfl rfl rfl⟩
  | false =>
   have hb:=hbad (hmi.trans e)
   have e':(!sEq x.name (mName i) || !decide (x.width=mWid i))=true:=by rw [← Bool.not_and,e]; rfl
   rcases h3 with rfl | rfl | rfl
   ·have q:¬ d.meta_.l=[]:=fun h=>by rw [h] at hlt; exact absurd hlt (by decide)
    have q2:0 < d.meta_.l.length:=hlt
    simp only [mName,mWid] at e'
    simp [wantA,aPrg,mName,q,q2,hx,gf0,gf1,gf2,e']
    refine call_g (rat_g 5 2 0 0) ?_
    simp [hb,Z4]
   ·have q:¬ (d.meta_.l.length:Int)≤1:=by omega
    have q2:1 < d.meta_.l.length:=hlt
    simp only [mName,mWid] at e'
    simp [wantA,aPrg,mName,q,q2,hx,gf0,gf1,gf2,e']
    refine call_g (rat_g 5 2 1 0) ?_
    simp [hb,Z4]
   ·have q:¬ (d.meta_.l.length:Int)≤2:=by omega
    have q2:2 < d.meta_.l.length:=hlt
    simp only [mName,mWid] at e'
    simp [wantA,aPrg,mName,q,q2,hx,gf0,gf1,gf2,e']
    refine call_g (rat_g 5 2 2 0) ?_
    simp [hb,Z4]
 ·have hb:=hbad (by unfold metaIs; rw [List.getElem?_eq_none (by omega)])
  have hlt':(d.meta_.l.length:Int)≤i:=by omega
  simp [wantA,aPrg,hlt',(show (i:Int) < 3 by omega)]
  refine call_g (rat_g 5 2 i 0) ?_
  simp [hb,Z4]
theorem rcode_g (d:PrgD) (hn:NmOk d) (hN:PrgN d) (hB:NodB d.control.l) (hc:(nodsPre d.control.l).length≤10000000):Gives Tryz.prog 68 [fPrg d] (fDiag ((prgFlowW d).getD (0,0,0,0))):=by
 refine Gives.of mixed Tryz.func68 rfl rfl rfl (by kernel_rfl) ?_
 have hv:prgFlowW d=firstD [req (parCheck d).2.2 6 (parCheck d).1 (parCheck d).2.1,req (ctlCheckW d).2 7 (ctlCheckW d).1 0,req (depCheck d).2 8 (depCheck d).1 0]:=rfl
 generalize prgFlowW d=v at hv
 simp [fPrg,cPrg]
 refine call_g (rpar_g d hn hN) ?_
 by_cases h1:(parCheck d).2.2=0
 case neg =>
  have hv:v=some ((parCheck d).2.2,6,(parCheck d).1,(parCheck d).2.1):=by rw [hv]; simp only [firstD,req,h1,if_false]
  simp [h1]
  refine call_g (rat_g (parCheck d).2.2 6 (parCheck d).1 (parCheck d).2.1) ?_
  simp [hv]
 simp [h1]
 refine call_g (rctl_g d hB hc) ?_
 by_cases h2:(ctlCheckW d).2=0
 case neg =>
  have hv:v=some ((ctlCheckW d).2,7,(ctlCheckW d).1,0):=by rw [hv]; simp only [firstD,req,h1,h2,if_false,if_true]
  simp [h2]
  refine call_g (rat_g (ctlCheckW d).2 7 (ctlCheckW d).1 0) ?_
  simp [hv]
 simp [h2]
 refine call_g (rdep_g d) ?_
 by_cases h3:(depCheck d).2=0
 case neg =>
  have hv:v=some ((depCheck d).2,8,(depCheck d).1,0):=by rw [hv]; simp only [firstD,req,h1,h2,h3,if_false,if_true]
  simp [h3]
  refine call_g (rat_g (depCheck d).2 8 (depCheck d).1 0) ?_
  simp [hv]
 have hv:v=none:=by rw [hv]; simp only [firstD,req,h1,h2,h3,if_true]
 simp [h3,hv]
theorem rprg_g (d:PrgD) (hU:PrgU d) (hN:PrgN d):Gives Tryz.prog 32 [fPrg d] (fDiag (prgCheckW d)):=by
 have hn:=hU.ok.nm
 refine Gives.of mixed Tryz.func32 rfl rfl rfl (by kernel_rfl) ?_
 have hv:prgCheckW d=(firstD [prgLimits d,scan d.headers.l.length (prgHdr d),prgMetas d,scan d.regs.l.length (prgReg d),scan d.acts.l.length (prgAct d),scan d.tables.l.length (prgTbl d),prgFlowW d]).getD (0,0,0,0):=by
  unfold prgCheckW prgObjs
  simp only [firstD]
  cases prgLimits d <;> simp only
  cases scan d.headers.l.length (prgHdr d) <;> simp only
  cases prgMetas d <;> simp only
  cases scan d.regs.l.length (prgReg d) <;> simp only
  cases scan d.acts.l.length (prgAct d) <;> simp only
  cases scan d.tables.l.length (prgTbl d) <;> simp only
 have nz:∀ x ∈ [prgLimits d,scan d.headers.l.length (prgHdr d),prgMetas d,scan d.regs.l.length (prgReg d),scan d.acts.l.length (prgAct d),scan d.tables.l.length (prgTbl d),prgFlowW d],NZ x:=by
  intro x hx
  simp only [List.mem_cons,List.not_mem_nil,or_false] at hx
  rcases hx with rfl | rfl | rfl | rfl | rfl | rfl | rfl
  ·exact NZ.firstD fun x hx=>by simp only [List.mem_cons,List.not_mem_nil,or_false] at hx; rcases hx with rfl | rfl | rfl | rfl | rfl <;> exact NZ.req _ _ _ _
  ·exact NZ.scan (NZ.hdr d)
  ·exact NZ.firstD fun x hx=>by
    simp only [List.mem_cons,List.not_mem_nil,or_false] at hx
    rcases hx with rfl | rfl | rfl | rfl | rfl
    ·exact NZ.req _ _ _ _
    ·exact NZ.scan (NZ.met d)
    all_goals exact NZ.req _ _ _ _
  ·exact NZ.scan (NZ.reg d)
  ·exact NZ.scan fun i=>NZ.firstD fun x hx=>by simp only [List.mem_cons,List.not_mem_nil,or_false] at hx; rcases hx with rfl | rfl <;> exact NZ.req _ _ _ _
  ·exact NZ.scan fun i=>NZ.firstD fun x hx=>by simp only [List.mem_cons,List.not_mem_nil,or_false] at hx; rcases hx with rfl | rfl <;> exact NZ.req _ _ _ _
  ·exact NZ.firstD fun x hx=>by simp only [List.mem_cons,List.not_mem_nil,or_false] at hx; rcases hx with rfl | rfl | rfl <;> exact NZ.req _ _ _ _
 generalize prgCheckW d=v at hv
 simp [fPrg,cPrg]
 refine call_g (rwhole_g d hn) ?_
 cases h1:prgLimits d with
 | some e =>
  have hz:=nz _ (by simp) e h1
  rw [h1] at hv
  have hv:v=e:=hv
  simp [hz,hv]
 | none =>
 have hlim:=limits_none h1
 simp
 refine call_g (rheaders_g d hn hlim.1) ?_
 cases h2:scan d.headers.l.length (prgHdr d) with
 | some e =>
  have hz:=nz (scan d.headers.l.length (prgHdr d)) (by simp) e h2
  rw [h1,h2] at hv
  have hv:v=e:=hv
  simp [hz,hv]
 | none =>
 simp
 refine call_g (rmeta_g d hn) ?_
 cases h3:prgMetas d with
 | some e =>
  have hz:=nz (prgMetas d) (by simp) e h3
  rw [h1,h2,h3] at hv
  have hv:v=e:=hv
  simp [hz,hv]
 | none =>
 simp
 refine call_g (rregs_g d hn hlim.2.1) ?_
 cases h4:scan d.regs.l.length (prgReg d) with
 | some e =>
  have hz:=nz (scan d.regs.l.length (prgReg d)) (by simp) e h4
  rw [h1,h2,h3,h4] at hv
  have hv:v=e:=hv
  simp [hz,hv]
 | none =>
 simp
 refine call_g (racts_g d hn (by omega)) ?_
 cases h5:scan d.acts.l.length (prgAct d) with
 | some e =>
  have hz:=nz (scan d.acts.l.length (prgAct d)) (by simp) e h5
  rw [h1,h2,h3,h4,h5] at hv
  have hv:v=e:=hv
  simp [hz,hv]
 | none =>
 simp
 refine call_g (rtbls_g d hn hU.ok.tbl hN hlim.2.2.2) ?_
 cases h6:scan d.tables.l.length (prgTbl d) with
 | some e =>
  have hz:=nz (scan d.tables.l.length (prgTbl d)) (by simp) e h6
  rw [h1,h2,h3,h4,h5,h6] at hv
  have hv:v=e:=hv
  simp [hz,hv]
 | none =>
 simp
 refine call_g (rcode_g d hn hN hU.ok.nod hU.nodes) ?_
 rw [h1,h2,h3,h4,h5,h6] at hv
 have hv:v=(prgFlowW d).getD (0,0,0,0):=by
  rw [hv]
  simp only [firstD]
  cases prgFlowW d <;> rfl
 simp [hv]
def raI (d:PrgD) (a:Nat) (x:ActD) (i:Nat) (s:St):Prop:=Vf.Sl [(1,.f (intF a)),(2,.ref 0 0),(5,.f (intF (sumW (x.params.l.take i)))),(6,.f (intF i))] 31 [aPrg d] [] s
theorem rarguments_g (d:PrgD) (hW:WidthsOk d) (a:Nat) (x:ActD) (ha:d.acts.l[a]?=some x):Gives Tryz.prog 183 [fPrg d,intF a] (intF (sumW x.params.l)):=by
 have hl:a < d.acts.l.length:=(List.getElem?_eq_some_iff.1 ha).1
 obtain ⟨x',hx,hx'⟩:=nth_of hl
 obtain rfl:x=x':=by rw [ha] at hx'; exact Option.some.inj hx'
 have hb:=hW x (List.mem_of_getElem? ha)
 refine Gives.of mixed Tryz.func183 rfl rfl rfl (by kernel_rfl) ?_
 simp [fPrg,cPrg]
 refine forX mixed x.params.l.length (raI d a x) (by kernel_rfl) (Sl.of rfl rfl rfl) ?_
 rintro i ⟨ts,hh,kk⟩ hi ⟨rfl,rfl,f,rfl⟩
 by_cases hlt:i < x.params.l.length
 ·obtain ⟨y,hy,hy'⟩:=nth_of hlt
  have hw:=wrap64 (x:=(i:Int)+1) (by omega) (by omega)
  have h1:=sumW_bd hb.2 i
  have h2:=hb.2 y (List.mem_of_getElem? hy')
  have hs:=wrap64 (x:=sumW (x.params.l.take i)+y.width) (by omega) (by omega)
  simp [aPrg,hl,hx,hlt,hy,hw,hs]
  unfold raI
  rw [sumW_next hy']
  exact Sl.of rfl rfl rfl
 ·obtain rfl:i=x.params.l.length:=by omega
  simp [aPrg,hl,hx]
theorem tbl_in {d:PrgD} {t:TblD} (h:(tblCheckA d t).2=0):∀ a ∈ t.acts.l,¬ a < 0∧a < d.acts.l.length:=by
 have h2:tblActs d t=0:=by
  unfold tblCheckA at h
  split at h
  ·cases h
  ·split at h
   ·cases h
   ·split at h
    ·cases h
    ·split at h
     ·rename_i h3; exact absurd h h3
     ·split at h
      ·rename_i h3; exact absurd h h3
      ·omega
 have h4:scan t.acts.l.length (actScan d t.acts.l)=none:=by
  unfold tblActs at h2
  split at h2
  ·rename_i e he
   unfold scan at he
   obtain ⟨i,_,hi⟩:=List.exists_of_findSome?_eq_some he
   unfold actScan at hi
   split at hi
   ·cases hi
   ·split at hi
    ·injection hi with hi; omega
    ·split at hi
     ·injection hi with hi; omega
     ·cases hi
  ·rename_i he; exact he
 intro a ha
 obtain ⟨j,hj,rfl⟩:=List.mem_iff_getElem.1 ha
 have h5:=scan_all h4 j hj
 unfold actScan at h5
 rw [List.getElem?_eq_getElem hj] at h5
 simp only at h5
 split at h5
 ·cases h5
 ·rename_i h6
  simp only [not_or,Int.not_le] at h6
  exact h6
def aTbl (t:TblD):List AV:=[.f (strF t.name),.f (sl (encL fKey t.keys.l)),.f (sl (encL intF t.acts.l)),.f (intF t.dfl),.f (sl (encL u32F t.args.l)),.f (intF t.size)]
theorem argBits_pre {d:PrgD} (hW:WidthsOk d) (t:TblD) (j:Nat):0≤(t.acts.l.take j).foldl (argStep d) 0∧(t.acts.l.take j).foldl (argStep d) 0≤32000 :=
 argBits_bd hW ⟨t.name,t.keys,⟨t.acts.l.take j⟩,t.dfl,t.args,t.size⟩
def rcI (d:PrgD) (i:Int) (t:TblD) (j:Nat) (s:St):Prop:=Vf.Sl [(1,.f (intF i)),(2,.ref 0 0),(4,.ref 1 0),(5,.ref 2 0),(6,.f (intF (8+(t.acts.l.take j).foldl (argStep d) 0))),(7,.f (intF j))] 86 [aPrg d,[.f (intF 0),.f (intF 0)],aTbl t] [] s
theorem rcost_g (d:PrgD) (hU:PrgU d) (hN:PrgN d) (i:Int):Gives Tryz.prog 131 [fPrg d,intF i] (fRes (tblCost d i)):=by
 have ho:=hU.ok
 refine Gives.of mixed Tryz.func131 rfl rfl rfl (by kernel_rfl) ?_
 simp [fPrg,cPrg]
 refine call_g (rprg_g d hU hN) ?_
 by_cases h:(prgCheckW d).1=0
 case neg =>
  have hv:tblCost d i=(0,0):=if_neg h
  simp [h,hv]
 have hC:=prgC_of h
 have hv:tblCost d i=match tblOf d i with
  | none=>(0,0)
  | some t=>if t.keys.l.length=0 then (0,0) else if tblKind d i=1 then (blocksOf (t.size * (tblBits d i+(8+argBits d t))) 4096,0) else (blocksOf (t.size * (8+argBits d t)) 4096,blocksOf (t.size * tblBits d i) 2048):=if_pos h
 rcases tblAt (d:=d) i with ⟨c1,hr⟩ | ⟨c1,c2,hr⟩ | ⟨c0,c1,c2,c3,t,hx,hx',hr⟩
 ·have hv:tblCost d i=(0,0):=by rw [hv]; unfold tblOf; rw [hr]
  simp [h,c1,hv]
 ·have hv:tblCost d i=(0,0):=by rw [hv]; unfold tblOf; rw [hr]
  simp [h,c1,c2,hv]
 have hv:tblCost d i=if t.keys.l.length=0 then (0,0) else if tblKind d i=1 then (blocksOf (t.size * (tblBits d i+(8+argBits d t))) 4096,0) else (blocksOf (t.size * (8+argBits d t)) 4096,blocksOf (t.size * tblBits d i) 2048):=by rw [hv]; unfold tblOf; rw [hr]
 by_cases k0:t.keys.l.length=0
 ·have k0':(t.keys.l.length:Int)=0:=by omega
  rw [if_pos k0] at hv
  simp [h,c0,c1,c2,c3,hx,k0,k0',hv]
 rw [if_neg k0] at hv
 have hm:=List.mem_of_getElem? hx'
 have hW:=widthsOk_of hC
 have hbd:=tblWidths_bd d i
 have hbb:=isum_32 hbd.2
 have hbits:0≤tblBits d i∧tblBits d i≤192:=by unfold tblBits; omega
 have htc:(tblCheckA d t).2=0:=by
  have:=hC.tc i.toNat c3
  rw [show ((i.toNat:Nat):Int)=i by omega] at this
  unfold tblCheck at this
  rw [hr] at this
  exact this
 have hin:=tbl_in htc
 have hsz:1≤t.size∧t.size≤256∧t.acts.l.length≤16:=by
  have htc:=htc
  unfold tblCheckA at htc
  split at htc
  ·cases htc
  ·split at htc
   ·cases htc
   ·split at htc
    ·cases htc
    ·omega
 have hne:¬ t.keys.l=[]:=fun h=>k0 (by rw [h]; rfl)
 have k0':¬ (t.keys.l.length:Int)=0:=by omega
 simp [h,c0,c1,c2,c3,hx,k0,k0',hne]
 refine forX mixed t.acts.l.length (rcI d i t) (by kernel_rfl) (Sl.of rfl rfl rfl) ?_
 rintro j ⟨ts,hh,kk⟩ hj ⟨rfl,rfl,f,rfl⟩
 have hbd2:=argBits_pre hW t j
 by_cases hlt:j < t.acts.l.length
 ·obtain ⟨a,ha,ha'⟩:=nth_of hlt
  obtain ⟨a1,a2⟩:=hin a (List.mem_of_getElem? ha')
  obtain ⟨n,rfl⟩:∃ n:Nat,a=n:=⟨a.toNat,by omega⟩
  obtain ⟨x,hx1,hx2⟩:=nth_of (show n < d.acts.l.length by omega)
  have hw:=wrap64 (x:=(j:Int)+1) (by omega) (by omega)
  have hxw:=hW x (List.mem_of_getElem? hx2)
  have hs2:=sumW_bd hxw.2 x.params.l.length
  rw [List.take_length] at hs2
  have hs:=wrap64 (x:=8+sumW x.params.l) (by omega) (by omega)
  have hstep:argStep d ((t.acts.l.take j).foldl (argStep d) 0) n=max ((t.acts.l.take j).foldl (argStep d) 0) (sumW x.params.l):=by
   unfold argStep
   rw [if_neg a1,Int.toNat_natCast,hx2]
  simp [hlt,ha,aTbl,aPrg]
  refine call_g (rarguments_g d hW n x hx2) ?_
  simp [hs]
  rw [ops_max (q:=.i64) (a:=8+(t.acts.l.take j).foldl (argStep d) 0) (b:=8+sumW x.params.l) rfl rfl]
  simp [hw]
  unfold rcI
  rw [fold_next ha',hstep]
  exact Sl.of rfl rfl rfl
 obtain rfl:j=t.acts.l.length:=by omega
 simp [aTbl,aPrg]
 refine call_g (rbitsT_g d ho.nm ho.tbl hN i) ?_
 simp
 refine call_g (rkindT_g d ho.nm ho.tbl hN i) ?_
 have hv2:(t.acts.l.foldl (argStep d) 0)=argBits d t:=rfl
 rw [List.take_length,hv2] at hbd2
 rw [hv2]
 generalize argBits d t=A at hbd2 hv ⊢
 generalize tblBits d i=B at hbits hv ⊢
 have m1:0≤t.size * (B+(8+A))∧t.size * (B+(8+A))≤256 * 33000:=⟨Int.mul_nonneg (by omega) (by omega),Int.mul_le_mul hsz.2.1 (by omega) (by omega) (by omega)⟩
 have m2:0≤t.size * (8+A)∧t.size * (8+A)≤256 * 33000:=⟨Int.mul_nonneg (by omega) (by omega),Int.mul_le_mul hsz.2.1 (by omega) (by omega) (by omega)⟩
 have m3:0≤t.size * B∧t.size * B≤256 * 33000:=⟨Int.mul_nonneg (by omega) (by omega),Int.mul_le_mul hsz.2.1 (by omega) (by omega) (by omega)⟩
 have w2:=wrap64 (x:=B+(8+A)) (by omega) (by omega)
 have w3:=wrap64 (x:=t.size * (B+(8+A))) (by omega) (by omega)
 have w4:=wrap64 (x:=t.size * (8+A)) (by omega) (by omega)
 have w5:=wrap64 (x:=t.size * B) (by omega) (by omega)
 have w6:=wrap64 (x:=t.size * (B+(8+A))+4095) (by omega) (by omega)
 have w7:=wrap64 (x:=t.size * (8+A)+4095) (by omega) (by omega)
 have w8:=wrap64 (x:=t.size * B+2047) (by omega) (by omega)
 have q1:(t.size * (B+(8+A))+4095).tdiv 4096=blocksOf (t.size * (B+(8+A))) 4096:=by
  rw [Int.tdiv_eq_ediv_of_nonneg (by omega),blocksOf,show t.size * (B+(8+A))+4096 - 1=t.size * (B+(8+A))+4095 by omega]
 have q2:(t.size * (8+A)+4095).tdiv 4096=blocksOf (t.size * (8+A)) 4096:=by
  rw [Int.tdiv_eq_ediv_of_nonneg (by omega),blocksOf,show t.size * (8+A)+4096 - 1=t.size * (8+A)+4095 by omega]
 have q3:(t.size * B+2047).tdiv 2048=blocksOf (t.size * B) 2048:=by
  rw [Int.tdiv_eq_ediv_of_nonneg (by omega),blocksOf,show t.size * B+2048 - 1=t.size * B+2047 by omega]
 have b1:0≤blocksOf (t.size * (B+(8+A))) 4096∧blocksOf (t.size * (B+(8+A))) 4096≤256 * 33000:=by unfold blocksOf; omega
 have b2:0≤blocksOf (t.size * (8+A)) 4096∧blocksOf (t.size * (8+A)) 4096≤256 * 33000:=by unfold blocksOf; omega
 have b3:0≤blocksOf (t.size * B) 2048∧blocksOf (t.size * B) 2048≤256 * 33000:=by unfold blocksOf; omega
 have w9:=wrap64 (x:=blocksOf (t.size * (B+(8+A))) 4096) (by omega) (by omega)
 have w10:=wrap64 (x:=blocksOf (t.size * (8+A)) 4096) (by omega) (by omega)
 have w11:=wrap64 (x:=blocksOf (t.size * B) 2048) (by omega) (by omega)
 by_cases kk:tblKind d i=1
 ·rw [if_pos kk] at hv
  simp [kk,aTbl,w2,w3,w6,q1,w9,hv]
 ·rw [if_neg kk] at hv
  simp [kk,aTbl,w4,w5,w7,w8,q2,q3,w10,w11,hv]
theorem runitCost_g (d:PrgD) (hU:PrgU d) (hN:PrgN d) (u:UnitD):Gives Tryz.prog 74 [fPrg d,fUnit u] (fRes (unitCost d u)):=by
 refine Gives.of mixed Tryz.func74 rfl rfl rfl (by kernel_rfl) ?_
 simp [fPrg,cPrg]
 refine call_g (rcost_g d hU hN u.table) ?_
 have hv:tblCost d u.table=unitCost d u:=by
  unfold unitCost
  split
  ·rename_i h
   unfold tblCost tblOf
   rw [h]
   split <;> rfl
  ·rfl
 simp [hv]
theorem radd_g (a b:Int) (ha:0≤a∧a≤9223372036854775807) (hb:b≤9223372036854775807):Gives Tryz.prog 130 [intF a,intF b] (intF (satAdd a (max b 0))):=by
 refine Gives.of mixed Tryz.func130 rfl rfl rfl (by kernel_rfl) ?_
 generalize hv:satAdd a (max b 0)=v
 rw [satAdd_min] at hv
 by_cases c1:b≤0
 ·rw [if_neg (by omega)] at hv
  obtain rfl:a=v:=by omega
  simp [c1]
 have w1:=wrap64 (x:=9223372036854775807 - b) (by omega) (by omega)
 by_cases c2:9223372036854775807 - b < a
 ·rw [if_pos (by omega)] at hv
  subst hv
  simp [c1,w1,c2]
 ·rw [if_neg (by omega)] at hv
  have w2:=wrap64 (x:=a+b) (by omega) (by omega)
  obtain rfl:a+b=v:=by omega
  simp [c1,w1,c2,w2]
def rsumI (l:List (Int × Int)) (c:Cap) (k:Nat) (s:St):Prop:=∃ y z,((l.take k).foldl sumStep (0,0))=(y,z)∧Vf.Sl [(0,.f (.sl (encL fRes l) c)),(2,.ref 0 0),(3,.ref 1 0),(4,.f (intF k))] 31 [[.f (intF 0),.f (intF 0)],[.f (intF y),.f (intF z)]] [] s
theorem rsum_g (l:List (Int × Int)) (c:Cap) (hl:l.length≤maxLen) (hb:∀ x ∈ l,x.1≤9223372036854775807∧x.2≤9223372036854775807):Gives Tryz.prog 70 [.sl (encL fRes l) c] (fRes (sumR l)):=by
 refine Gives.of mixed Tryz.func70 rfl rfl rfl (by kernel_rfl) ?_
 simp
 refine forX mixed l.length (rsumI l c) (by kernel_rfl) ⟨0,0,rfl,Sl.of rfl rfl rfl⟩ ?_
 rintro k ⟨ts,hh,kk⟩ hk ⟨y,z,hyz,rfl,rfl,f,rfl⟩
 have hbd:=sumFold_bd (l.take k) (0,0) ⟨by simp,by simp⟩
 rw [hyz] at hbd
 simp only at hbd
 by_cases hlt:k < l.length
 ·obtain ⟨x,hx,hx'⟩:=nth_of hlt
  have hb':=hb x (List.mem_of_getElem? hx')
  have hw:=wrap64 (x:=(k:Int)+1) (by omega) (by unfold maxLen at hl; omega)
  have hst:=fold_take2 hx'
  rw [hyz,sumStep_eq] at hst
  simp [hlt,hx]
  refine call_g (radd_g y x.1 hbd.1 hb'.1) ?_
  simp [hlt,hx]
  refine call_g (radd_g z x.2 hbd.2 hb'.2) ?_
  simp [hw]
  exact ⟨_,_,hst,Sl.of rfl rfl rfl⟩
 ·obtain rfl:k=l.length:=by omega
  rw [List.take_length] at hyz
  simp [sumR,hyz]
theorem rfits2_g (x:Int × Int) (c:ChipD):Gives Tryz.prog 69 [fRes x,fChip c] (boolF (decide (x.1≤c.sram) && decide (x.2≤c.tcam))):=by
 refine Gives.of mixed Tryz.func69 rfl rfl rfl (by kernel_rfl) ?_
 simp [fChip,cChip]
 by_cases c1:x.1≤c.sram
 ·simp [c1]
 ·simp [c1]
def SameM {α:Type} (a b:List α):Prop:=∀ z,z ∈ a ↔ z ∈ b
theorem SameM.rfl_ {α:Type} {a:List α}:SameM a a:=fun _=>Iff.rfl
theorem SameM.trans {α:Type} {a b c:List α} (h:SameM a b) (g:SameM b c):SameM a c:=fun z=>(h z).trans (g z)
theorem SameM.symm {α:Type} {a b:List α} (h:SameM a b):SameM b a:=fun z=>(h z).symm
theorem SameM.app {α:Type} {a b c e:List α} (h:SameM a b) (g:SameM c e):SameM (a ++ c) (b ++ e):=fun z=>by rw [List.mem_append,List.mem_append,h z,g z]
theorem compactUpTo_mem (d:Array Int) (z:Int):∀ m,z ∈ Lib.compactUpTo d m ↔ ∃ j,j < m∧d[j]! = z
 | 0=>by simp [Lib.compactUpTo]
 | m+1=>by
  rw [Lib.compactUpTo_succ,List.mem_append,compactUpTo_mem d z m]
  constructor
  ·rintro (⟨j,hj,e⟩ | h)
   ·exact ⟨j,by omega,e⟩
   ·split at h
    ·exact ⟨m,by omega,(List.mem_singleton.1 h).symm⟩
    ·cases h
  ·rintro ⟨j,hj,e⟩
   by_cases hjm:j=m
   ·subst hjm
    by_cases hk:Lib.keeps d j=true
    ·right; rw [if_pos hk]; exact List.mem_singleton.2 e.symm
    ·left
     unfold Lib.keeps at hk
     simp only [ne_eq,decide_eq_true_eq,not_or,Decidable.not_not] at hk
     exact ⟨j - 1,by omega,by rw [← hk.2]; exact e⟩
   ·exact .inl ⟨j,by omega,e⟩
theorem canZ_mem (l:List Int):SameM (canZ l) l:=fun z=>by
 unfold canZ compZM Lib.compact
 rw [compactUpTo_mem]
 have hp:z ∈ sortZM l ↔ z ∈ l:=by unfold sortZM; exact List.mem_mergeSort
 rw [← hp]
 constructor
 ·rintro ⟨j,hj,e⟩
  rw [← e,getElem!_pos _ _ (by simpa using hj)]
  simp
 ·intro h
  obtain ⟨j,hj,e⟩:=List.mem_iff_getElem.1 h
  exact ⟨j,hj,by rw [getElem!_pos _ _ (by simpa using hj)]; simpa using e⟩
theorem compTo_mem (l:List FR) (z:FR):∀ m,m≤l.length→(z ∈ compTo l m ↔ z ∈ l.take m)
 | 0,_=>by simp [compTo]
 | m+1,hm=>by
  have ih:=compTo_mem l z m (by omega)
  rw [compTo,List.mem_append,ih,List.take_add_one,List.mem_append]
  by_cases hk:keepR l m=true
  ·rw [if_pos hk]
  ·rw [if_neg hk]
   unfold keepR at hk
   simp only [ne_eq,decide_eq_true_eq,not_or,Decidable.not_not] at hk
   have:∀ y,y ∈ l[m]?.toList→y ∈ l.take m:=fun y hy=>by
    rw [hk.2] at hy
    have hm1:m - 1 < l.length:=by omega
    rw [List.getElem?_eq_getElem hm1] at hy
    have:y=l[m - 1]:=by simpa using hy
    rw [this]
    exact List.mem_take_iff_getElem.2 ⟨m - 1,by omega,rfl⟩
   constructor
   ·rintro (h | h); exact .inl h; cases h
   ·rintro (h | h); exact .inl h; exact .inl (this z h)
theorem canR_mem (l:List FR):SameM (canR l) l:=fun z=>by
 unfold canR compFM
 rw [compTo_mem _ _ _ (Nat.le_refl _),List.take_length]
 have h:=Sort.pdq_sorts (ltOf cmpF) swoF l.toArray 0 l.length (Lib.bitLen l.length) true true (Nat.zero_le _) (by simp) (.inl rfl)
 have hp:(sortRM l).Perm l:=permIn_list (by simpa using h.1)
 exact hp.mem_iff
def insBy {α:Type} (lt eq:α→α→Bool) (x:α):List α→List α
 | []=>[x]
 | y::l=>if lt y x then y::insBy lt eq x l else if eq y x then y::l else x::y::l
theorem insBy_mem {α:Type} {lt eq:α→α→Bool} (he:∀ a b,eq a b=true→a=b) (x:α):∀ (l:List α) (z:α),z ∈ insBy lt eq x l ↔ z ∈ l∨z=x
 | [],z=>by simp [insBy]
 | y::l,z=>by
  rw [insBy]
  split
  ·rw [List.mem_cons,insBy_mem he x l,List.mem_cons]
   constructor
   ·rintro (h | h | h); exact .inl (.inl h); exact .inl (.inr h); exact .inr h
   ·rintro ((h | h) | h); exact .inl h; exact .inr (.inl h); exact .inr (.inr h)
  ·split
   ·rename_i h
    constructor
    ·exact .inl
    ·rintro (h2 | h2)
     ·exact h2
     ·rw [h2,← he _ _ h]; exact List.mem_cons_self ..
   ·rw [List.mem_cons]
    constructor
    ·rintro (h | h); exact .inr h; exact .inl h
    ·rintro (h | h); exact .inr h; exact .inl h
theorem insBy_len {α:Type} {lt eq:α→α→Bool} (x:α):∀ l:List α,(insBy lt eq x l).length≤l.length+1
 | []=>Nat.le_refl _
 | y::l=>by
  rw [insBy]
  split
  ·have:=insBy_len (lt:=lt) (eq:=eq) x l; simp only [List.length_cons]; omega
  ·split <;> simp
theorem insBy_none {α:Type} {lt eq:α→α→Bool} {x:α}:∀ {a:List α} (b:List α),(∀ y ∈ a,lt y x=true)→insBy lt eq x (a ++ b)=a ++ insBy lt eq x b
 | [],b,_=>rfl
 | y::a,b,h=>by
  rw [List.cons_append,insBy,if_pos (h y (.head _)),insBy_none b fun z hz=>h z (.tail _ hz)]; rfl
theorem insBy_app {α:Type} {lt eq:α→α→Bool} {x:α}:∀ {a:List α} (b:List α),a.any (fun y=>!lt y x)=true→insBy lt eq x (a ++ b)=insBy lt eq x a ++ b
 | [],b,h=>by cases h
 | y::a,b,h=>by
  rw [List.cons_append,insBy,insBy]
  split
  ·rename_i h1
   rw [insBy_app b (by simpa [h1] using h)]; rfl
  ·split <;> rfl
abbrev insZ:Int→List Int→List Int:=insBy (fun y x=>decide (y < x)) (fun y x=>decide (y=x))
abbrev ltR (a b:FR):Bool:=decide (a.1 < b.1) || (decide (a.1=b.1) && decide (a.2 < b.2))
abbrev insR:FR→List FR→List FR:=insBy ltR (fun a b=>decide (a.1=b.1) && decide (a.2=b.2))
theorem insZ_mem (x:Int) (l:List Int) (z:Int):z ∈ insZ x l ↔ z ∈ l∨z=x:=insBy_mem (fun a b h=>by simpa using h) x l z
theorem insR_mem (x:FR) (l:List FR) (z:FR):z ∈ insR x l ↔ z ∈ l∨z=x:=insBy_mem (fun a b h=>by simp at h; exact Prod.ext h.1 h.2) x l z
def allIn {α:Type} (ins:α→List α→List α) (a l:List α):List α:=l.foldl (fun a x=>ins x a) a
theorem allIn_next {α:Type} {ins:α→List α→List α} {a l:List α} {i:Nat} {x:α} (h:l[i]?=some x):allIn ins a (l.take (i+1))=ins x (allIn ins a (l.take i)):=by
 unfold allIn
 rw [← take_one h,List.foldl_append]; rfl
theorem allIn_mem {α:Type} {ins:α→List α→List α} (hm:∀ x l z,z ∈ ins x l ↔ z ∈ l∨z=x):∀ (l a:List α),SameM (allIn ins a l) (a ++ l)
 | [],a=>fun z=>by simp [allIn]
 | x::l,a=>fun z=>by
  have:=allIn_mem hm l (ins x a) z
  show z ∈ allIn ins (ins x a) l ↔ _
  rw [this,List.mem_append,hm,List.mem_append,List.mem_cons]
  constructor
  ·rintro ((h | h) | h); exact .inl h; exact .inr (.inl h); exact .inr (.inr h)
  ·rintro (h | h | h); exact .inl (.inl h); exact .inl (.inr h); exact .inr h
theorem allIn_len {α:Type} {ins:α→List α→List α} (hl:∀ x l,(ins x l).length≤l.length+1):∀ (l a:List α),(allIn ins a l).length≤a.length+l.length
 | [],a=>by simp [allIn]
 | x::l,a=>by
  have h1:=allIn_len hl l (ins x a)
  have h2:=hl x a
  show (allIn ins (ins x a) l).length≤_
  simp only [List.length_cons]
  omega
def insM (n:Int) (l:List Int):List Int:=if n < 0 then l else insZ n l
theorem insM_mem (n:Int) (l:List Int) (z:Int):z ∈ insM n l ↔ z ∈ l∨(0≤n∧z=n):=by
 unfold insM
 split
 ·constructor
  ·exact .inl
  ·rintro (h | h); exact h; omega
 ·rw [insZ_mem]
  constructor
  ·rintro (h | h); exact .inl h; exact .inr ⟨by omega,h⟩
  ·rintro (h | h); exact .inl h; exact .inr h.2
theorem insM_len (n:Int) (l:List Int):(insM n l).length≤l.length+1:=by
 unfold insM
 split
 ·omega
 ·exact insBy_len _ _
def insAll (L:List Int) (l:List Int):List Int:=l.foldl (fun L n=>insM n L) L
theorem insAll_next {L l:List Int} {i:Nat} {x:Int} (h:l[i]?=some x):insAll L (l.take (i+1))=insM x (insAll L (l.take i)):=by
 unfold insAll
 rw [← take_one h,List.foldl_append]; rfl
theorem insAll_len:∀ (l L:List Int),(insAll L l).length≤L.length+l.length
 | [],L=>by simp [insAll]
 | x::l,L=>by
  have h1:=insAll_len l (insM x L)
  have h2:=insM_len x L
  show (insAll (insM x L) l).length≤_
  simp only [List.length_cons]
  omega
theorem insAll_put:∀ (l L K:List Int),SameM L K→SameM (insAll L l) (l.foldl putM K)
 | [],L,K,h=>h
 | x::l,L,K,h=>insAll_put l (insM x L) (putM K x) fun z=>by
  rw [insM_mem]
  unfold putM
  split
  ·rw [List.mem_append,List.mem_singleton,h z]
   constructor
   ·rintro (h | h); exact .inl h; exact .inr h.2
   ·rintro (h | h); exact .inl h; exact .inr ⟨by omega,h⟩
  ·rw [h z]
   constructor
   ·rintro (h | h); exact h; omega
   ·exact .inl
theorem mem_put (L:List Int) (x z:Int):z ∈ putM L x ↔ z ∈ L∨(0≤x∧z=x):=by
 unfold putM
 split
 ·rw [List.mem_append,List.mem_singleton]
  constructor
  ·rintro (h | h); exact .inl h; exact .inr ⟨by omega,h⟩
  ·rintro (h | h); exact .inl h; exact .inr h.2
 ·constructor
  ·exact .inl
  ·rintro (h | h); exact h; omega
theorem mem_puts:∀ (l L:List Int) (z:Int),z ∈ l.foldl putM L ↔ z ∈ L∨(0≤z∧z ∈ l)
 | [],L,z=>by simp
 | x::l,L,z=>by
  rw [List.foldl_cons,mem_puts l,mem_put,List.mem_cons]
  constructor
  ·rintro ((h | ⟨h,rfl⟩) | h); exact .inl h; exact .inr ⟨h,.inl rfl⟩; exact .inr ⟨h.1,.inr h.2⟩
  ·rintro (h | ⟨h,rfl | h2⟩); exact .inl (.inl h); exact .inl (.inr ⟨h,rfl⟩); exact .inr ⟨h,h2⟩
structure SameT (a b:Tri):Prop where
 F:SameM a.F b.F
 M:SameM a.M b.M
 G:SameM a.G b.G
theorem putAll_same {α:Type} (f:α→Int) {L K:List Int} {l m:List α} (h:SameM L K) (g:SameM l m):SameM (putAll f L l) (putAll f K m):=fun z=>by
 unfold putAll
 rw [mem_puts,mem_puts,h z]
 have:z ∈ l.map f ↔ z ∈ m.map f:=by
  rw [List.mem_map,List.mem_map]
  constructor
  ·rintro ⟨a,ha,e⟩; exact ⟨a,(g a).1 ha,e⟩
  ·rintro ⟨a,ha,e⟩; exact ⟨a,(g a).2 ha,e⟩
 rw [this]
theorem addM_same {d:PrgD} {L K:List Int} {a b:Tri} (h:SameM L K) (g:SameT a b):SameM (addM d L a) (addM d K b) :=
 putAll_same _ (putAll_same _ (putAll_same _ h g.F) g.M) g.G
def gathM (d:PrgD) (L:List Int) (T:Tri):List Int:=insAll (insAll (insAll L (T.F.map fun r:FR=>fieldCell d r.1 r.2)) (T.M.map (cellM d 1))) (T.G.map (cellM d 3))
theorem gathM_same {d:PrgD} {L K:List Int} {a b:Tri} (h:SameM L K) (g:SameT a b):SameM (gathM d L a) (addM d K b) :=
 SameM.trans (insAll_put _ _ _ (insAll_put _ _ _ (insAll_put _ _ _ h))) (addM_same SameM.rfl_ g)
theorem gathM_len (d:PrgD) (L:List Int) (T:Tri):(gathM d L T).length≤L.length+T.F.length+T.M.length+T.G.length:=by
 unfold gathM
 have h1:=insAll_len (T.F.map fun r:FR=>fieldCell d r.1 r.2) L
 have h2:=insAll_len (T.M.map (cellM d 1)) (insAll L (T.F.map fun r:FR=>fieldCell d r.1 r.2))
 have h3:=insAll_len (T.G.map (cellM d 3)) (insAll (insAll L (T.F.map fun r:FR=>fieldCell d r.1 r.2)) (T.M.map (cellM d 1)))
 simp only [List.length_map] at h1 h2 h3
 omega
theorem comB_same {a b c e:List Int} (h:SameM a b) (g:SameM c e):comB a c=comB b e:=by
 unfold comB
 rw [Bool.eq_iff_iff,List.any_eq_true,List.any_eq_true]
 constructor
 ·rintro ⟨x,hx,hy⟩
  obtain ⟨y,hy,e⟩:=List.any_eq_true.1 hy
  exact ⟨x,(h x).1 hx,List.any_eq_true.2 ⟨y,(g y).1 hy,e⟩⟩
 ·rintro ⟨x,hx,hy⟩
  obtain ⟨y,hy,e⟩:=List.any_eq_true.1 hy
  exact ⟨x,(h x).2 hx,List.any_eq_true.2 ⟨y,(g y).2 hy,e⟩⟩
theorem depM_same {R R' W W':Nat→List Int} (h:∀ a,SameM (R a) (R' a)) (g:∀ a,SameM (W a) (W' a)) (us:List UnitD) (a b:Nat):depM R W us a b=depM R' W' us a b:=by
 unfold depM
 rw [comB_same (h b) (g a),comB_same (g b) (g a),comB_same (g b) (h a)]
end Go.Proofs.YtafenffmgpcjcaaGreat
namespace Go.Proofs.YtafenffmgpcjcaaGreat
open Go.RowKit Go.Proofs.YtafenffmgpcjcaaGreat.Vf
set_option linter.unusedVariables false
set_option linter.unusedSimpArgs false
set_option maxRecDepth 100000
set_option maxHeartbeats 4000000
@[simp] theorem ownF_cells (l:List FV):(ownF l).cells=[ownF l]:=by unfold ownF; split <;> rfl
@[simp] theorem ownF_one (l:List FV):(AV.f (ownF l)).one=true:=by unfold ownF; split <;> rfl
theorem ownF_ne {l:List FV} (h:l ≠ []):ownF l=sl l:=if_neg h
section
variable {α:Type} (lt eq:α→α→Bool) (x:α)
def hasO (l:List α) (i:Nat):Bool:=(l.take i).any fun y=>!lt y x
def putO (l:List α) (i:Nat):List α:=if hasO lt x l i=true then insBy lt eq x (l.take i) else l.take i
variable {lt eq x} {l:List α} {i:Nat} {y:α}
theorem hasO_next (h:l[i]?=some y):hasO lt x l (i+1)=(hasO lt x l i || !lt y x):=by
 unfold hasO
 rw [take_snoc h,List.any_append]
 simp
theorem hasO_low (hp:hasO lt x l i=false):∀ y ∈ l.take i,lt y x=true:=fun y hy=>by
 have:=List.any_eq_false.1 hp y hy
 simpa using this
theorem putO_old (h:l[i]?=some y) (hp:hasO lt x l i=true):putO lt eq x l (i+1)=putO lt eq x l i ++ [y]∧hasO lt x l (i+1)=true:=by
 have h2:hasO lt x l (i+1)=true:=by rw [hasO_next h,hp]; rfl
 refine ⟨?_,h2⟩
 unfold putO
 rw [if_pos h2,if_pos hp,take_snoc h,insBy_app [y] hp]
theorem putO_low (h:l[i]?=some y) (hp:hasO lt x l i=false) (hl:lt y x=true):putO lt eq x l (i+1)=putO lt eq x l i ++ [y]∧hasO lt x l (i+1)=false:=by
 have h2:hasO lt x l (i+1)=false:=by rw [hasO_next h,hp,hl]; rfl
 refine ⟨?_,h2⟩
 unfold putO
 rw [if_neg (by rw [h2]; decide),if_neg (by rw [hp]; decide),take_snoc h]
theorem putO_same (h:l[i]?=some y) (hp:hasO lt x l i=false) (hl:lt y x=false) (he:eq y x=true):putO lt eq x l (i+1)=putO lt eq x l i ++ [y]∧hasO lt x l (i+1)=true:=by
 have h2:hasO lt x l (i+1)=true:=by rw [hasO_next h,hp,hl]; rfl
 refine ⟨?_,h2⟩
 unfold putO
 rw [if_pos h2,if_neg (by rw [hp]; decide),take_snoc h,insBy_none [y] (hasO_low hp),insBy,hl,he]
 rfl
theorem putO_put (h:l[i]?=some y) (hp:hasO lt x l i=false) (hl:lt y x=false) (he:eq y x=false):putO lt eq x l (i+1)=putO lt eq x l i ++ [x] ++ [y]∧hasO lt x l (i+1)=true:=by
 have h2:hasO lt x l (i+1)=true:=by rw [hasO_next h,hp,hl]; rfl
 refine ⟨?_,h2⟩
 unfold putO
 rw [if_pos h2,if_neg (by rw [hp]; decide),take_snoc h,insBy_none [y] (hasO_low hp),insBy,hl,he]
 simp
theorem putO_end (hp:hasO lt x l l.length=true):putO lt eq x l l.length=insBy lt eq x l:=by
 unfold putO
 rw [if_pos hp,List.take_length]
theorem putO_last (hp:hasO lt x l l.length=false):putO lt eq x l l.length ++ [x]=insBy lt eq x l:=by
 unfold putO
 have h:=hasO_low hp
 rw [if_neg (by rw [hp]; decide),List.take_length]
 rw [List.take_length] at h
 have:=insBy_none (eq:=eq) [] h
 rw [List.append_nil] at this
 rw [this]; rfl
theorem putO_len (l:List α) (i:Nat):(putO lt eq x l i).length≤l.length+1:=by
 unfold putO
 have h1:(l.take i).length≤l.length:=by rw [List.length_take]; omega
 split
 ·have:=insBy_len (lt:=lt) (eq:=eq) x (l.take i); omega
 ·omega
end
theorem insBy_ne {α:Type} {lt eq:α→α→Bool} (x:α) (l:List α):insBy lt eq x l ≠ []:=by
 cases l with
 | nil=>simp [insBy]
 | cons y l=>rw [insBy]; split; simp; split <;> simp
abbrev ltZ (y x:Int):Bool:=decide (y < x)
abbrev eqZ (y x:Int):Bool:=decide (y=x)
def raiI (l:List Int) (c:Cap) (x:Int) (i:Nat) (s:St):Prop:=∃ g k y t,OwnT k (encL intF (putO ltZ eqZ x l i)) 1 y t∧Vf.Sl [(0,.f (.sl (encL intF l) c)),(1,.f (intF x)),(5,y),(6,.f (boolF (hasO ltZ x l i))),(7,.f (intF i))] 48 g k s
theorem raddZ_g (l:List Int) (x:Int) (hl:l.length≤1000000):Gives Tryz.prog 189 [ownF (encL intF l),intF x] (ownF (encL intF (insZ x l))):=by
 refine Gives.of mixed Tryz.func189 rfl rfl rfl (by kernel_rfl) ?_
 obtain ⟨c,hc⟩:=ownF_is (encL intF l)
 rw [hc]
 simp
 refine forX mixed l.length (raiI l c x) (by kernel_rfl) ⟨[],_,_,0,.nil,Sl.of rfl rfl rfl⟩ ?_
 rintro i ⟨ts,hh,kk⟩ hi ⟨g,k,z,t,ho,rfl,rfl,f,rfl⟩
 have hpl:=putO_len (lt:=ltZ) (eq:=eqZ) (x:=x) l i
 by_cases hlt:i < l.length
 ·obtain ⟨y,hy,hy'⟩:=nth_of hlt
  have hw:=wrap64 (x:=(i:Int)+1) (by omega) (by omega)
  obtain ⟨t',k',e,ho',_⟩:=append_own ty29 ty3 (by simp) ho (y:=.f (.sl [intF y] .full)) rfl (by simp) (by simp) (by simp; omega) (by simp; omega)
  have e2:encL intF (putO ltZ eqZ x l i) ++ [intF y]=encL intF (putO ltZ eqZ x l i ++ [y]):=by simp [encL]
  rw [e2] at e ho'
  cases hp:hasO ltZ x l i with
  | true =>
   obtain ⟨q1,q2⟩:=putO_old (eq:=eqZ) hy' hp
   rw [← q1] at e ho'
   simp [hlt,hp,hy,-opAppend]
   rw [e]
   simp [hw]
   exact ⟨_,_,_,_,ho',by rw [q2]; exact Sl.of rfl rfl rfl⟩
  | false =>
   by_cases c1:y < x
   ·obtain ⟨q1,q2⟩:=putO_low (eq:=eqZ) hy' hp (by simpa using c1)
    have c1':¬ x≤y:=by omega
    rw [← q1] at e ho'
    simp [hlt,hp,hy,c1',-opAppend]
    rw [e]
    simp [hw]
    exact ⟨_,_,_,_,ho',by rw [q2]; exact Sl.of rfl rfl rfl⟩
   ·have c1':x≤y:=by omega
    by_cases c2:y=x
    ·obtain ⟨q1,q2⟩:=putO_same (eq:=eqZ) hy' hp (by simpa using c1) (by simpa using c2)
     rw [← q1] at e ho'
     subst c2
     simp [hlt,hp,hy,-opAppend]
     rw [e]
     simp [hw]
     exact ⟨_,_,_,_,ho',by rw [q2]; exact Sl.of rfl rfl rfl⟩
    ·obtain ⟨q1,q2⟩:=putO_put (eq:=eqZ) hy' hp (by simpa using c1) (by simpa using c2)
     clear e ho'
     obtain ⟨t1,k1,e1,ho1,_⟩:=append_own ty29 ty3 (by simp) ho (y:=.f (.sl [intF x] .full)) rfl (by simp) (by simp) (by simp; omega) (by simp; omega)
     rw [enc_one] at e1 ho1
     obtain ⟨t2,k2,e2,ho2,_⟩:=append_own ty29 ty3 (by simp) ho1 (y:=.f (.sl [intF y] .full)) rfl (by simp) (by simp) (by simp; omega) (by simp; omega)
     rw [enc_one,← q1] at e2 ho2
     simp [hlt,hp,hy,c1',c2,-opAppend]
     rw [e1]
     simp [hlt,hy,-opAppend]
     rw [e2]
     simp [hw]
     exact ⟨_,_,_,_,ho2,by rw [q2]; exact Sl.of rfl rfl rfl⟩
 ·obtain rfl:i=l.length:=by omega
  cases hp:hasO ltZ x l l.length with
  | true =>
   rw [putO_end hp] at ho
   simp [hp]
   rw [ho.ret]
  | false =>
   obtain ⟨t1,k1,e1,ho1,_⟩:=append_own ty29 ty3 (by simp) ho (y:=.f (.sl [intF x] .full)) rfl (by simp) (by simp) (by simp; omega) (by simp; omega)
   rw [enc_one,putO_last (eq:=eqZ) hp] at e1 ho1
   simp [hp,-opAppend]
   rw [e1]
   simp
   exact (ownF_ne (by simp [encL,insBy_ne])).symm
end Go.Proofs.YtafenffmgpcjcaaGreat
namespace Go.Proofs.YtafenffmgpcjcaaGreat
open Go.RowKit Go.Proofs.YtafenffmgpcjcaaGreat.Vf
set_option linter.unusedVariables false
set_option linter.unusedSimpArgs false
set_option maxRecDepth 100000
set_option maxHeartbeats 4000000
theorem rless_g (a b:FR):Gives Tryz.prog 242 [fRp a,fRp b] (boolF (ltR a b)):=by
 refine Gives.of mixed Tryz.func242 rfl rfl rfl (by kernel_rfl) ?_
 obtain ⟨a1,a2⟩:=a
 obtain ⟨b1,b2⟩:=b
 by_cases c1:a1 < b1
 ·simp [ltR,c1]
 by_cases c2:a1=b1
 ·by_cases c3:a2 < b2 <;> simp [ltR,c1,c2,c3]
 ·simp [ltR,c1,c2]
abbrev eqR (a b:FR):Bool:=decide (a.1=b.1) && decide (a.2=b.2)
def rafI (l:List FR) (c:Cap) (x:FR) (i:Nat) (s:St):Prop:=∃ g k y t,OwnT k (encL fRp (putO ltR eqR x l i)) 2 y t∧Vf.Sl [(0,.f (.sl (encL fRp l) c)),(3,.ref 0 0),(5,y),(6,.f (boolF (hasO ltR x l i))),(7,.f (intF i))] 49 ([.f (intF x.1),.f (intF x.2)]::g) k s
theorem enc_oneR (l:List FR) (x:FR):encL fRp l ++ [.agg [intF x.1,intF x.2]]=encL fRp (l ++ [x]):=by simp [encL]
theorem raddF_g (l:List FR) (x:FR) (hl:l.length≤1000000):Gives Tryz.prog 188 [ownF (encL fRp l),fRp x] (ownF (encL fRp (insR x l))):=by
 refine Gives.of mixed Tryz.func188 rfl rfl rfl (by kernel_rfl) ?_
 obtain ⟨c,hc⟩:=ownF_is (encL fRp l)
 rw [hc]
 simp
 refine forX mixed l.length (rafI l c x) (by kernel_rfl) ⟨[],_,_,0,.nil,Sl.of rfl rfl rfl⟩ ?_
 rintro i ⟨ts,hh,kk⟩ hi ⟨g,k,z,t,ho,rfl,rfl,f,rfl⟩
 have hpl:=putO_len (lt:=ltR) (eq:=eqR) (x:=x) l i
 by_cases hlt:i < l.length
 ·obtain ⟨y,hy,hy'⟩:=nth_of hlt
  have hw:=wrap64 (x:=(i:Int)+1) (by omega) (by omega)
  obtain ⟨t',k',e,ho',_⟩:=append_own ty187 ty71 (by simp) ho (y:=.f (.sl [.agg [intF y.1,intF y.2]] .full)) rfl (by simp) (by simp) (by simp; omega) (by simp; omega)
  rw [enc_oneR] at e ho'
  have hL:=rless_g y x
  cases hp:hasO ltR x l i with
  | true =>
   obtain ⟨q1,q2⟩:=putO_old (eq:=eqR) hy' hp
   rw [← q1] at e ho'
   simp [hlt,hp,hy,-opAppend]
   rw [e]
   simp [hw]
   exact ⟨_,_,_,_,ho',by rw [q2]; exact Sl.of rfl rfl rfl⟩
  | false =>
   simp [hlt,hp,hy,-opAppend]
   refine call_g hL ?_
   cases c1:ltR y x with
   | true =>
    obtain ⟨q1,q2⟩:=putO_low (eq:=eqR) hy' hp c1
    rw [← q1] at e ho'
    simp [hlt,hy,-opAppend]
    rw [e]
    simp [hw]
    exact ⟨_,_,_,_,ho',by rw [q2]; exact Sl.of rfl rfl rfl⟩
   | false =>
    cases c2:(decide (y.1=x.1) && decide (y.2=x.2)) with
    | true =>
     obtain ⟨q1,q2⟩:=putO_same (eq:=eqR) hy' hp c1 c2
     rw [← q1] at e ho'
     have hx:y=x:=by simp at c2; exact Prod.ext c2.1 c2.2
     subst hx
     simp [hlt,hy,-opAppend]
     rw [e]
     simp [hw]
     exact ⟨_,_,_,_,ho',by rw [q2]; exact Sl.of rfl rfl rfl⟩
    | false =>
     obtain ⟨q1,q2⟩:=putO_put (eq:=eqR) hy' hp c1 c2
     clear e ho'
     obtain ⟨t1,k1,e1,ho1,_⟩:=append_own ty187 ty71 (by simp) ho (y:=.f (.sl [.agg [intF x.1,intF x.2]] .full)) rfl (by simp) (by simp) (by simp; omega) (by simp; omega)
     rw [enc_oneR] at e1 ho1
     obtain ⟨t2,k2,e2,ho2,_⟩:=append_own ty187 ty71 (by simp) ho1 (y:=.f (.sl [.agg [intF y.1,intF y.2]] .full)) rfl (by simp) (by simp) (by simp; omega) (by simp; omega)
     rw [enc_oneR,← q1] at e2 ho2
     have c3:(!decide (y.1=x.1) || !decide (y.2=x.2))=true:=by rw [← Bool.not_and,c2]; rfl
     simp [hlt,hy,c3,-opAppend]
     rw [e1]
     simp [hlt,hy,-opAppend]
     rw [e2]
     simp [hw]
     exact ⟨_,_,_,_,ho2,by rw [q2]; exact Sl.of rfl rfl rfl⟩
 ·obtain rfl:i=l.length:=by omega
  cases hp:hasO ltR x l l.length with
  | true =>
   rw [putO_end hp] at ho
   simp [hp]
   rw [ho.ret]
  | false =>
   obtain ⟨t1,k1,e1,ho1,_⟩:=append_own ty187 ty71 (by simp) ho (y:=.f (.sl [.agg [intF x.1,intF x.2]] .full)) rfl (by simp) (by simp) (by simp; omega) (by simp; omega)
   rw [enc_oneR,putO_last (eq:=eqR) hp] at e1 ho1
   simp [hp,-opAppend]
   rw [e1]
   simp
   exact (ownF_ne (by simp [encL,insBy_ne])).symm
def FL (n:List ExD):List FR:=allIn insR [] (fldsTo n)
def HL (n:List ExD):List Int:=allIn insZ [] (hdrsTo n)
theorem allIn_snoc {α:Type} (ins:α→List α→List α) (a l:List α) (x:α):allIn ins a (l ++ [x])=ins x (allIn ins a l):=by unfold allIn; rw [List.foldl_append]; rfl
theorem FL_next {l:List ExD} {i:Nat} {x:ExD} (hx:l[i]?=some x):FL (l.take (i+1))=if x.op=2 then insR (x.n,x.w) (FL (l.take i)) else FL (l.take i):=by
 unfold FL
 rw [fldsTo_next hx]
 split
 ·rw [allIn_snoc]
 ·rfl
theorem HL_next {l:List ExD} {i:Nat} {x:ExD} (hx:l[i]?=some x):HL (l.take (i+1))=if x.op=4 then insZ x.n (HL (l.take i)) else HL (l.take i):=by
 unfold HL
 rw [hdrsTo_next hx]
 split
 ·rw [allIn_snoc]
 ·rfl
theorem FL_len (l:List ExD) (i:Nat):(FL (l.take i)).length≤l.length:=by
 have h:=allIn_len (ins:=insR) (fun x l=>insBy_len x l) (fldsTo (l.take i)) []
 have h2:=fldsTo_len l i
 unfold FL
 simp only [List.length_nil,Nat.zero_add] at h
 omega
theorem HL_len (l:List ExD) (i:Nat):(HL (l.take i)).length≤l.length:=by
 have h:=allIn_len (ins:=insZ) (fun x l=>insBy_len x l) (hdrsTo (l.take i)) []
 have h2:=hdrsTo_len l i
 unfold HL
 simp only [List.length_nil,Nat.zero_add] at h
 omega
theorem rfields_g (n:List ExD) (c:Cap) (hl:n.length≤1000000):Gives Tryz.prog 136 [.sl (encL fEx n) c] (ownF (encL fRp (FL n))):=by
 refine Gives.of mixed Tryz.func136 rfl rfl rfl (by kernel_rfl) ?_
 simp
 refine forX mixed n.length (fun i st=>∃ g,Vf.Sl [(0,.f (.sl (encL fEx n) c)),(3,.f (ownF (encL fRp (FL (n.take i))))),(4,.f (intF i))] 31 g [] st) (by kernel_rfl) ⟨[],Sl.of rfl rfl rfl⟩ ?_
 rintro i ⟨ts,hh,kk⟩ hi ⟨g,rfl,rfl,f,rfl⟩
 by_cases hlt:i < n.length
 ·obtain ⟨x,hx,hx'⟩:=nth_of hlt
  have hw:=wrap64 (x:=(i:Int)+1) (by omega) (by omega)
  have hnx:=FL_next hx'
  have hle:=FL_len n i
  by_cases c2:x.op=2
  ·rw [if_pos c2] at hnx
   simp [hlt,hx,c2]
   refine call_g (raddF_g (FL (n.take i)) (x.n,x.w) (by omega)) ?_
   simp [hw]
   exact ⟨_,by rw [hnx]; exact Sl.of rfl rfl rfl⟩
  ·rw [if_neg c2] at hnx
   simp [hlt,hx,c2,hw]
   exact ⟨_,by rw [hnx]; exact Sl.of rfl rfl rfl⟩
 ·obtain rfl:i=n.length:=by omega
  simp
theorem rheadersL_g (n:List ExD) (c:Cap) (hl:n.length≤1000000):Gives Tryz.prog 137 [.sl (encL fEx n) c] (ownF (encL intF (HL n))):=by
 refine Gives.of mixed Tryz.func137 rfl rfl rfl (by kernel_rfl) ?_
 simp
 refine forX mixed n.length (fun i st=>∃ g,Vf.Sl [(0,.f (.sl (encL fEx n) c)),(3,.f (ownF (encL intF (HL (n.take i))))),(4,.f (intF i))] 25 g [] st) (by kernel_rfl) ⟨[],Sl.of rfl rfl rfl⟩ ?_
 rintro i ⟨ts,hh,kk⟩ hi ⟨g,rfl,rfl,f,rfl⟩
 by_cases hlt:i < n.length
 ·obtain ⟨x,hx,hx'⟩:=nth_of hlt
  have hw:=wrap64 (x:=(i:Int)+1) (by omega) (by omega)
  have hnx:=HL_next hx'
  have hle:=HL_len n i
  by_cases c2:x.op=4
  ·rw [if_pos c2] at hnx
   simp [hlt,hx,c2]
   refine call_g (raddZ_g (HL (n.take i)) x.n (by omega)) ?_
   simp [hw]
   exact ⟨_,by rw [hnx]; exact Sl.of rfl rfl rfl⟩
  ·rw [if_neg c2] at hnx
   simp [hlt,hx,c2,hw]
   exact ⟨_,by rw [hnx]; exact Sl.of rfl rfl rfl⟩
 ·obtain rfl:i=n.length:=by omega
  simp
end Go.Proofs.YtafenffmgpcjcaaGreat
