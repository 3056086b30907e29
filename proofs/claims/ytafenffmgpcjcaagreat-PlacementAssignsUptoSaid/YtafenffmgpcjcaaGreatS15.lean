/- Texts of the proof: S15. -/
import Derived.Test.YtafenffmgpcjcaaGreatS14
import Derived.Test.YtafenffmgpcjcaaGreatVC1
namespace Go.Proofs.YtafenffmgpcjcaaGreat
open Go.RowKit Go.Proofs.YtafenffmgpcjcaaGreat.Vf
set_option linter.unusedVariables false
set_option linter.unusedSimpArgs false
set_option maxRecDepth 100000
set_option maxHeartbeats 4000000
def big2 (s : StD) : Bool:=decide ((60 : Int) < s.index.l.length) || decide ((60 : Int) < s.value.l.length)
def big1 (a : ActD) : Bool:=decide ((20 : Int) < a.params.l.length) || (decide ((30 : Int) < a.body.l.length) || a.body.l.any big2)
def big3 (h : HdrD) : Bool:=decide ((40 : Int) < h.fields.l.length)
def big4 (r : RegD) : Bool:=decide (200 < r.size)
def sm16 (d : PrgD) : Bool:=if (20 : Int) < d.headers.l.length then false else if (30 : Int) < d.meta_.l.length then false else if (20 : Int) < d.regs.l.length then false else if (40 : Int) < d.acts.l.length then false else
 !d.acts.l.any big1 && (!d.headers.l.any big3 && !d.regs.l.any big4)
def s6A (d : PrgD) (i : Nat) (s : St) : Prop:=noneT big1 d.acts.l i∧Vf.Sl [(1,.ref 0 0),(3,.f (intF i))] 120 [aPrg d] [] s
def s6B (d : PrgD) (a : ActD) (i j : Nat) (s : St) : Prop:=noneT big2 a.body.l j∧Vf.Sl [(1,.ref 0 0),(3,.f (intF i)),(4,.f (intF j))] 120 [aPrg d] [] s
def s6C (d : PrgD) (i : Nat) (s : St) : Prop:=noneT big3 d.headers.l i∧Vf.Sl [(1,.ref 0 0),(5,.f (intF i))] 120 [aPrg d] [] s
def s6D (d : PrgD) (i : Nat) (s : St) : Prop:=noneT big4 d.regs.l i∧Vf.Sl [(1,.ref 0 0),(6,.f (intF i))] 120 [aPrg d] [] s
theorem small16_g (d : PrgD) : Gives Tryz.prog 22 [fPrg d] (boolF (sm16 d)):=by
 refine Gives.of mixed Tryz.func22 rfl rfl rfl (by kernel_rfl) ?_
 generalize hv : sm16 d = v
 unfold sm16 at hv
 simp [fPrg,cPrg]
 by_cases h1 : (20 : Int) < d.headers.l.length
 ·rw [if_pos h1] at hv; subst hv
  simp [h1]
 rw [if_neg h1] at hv
 by_cases h2 : (30 : Int) < d.meta_.l.length
 ·rw [if_pos h2] at hv; subst hv
  simp [h1,h2]
 rw [if_neg h2] at hv
 by_cases h3 : (20 : Int) < d.regs.l.length
 ·rw [if_pos h3] at hv; subst hv
  simp [h1,h2,h3]
 rw [if_neg h3] at hv
 by_cases h4 : (40 : Int) < d.acts.l.length
 ·rw [if_pos h4] at hv; subst hv
  simp [h1,h2,h3,h4]
 rw [if_neg h4] at hv
 simp [h1,h2,h3,h4]
 have q1 : d.headers.l.length ≤ 20:=by omega
 have q2 : d.regs.l.length ≤ 20:=by omega
 have q3 : d.acts.l.length ≤ 40:=by omega
 refine forX mixed d.acts.l.length (s6A d) (by kernel_rfl) ⟨.zero,Sl.of rfl rfl rfl⟩ ?_
 rintro i ⟨ts,hh,kk⟩ hi ⟨hno,rfl,rfl,f,rfl⟩
 by_cases hlt : i < d.acts.l.length
 ·obtain ⟨a,ha,ha'⟩:=nth_of hlt
  have hw:=wrap64 (x:=(i : Int) + 1) (by omega) (by omega)
  have hit : big1 a = true→v = false:=fun h=>by rw [← hv,any_hit ha' h]; rfl
  by_cases a1 : (20 : Int) < a.params.l.length
  ·obtain rfl:=hit (by simp [big1,a1])
   simp [aPrg,hlt,ha,a1]
  by_cases a2 : (30 : Int) < a.body.l.length
  ·obtain rfl:=hit (by simp [big1,a2])
   simp [aPrg,hlt,ha,a1,a2]
  simp [aPrg,hlt,ha,a1,a2]
  refine forX mixed a.body.l.length (s6B d a i) (by kernel_rfl) ⟨.zero,Sl.of rfl rfl rfl⟩ ?_
  rintro j ⟨ts,hh,kk⟩ hj ⟨hno2,rfl,rfl,f,rfl⟩
  by_cases hlj : j < a.body.l.length
  ·obtain ⟨s,hs,hs'⟩:=nth_of hlj
   have hw2:=wrap64 (x:=(j : Int) + 1) (by omega) (by omega)
   have hit2 : big2 s = true→v = false:=fun h=>hit (by unfold big1; rw [any_hit hs' h]; simp)
   by_cases b1 : (60 : Int) < s.index.l.length
   ·obtain rfl:=hit2 (by simp [big2,b1])
    simp [aPrg,hlt,ha,hlj,hs,b1]
   by_cases b2 : (60 : Int) < s.value.l.length
   ·obtain rfl:=hit2 (by simp [big2,b2])
    simp [aPrg,hlt,ha,hlj,hs,b1,b2]
   simp [aPrg,hlt,ha,hlj,hs,b1,b2,hw2]
   exact ⟨hno2.next hs' (by simp [big2,b1,b2]),Sl.of rfl rfl rfl⟩
  ·have hal:=hno2.all hlj
   simp [aPrg,hlt,ha,hlj,hw]
   exact ⟨hno.next ha' (by simp [big1,a1,a2,hal]),Sl.of rfl rfl rfl⟩
 rw [hno.all hlt] at hv
 simp [aPrg,hlt]
 refine forX mixed d.headers.l.length (s6C d) (by kernel_rfl) ⟨.zero,Sl.of rfl rfl rfl⟩ ?_
 clear hlt hi hno
 rintro i ⟨ts,hh,kk⟩ hi ⟨hno,rfl,rfl,f,rfl⟩
 by_cases hlt : i < d.headers.l.length
 ·obtain ⟨a,ha,ha'⟩:=nth_of hlt
  have hw:=wrap64 (x:=(i : Int) + 1) (by omega) (by omega)
  by_cases a1 : (40 : Int) < a.fields.l.length
  ·have : v = false:=by rw [← hv,any_hit ha' (show big3 a = true by simp [big3,a1])]; rfl
   subst this
   simp [aPrg,hlt,ha,a1]
  simp [aPrg,hlt,ha,a1,hw]
  exact ⟨hno.next ha' (by simp [big3,a1]),Sl.of rfl rfl rfl⟩
 rw [hno.all hlt] at hv
 simp [aPrg,hlt]
 refine forX mixed d.regs.l.length (s6D d) (by kernel_rfl) ⟨.zero,Sl.of rfl rfl rfl⟩ ?_
 clear hlt hi hno
 rintro i ⟨ts,hh,kk⟩ hi ⟨hno,rfl,rfl,f,rfl⟩
 by_cases hlt : i < d.regs.l.length
 ·obtain ⟨a,ha,ha'⟩:=nth_of hlt
  have hw:=wrap64 (x:=(i : Int) + 1) (by omega) (by omega)
  by_cases a1 : (200 : Int) < a.size
  ·have : v = false:=by rw [← hv,any_hit ha' (show big4 a = true by simp [big4,a1])]; rfl
   subst this
   simp [aPrg,hlt,ha,a1]
  simp [aPrg,hlt,ha,a1,hw]
  exact ⟨hno.next ha' (by simp [big4,a1]),Sl.of rfl rfl rfl⟩
 rw [hno.all hlt] at hv
 subst hv
 simp [aPrg,hlt]
def big5 (t : TblD) : Bool:=decide ((20 : Int) < t.keys.l.length) || (decide ((40 : Int) < t.acts.l.length) || decide ((40 : Int) < t.args.l.length))
def big6 (t : StaD) : Bool:=decide ((20 : Int) < t.extract.l.length) || decide ((20 : Int) < t.cases.l.length)
def sm22 (d : PrgD) (n : Int) : Bool:=if sm16 d = true then (if (30 : Int) < d.tables.l.length then false else if (30 : Int) < d.states.l.length then false else if (30 : Int) < d.dep.l.length then false else if 60 < n then false else
 !d.tables.l.any big5 && !d.states.l.any big6) else false
def runM (G : Nat→Int→Int) (n : Nat) : Nat→Nat→Int→Int
 | 0,_,c=>c
 | m + 1,i,c=>if i < n∧c ≤ 60 then runM G n m (i + 1) (G i c) else c
theorem runM_stop {G : Nat→Int→Int} {n m i : Nat} {c : Int} (h : ¬ (i < n∧c ≤ 60)) : runM G n m i c = c:=by
 cases m with
 | zero=>rfl
 | succ m=>rw [runM,if_neg h]
def blkS (F1 F2 : NodD→Int) (l : List NodD) (i : Nat) (c : Int) : Int:=match l[i]? with
 | none=>c
 | some x=>IntKind.i64.wrap (c + IntKind.i64.wrap (IntKind.i64.wrap (F1 x + F2 x) + IntKind.i64.wrap ((x.cond.l.length : Int) / 20)))
def bkI (l : List NodD) (dp r : Int) (G : Nat→Int→Int) (i : Nat) (s : St) : Prop:=∃ c,runM G l.length (l.length - i) i c = r∧Vf.Sl [(0,.f (sl (encL fNod l))),(1,.f (intF dp)),(2,.f (intF 60)),(7,.f (intF c)),(8,.f (intF i))] 61 [] [] s
theorem lblocks_g (l : List NodD) (hB : NodB l) (hc : ∀ y ∈ nodsPre l,y.cond.l.length ≤ 1000000) : ∃ F : Int→Int,∀ dp,Gives Tryz.prog 23 [sl (encL fNod l),intF dp,intF 60] (intF (F dp)):=by
 induction hB with
 | mk l hl h1 h2 ih1 ih2 =>
  have hsub : ∀ x ∈ l,(∀ y ∈ nodsPre x.thn.l,y.cond.l.length ≤ 1000000)∧(∀ y ∈ nodsPre x.els.l,y.cond.l.length ≤ 1000000)∧x.cond.l.length ≤ 1000000:=fun x hx =>
   ⟨fun y hy=>hc y (nodsPre_thn hx y hy),fun y hy=>hc y (nodsPre_els hx y hy),hc x (nodsPre_mem hx)⟩
  have e1 : ∀ x : NodD,∃ F : Int→Int,x ∈ l→∀ dp,Gives Tryz.prog 23 [sl (encL fNod x.thn.l),intF dp,intF 60] (intF (F dp)):=fun x=>by
   by_cases hx : x ∈ l
   ·obtain ⟨F,hF⟩:=ih1 x hx (hsub x hx).1
    exact ⟨F,fun _=>hF⟩
   ·exact ⟨fun _=>0,fun h=>absurd h hx⟩
  have e2 : ∀ x : NodD,∃ F : Int→Int,x ∈ l→∀ dp,Gives Tryz.prog 23 [sl (encL fNod x.els.l),intF dp,intF 60] (intF (F dp)):=fun x=>by
   by_cases hx : x ∈ l
   ·obtain ⟨F,hF⟩:=ih2 x hx (hsub x hx).2.1
    exact ⟨F,fun _=>hF⟩
   ·exact ⟨fun _=>0,fun h=>absurd h hx⟩
  obtain ⟨F1,hF1⟩:=Classical.skolem.1 e1
  obtain ⟨F2,hF2⟩:=Classical.skolem.1 e2
  refine ⟨fun dp=>if (60 : Int) < l.length then 61 else if 20 < dp then 61 else runM (blkS (fun x=>F1 x (IntKind.i64.wrap (dp + 1))) (fun x=>F2 x (IntKind.i64.wrap (dp + 1))) l) l.length l.length 0 l.length,fun dp=>?_⟩
  refine Gives.of mixed Tryz.func23 rfl rfl rfl (by kernel_rfl) ?_
  by_cases c1 : (60 : Int) < l.length
  ·simp [c1,Vf.wrap64]
  by_cases c2 : 20 < dp
  ·simp [c1,c2,Vf.wrap64]
  simp only [if_neg c1,if_neg c2]
  generalize hr : runM (blkS (fun x=>F1 x (IntKind.i64.wrap (dp + 1))) (fun x=>F2 x (IntKind.i64.wrap (dp + 1))) l) l.length l.length 0 l.length = r
  simp [c1,c2]
  refine forX mixed l.length (bkI l dp r _) (by kernel_rfl) ⟨_,hr,Sl.of rfl rfl rfl⟩ ?_
  rintro i ⟨ts,hh,kk⟩ hi ⟨c,hr,rfl,rfl,f,rfl⟩
  by_cases hlt : i < l.length
  case neg =>
   rw [runM_stop (by omega)] at hr
   subst hr
   simp [hlt]
  by_cases c3 : c ≤ 60
  case neg =>
   rw [runM_stop (by omega)] at hr
   subst hr
   simp [hlt,c3]
  obtain ⟨x,hx,hx'⟩:=nth_of hlt
  have hm:=List.mem_of_getElem? hx'
  have hw:=wrap64 (x:=(i : Int) + 1) (by omega) (by omega)
  rw [show l.length - i = (l.length - (i + 1)) + 1 by omega,runM,if_pos ⟨hlt,c3⟩] at hr
  simp [hlt,c3,hx,fNod_eq]
  refine call_g (hF1 x hm _) ?_
  simp [hlt,c3,hx,fNod_eq]
  refine call_g (hF2 x hm _) ?_
  have hG : blkS (fun x=>F1 x (IntKind.i64.wrap (dp + 1))) (fun x=>F2 x (IntKind.i64.wrap (dp + 1))) l i c = IntKind.i64.wrap (c + IntKind.i64.wrap (IntKind.i64.wrap (F1 x (IntKind.i64.wrap (dp + 1)) + F2 x (IntKind.i64.wrap (dp + 1))) + IntKind.i64.wrap ((x.cond.l.length : Int) / 20))):=by
   unfold blkS
   rw [hx']
  rw [hG] at hr
  simp [hlt,hx,fNod_eq,hw]
  exact ⟨_,hr,Sl.of rfl rfl rfl⟩
def s22A (d : PrgD) (i : Nat) (s : St) : Prop:=noneT big5 d.tables.l i∧Vf.Sl [(1,.ref 0 0),(3,.f (intF i))] 93 [aPrg d] [] s
def s22B (d : PrgD) (i : Nat) (s : St) : Prop:=noneT big6 d.states.l i∧Vf.Sl [(1,.ref 0 0),(4,.f (intF i))] 93 [aPrg d] [] s
theorem small22_g (d : PrgD) (hB : NodB d.control.l) (hc : ∀ y ∈ nodsPre d.control.l,y.cond.l.length ≤ 1000000) : ∃ b,Gives Tryz.prog 6 [fPrg d] (boolF b):=by
 obtain ⟨F,hF⟩:=lblocks_g d.control.l hB hc
 refine ⟨sm22 d (F 0),?_⟩
 refine Gives.of mixed Tryz.func6 rfl rfl rfl (by kernel_rfl) ?_
 generalize hv : sm22 d (F 0) = v
 unfold sm22 at hv
 simp [fPrg,cPrg]
 refine call_g (small16_g d) ?_
 cases h0 : sm16 d with
 | false =>
  rw [h0] at hv
  subst hv
  simp
 | true =>
 rw [h0] at hv
 replace hv:=hv
 rw [if_pos rfl] at hv
 by_cases h1 : (30 : Int) < d.tables.l.length
 ·rw [if_pos h1] at hv; subst hv
  simp [h1]
 rw [if_neg h1] at hv
 by_cases h2 : (30 : Int) < d.states.l.length
 ·rw [if_pos h2] at hv; subst hv
  simp [h1,h2]
 rw [if_neg h2] at hv
 by_cases h3 : (30 : Int) < d.dep.l.length
 ·rw [if_pos h3] at hv; subst hv
  simp [h1,h2,h3]
 rw [if_neg h3] at hv
 simp [h1,h2,h3]
 refine call_g (hF 0) ?_
 by_cases h4 : 60 < F 0
 ·rw [if_pos h4] at hv; subst hv
  simp [h4]
 rw [if_neg h4] at hv
 simp [h4]
 refine forX mixed d.tables.l.length (s22A d) (by kernel_rfl) ⟨.zero,Sl.of rfl rfl rfl⟩ ?_
 rintro i ⟨ts,hh,kk⟩ hi ⟨hno,rfl,rfl,f,rfl⟩
 by_cases hlt : i < d.tables.l.length
 ·obtain ⟨a,ha,ha'⟩:=nth_of hlt
  have hw:=wrap64 (x:=(i : Int) + 1) (by omega) (by omega)
  have hit : big5 a = true→v = false:=fun h=>by rw [← hv,any_hit ha' h]; rfl
  by_cases a1 : (20 : Int) < a.keys.l.length
  ·obtain rfl:=hit (by simp [big5,a1])
   simp [aPrg,hlt,ha,a1]
  by_cases a2 : (40 : Int) < a.acts.l.length
  ·obtain rfl:=hit (by simp [big5,a2])
   simp [aPrg,hlt,ha,a1,a2]
  by_cases a3 : (40 : Int) < a.args.l.length
  ·obtain rfl:=hit (by simp [big5,a3])
   simp [aPrg,hlt,ha,a1,a2,a3]
  simp [aPrg,hlt,ha,a1,a2,a3,hw]
  exact ⟨hno.next ha' (by simp [big5,a1,a2,a3]),Sl.of rfl rfl rfl⟩
 rw [hno.all hlt] at hv
 simp [aPrg,hlt]
 refine forX mixed d.states.l.length (s22B d) (by kernel_rfl) ⟨.zero,Sl.of rfl rfl rfl⟩ ?_
 clear hlt hi hno
 rintro i ⟨ts,hh,kk⟩ hi ⟨hno,rfl,rfl,f,rfl⟩
 by_cases hlt : i < d.states.l.length
 ·obtain ⟨a,ha,ha'⟩:=nth_of hlt
  have hw:=wrap64 (x:=(i : Int) + 1) (by omega) (by omega)
  have hit : big6 a = true→v = false:=fun h=>by rw [← hv,any_hit ha' h]; rfl
  by_cases a1 : (20 : Int) < a.extract.l.length
  ·obtain rfl:=hit (by simp [big6,a1])
   simp [aPrg,hlt,ha,a1]
  by_cases a2 : (20 : Int) < a.cases.l.length
  ·obtain rfl:=hit (by simp [big6,a2])
   simp [aPrg,hlt,ha,a1,a2]
  simp [aPrg,hlt,ha,a1,a2,hw]
  exact ⟨hno.next ha' (by simp [big6,a1,a2]),Sl.of rfl rfl rfl⟩
 rw [hno.all hlt] at hv
 subst hv
 simp [aPrg,hlt]
abbrev fPlc (st : Int) (stage : FV) (steps reason : Int) (units : FV) : FV:=.agg [intF st,stage,intF steps,intF reason,units]
theorem infeasible_g (reason steps : Int) (l : List Int) (c : Cap) : Gives Tryz.prog 28 [intF reason,intF steps,.sl (encL intF l) c] (fPlc 2 (.sl [] .nil) steps reason (.sl (encL intF l) c)):=by
 refine Gives.of mixed Tryz.func28 rfl rfl rfl (by kernel_rfl) ?_
 simp
def folOk (D : List (List Int)) (u : Nat) (s : Int) (i : Nat) (x : Int) : Bool:=match D[i]? with
 | some r=>match r[u]? with
  | some k=>if k = 2 then decide (x < s) else if k = 1 then decide (x ≤ s) else true
  | none=>true
 | none=>true
def folBad (D : List (List Int)) (S : List Int) (u : Nat) (s : Int) (i : Nat) : Bool:=match S[i]? with
 | some x=>!folOk D u s i x
 | none=>false
def folM (D : List (List Int)) (S : List Int) (u : Nat) (s : Int) : Bool:=!((List.range u).any (folBad D S u s))
def foI (j : JobD) (c1 c2 c3 : Cap) (S : List Int) (c : Cap) (u : Nat) (s : Int) (i : Nat) (st : St) : Prop:=noneT (folBad j.deps S u s) (List.range u) i ∧
 Vf.Sl [(0,.f (.fp (cJob j c1 c2 c3))),(2,.f (intF u)),(3,.f (intF s)),(13,.f (sl (encL intF (S.take u)))),(14,.f (intF u)),(15,.f (intF i))] 41 [] [] st
theorem jfollows_g (j : JobD) (c1 c2 c3 : Cap) (S : List Int) (c : Cap) (u : Nat) (s : Int) (hu : u ≤ S.length) (hD : ∀ i,i < u→∃ r,j.deps[i]? = some r∧u < r.length) (hl : S.length ≤ maxLen) :
  Gives Tryz.prog 61 [.fp (cJob j c1 c2 c3),.sl (encL intF S) c,intF u,intF s] (boolF (folM j.deps S u s)):=by
 refine Gives.of mixed Tryz.func61 rfl rfl rfl (by kernel_rfl) ?_
 have hsl : opSlice (tyOf Tryz.prog) 29 (.f (.sl (encL intF S) c)) none (some (.f (intF u))) none = some (.f (sl (encL intF (S.take u)))):=by
  simp [opSlice,optIdx,idx,hu,encL]
 have hmin : min u S.length = u:=Nat.min_eq_left hu
 have hlen : (S.take u).length = u:=by rw [List.length_take,hmin]
 generalize hv : folM j.deps S u s = v
 unfold folM at hv
 simp [hsl,hmin]
 refine forX mixed u (foI j c1 c2 c3 S c u s) (by kernel_rfl) ⟨noneT.zero,Sl.of rfl rfl rfl⟩ ?_
 rintro i ⟨ts,hh,kk⟩ hi ⟨hno,rfl,rfl,f,rfl⟩
 by_cases hlt : i < u
 ·obtain ⟨x,hx,hx'⟩:=nth_of (show i < (S.take u).length by omega)
  have hxS : S[i]? = some x:=by rw [List.getElem?_take_of_lt hlt] at hx'; exact hx'
  obtain ⟨r,hr',hul⟩:=hD i hlt
  obtain ⟨r',hr,hr2⟩:=nth_of (List.getElem?_eq_some_iff.1 hr').1
  obtain rfl : r = r':=by rw [hr'] at hr2; exact Option.some.inj hr2
  obtain ⟨q,hq,hq'⟩:=nth_of hul
  have hil:=(List.getElem?_eq_some_iff.1 hr').1
  have hw:=wrap64 (x:=(i : Int) + 1) (by omega) (by unfold maxLen at hl; omega)
  have hb : folBad j.deps S u s i = !(if q = 2 then decide (x < s) else if q = 1 then decide (x ≤ s) else true):=by
   unfold folBad folOk
   rw [hxS,hr']
   simp only
   rw [hq']
  have hri : (List.range u)[i]? = some i:=by simp [hlt]
  by_cases k2 : q = 2
  ·rw [if_pos k2] at hb
   by_cases c0 : s ≤ x
   ·have ha : (List.range u).any (folBad j.deps S u s) = true:=any_hit hri (by rw [hb]; simp; omega)
    rw [ha] at hv
    subst hv
    simp [hlt,hx,hr,hil,hul,hq,k2,c0]
   ·simp [hlt,hx,hr,hil,hul,hq,k2,c0,hw]
    exact ⟨hno.next hri (by rw [hb]; simp; omega),Sl.of rfl rfl rfl⟩
  rw [if_neg k2] at hb
  by_cases k1 : q = 1
  ·rw [if_pos k1] at hb
   by_cases c0 : s < x
   ·have ha : (List.range u).any (folBad j.deps S u s) = true:=any_hit hri (by rw [hb]; simp; omega)
    rw [ha] at hv
    subst hv
    simp [hlt,hx,hr,hil,hul,hq,k1,c0]
   ·simp [hlt,hx,hr,hil,hul,hq,k1,c0,hw]
    exact ⟨hno.next hri (by rw [hb]; simp; omega),Sl.of rfl rfl rfl⟩
  ·rw [if_neg k1] at hb
   simp [hlt,hx,hr,hil,hul,hq,k1,k2,hw]
   exact ⟨hno.next hri (by rw [hb]; rfl),Sl.of rfl rfl rfl⟩
 ·obtain rfl : i = u:=by omega
  rw [hno.all (by simp)] at hv
  subst hv
  simp
def difAt (a b : List Int) (i : Nat) : Bool:=a.getD i 0 != b.getD i 0
theorem eq_of_dif {a b : List Int} (hl : a.length = b.length) (h : (List.range a.length).any (difAt a b) = false) : a = b:=by
 apply List.ext_getElem hl
 intro i h1 h2
 have:=List.any_eq_false.1 h i (List.mem_range.2 h1)
 simp only [difAt,List.getD_eq_getElem?_getD,List.getElem?_eq_getElem h1,List.getElem?_eq_getElem h2] at this
 simpa using this
def eqiI (a b : List Int) (ca cb : Cap) (i : Nat) (s : St) : Prop:=noneT (difAt a b) (List.range a.length) i∧Vf.Sl [(0,.f (.sl (encL intF a) ca)),(1,.f (.sl (encL intF b) cb)),(5,.f (intF i))] 26 [] [] s
theorem eqInts_g (a b : List Int) (ca cb : Cap) (ha : a.length < 2^62) : Gives Tryz.prog 20 [.sl (encL intF a) ca,.sl (encL intF b) cb] (boolF (decide (a = b))):=by
 refine Gives.of mixed Tryz.func20 rfl rfl rfl (by kernel_rfl) ?_
 by_cases hl : a.length = b.length
 case neg =>
  have hl' : ¬ (a.length : Int) = b.length:=by omega
  have : a ≠ b:=fun h=>hl (by rw [h])
  rw [decide_eq_false this]
  simp [hl,hl']
 have hl' : (a.length : Int) = b.length:=by omega
 simp [hl']
 refine forX mixed a.length (eqiI a b ca cb) (by kernel_rfl) ⟨.zero,Sl.of rfl rfl rfl⟩ ?_
 rintro i ⟨ts,hh,kk⟩ hi ⟨hno,rfl,rfl,f,rfl⟩
 by_cases hlt : i < a.length
 ·obtain ⟨x,hx,hx'⟩:=nth_of hlt
  obtain ⟨y,hy,hy'⟩:=nth_of (show i < b.length by omega)
  have hlb : i < b.length:=by omega
  have hw:=wrap64 (x:=(i : Int) + 1) (by omega) (by omega)
  have hd : difAt a b i = (x != y):=by simp [difAt,List.getD_eq_getElem?_getD,hx',hy']
  by_cases c : x = y
  ·simp [hlt,hlb,hx,hy,c,hw]
   exact ⟨hno.next (range_at hlt) (by rw [hd,c]; simp),Sl.of rfl rfl rfl⟩
  ·have hne : a ≠ b:=fun h=>c (by rw [h] at hx'; exact Option.some.inj (hx'.symm.trans hy'))
   rw [decide_eq_false hne]
   simp [hlt,hlb,hx,hy,c]
 ·have ha':=hno.all (show ¬ i < (List.range a.length).length by simpa using hlt)
  rw [decide_eq_true (eq_of_dif hl ha')]
  simp [hlt]
def sameM (a b : Int × List Int × Int × Int × List Int) : Bool:=decide (a.1 = b.1) && (decide (a.2.1 = b.2.1) && (decide (a.2.2.1 = b.2.2.1) && (decide (a.2.2.2.1 = b.2.2.2.1) && decide (a.2.2.2.2 = b.2.2.2.2))))
theorem same_g (s s' st st' r r' : Int) (l l' u u' : List Int) (c1 c2 c3 c4 : Cap) (h1 : l.length < 2^62) (h2 : u.length < 2^62) :
  Gives Tryz.prog 10 [fPlc s (.sl (encL intF l) c1) st r (.sl (encL intF u) c2),fPlc s' (.sl (encL intF l') c3) st' r' (.sl (encL intF u') c4)] (boolF (sameM (s,l,st,r,u) (s',l',st',r',u'))):=by
 unfold sameM
 refine Gives.of mixed Tryz.func10 rfl rfl rfl (by kernel_rfl) ?_
 by_cases e1 : s = s'
 case neg=>simp [e1]
 simp [e1]
 refine call_g (eqInts_g l l' c1 c3 h1) ?_
 by_cases e2 : l = l'
 case neg=>simp [e2]
 by_cases e3 : st = st'
 case neg=>simp [e2,e3]
 by_cases e4 : r = r'
 case neg=>simp [e2,e3,e4]
 simp [e2,e3,e4]
 refine call_g (eqInts_g u u' c2 c4 h2) ?_
 simp
theorem lchip_g (n : Int) : Gives Tryz.prog 25 [intF n] (fChip ⟨n,4,4,8,8,8,8,8⟩):=by
 refine Gives.of mixed Tryz.func25 rfl rfl rfl (by kernel_rfl) ?_
 simp
theorem small35_g (d : PrgD) (c : ChipD) (S : List Int) (hB : NodB d.control.l) (hc : ∀ y ∈ nodsPre d.control.l,y.cond.l.length ≤ 1000000) : ∃ b,Gives Tryz.prog 13 [fC35 (d,c,S)] (boolF b):=by
 obtain ⟨b,hb⟩:=small22_g d hB hc
 refine ⟨b && decide ((S.length : Int) ≤ 100),?_⟩
 refine Gives.of mixed Tryz.func13 rfl rfl rfl (by kernel_rfl) ?_
 simp [cPrg]
 refine call_g hb ?_
 cases b with
 | false=>simp
 | true=>simp
theorem bin_eql_b {P : Program} {T : TV} {ty : TypeId} {x y : Operand} {a b : Bool} (hu : runPure P (underlying ty) = some .bool) : opBin P T .eql ty x y (.f (.sc (.bool a))) (.f (.sc (.bool b))) = some (.f (.sc (.bool (a == b)))):=by
 unfold opBin
 rw [opNil_bool]
 cases a <;> cases b <;> simp [AV.val,aggCells,cellVal,eqGuard,binOp,Op.equal] <;> (rw [show Op.maxDepth = Op.maxDepth - 1 + 1 from rfl]; simp only [Op.equalIn,runPure_bind,runPure_map,hu,Option.bind_some]; first | exact ⟨.bool true,rfl,rfl⟩ | exact ⟨.bool false,rfl,rfl⟩)
@[simp] theorem eqlBo {T : TV} {x y : Operand} {a b : Bool} : opBin Tryz.prog T .eql 4 x y (.f (.sc (.bool a))) (.f (.sc (.bool b))) = some (.f (.sc (.bool (a == b)))):=bin_eql_b (by kernel_rfl)
theorem uRes : runPure Tryz.prog (underlying 47) = some (.struct #[⟨ "SRAM", 3, 0, false, "", "", 0⟩, ⟨ "TCAM", 3, 1, false, "", "", 8⟩]) := by kernel_rfl
@[simp] theorem eqlRes {T : TV} {x y : Operand} {a a' b b' : Int} : opBin Tryz.prog T .eql 47 x y (.agg [.f (intF a),.f (intF b)]) (.agg [.f (intF a'),.f (intF b')]) = some (.f (.sc (.bool (decide (a = a') && decide (b = b'))))) :=
 (opBin_eq (by kernel_rfl) rfl rfl (pureEq2 9999 uRes (by kernel_rfl) (by decide) (by decide) (by kernel_rfl) (by kernel_rfl) (by kernel_rfl) (by kernel_rfl) (pureEqInt (k':=.i64) 9998 (by kernel_rfl)) (pureEqInt (k':=.i64) 9998 (by kernel_rfl)))).1
theorem assigns_g (haw : Gives Tryz.prog 7 [] (boolF true)) (d : PrgD) (c : ChipD) (S : List Int) (s : Int) (hU : PrgU d) (hN : PrgN d) (hS : S.length ≤ maxLen) :
  Gives Tryz.prog 4 [fC35 (d,c,S),intF s] (boolF true):=by
 obtain ⟨b,hb⟩:=small35_g d c S hU.ok.nod hU.cond
 have g1:=useP_g d S .un s hU hS
 have g2:=useR_g d S .un s hU hN hS
 have g3:=valid_g d c S .un hU hS
 have g4:=rvalidP_g d c S .un hU hN hS
 generalize useM d S s = u at g1 g2
 obtain ⟨a1,a2,a3,a4⟩:=u
 generalize validM d c S = v at g3 g4
 refine Gives.of mixed Tryz.func4 rfl rfl rfl (by kernel_rfl) ?_
 simp [cPrg]
 refine call_g hb ?_
 cases b with
 | false =>
  simp
  refine call_g haw ?_
  simp
 | true =>
 simp
 refine call_g g1 ?_
 simp [fUse]
 refine call_g g2 ?_
 simp [fUse]
 refine call_g g3 ?_
 simp
 refine call_g g4 ?_
 simp
 refine call_g haw ?_
 simp
def d0 : PrgD:=⟨⟨#[112]⟩,⟨[]⟩,⟨[⟨⟨#[105,110]⟩,8⟩,⟨⟨#[111,117,116]⟩,8⟩,⟨⟨#[100,114,111,112]⟩,1⟩]⟩,⟨[]⟩,
 ⟨[⟨⟨#[115,101,116]⟩,⟨[]⟩,⟨[⟨1,-1,1,0,0,⟨[]⟩,⟨[⟨1,1,8⟩]⟩⟩]⟩⟩,⟨⟨#[110,111,112]⟩,⟨[]⟩,⟨[]⟩⟩]⟩,
 ⟨[⟨⟨#[97]⟩,⟨[⟨-1,0,1⟩]⟩,⟨[0]⟩,0,⟨[]⟩,8⟩,⟨⟨#[98]⟩,⟨[⟨-1,1,1⟩]⟩,⟨[1]⟩,1,⟨[]⟩,8⟩]⟩,
 ⟨[⟨⟨#[115]⟩,⟨[]⟩,false,0,0,⟨[]⟩,-1⟩]⟩,⟨[.mk 1 0 [] [] [],.mk 1 1 [] [] []]⟩,⟨[]⟩⟩
def r0 : FV:=.agg [strF ⟨#[112]⟩,.sl [] .nil,.sl [.agg [strF ⟨#[105,110]⟩,intF 8],.agg [strF ⟨#[111,117,116]⟩,intF 8],.agg [strF ⟨#[100,114,111,112]⟩,intF 1]] .full,.sl [] .nil,
 .sl [.agg [strF ⟨#[115,101,116]⟩,.sl [] .nil,.sl [.agg [intF 1,intF (-1),intF 1,intF 0,intF 0,.sl [] .nil,.sl [.agg [intF 1,intF 1,intF 8]] .full]] .full],.agg [strF ⟨#[110,111,112]⟩,.sl [] .nil,.sl [] .nil]] .full,
 .sl [.agg [strF ⟨#[97]⟩,.sl [.agg [intF (-1),intF 0,intF 1]] .full,.sl [intF 0] .full,intF 0,.sl [] .nil,intF 8],.agg [strF ⟨#[98]⟩,.sl [.agg [intF (-1),intF 1,intF 1]] .full,.sl [intF 1] .full,intF 1,.sl [] .nil,intF 8]] .full,
 .sl [.agg [strF ⟨#[115]⟩,.sl [] .nil,boolF false,intF 0,intF 0,.sl [] .nil,intF (-1)]] .full,
 .sl [.agg [intF 1,intF 0,.sl [] .nil,.sl [] .nil,.sl [] .nil],.agg [intF 1,intF 1,.sl [] .nil,.sl [] .nil,.sl [] .nil]] .full,.sl [] .nil]
theorem sample_r : Gives Tryz.prog 24 [] r0:=by
 refine Gives.of mixed Tryz.func24 rfl rfl rfl (by kernel_rfl) ?_
 unfold r0
 simp
theorem r0_un : unD 9 r0 = fPrg d0:=by kernel_rfl
theorem sample_g : Gives Tryz.prog 24 [] (fPrg d0):=by
 have:=sample_r.unD 9
 rwa [r0_un] at this
inductive SRes where
 | placed (S : List Int) (k : Nat)
 | undecided (k : Nat)
 | full (k : Nat)
def fSRes : SRes→FV
 | .placed S k=>fPlc 1 (sl (encL intF S)) k 0 (.sl [] .nil)
 | .undecided k=>fPlc 3 (.sl [] .nil) k 19 (.sl [] .nil)
 | .full k=>fPlc 2 (.sl [] .nil) k 13 (.sl [] .nil)
def srchM (j : JobD) (B u s k : Nat) (S : List Int) : SRes :=
 if u = j.units.length then .placed S k
 else if (s : Int) < j.chip.stages then
  if hk : B ≤ k then .undecided k
  else match j.units[u]?,j.costs[u]? with
   | some un,some co=>if withinM (usAdd (usTo j S s u) un co) j.chip && folM j.deps S u s then srchM j B (u + 1) 0 (k + 1) (S.set u s) else srchM j B u (s + 1) (k + 1) S
   | _,_=>.full k
 else if hu : u = 0 then .full k
 else srchM j B (u - 1) ((S.getD (u - 1) 0).toNat + 1) k S
termination_by (B - k) * (j.units.length + 2) + u
decreasing_by
 ·obtain ⟨d,hd⟩ : ∃ d,B - k = d + 1:=⟨B - k - 1,by omega⟩
  rw [hd,show B - (k + 1) = d by omega,Nat.succ_mul]
  omega
 ·obtain ⟨d,hd⟩ : ∃ d,B - k = d + 1:=⟨B - k - 1,by omega⟩
  rw [hd,show B - (k + 1) = d by omega,Nat.succ_mul]
  omega
 ·omega
def cUs (v : UsD) : List AV:=[.f (intF v.tables),.f (intF v.gates),.f (intF v.cost.1),.f (intF v.cost.2)]
def usA (F : Nat→UsD) : List AV:=(List.range 16).flatMap fun t=>cUs (F t)
@[simp] theorem usA_len (F : Nat→UsD) : (usA F).length = 64:=rfl
theorem usA_get (F : Nat→UsD) {t : Nat} (ht : t < 16) : ((usA F).drop (t * 4)).take 4 = cUs (F t):=by
 match t,ht with
 | 0,_=>rfl | 1,_=>rfl | 2,_=>rfl | 3,_=>rfl | 4,_=>rfl | 5,_=>rfl | 6,_=>rfl | 7,_=>rfl | 8,_=>rfl | 9,_=>rfl | 10,_=>rfl | 11,_=>rfl | 12,_=>rfl | 13,_=>rfl | 14,_=>rfl | 15,_=>rfl | t + 16,h=>exact absurd h (by omega)
theorem usA_over (F : Nat→UsD) (v : UsD) {t : Nat} (ht : t < 16) : over (usA F) (t * 4) (cUs v) = usA (fun q=>if q = t then v else F q):=by
 match t,ht with
 | 0,_=>rfl | 1,_=>rfl | 2,_=>rfl | 3,_=>rfl | 4,_=>rfl | 5,_=>rfl | 6,_=>rfl | 7,_=>rfl | 8,_=>rfl | 9,_=>rfl | 10,_=>rfl | 11,_=>rfl | 12,_=>rfl | 13,_=>rfl | 14,_=>rfl | 15,_=>rfl | t + 16,h=>exact absurd h (by omega)
theorem usTo_congr {j : JobD} {S S' : List Int} {t : Int} : ∀ {u : Nat},(∀ i,i < u→S[i]? = S'[i]?)→usTo j S t u = usTo j S' t u
 | 0,_=>rfl
 | u + 1,h=>by rw [usTo,usTo,h u (by omega),usTo_congr fun i hi=>h i (by omega)]
theorem usTo_put {j : JobD} {S : List Int} {u s : Nat} {un : UnitD} {co : Int × Int} (hu : j.units[u]? = some un) (hc : j.costs[u]? = some co) (hl : u < S.length) (t : Nat) :
  usTo j (S.set u s) t (u + 1) = if t = s then usAdd (usTo j S s u) un co else usTo j S t u:=by
 have e : ∀ t : Int,usTo j (S.set u s) t u = usTo j S t u:=fun t=>usTo_congr fun i hi=>by rw [List.getElem?_set_ne (by omega)]
 rw [usTo,List.getElem?_set_self hl,hu,hc]
 simp only [e]
 by_cases h : t = s
 ·subst h; rw [if_pos rfl,if_pos rfl]
 ·rw [if_neg (by omega),if_neg h]
theorem usTo_back {j : JobD} {S : List Int} {v : Nat} {x : Int} {un : UnitD} {co : Int × Int} (hx : S[v]? = some x) (hu : j.units[v]? = some un) (hc : j.costs[v]? = some co) (t : Nat) (s : Nat) (hs : x = s) :
  (if t = s then usTo j S s v else usTo j S t (v + 1)) = usTo j S t v:=by
 rw [usTo,hx,hu,hc]
 simp only
 by_cases h : t = s
 ·subst h; rw [if_pos rfl]
 ·rw [if_neg h,if_neg (by omega)]
structure SOk (j : JobD) (B : Nat) (R : SRes) (m u s k : Nat) (S : List Int) : Prop where
 hm : (B - k) * (j.units.length + 2) + u = m
 hu : u ≤ j.units.length
 hk : k ≤ B
 hS : S.length = j.units.length
 hx : ∀ i,i < u→∃ x,S[i]? = some x∧0 ≤ x∧x < j.chip.stages
 hs : s ≤ 16
 hr : srchM j B u s k S = R
def seS (j : JobD) (c1 c2 c3 : Cap) (B u s k : Nat) (S : List Int) (g : List (List AV)) (st : St) : Prop :=
 Vf.Sl [(0,.f (.fp (cJob j c1 c2 c3))),(1,.f (intF B)),(4,.ref 0 0),(5,.ref 1 0),(6,.ms 2 0 j.units.length j.units.length 1),(7,.f (intF u)),(8,.f (intF s)),(9,.f (intF k))] 91
  ([.f (intF 0),.f (.sl [] .nil),.f (intF 0),.f (intF 0),.f (.sl [] .nil)] :: usA (fun t=>usTo j S t u) :: rowA S :: g) [] st
def seI (j : JobD) (c1 c2 c3 : Cap) (B : Nat) (R : SRes) (m : Nat) (st : St) : Prop:=∃ u s k S g,SOk j B R m u s k S∧seS j c1 c2 c3 B u s k S g st
def seJ (j : JobD) (c1 c2 c3 : Cap) (B : Nat) (R : SRes) (m u q : Nat) (st : St) : Prop:=∃ m' s k S g,m' ≤ m∧SOk j B R m' u s k S∧q ≤ s∧seS j c1 c2 c3 B u s k S g st
theorem fz_row {A U : List AV} {S : List Int} {n : Nat} {g : List (List AV)} (hn : S.length = n) : fzH 0 (A :: U :: rowA S :: g) 1 (.ms 2 0 n n 1) = some (.sl (encL intF S) .un):=by
 subst hn
 have ht : ((rowA S).drop 0).take (S.length * 1) = rowA S:=by simp [List.take_of_length_le]
 show (if _ then _ else _) = _
 rw [ht,if_pos ⟨by omega,by omega,by simp,by omega,rowA_one S⟩,rowA_fz]
 show (if _ then _ else _) = _
 rw [if_pos (ints_one S)]
 show some (FV.sl (chunk false 1 S.length (S.map intF)) .un) = _
 rw [chunk_ints]; rfl
theorem fz_part {A U : List AV} {S : List Int} {w n : Nat} {g : List (List AV)} (hw : w ≤ S.length) (hn : w ≤ n) : fzH 0 (A :: U :: rowA S :: g) 1 (.ms 2 0 w n 1) = some (.sl (encL intF (S.take w)) .un):=by
 have hl : (S.take w).length = w:=by rw [List.length_take]; omega
 have ht : ((rowA S).drop 0).take (w * 1) = rowA (S.take w):=by simp [rowA,List.map_take]
 show (if _ then _ else _) = _
 rw [ht,if_pos ⟨by omega,by omega,by simp; omega,by omega,rowA_one _⟩,rowA_fz]
 show (if _ then _ else _) = _
 rw [if_pos (ints_one _)]
 have hc:=chunk_ints (S.take w)
 rw [hl] at hc
 show some (FV.sl (chunk false 1 w ((S.take w).map intF)) .un) = _
 rw [hc]; rfl
theorem ret_placed {A U : List AV} {S : List Int} {n k : Nat} {g : List (List AV)} {R : FV→Prop} (hn : S.length = n) (h : R (fPlc 1 (sl (encL intF S)) k 0 (.sl [] .nil))) :
  RetA (A :: U :: rowA S :: g) [.f (.sc (.int .i64 1)),.ms 2 0 n n 1,.f (.sc (.int .i64 k)),.f (.sc (.int .i64 0)),.f (.sl [] .nil)] R:=by
 subst hn
 refine ⟨2,_,?_,h⟩
 have ht : ((rowA S).drop 0).take (S.length * 1) = rowA S:=by simp [List.take_of_length_le]
 have hx : fzH 0 (A :: U :: rowA S :: g) 1 (.ms 2 0 S.length S.length 1) = some (sl (encL intF S)):=by
  show (if _ then _ else _) = _
  rw [ht,if_pos ⟨by omega,by omega,by simp,by omega,rowA_one S⟩,rowA_fz]
  show (if _ then _ else _) = _
  rw [if_pos (ints_one S)]
  show some (FV.sl (chunk false 1 S.length (S.map intF)) .un) = _
  rw [chunk_ints]; rfl
 simp only [fzH,mapO] at hx ⊢
 rw [hx]
def se12 (j : JobD) (c1 c2 c3 : Cap) (B u s k r : Nat) : List (Nat × AV) :=
 [(0,.f (.fp (cJob j c1 c2 c3))),(1,.f (intF B)),(4,.ref 0 0),(5,.ref 1 0),(6,.ms 2 0 j.units.length j.units.length 1),(7,.f (intF u)),(8,.f (intF s)),(9,.f (intF (k + 1))),(10,.ref r 0)]
def heS (F : Nat→UsD) (S : List Int) (g : List (List AV)) (v : UsD) : List (List AV) :=
 [.f (intF 0),.f (.sl [] .nil),.f (intF 0),.f (intF 0),.f (.sl [] .nil)] :: usA F :: rowA S :: (g ++ [cUs v])
def va12 (j : JobD) (c1 c2 c3 : Cap) (u s : Nat) (v : UsD) (b1 b2 : Bool) : Nat→AV
 | 0=>.agg (cUs v)
 | 1=>.f (.fp (cJob j c1 c2 c3))
 | 2=>.f (.fp (cJob j c1 c2 c3))
 | 3=>.f (.fp (cJob j c1 c2 c3))
 | 4=>.agg ((cChip j.chip).map .f)
 | 5=>.f (boolF b1)
 | 6=>.f (boolF b1)
 | 7=>if b1 then .f (.fp (cJob j c1 c2 c3)) else undefA
 | 8=>if b1 then .ms 2 0 j.units.length j.units.length 1 else undefA
 | 9=>if b1 then .f (intF u) else undefA
 | 10=>if b1 then .f (intF s) else undefA
 | 11=>if b1 then .f (boolF b2) else undefA
 | _=>.f (boolF (b1 && b2))
theorem search_g (j : JobD) (c1 c2 c3 : Cap) (B : Nat) (hn : j.units.length ≤ 1000) (hc : j.costs.length = j.units.length) (hD0 : ∀ i,i < j.units.length→∃ r,j.deps[i]? = some r∧r.length = j.units.length) (h1 : 1 ≤ j.chip.stages) (h16 : j.chip.stages ≤ 16) (hB : B ≤ 1048576) :
  Gives Tryz.prog 31 [.fp (cJob j c1 c2 c3),intF B] (fSRes (srchM j B 0 0 0 (List.replicate j.units.length 0))):=by
 generalize hR : srchM j B 0 0 0 (List.replicate j.units.length 0) = R
 refine Gives.ofW Tryz.func31 rfl rfl rfl (by decide) ?_
 refine W.two (W.x mixed (by kernel_rfl) ?_)
 simp
 refine W.scopeJ (l:=0) (seI j c1 c2 c3 B R) rfl ?_ ?_
 ·rintro m ⟨ts,hh,kk⟩ ⟨u,s,k,S,g,ok,rfl,rfl,f,rfl⟩
  have hr:=ok.hr
  rw [srchM] at hr
  refine W.two (W.x mixed (by kernel_rfl) ?_)
  by_cases e : u = j.units.length
  ·rw [if_pos e] at hr
   subst hr
   have hrd : j.units.length ≤ S.length:=by rw [ok.hS]; omega
   simp [e]
   exact ret_placed ok.hS rfl
  ·rw [if_neg e] at hr
   have hul : u < j.units.length:=by have:=ok.hu; omega
   have e' : ¬((u : Int) = j.units.length):=by omega
   clear hr
   simp [e']
   refine W.two (W.blk (forW 16 (seJ j c1 c2 c3 B R m u) ⟨m,s,k,S,g,Nat.le_refl _,ok,Nat.zero_le _,Sl.of rfl rfl rfl⟩ ?_))
   rintro q ⟨ts,hh,kk⟩ hq ⟨m',s,k,S,g,hm',ok,hqs,rfl,rfl,f,rfl⟩
   have hr:=ok.hr
   rw [srchM,if_neg e] at hr
   refine W.two (W.x mixed (by kernel_rfl) ?_)
   by_cases c0 : (s : Int) < j.chip.stages
   ·rw [if_pos c0] at hr
    simp [c0]
    refine W.two (W.blk (W.two (W.x mixed (by kernel_rfl) ?_)))
    by_cases d1 : B ≤ k
    ·rw [dif_pos d1] at hr
     subst hr
     obtain rfl : k = B:=by have:=ok.hk; omega
     simp
     rfl
    ·rw [dif_neg d1] at hr
     have d1' : ¬((k : Int) = B):=by omega
     have hs16 : s < 16:=by omega
     have hle : 4 ≤ 64 - s * 4:=by omega
     have hg:=usA_get (fun t=>usTo j S t u) hs16
     have hwk:=wrap64 (x:=(k : Int) + 1) (by omega) (by omega)
     obtain ⟨un,hun,hun'⟩:=nth_of hul
     obtain ⟨co,hco,hco'⟩:=nth_of (show u < j.costs.length by omega)
     rw [hun',hco'] at hr
     simp only at hr
     simp [d1']
     refine W.two (W.x mixed (by kernel_rfl) ?_)
     simp [hwk]
     refine W.two (W.x mixed (by kernel_rfl) ?_)
     simp [hs16,hle,hg]
     refine call_g (add_g j c1 c2 c3 (usTo j S s u) u hun' hco') ?_
     simp
     generalize hv : usAdd (usTo j S s u) un co = v at *
     have hten : ∀ {A U R : List AV} {c : List AV},ix (A :: U :: R :: (g ++ [c])) (g.length + 1 + 1 + 1) = some c:=fun {A U R c}=>by simp [ix]
     generalize hb1 : withinM v j.chip = b1 at *
     generalize hb2 : folM j.deps S u s = b2 at *
     refine W.two (W.draw_semG mixed (DrwT (heS (fun t=>usTo j S t u) S g v) (se12 j c1 c2 c3 B u s k (g.length + 1 + 1 + 1)) 49 13 (va12 j c1 c2 c3 u s v b1 b2) 91) ⟨rfl,rfl,rfl,?_,fun i _ h=>by cases h⟩ ?_ ?_ (by kernel_rfl))
     ·intro p hp
      simp [se12] at hp
      rcases hp with rfl | rfl | rfl | rfl | rfl | rfl | rfl | rfl | rfl <;> rfl
     ·rintro D ⟨t,h,kk⟩ i o ho hD hdep T
      obtain ⟨e1,e2,hl,hkp,hT⟩:=id T
      cases e1
      cases e2
      have k0 : ix t 0 = some (.f (.fp (cJob j c1 c2 c3))):=hkp (0,_) (by simp [se12])
      have k6 : ix t 6 = some (.ms 2 0 j.units.length j.units.length 1):=hkp (6,_) (by simp [se12])
      have k7 : ix t 7 = some (.f (intF u)):=hkp (7,_) (by simp [se12])
      have k8 : ix t 8 = some (.f (intF s)):=hkp (8,_) (by simp [se12])
      have k10 : ix t 10 = some (.ref (g.length + 1 + 1 + 1) 0):=hkp (10,_) (by simp [se12])
      match i,ho with
      | 0,ho =>
       obtain rfl:=Option.some.inj ho
       simp [k10,heS,hten,cUs]
       exact T.put 0 (by decide) (by decide) rfl rfl
      | 1,ho =>
       obtain rfl:=Option.some.inj ho
       simp [k0]
       exact T.put 1 (by decide) (by decide) rfl rfl
      | 2,ho =>
       obtain rfl:=Option.some.inj ho
       have d1 : D 1 = true:=hdep ⟨1,.data⟩ (by simp) rfl
       have f1 : ix t 50 = some (.f (.fp (cJob j c1 c2 c3))):=hT 1 (by decide) d1
       simp [f1]
       exact T.put 2 (by decide) (by decide) rfl rfl
      | 3,ho =>
       obtain rfl:=Option.some.inj ho
       have d2 : D 2 = true:=hdep ⟨2,.data⟩ (by simp) rfl
       have f2 : ix t 51 = some (.f (.fp (cJob j c1 c2 c3))):=hT 2 (by decide) d2
       simp [f2]
       exact T.put 3 (by decide) (by decide) rfl rfl
      | 4,ho =>
       obtain rfl:=Option.some.inj ho
       have d3 : D 3 = true:=hdep ⟨3,.data⟩ (by simp) rfl
       have f3 : ix t 52 = some (.f (.fp (cJob j c1 c2 c3))):=hT 3 (by decide) d3
       simp [f3]
       exact T.put 4 (by decide) (by decide) rfl rfl
      | 5,ho =>
       obtain rfl:=Option.some.inj ho
       have d0 : D 0 = true:=hdep ⟨0,.data⟩ (by simp) rfl
       have f0 : ix t 49 = some (.agg (cUs v)):=hT 0 (by decide) d0
       have d4 : D 4 = true:=hdep ⟨4,.data⟩ (by simp) rfl
       have f4 : ix t 53 = some (.agg ((cChip j.chip).map .f)):=hT 4 (by decide) d4
       simp [f0,f4]
       refine call_g (within_g v j.chip) ?_
       rw [hb1]
       simp
       exact T.put 5 (by decide) (by decide) rfl rfl
      | 6,ho =>
       obtain rfl:=Option.some.inj ho
       have d5 : D 5 = true:=hdep ⟨5,.data⟩ (by simp) rfl
       have f5 : ix t 54 = some (.f (boolF b1)):=hT 5 (by decide) d5
       simp [f5]
       exact T.put 6 (by decide) (by decide) rfl rfl
      | 7,ho =>
       obtain rfl:=Option.some.inj ho
       have d6 : D 6 = true:=hdep ⟨6,.guard⟩ (by simp) rfl
       have f6 : ix t 55 = some (.f (boolF b1)):=hT 6 (by decide) d6
       cases b1 <;> simp [f6,k0] <;> exact T.put 7 (by decide) (by decide) rfl rfl
      | 8,ho =>
       obtain rfl:=Option.some.inj ho
       have d6 : D 6 = true:=hdep ⟨6,.guard⟩ (by simp) rfl
       have f6 : ix t 55 = some (.f (boolF b1)):=hT 6 (by decide) d6
       cases b1 <;> simp [f6,k6] <;> exact T.put 8 (by decide) (by decide) rfl rfl
      | 9,ho =>
       obtain rfl:=Option.some.inj ho
       have d6 : D 6 = true:=hdep ⟨6,.guard⟩ (by simp) rfl
       have f6 : ix t 55 = some (.f (boolF b1)):=hT 6 (by decide) d6
       cases b1 <;> simp [f6,k7] <;> exact T.put 9 (by decide) (by decide) rfl rfl
      | 10,ho =>
       obtain rfl:=Option.some.inj ho
       have d6 : D 6 = true:=hdep ⟨6,.guard⟩ (by simp) rfl
       have f6 : ix t 55 = some (.f (boolF b1)):=hT 6 (by decide) d6
       cases b1 <;> simp [f6,k8] <;> exact T.put 10 (by decide) (by decide) rfl rfl
      | 11,ho =>
       obtain rfl:=Option.some.inj ho
       have d6 : D 6 = true:=hdep ⟨6,.guard⟩ (by simp) rfl
       have f6 : ix t 55 = some (.f (boolF b1)):=hT 6 (by decide) d6
       have d7 : D 7 = true:=hdep ⟨7,.data⟩ (by simp) rfl
       have d8 : D 8 = true:=hdep ⟨8,.data⟩ (by simp) rfl
       have d9 : D 9 = true:=hdep ⟨9,.data⟩ (by simp) rfl
       have d10 : D 10 = true:=hdep ⟨10,.data⟩ (by simp) rfl
       have f7:=hT 7 (by decide) d7
       have f8:=hT 8 (by decide) d8
       have f9:=hT 9 (by decide) d9
       have f10:=hT 10 (by decide) d10
       cases b1 with
       | false =>
        simp [f6]
        exact T.put 11 (by decide) (by decide) rfl rfl
       | true =>
        simp only [va12,if_true] at f7 f8 f9 f10
        simp [f6,f7,f8,f9,f10]
        refine call_m rfl (jfollows_g j c1 c2 c3 S .un u s (by rw [ok.hS]; omega) (fun i hi=>by obtain ⟨r,h1,h2⟩:=hD0 i (by omega); exact ⟨r,h1,by omega⟩) (by rw [ok.hS]; unfold maxLen; omega)) ?_ ?_
        ·have hz:=fz_row (A:=[.f (intF 0),.f (.sl [] .nil),.f (intF 0),.f (intF 0),.f (.sl [] .nil)]) (U:=usA fun t=>usTo j S t u) (g:=g ++ [cUs v]) ok.hS
         have hz : fzM ([.f (intF 0),.f (.sl [] .nil),.f (intF 0),.f (intF 0),.f (.sl [] .nil)] :: usA (fun t=>usTo j S t u) :: rowA S :: (g ++ [cUs v])) (.ms 2 0 j.units.length j.units.length 1) = some (.sl (encL intF S) .un):=hz
         have hf : ∀ H x,fzM H (.f x) = some x:=fun _ _=>rfl
         simp [mapO,hz,hf]
        ·rw [hb2]
         simp
         exact T.put 11 (by decide) (by decide) rfl rfl
      | 12,ho =>
       obtain rfl:=Option.some.inj ho
       have d6 : D 6 = true:=hdep ⟨6,.data⟩ (by simp) rfl
       have f6 : ix t 55 = some (.f (boolF b1)):=hT 6 (by decide) d6
       have d11 : D 11 = true:=hdep ⟨11,.data⟩ (by simp) rfl
       have f11:=hT 11 (by decide) d11
       cases b1 <;> simp only [va12,if_true,if_false] at f11 <;> simp [f6,f11] <;> exact T.put 12 (by decide) (by decide) rfl rfl
      | i + 13,ho=>simp at ho
     ·rintro D ⟨t,h,kk⟩ hD T
      obtain ⟨e1,e2,hl,hkp,hT⟩:=T
      cases e1
      cases e2
      have f12:=hT 12 (by decide) (hD 12 (by decide))
      clear hT hD
      have hsl : Vf.Sl ((se12 j c1 c2 c3 B u s k (g.length + 1 + 1 + 1)) ++ [(61,.f (boolF (b1 && b2)))]) 91 (heS (fun t=>usTo j S t u) S g v) [] ⟨t,heS (fun t=>usTo j S t u) S g v,[]⟩:=Sl.of (picks_of fun p hp=>by
       rcases List.mem_append.1 hp with hp | hp
       ·exact hkp p hp
       ·obtain rfl:=List.mem_singleton.1 hp
        exact f12) hl rfl
      clear hkp f12 hl
      obtain ⟨_,_,f',rfl⟩:=hsl
      refine W.x mixed (by kernel_rfl) ?_
      have hst : s * 4 + 4 ≤ 64:=by omega
      have huS : u < S.length:=by rw [ok.hS]; exact hul
      have hov:=usA_over (fun t=>usTo j S t u) v hs16
      cases hb : b1 && b2 with
      | true =>
       have huS1 : u + 1 ≤ S.length:=huS
       have hwu:=wrap64 (x:=(u : Int) + 1) (by omega) (by omega)
       simp only [cUs,over] at hov
       simp [heS,se12,hb,hs16,hten,cUs,hst,hul,huS,huS1,hov,hwu]
       rw [if_pos hb] at hr
       refine ⟨(B - (k + 1)) * (j.units.length + 2) + (u + 1),?_,u + 1,0,k + 1,S.set u s,g ++ [cUs v],⟨rfl,hul,by omega,by simpa using ok.hS,fun i hi=>?_,Nat.zero_le _,hr⟩,?_⟩
       ·have hm:=ok.hm
        have hk:=ok.hk
        obtain ⟨d,hd⟩ : ∃ d,B - k = d + 1:=⟨B - k - 1,by omega⟩
        rw [hd,Nat.succ_mul] at hm
        rw [show B - (k + 1) = d by omega]
        omega
       ·by_cases e1 : i = u
        ·subst e1
         exact ⟨s,List.getElem?_set_self huS,by omega,c0⟩
        ·obtain ⟨x,g1,g2⟩:=ok.hx i (by omega)
         exact ⟨x,by rw [List.getElem?_set_ne (by omega)]; exact g1,g2⟩
       ·have hF : (fun t : Nat=>usTo j (S.set u s) t (u + 1)) = fun t : Nat=>if t = s then v else usTo j S t u:=funext fun t=>by rw [usTo_put hun' hco' huS,hv]
        unfold seS
        rw [hF]
        exact Sl.of rfl rfl rfl
      | false =>
       have hws:=wrap64 (x:=(s : Int) + 1) (by omega) (by omega)
       simp [heS,se12,hb,hws]
       refine W.x mixed (by kernel_rfl) ?_
       simp [hws]
       rw [if_neg (by rw [hb]; decide)] at hr
       refine ⟨by omega,(B - (k + 1)) * (j.units.length + 2) + u,s + 1,k + 1,S,g ++ [cUs v],?_,⟨rfl,ok.hu,by omega,ok.hS,ok.hx,by omega,hr⟩,by omega,?_⟩
       ·have hm:=ok.hm
        have hk:=ok.hk
        have : (B - (k + 1)) * (j.units.length + 2) ≤ (B - k) * (j.units.length + 2):=Nat.mul_le_mul_right _ (by omega)
        omega
       ·exact Sl.of rfl rfl rfl
   ·rw [if_neg c0] at hr
    simp [c0]
    refine W.two (W.x mixed (by kernel_rfl) ?_)
    by_cases u0 : u = 0
    ·rw [dif_pos u0] at hr
     subst u0
     subst hr
     simp
     refine call_g (infeasible_g 13 k [] .nil) ?_
     simp
     rfl
    ·rw [dif_neg u0] at hr
     have u0' : ¬((u : Int) = 0):=by omega
     obtain ⟨x,hx,hx0,hx1⟩:=ok.hx (u - 1) (by omega)
     obtain ⟨un,hun,hun'⟩:=nth_of (show u - 1 < j.units.length by omega)
     obtain ⟨co,hco,hco'⟩:=nth_of (show u - 1 < j.costs.length by omega)
     obtain ⟨y,rfl⟩:=Int.eq_ofNat_of_zero_le hx0
     obtain ⟨w,rfl⟩ : ∃ w,u = w + 1:=⟨u - 1,by omega⟩
     rw [Nat.add_sub_cancel] at *
     have hwS : w < S.length:=by rw [ok.hS]; omega
     have hwr:=wrap64 (x:=((w + 1 : Nat) : Int) - 1) (by omega) (by omega)
     rw [show ((w + 1 : Nat) : Int) - 1 = w by omega] at hwr
     have gx:=rowA_at hx
     simp [u0']
     refine W.two (W.x mixed (by kernel_rfl) ?_)
     simp [hwr]
     refine W.two (W.x mixed (by kernel_rfl) ?_)
     have hwn : w < j.units.length:=by omega
     simp [hwS,hwn,gx]
     refine W.two (W.x mixed (by kernel_rfl) ?_)
     have hwn' : w ≤ j.units.length:=by omega
     have hsl : opSlice (tyOf Tryz.prog) 29 (.ms 2 0 j.units.length j.units.length 1) none (some (.f (.sc (.int .i64 w)))) none = some (.ms 2 0 w j.units.length 1):=by
      simp [opSlice,optIdx,idx,hwn']
     have hy16 : y < 16:=by omega
     have hst : y * 4 + 4 ≤ 64:=by omega
     have hfz:=fz_part (A:=[.f (intF 0),.f (.sl [] .nil),.f (intF 0),.f (intF 0),.f (.sl [] .nil)]) (U:=usA fun t=>usTo j S t (w + 1)) (g:=g) (S:=S) (w:=w) (n:=j.units.length) (by omega) hwn'
     have hlen : (S.take w).length = w:=by rw [List.length_take]; omega
     have hu:=usage_g j c1 c2 c3 (S.take w) .un y (by omega) (by omega) (by unfold maxLen; omega)
     rw [hlen,usTo_congr (S':=S) fun i hi=>by rw [List.getElem?_take_of_lt hi]] at hu
     simp [hsl]
     refine call_m rfl hu ?_ ?_
     ·have hf : ∀ H x,fzM H (.f x) = some x:=fun _ _=>rfl
      have hz : fzM ([.f (intF 0),.f (.sl [] .nil),.f (intF 0),.f (intF 0),.f (.sl [] .nil)] :: usA (fun t=>usTo j S t (w + 1)) :: rowA S :: g) (.ms 2 0 w j.units.length 1) = some (.sl (encL intF (S.take w)) .un):=hfz
      simp [mapO,hz,hf]
     have hov:=usA_over (fun t=>usTo j S t (w + 1)) (usTo j S y w) hy16
     have hF : (fun t : Nat=>if t = y then usTo j S y w else usTo j S t (w + 1)) = fun t : Nat=>usTo j S t w:=funext fun t=>usTo_back hx hun' hco' t y rfl
     rw [hF] at hov
     simp only [cUs,over] at hov
     simp [hy16,hst,cUs,hov]
     have hwy:=wrap64 (x:=(y : Int) + 1) (by omega) (by omega)
     have hgd : S.getD w 0 = (y : Int):=by rw [List.getD_eq_getElem?_getD,hx]; rfl
     rw [hgd,Int.toNat_natCast] at hr
     refine W.x mixed (by kernel_rfl) ?_
     simp [hwy]
     have hm:=ok.hm
     refine ⟨(B - k) * (j.units.length + 2) + w,by omega,w,y + 1,k,S,g,⟨rfl,by omega,ok.hk,ok.hS,fun i hi=>ok.hx i (by omega),by omega,hr⟩,?_⟩
     exact Sl.of rfl rfl rfl
 ·intro hpass
  have hmk : j.units.length < 2^32:=by omega
  refine W.two (W.x mixed (by kernel_rfl) ?_)
  simp
  refine W.two (W.x mixed (by kernel_rfl) ?_)
  simp [make_i hmk]
  refine W.two (W.x mixed (by kernel_rfl) ?_)
  simp
  refine W.two (W.x mixed (by kernel_rfl) ?_)
  simp
  refine hpass ((B - 0) * (j.units.length + 2) + 0) _ ⟨0,0,0,List.replicate j.units.length 0,[],⟨rfl,Nat.zero_le _,Nat.zero_le _,by simp,fun i hi=>absurd hi (Nat.not_lt_zero i),Nat.zero_le _,hR⟩,?_⟩
  exact Sl.of rfl rfl rfl
end Go.Proofs.YtafenffmgpcjcaaGreat
