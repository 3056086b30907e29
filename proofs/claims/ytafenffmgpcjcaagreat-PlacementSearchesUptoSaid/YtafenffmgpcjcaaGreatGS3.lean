/- Texts of the proof: GS3. -/
import Derived.Test.YtafenffmgpcjcaaGreatGS2
import Derived.Test.YtafenffmgpcjcaaGreatGS0
namespace Go.Proofs.YtafenffmgpcjcaaGreat
open Go.RowKit Go.Proofs.YtafenffmgpcjcaaGreat.Vf
set_option linter.unusedVariables false
set_option linter.unusedSimpArgs false
set_option maxRecDepth 100000
set_option maxHeartbeats 4000000
theorem rarity_g (op:Int):Gives Tryz.prog 239 [intF op] (intF (arity op)):=by
 refine Gives.of mixed Tryz.func239 rfl rfl rfl (by kernel_rfl) ?_
 have h:op < 1∨(1≤op∧op≤4)∨(5≤op∧op≤8)∨(9≤op∧op≤16)∨op=17∨17 < op:=by omega
 rcases h with h | h | h | h | h | h
 ·have hv:arity op=-1:=by unfold arity; rw [if_neg (by omega),if_neg (by omega),if_neg (by omega),if_neg (by omega)]
  simp [hv,(show ¬ 1≤op by omega),(show ¬ 5≤op by omega),(show ¬ 9≤op by omega),(show ¬ op=17 by omega)]
 ·have hv:arity op=0:=by unfold arity; rw [if_pos (by omega)]
  simp [hv,h.1,h.2]
 ·have hv:arity op=1:=by unfold arity; rw [if_neg (by omega),if_pos (by omega)]
  simp [hv,(show 1≤op by omega),(show ¬ op≤4 by omega),h.1,h.2]
 ·have hv:arity op=2:=by unfold arity; rw [if_neg (by omega),if_neg (by omega),if_pos (by omega)]
  simp [hv,(show 1≤op by omega),(show ¬ op≤4 by omega),(show 5≤op by omega),(show ¬ op≤8 by omega),h.1,h.2]
 ·subst h
  simp [arity]
 ·have hv:arity op=-1:=by unfold arity; rw [if_neg (by omega),if_neg (by omega),if_neg (by omega),if_neg (by omega)]
  simp [hv,(show 1≤op by omega),(show ¬ op≤4 by omega),(show 5≤op by omega),(show ¬ op≤8 by omega),(show 9≤op by omega),(show ¬ op≤16 by omega),(show ¬ op=17 by omega)]
theorem rdecl_g (d:PrgD) (h f:Int):Gives Tryz.prog 229 [fPrg d,fRef h f] (.tup [intF (fldW (fldAt d h f)),boolF (fldAt d h f).isSome]):=by
 refine Gives.of mixed Tryz.func229 rfl rfl rfl (by kernel_rfl) ?_
 generalize hv:fldAt d h f=v
 by_cases c1:h=-1
 ·subst c1
  by_cases c3:f < 0
  ·have hf:fldAt d (-1) f=none:=by unfold fldAt; rw [if_pos c3]
   rw [hf] at hv
   subst hv
   simp [fPrg,cPrg,c3,fldW]
  by_cases c4:(d.meta_.l.length:Int)≤f
  ·have hf:fldAt d (-1) f=none:=by unfold fldAt fldsOf; rw [if_neg c3,if_pos rfl]; exact List.getElem?_eq_none (by omega)
   rw [hf] at hv
   subst hv
   simp [fPrg,cPrg,c3,c4,fldW]
  obtain ⟨x,hx,hx'⟩:=nth_of (show f.toNat < d.meta_.l.length by omega)
  have hf:fldAt d (-1) f=some x:=by unfold fldAt fldsOf; rw [if_neg c3,if_pos rfl]; exact hx'
  have hxm:f.toNat < d.meta_.l.length:=by omega
  rw [hf] at hv
  subst hv
  simp [fPrg,cPrg,c3,c4,hx,hxm,(show 0≤f by omega),fldW]
 by_cases c0:h < 0
 ·have hl:fldsOf d h=[]:=by unfold fldsOf; rw [if_neg c1,if_pos (Or.inl c0)]
  have hf:fldAt d h f=none:=by unfold fldAt; rw [hl]; split <;> simp
  rw [hf] at hv
  subst hv
  simp [fPrg,cPrg,c0,c1,fldW]
 by_cases c2:(d.headers.l.length:Int)≤h
 ·have hl:fldsOf d h=[]:=by unfold fldsOf; rw [if_neg c1,if_pos (Or.inr c2)]
  have hf:fldAt d h f=none:=by unfold fldAt; rw [hl]; split <;> simp
  rw [hf] at hv
  subst hv
  simp [fPrg,cPrg,c0,c1,c2,fldW]
 obtain ⟨y,hy,hy'⟩:=nth_of (show h.toNat < d.headers.l.length by omega)
 have hm:h.toNat < d.headers.l.length:=by omega
 have hl:fldsOf d h=y.fields.l:=by unfold fldsOf; rw [if_neg c1,if_neg (by omega),hy']
 have c0':0≤h:=by omega
 by_cases c3:f < 0
 ·have hf:fldAt d h f=none:=by unfold fldAt; rw [if_pos c3]
  rw [hf] at hv
  subst hv
  simp [fPrg,cPrg,c0,c0',c1,c2,c3,hy,hm,fldW]
 by_cases c4:(y.fields.l.length:Int)≤f
 ·have hf:fldAt d h f=none:=by unfold fldAt; rw [if_neg c3,hl]; exact List.getElem?_eq_none (by omega)
  rw [hf] at hv
  subst hv
  simp [fPrg,cPrg,c0,c0',c1,c2,c3,c4,hy,hm,fldW]
 obtain ⟨x,hx,hx'⟩:=nth_of (show f.toNat < y.fields.l.length by omega)
 have hf:fldAt d h f=some x:=by unfold fldAt; rw [if_neg c3,hl]; exact hx'
 have hxm:f.toNat < y.fields.l.length:=by omega
 rw [hf] at hv
 subst hv
 simp [fPrg,cPrg,c0,c0',c1,c2,c3,c4,hy,hm,hx,hxm,(show 0≤f by omega),fldW]
theorem rwide_g (w:Int):Gives Tryz.prog 256 [intF w] (two (wide w)):=by
 refine Gives.of mixed Tryz.func256 rfl rfl rfl (by kernel_rfl) ?_
 by_cases c1:w < 1
 ·simp [c1,wide,badW]
 by_cases c2:32 < w
 ·simp [c1,c2,wide,badW]
 simp [c1,c2,wide,badW]
theorem rleaf_g (d:PrgD) (ps:List FldD) (x:ExD):Gives Tryz.prog 240 [fEx x,fScp d ps] (two (primary d ps x)):=by
 refine Gives.of mixed Tryz.func240 rfl rfl rfl (by kernel_rfl) ?_
 simp [fScp,cPrg]
 by_cases o1:x.op=1
 ·simp [o1]
  refine call_g (rwide_g x.w) ?_
  cases hw:badW x.w with
  | true=>simp [wide,hw,primary,o1]
  | false =>
   have h':=(badW_not x.w).1 hw
   have hp:(2:Int) ^ x.w.toNat - 1≤4294967295∧0≤(2:Int) ^ x.w.toNat - 1:=by
    have:=pow_bd (n:=x.w.toNat) (by omega)
    omega
   by_cases c1:x.n < 0
   ·simp [wide,hw,primary,o1,c1]
   simp [wide,hw,o1,c1]
   refine call_g (rmask_g x.w) ?_
   have hk:=wrap64 (x:=(2:Int) ^ x.w.toNat - 1) (by omega) (by omega)
   by_cases c2:(2:Int) ^ x.w.toNat - 1 < x.n
   ·simp [maskM,hw,hk,c2,primary,o1,c1]
   ·simp [maskM,hw,hk,c2,primary,o1,c1]
 by_cases o2:x.op=2
 ·simp [o1,o2]
  refine call_g (rdecl_g d x.n x.w) ?_
  cases hf:fldAt d x.n x.w with
  | none=>simp [primary,o2,hf]
  | some f =>
   simp [fldW]
   refine call_g (rwide_g f.width) ?_
   simp [primary,o2,hf]
 by_cases o3:x.op=3
 ·by_cases c1:x.n < 0
  ·simp [o3,c1,primary]
  by_cases c2:(ps.length:Int)≤x.n
  ·have hn:ps[x.n.toNat]?=none:=List.getElem?_eq_none (by omega)
   simp [o3,c1,c2,primary,hn]
  obtain ⟨f,hx,hx'⟩:=nth_of (show x.n.toNat < ps.length by omega)
  simp [o3,c1,c2,(show 0≤x.n by omega),(show x.n.toNat < ps.length by omega),hx]
  refine call_g (rwide_g f.width) ?_
  simp [primary,o3,c1,hx']
 by_cases c1:x.n < 0
 ·simp [o1,o2,o3,c1,primary]
 by_cases c2:(d.headers.l.length:Int)≤x.n
 ·simp [o1,o2,o3,c1,c2,primary]
 ·simp [o1,o2,o3,c1,c2,primary]
theorem nt0 {α:Type} {a:α} {l:List α}:nth (a::l) 0=some a:=rfl
theorem nt1 {α:Type} {a b:α} {l:List α}:nth (a::b::l) 1=some b:=rfl
theorem nt2 {α:Type} {a b c:α} {l:List α}:nth (a::b::c::l) 2=some c:=rfl
theorem rop1_g (x:ExD) (c:Cap) (a:Int) (ha:0≤a∧a≤32) (h1:arity x.op=1):Gives Tryz.prog 241 [fEx x,.sl (encL intF [a]) c] (two (combine x a 0 0)):=by
 refine Gives.of mixed Tryz.func241 rfl rfl rfl (by kernel_rfl) ?_
 have h:x.op=5∨x.op=6∨x.op=7∨x.op=8:=by unfold arity at h1; repeat' split at h1 <;> omega
 rcases h with o | o | o | o
 ·simp [nt0,nt1,nt2,o,combine,arity]
 ·by_cases c1:x.n < 0
  ·simp [nt0,nt1,nt2,o,c1,combine]
  by_cases c2:31 < x.n
  ·simp [nt0,nt1,nt2,o,c1,c2,combine]
  simp [nt0,nt1,nt2,o,c1,c2,combine,arity]
 ·by_cases c1:x.n < 0
  ·simp [nt0,nt1,nt2,o,c1,combine]
  by_cases c2:31 < x.n
  ·simp [nt0,nt1,nt2,o,c1,c2,combine]
  simp [nt0,nt1,nt2,o,c1,c2,combine,arity]
 ·by_cases c1:x.n < 0
  ·simp [nt0,nt1,nt2,o,c1,combine]
  by_cases c2:x.w < 1
  ·simp [nt0,nt1,nt2,o,c1,c2,combine,badW]
  by_cases c3:32 < x.w
  ·simp [nt0,nt1,nt2,o,c1,c2,c3,combine,badW]
  have hs:=wrap64 (x:=a - x.w) (by omega) (by omega)
  by_cases c4:a - x.w < x.n
  ·simp [nt0,nt1,nt2,o,c1,c2,c3,c4,hs,combine,badW]
  ·simp [nt0,nt1,nt2,o,c1,c2,c3,c4,hs,combine,badW]
theorem rop2_g (x:ExD) (c:Cap) (a b:Int) (ha:0≤a∧a≤32) (hb:0≤b∧b≤32) (h1:arity x.op=2):Gives Tryz.prog 241 [fEx x,.sl (encL intF [a,b]) c] (two (combine x a b 0)):=by
 refine Gives.of mixed Tryz.func241 rfl rfl rfl (by kernel_rfl) ?_
 have h:9≤x.op∧x.op≤16:=by unfold arity at h1; repeat' split at h1 <;> omega
 have o5:¬ x.op=5:=by omega
 have o6:¬ x.op=6:=by omega
 have o7:¬ x.op=7:=by omega
 have o8:¬ x.op=8:=by omega
 have o17:¬ x.op=17:=by omega
 by_cases o14:x.op=14
 ·have hab:=wrap64 (x:=a+b) (by omega) (by omega)
  simp [nt0,nt1,nt2,o14,hab]
  refine call_g (rwide_g (a+b)) ?_
  simp [combine,o14]
 by_cases e:a=b
 ·by_cases o15:x.op=15
  ·simp [nt0,nt1,nt2,o15,e,combine,arity]
  by_cases o16:x.op=16
  ·simp [nt0,nt1,nt2,o16,e,combine,arity]
  simp [nt0,nt1,nt2,o5,o6,o7,o8,o14,o15,o16,o17,e,combine]
 ·simp [nt0,nt1,nt2,o5,o6,o7,o8,o14,o17,e,combine,h1]
theorem rop3_g (x:ExD) (c:Cap) (a b e:Int) (h1:arity x.op=3):Gives Tryz.prog 241 [fEx x,.sl (encL intF [a,b,e]) c] (two (combine x a b e)):=by
 refine Gives.of mixed Tryz.func241 rfl rfl rfl (by kernel_rfl) ?_
 have o:x.op=17:=by unfold arity at h1; repeat' split at h1 <;> omega
 by_cases c1:a=1
 ·by_cases c2:b=e
  ·simp [nt0,nt1,nt2,o,c1,c2,combine]
  ·simp [nt0,nt1,nt2,o,c1,c2,combine]
 ·simp [nt0,nt1,nt2,o,c1,combine]
def opWs (d:PrgD) (ps:List FldD) (n:List ExD) (i j:Nat):List Int:=(List.range j).map fun q=>(exI d ps n (opAt d ps n i q)).1
theorem opWs_next (d:PrgD) (ps:List FldD) (n:List ExD) (i j:Nat):opWs d ps n i (j+1)=opWs d ps n i j ++ [(exI d ps n (opAt d ps n i j)).1]:=by simp [opWs,List.range_succ]
def rckI (d:PrgD) (ps:List FldD) (n:List ExD) (i:Nat) (x:ExD) (j:Nat) (s:St):Prop:=(∀ q,q < j→(exI d ps n (opAt d ps n i q)).2.2=0)∧opAt d ps n i j≤n.length∧i < opAt d ps n i j∧∃ g k y t,OwnT k (encL intF (opWs d ps n i j)) 1 y t ∧
 Vf.Sl [(0,.f (sl (encL fEx n))),(1,.f (intF i)),(5,.ref 0 0),(9,.f (intF (arity x.op))),(12,y),(13,.f (intF (opAt d ps n i j))),(14,.f (intF j))] 85 ([.f (strF d.name),.f (sl (encL fHdr d.headers.l)),.f (sl (encL fFld d.meta_.l)),.f (sl (encL fReg d.regs.l)),.f (sl (encL fAct d.acts.l)),.f (sl (encL fTbl d.tables.l)),.f (sl (encL fSta d.states.l)),.f (sl (encL fNod d.control.l)),.f (sl (encL intF d.dep.l)),.f (sl (encL fFld ps))]::g) k s
def rckT (d:PrgD) (ps:List FldD) (n:List ExD) (i:Nat) (w to:Int):Prop:=(exI d ps n i).2.2=0→w=(exI d ps n i).1∧to=(exI d ps n i).2.1
theorem rcheck_g (d:PrgD) (ps:List FldD) (n:List ExD) (hn:n.length < 100000):∀ (k i:Nat),n.length < i+k→∃ w to,rckT d ps n i w to∧Gives Tryz.prog 186 [sl (encL fEx n),intF i,fScp d ps] (.tup [intF w,intF to,intF (exI d ps n i).2.2])
 | 0,i,h=>by
  have e:=exI_none d ps n i (by omega)
  refine ⟨0,i,(fun h=>by rw [e] at h; cases h),?_⟩
  refine Gives.of mixed Tryz.func186 rfl rfl rfl (by kernel_rfl) ?_
  have q:(n.length:Int)≤i:=by omega
  simp [q,fScp,cPrg,e]
 | k+1,i,h=>by
  by_cases hlt:i < n.length
  case neg =>
   have e:=exI_none d ps n i (by omega)
   refine ⟨0,i,(fun h=>by rw [e] at h; cases h),?_⟩
   refine Gives.of mixed Tryz.func186 rfl rfl rfl (by kernel_rfl) ?_
   have q:(n.length:Int)≤i:=by omega
   simp [q,fScp,cPrg,e]
  obtain ⟨x,hx,hx'⟩:=nth_of hlt
  have q:¬ ((n.length:Int)≤i):=by omega
  have hw:=wrap64 (x:=(i:Int)+1) (by omega) (by omega)
  have hS:=exI_some d ps n i x hx'
  by_cases a0:arity x.op < 0
  ·rw [if_pos a0] at hS
   refine ⟨0,i,(fun h=>by rw [hS] at h; cases h),?_⟩
   refine Gives.of mixed Tryz.func186 rfl rfl rfl (by kernel_rfl) ?_
   simp [q,hlt,hx,fScp,cPrg]
   refine call_g (rarity_g x.op) ?_
   simp [a0,hS]
  rw [if_neg a0] at hS
  by_cases a1:arity x.op=0
  ·rw [if_pos a1] at hS
   refine ⟨(primary d ps x).1,(i:Int)+1,(fun h=>by rw [hS]; exact ⟨rfl,by simp⟩),?_⟩
   refine Gives.of mixed Tryz.func186 rfl rfl rfl (by kernel_rfl) ?_
   simp [q,hlt,hx,fScp,cPrg]
   refine call_g (rarity_g x.op) ?_
   simp [a1,hlt,hx]
   refine call_g (rleaf_g d ps x) ?_
   simp [hw,hS]
  clear hS
  have a3:=arity_le x.op
  obtain ⟨m,hm⟩:∃ m:Nat,arity x.op=m:=⟨(arity x.op).toNat,by omega⟩
  have hop:∀ j,(∀ q,q < j→(exI d ps n (opAt d ps n i q)).2.2=0)→j=0∨opAt d ps n i j≤n.length:=fun j hj=>by
   cases j with
   | zero=>exact .inl rfl
   | succ j=>exact .inr (exI_ok _ _ _ _ (hj j (Nat.lt_succ_self j))).2.1
  have hgt:∀ j,(∀ q,q < j→(exI d ps n (opAt d ps n i q)).2.2=0)→i < opAt d ps n i j:=fun j=>by
   induction j with
   | zero=>intro _; exact Nat.lt_succ_self i
   | succ j ih =>
    intro hj
    have h1:=ih fun q hq=>hj q (by omega)
    have h2:=(exI_ok _ _ _ _ (hj j (Nat.lt_succ_self j))).1
    rw [opAt]; omega
  have key:∀ r:FV,((∀ q,q < m→(exI d ps n (opAt d ps n i q)).2.2=0)→r=.tup [intF (exI d ps n i).1,intF (exI d ps n i).2.1,intF (exI d ps n i).2.2]) →
    (∀ j,j < m→(∀ q,q < j→(exI d ps n (opAt d ps n i q)).2.2=0)→(exI d ps n (opAt d ps n i j)).2.2 ≠ 0→∃ w2 to2,Gives Tryz.prog 186 [sl (encL fEx n),intF (opAt d ps n i j),fScp d ps] (.tup [intF w2,intF to2,intF (exI d ps n (opAt d ps n i j)).2.2])∧r=.tup [intF 0,intF to2,intF (exI d ps n (opAt d ps n i j)).2.2]) →
    Gives Tryz.prog 186 [sl (encL fEx n),intF i,fScp d ps] r:=by
   intro r hfin hbad
   refine Gives.of mixed Tryz.func186 rfl rfl rfl (by kernel_rfl) ?_
   simp [q,hlt,hx,fScp,cPrg]
   refine call_g (rarity_g x.op) ?_
   simp [a0,a1,hw]
   refine forX mixed m (rckI d ps n i x) (by kernel_rfl) ⟨fun q h=>by omega,hlt,Nat.lt_succ_self i,[],[],_,0,.nil,Sl.of rfl rfl rfl⟩ ?_
   rintro j ⟨ts,hh,kk⟩ hj ⟨hz,hle,hg,g,kt,y,t,ho,rfl,rfl,f,rfl⟩
   by_cases hlj:j < m
   ·have hwj:=wrap64 (x:=(j:Int)+1) (by omega) (by omega)
    by_cases he:(exI d ps n (opAt d ps n i j)).2.2=0
    ·have ho2:=exI_ok _ _ _ _ he
     have hnx:i < opAt d ps n i (j+1):=by rw [opAt]; have:=ho2.1; omega
     obtain ⟨w,to,hT,hG⟩:=rcheck_g d ps n hn k (opAt d ps n i j) (by omega)
     obtain ⟨rfl,rfl⟩:=hT he
     obtain ⟨t',k',e,ho',_⟩:=append_own ty29 ty3 (by simp) ho (y:=.f (.sl [intF (exI d ps n (opAt d ps n i j)).1] .full)) rfl (by simp) (by simp) (by simp [opWs]; omega) (by simp [opWs]; omega)
     rw [show encL intF (opWs d ps n i j) ++ [intF (exI d ps n (opAt d ps n i j)).1]=encL intF (opWs d ps n i j ++ [(exI d ps n (opAt d ps n i j)).1]) by simp [encL]] at ho'
     simp [hm,hlj]
     refine call_g hG ?_
     simp [he,hwj,-opAppend]
     rw [e]
     simp [hwj]
     refine ⟨fun q hq=>?_,ho2.2.1,hnx,?_⟩
     ·rcases Nat.lt_or_ge q j with h1 | h1
      ·exact hz q h1
      ·obtain rfl:q=j:=by omega
       exact he
     ·rw [hm,opWs_next]; exact ⟨_,_,_,_,ho',Sl.of rfl rfl rfl⟩
    ·obtain ⟨w2,to2,hG,hr⟩:=hbad j hlj hz he
     simp [hm,hlj]
     refine call_g hG ?_
     simp [he,hr]
   ·obtain rfl:j=m:=by omega
    have hr:=hfin hz
    have hfinE:=exI_fin hx' hm (by omega) hz
    have b0:=opW_ok hz 0
    have b1:=opW_ok hz 1
    have hne:encL intF (opWs d ps n i j) ≠ []:=fun h=>by
     have:=congrArg List.length h
     simp [opWs] at this
     omega
    rcases ho with ⟨h1,_⟩ | ⟨_,rfl,_⟩
    ·exact absurd h1 hne
    have hW:∀ q,q < j→opW d ps n i j q=(exI d ps n (opAt d ps n i q)).1:=fun q hq=>if_pos hq
    have hW0:∀ q,¬ q < j→opW d ps n i j q=0:=fun q hq=>if_neg hq
    have hop:Gives Tryz.prog 241 [fEx x,sl (encL intF (opWs d ps n i j))] (two (combine x (opW d ps n i j 0) (opW d ps n i j 1) (opW d ps n i j 2))):=by
     have h3:j=1∨j=2∨j=3:=by omega
     rcases h3 with rfl | rfl | rfl
     ·rw [hW 0 (by omega)] at b0 ⊢
      rw [hW0 1 (by omega),hW0 2 (by omega)]
      exact rop1_g x .un _ b0 (by omega)
     ·rw [hW 0 (by omega)] at b0 ⊢
      rw [hW 1 (by omega)] at b1 ⊢
      rw [hW0 2 (by omega)]
      exact rop2_g x .un _ _ b0 b1 (by omega)
     ·rw [hW 0 (by omega),hW 1 (by omega),hW 2 (by omega)]
      exact rop3_g x .un _ _ _ (by omega)
    simp [hm,hlt,hx]
    refine call_g hop ?_
    rw [hfinE] at hr
    simp [hr]
  rcases Classical.em (∀ q,q < m→(exI d ps n (opAt d ps n i q)).2.2=0) with hall | hall
  ·exact ⟨(exI d ps n i).1,((exI d ps n i).2.1:Int),(fun _=>⟨rfl,rfl⟩),key _ (fun _=>rfl) (fun j hj _ hb=>absurd (hall j hj) hb)⟩
  ·obtain ⟨j,hj,hz,hb⟩:∃ j,j < m∧(∀ q,q < j→(exI d ps n (opAt d ps n i q)).2.2=0)∧(exI d ps n (opAt d ps n i j)).2.2 ≠ 0:=by
    have:∀ t,t≤m→(∀ q,q < t→(exI d ps n (opAt d ps n i q)).2.2=0)∨∃ j,j < m∧(∀ q,q < j→(exI d ps n (opAt d ps n i q)).2.2=0)∧(exI d ps n (opAt d ps n i j)).2.2 ≠ 0:=by
     intro t
     induction t with
     | zero=>intro _; exact .inl fun q h=>by omega
     | succ t ih =>
      intro ht
      rcases ih (by omega) with h1 | h1
      ·by_cases h2:(exI d ps n (opAt d ps n i t)).2.2=0
       ·refine .inl fun q hq=>?_
        rcases Nat.lt_or_ge q t with h3 | h3
        ·exact h1 q h3
        ·obtain rfl:q=t:=by omega
         exact h2
       ·exact .inr ⟨t,by omega,h1,h2⟩
      ·exact .inr h1
    rcases this m (Nat.le_refl _) with h1 | h1
    ·exact absurd h1 hall
    ·exact h1
   have hE:=exI_err hx' hm (by omega) hj hz hb
   obtain ⟨w2,to2,hT,hG⟩:=rcheck_g d ps n hn k (opAt d ps n i j) (by have:=hgt j hz; omega)
   refine ⟨0,to2,(fun h=>by rw [hE] at h; exact absurd h hb),?_⟩
   rw [hE]
   refine key _ (fun h=>absurd (h j hj) hb) fun j2 hj2 hz2 hb2=>?_
   have:j2=j:=by
    rcases Nat.lt_trichotomy j2 j with l | l | l
    ·exact absurd (hz j2 l) hb2
    ·exact l
    ·exact absurd (hz2 j l) hb
   subst this
   exact ⟨w2,to2,hG,rfl⟩
theorem rexCheck_g (d:PrgD) (ps:List FldD) (n:List ExD):Gives Tryz.prog 132 [sl (encL fEx n),fScp d ps] (two (exCheck d ps n)):=by
 refine Gives.of mixed Tryz.func132 rfl rfl rfl (by kernel_rfl) ?_
 rw [exCheck_eq]
 by_cases c1:24 < n.length
 ·have c1':24 < (n.length:Int):=by omega
  simp [c1,c1',fScp,cPrg]
 have c1':¬ 24 < (n.length:Int):=by omega
 obtain ⟨w,to,hT,hG⟩:=rcheck_g d ps n (by omega) (n.length+1) 0 (by omega)
 simp [c1,c1',fScp,cPrg]
 refine call_g hG ?_
 by_cases c2:(exI d ps n 0).2.2=0
 ·obtain ⟨rfl,rfl⟩:=hT c2
  by_cases c3:(exI d ps n 0).2.1 < n.length
  ·have c3':((exI d ps n 0).2.1:Int) < n.length:=by omega
   simp [c2,c3,c3']
  ·have c3':¬ ((exI d ps n 0).2.1:Int) < n.length:=by omega
   simp [c2,c3,c3']
 ·simp [c2]
def stScan (d:PrgD) (a:ActD) (i:Nat):Option (Int × Int):=match a.body.l[i]? with | none=>none | some s=>if stCheck d a.params.l s=0 then none else some ((i:Int),stCheck d a.params.l s)
theorem actCheckA_eq (d:PrgD) (a:ActD):actCheckA d a=if actDecl a ≠ 0 then (-1,actDecl a) else (scan a.body.l.length (stScan d a)).getD (0,0):=by kernel_rfl
def aScp (d:PrgD) (ps:List FldD):List AV:=[.f (strF d.name),.f (sl (encL fHdr d.headers.l)),.f (sl (encL fFld d.meta_.l)),.f (sl (encL fReg d.regs.l)),.f (sl (encL fAct d.acts.l)),.f (sl (encL fTbl d.tables.l)),.f (sl (encL fSta d.states.l)),.f (sl (encL fNod d.control.l)),.f (sl (encL intF d.dep.l)),.f (sl (encL fFld ps))]
def acI (d:PrgD) (a:ActD) (i:Nat) (s:St):Prop:=noneT (fun i=>(stScan d a i).isSome) (List.range a.body.l.length) i∧∃ g,Vf.Sl [(7,.ref 2 0),(35,.f (sl (encL fSt a.body.l))),(36,.f (intF a.body.l.length)),(37,.f (intF i))] 50 (aPrg d::[.f (strF a.name),.f (sl (encL fFld a.params.l)),.f (sl (encL fSt a.body.l))]::aScp d a.params.l::g) [] s
theorem act_g (d:PrgD) (hn:NmOk d) (r:Int):Gives Tryz.prog 102 [fPrg d,intF r] (two (actCheck d r)):=by
 refine Gives.of mixed Tryz.func102 rfl rfl rfl (by kernel_rfl) ?_
 rcases actAt (d:=d) r with ⟨c1,hr⟩ | ⟨c1,c2,hr⟩ | ⟨c1,c2,c3,a,ha,ha',hr⟩
 ·have hv:actCheck d r=(-1,8):=by unfold actCheck; rw [hr]
  simp [c1,fPrg,cPrg,hv]
 ·have hv:actCheck d r=(-1,8):=by unfold actCheck; rw [hr]
  simp [c1,c2,fPrg,cPrg,hv]
 have c0:0≤r:=by omega
 have hv:actCheck d r=actCheckA d a:=by unfold actCheck; rw [hr]
 rw [hv,actCheckA_eq]
 have hna:=hn.acts a (List.mem_of_getElem? ha')
 simp [c0,c1,c2,c3,ha,fPrg,cPrg]
 refine call_g (decl_g a hna.1 hna.2) ?_
 by_cases h1:actDecl a=0
 case neg=>simp [h1]
 have hbl:a.body.l.length≤12:=by
  unfold actDecl at h1
  split at h1
  ·simp at h1
  ·split at h1
   ·simp at h1
   ·omega
 simp [h1]
 refine forX mixed a.body.l.length (acI d a) (by kernel_rfl) ⟨.zero,[],Sl.of rfl rfl rfl⟩ ?_
 rintro i ⟨ts,hh,kk⟩ hi ⟨hno,g,rfl,rfl,f,rfl⟩
 by_cases hlt:i < a.body.l.length
 ·obtain ⟨x,hx,hx'⟩:=nth_of hlt
  have hw:=wrap64 (x:=(i:Int)+1) (by omega) (by omega)
  have hf:stScan d a i=if stCheck d a.params.l x=0 then none else some ((i:Int),stCheck d a.params.l x):=by simp only [stScan,hx']
  have out:∀ e,stScan d a i=some e→scan a.body.l.length (stScan d a)=some e:=fun e he=>scan_at hno hlt he
  simp [hlt,hx,aScp,aPrg]
  refine call_g (st_g d a.params.l x) ?_
  by_cases h2:stCheck d a.params.l x=0
  ·simp [h2,hw]
   exact ⟨hno.next (range_at hlt) (by rw [hf,if_pos h2]; rfl),_,Sl.of rfl rfl rfl⟩
  ·simp [h2,out _ (hf.trans (if_neg h2))]
 ·obtain rfl:i=a.body.l.length:=by omega
  simp [hlt,scan_of hno]
def rpaI (l:List FldD) (c:Cap) (i:Nat) (st:St):Prop:=noneT (fldHit l) (List.range l.length) i∧∃ g,Vf.Sl [(0,.f (.sl (encL fFld l) c)),(3,.f (intF i))] 50 g [] st
def rpaJ (l:List FldD) (c:Cap) (i:Nat) (x:FldD) (k:Nat) (st:St):Prop:=noneT (fun y=>sEq y.name x.name) (l.take i) k∧∃ g,Vf.Sl [(0,.f (.sl (encL fFld l) c)),(3,.f (intF i)),(4,.f (intF k))] 50 g [] st
theorem rparams_g (l:List FldD) (c:Cap) (hl:l.length < 2^62) (hs:∀ x ∈ l,x.name.size < 2^62):Gives Tryz.prog 177 [.sl (encL fFld l) c] (intF ((scan l.length (hdrField l)).getD 0)):=by
 refine Gives.of mixed Tryz.func177 rfl rfl rfl (by kernel_rfl) ?_
 generalize hv:(scan l.length (hdrField l)).getD 0=v
 simp
 refine forX mixed l.length (rpaI l c) (by kernel_rfl) ⟨.zero,[],Sl.of rfl rfl rfl⟩ ?_
 rintro i ⟨ts,hh,kk⟩ hi ⟨hno,g,rfl,rfl,f,rfl⟩
 by_cases hlt:i < l.length
 ·obtain ⟨x,hx,hx'⟩:=nth_of hlt
  have hw:=wrap64 (x:=(i:Int)+1) (by omega) (by omega)
  have hf:hdrField l i=if !ident x.name then some 6 else if badW x.width then some 10 else if (l.take i).any (fun g=>sEq g.name x.name) then some 7 else none:=by simp [hdrField,hx']
  have out:∀ e,hdrField l i=some e→v=e:=fun e he=>by rw [← hv,scan_at hno hlt he]; rfl
  simp [hlt,hx]
  refine call_g (rident_g x.name (hs x (List.mem_of_getElem? hx'))) ?_
  cases i1:ident x.name with
  | false=>simp [out 6 (by rw [hf,i1]; rfl)]
  | true =>
  by_cases w1:x.width < 1
  ·simp [hlt,hx,w1,out 10 (by rw [hf,i1]; simp [badW,w1])]
  by_cases w2:32 < x.width
  ·simp [hlt,hx,w1,w2,out 10 (by rw [hf,i1]; simp [badW,w2])]
  have wb:badW x.width=false:=by simp [badW,w1,w2]
  simp [hlt,hx,w1,w2]
  refine forX mixed i (rpaJ l c i x) (by kernel_rfl) ⟨.zero,_,Sl.of rfl rfl rfl⟩ ?_
  rintro k ⟨ts,hh,kk⟩ hk ⟨hno2,g,rfl,rfl,f,rfl⟩
  by_cases hkt:k < i
  ·obtain ⟨y,hy,hy'⟩:=nth_of (show k < l.length by omega)
   have hyt:(l.take i)[k]?=some y:=by rw [List.getElem?_take_of_lt hkt]; exact hy'
   have hw':=wrap64 (x:=(k:Int)+1) (by omega) (by omega)
   cases he:sEq y.name x.name with
   | true =>
    have:=any_hit (p:=fun y:FldD=>sEq y.name x.name) hyt he
    simp [hkt,hlt,(show k < l.length by omega),hx,hy,he,hw',hw]
    exact (out 7 (by rw [hf,i1,wb,this]; rfl)).symm
   | false =>
    simp [hkt,hlt,(show k < l.length by omega),hx,hy,he,hw',hw]
    exact ⟨hno2.next hyt he,_,Sl.of rfl rfl rfl⟩
  ·obtain rfl:k=i:=by omega
   have:=hno2.all (by simp; omega)
   simp [hw]
   exact ⟨hno.next (range_at hlt) (by simp [fldHit,hf,i1,wb,this]),_,Sl.of rfl rfl rfl⟩
 ·obtain rfl:i=l.length:=by omega
  rw [scan_of hno] at hv
  subst hv
  simp
theorem rscope_g (d:PrgD) (r:Int) (a:ActD) (h0:0≤r) (ha:d.acts.l[r.toNat]?=some a):Gives Tryz.prog 179 [fPrg d,intF r] (fScp d a.params.l):=by
 refine Gives.of mixed Tryz.func179 rfl rfl rfl (by kernel_rfl) ?_
 obtain ⟨hlt,_⟩:=List.getElem?_eq_some_iff.1 ha
 obtain ⟨x,hx,hx'⟩:=nth_of hlt
 rw [ha] at hx'
 obtain rfl:=Option.some.inj hx'
 simp [fPrg,cPrg,h0,hlt,hx,fScp]
 try exact ⟨3,_,rfl,by simp⟩
theorem rsized_g (d:PrgD) (ps:List FldD) (n:List ExD) (w:Int):Gives Tryz.prog 230 [sl (encL fEx n),fScp d ps,intF w] (intF (valCheck d ps n w)):=by
 refine Gives.of mixed Tryz.func230 rfl rfl rfl (by kernel_rfl) ?_
 simp [fScp,cPrg]
 refine call_g (rexCheck_g d ps n) ?_
 by_cases c1:(exCheck d ps n).2=0
 ·by_cases c2:(exCheck d ps n).1=w <;> simp [c1,c2,valCheck]
 ·simp [c1,valCheck]
theorem rst_g (d:PrgD) (ps:List FldD) (s:StD):Gives Tryz.prog 178 [fPrg d,fSt s,fScp d ps] (intF (stCheck d ps s)):=by
 refine Gives.of mixed Tryz.func178 rfl rfl rfl (by kernel_rfl) ?_
 simp [fScp,fPrg,cPrg]
 refine call_g (rdecl_g d s.dh s.df) ?_
 by_cases k1:s.kind=1
 ·cases hf:fldAt d s.dh s.df with
  | none=>rcases regAt (d:=d) s.reg with ⟨c1,hr⟩ | ⟨c1,c2,hr⟩ | ⟨c1,c2,c3,y,hy,hr⟩ <;> simp [*,stCheck,fldW]
  | some f =>
   have hv:stCheck d ps s=valCheck d ps s.value.l f.width:=by unfold stCheck; rw [if_pos k1,hf]
   rw [hv]
   rcases regAt (d:=d) s.reg with ⟨c1,hr⟩ | ⟨c1,c2,hr⟩ | ⟨c1,c2,c3,y,hy,hr⟩
   ·simp [c1,k1,fldW]; exact call_g (rsized_g d ps s.value.l f.width) (by simp)
   ·simp [c1,c2,k1,fldW]; exact call_g (rsized_g d ps s.value.l f.width) (by simp)
   ·simp [c1,c2,k1,fldW]; exact call_g (rsized_g d ps s.value.l f.width) (by simp)
 by_cases k2:s.kind=2∨s.kind=3
 ·have hv:stCheck d ps s=if s.hdr < 0∨(d.headers.l.length:Int)≤s.hdr then 8 else 0:=by unfold stCheck; rw [if_neg k1,if_pos k2]
  rw [hv]
  by_cases h1:s.hdr < 0 <;> by_cases h2:(d.headers.l.length:Int)≤s.hdr <;> rcases k2 with k2 | k2 <;> rcases regAt (d:=d) s.reg with ⟨c1,hr⟩ | ⟨c1,c2,hr⟩ | ⟨c1,c2,c3,y,hy,hr⟩ <;> simp [*]
 have k2a:¬ s.kind=2:=fun h=>k2 (.inl h)
 have k2b:¬ s.kind=3:=fun h=>k2 (.inr h)
 by_cases k4:s.kind=4∨s.kind=5
 ·rcases regAt (d:=d) s.reg with ⟨c1,hr⟩ | ⟨c1,c2,hr⟩ | ⟨c1,c2,c3,y,hy,hr⟩
  ·have hv:stCheck d ps s=8:=by unfold stCheck; rw [if_neg k1,if_neg k2,if_pos k4,hr]
   cases hf:(fldAt d s.dh s.df).isSome <;> rcases k4 with k4 | k4 <;> simp [c1,k4,hv,hf]
  ·have hv:stCheck d ps s=8:=by unfold stCheck; rw [if_neg k1,if_neg k2,if_pos k4,hr]
   cases hf:(fldAt d s.dh s.df).isSome <;> rcases k4 with k4 | k4 <;> simp [c1,c2,k4,hv,hf]
  ·have hv:stCheck d ps s=if s.kind=4∧(fldAt d s.dh s.df).isNone then 8
    else if (exCheck d ps s.index.l).2 ≠ 0 then (exCheck d ps s.index.l).2
    else if s.kind=5 then valCheck d ps s.value.l y.width
    else if fldW (fldAt d s.dh s.df)=y.width then 0 else 10:=by
     unfold stCheck; rw [if_neg k1,if_neg k2,if_pos k4,hr]; rfl
   rw [hv]
   rcases k4 with k4 | k4
   ·cases hf:fldAt d s.dh s.df with
    | none=>simp [c1,c2,k4,fldW]
    | some f =>
     simp [c1,c2,k4,fldW]
     refine call_g (rexCheck_g d ps s.index.l) ?_
     by_cases h1:(exCheck d ps s.index.l).2=0
     ·by_cases h2:f.width=y.width <;> simp [h1,k4,c1,c3,hy,h2]
     ·simp [h1]
   ·simp [c1,c2,k4]
    refine call_g (rexCheck_g d ps s.index.l) ?_
    by_cases h1:(exCheck d ps s.index.l).2=0
    ·simp [h1,k4,c1,c3,hy]
     exact call_g (rsized_g d ps s.value.l y.width) (by simp)
    ·simp [h1]
 ·have k4a:¬ s.kind=4:=fun h=>k4 (.inl h)
  have k4b:¬ s.kind=5:=fun h=>k4 (.inr h)
  have hv:stCheck d ps s=11:=by unfold stCheck; rw [if_neg k1,if_neg k2,if_neg k4]
  rcases regAt (d:=d) s.reg with ⟨c1,hr⟩ | ⟨c1,c2,hr⟩ | ⟨c1,c2,c3,y,hy,hr⟩ <;> simp [*]
def racI (d:PrgD) (a:ActD) (r:Int) (i:Nat) (s:St):Prop:=noneT (fun i=>(stScan d a i).isSome) (List.range a.body.l.length) i∧∃ g,Vf.Sl [(1,.f (intF r)),(2,.ref 0 0),(6,.ref 1 0),(7,.f (intF i))] 68 (aPrg d::[.f (strF a.name),.f (sl (encL fFld a.params.l)),.f (sl (encL fSt a.body.l))]::g) [] s
theorem ract_g (d:PrgD) (hn:NmOk d) (r:Int):Gives Tryz.prog 126 [fPrg d,intF r] (two (actCheck d r)):=by
 refine Gives.of mixed Tryz.func126 rfl rfl rfl (by kernel_rfl) ?_
 rcases actAt (d:=d) r with ⟨c1,hr⟩ | ⟨c1,c2,hr⟩ | ⟨c1,c2,c3,a,ha,ha',hr⟩
 ·have hv:actCheck d r=(-1,8):=by unfold actCheck; rw [hr]
  simp [c1,fPrg,cPrg,hv]
 ·have hv:actCheck d r=(-1,8):=by unfold actCheck; rw [hr]
  simp [c1,c2,fPrg,cPrg,hv]
 have c0:0≤r:=by omega
 have hv:actCheck d r=actCheckA d a:=by unfold actCheck; rw [hr]
 rw [hv,actCheckA_eq]
 have hna:=hn.acts a (List.mem_of_getElem? ha')
 simp [c0,c1,c2,c3,ha,fPrg,cPrg]
 refine call_g (rident_g a.name hna.1) ?_
 have hD:actDecl a=if !ident a.name then 6 else if 4 < a.params.l.length∨12 < a.body.l.length then 12 else (scan a.params.l.length (hdrField a.params.l)).getD 0:=rfl
 cases h1:ident a.name with
 | false=>simp [hD,h1]
 | true =>
 rw [h1] at hD
 by_cases p1:4 < a.params.l.length
 ·have p1':4 < (a.params.l.length:Int):=by omega
  simp [hD,p1,p1']
 have p1':¬ 4 < (a.params.l.length:Int):=by omega
 by_cases p2:12 < a.body.l.length
 ·have p2':12 < (a.body.l.length:Int):=by omega
  simp [hD,p1,p1',p2,p2']
 have p2':¬ 12 < (a.body.l.length:Int):=by omega
 have hD2:actDecl a=(scan a.params.l.length (hdrField a.params.l)).getD 0:=by rw [hD]; simp [p1,p2]
 have hpar:=rparams_g a.params.l .un (by omega) hna.2
 rw [← hD2] at hpar
 simp [p1',p2']
 refine call_g hpar ?_
 by_cases h2:actDecl a=0
 case neg =>
  simp [h2]
  refine call_g hpar ?_
  simp
 simp [h2]
 refine forX mixed a.body.l.length (racI d a r) (by kernel_rfl) ⟨.zero,[],Sl.of rfl rfl rfl⟩ ?_
 rintro i ⟨ts,hh,kk⟩ hi ⟨hno,g,rfl,rfl,f,rfl⟩
 by_cases hlt:i < a.body.l.length
 ·obtain ⟨x,hx,hx'⟩:=nth_of hlt
  have hw:=wrap64 (x:=(i:Int)+1) (by omega) (by omega)
  have hf:stScan d a i=if stCheck d a.params.l x=0 then none else some ((i:Int),stCheck d a.params.l x):=by simp only [stScan,hx']
  have out:∀ e,stScan d a i=some e→scan a.body.l.length (stScan d a)=some e:=fun e he=>scan_at hno hlt he
  simp [hlt,hx,aPrg]
  refine call_g (rscope_g d r a c0 ha') ?_
  simp
  refine call_g (rst_g d a.params.l x) ?_
  by_cases h3:stCheck d a.params.l x=0
  ·simp [h3,hw]
   exact ⟨hno.next (range_at hlt) (by rw [hf,if_pos h3]; rfl),_,Sl.of rfl rfl rfl⟩
  ·simp [h3,out _ (hf.trans (if_neg h3))]
 ·obtain rfl:i=a.body.l.length:=by omega
  simp [hlt,scan_of hno]
def rccI (y:ActD) (d:PrgD) (act:Int) (args:List Int) (i:Nat) (s:St):Prop:=noneT (argBad y args) (List.range args.length) i∧∃ g,Vf.Sl [(3,.ref 1 0),(5,.f (sl (encL fFld y.params.l))),(6,.f (intF i))] 49 (aPrg d::[.f (intF act),.f (sl (encL u32F args))]::g) [] s
theorem rcall_g (d:PrgD) (act:Int) (args:List Int) (lenB:args.length < 2^62) (hU:∀ x ∈ args,U32 x):Gives Tryz.prog 233 [fPrg d,fCall act args] (intF (callCheck d act args)):=by
 refine Gives.of mixed Tryz.func233 rfl rfl rfl (by kernel_rfl) ?_
 rcases actAt (d:=d) act with ⟨c1,hr⟩ | ⟨c1,c2,hr⟩ | ⟨c1,c2,c3,y,hy,-,hr⟩
 ·have hv:callCheck d act args=8:=by rw [callCheck_eq,hr]
  simp [c1,fPrg,cPrg,hv]
 ·have hv:callCheck d act args=8:=by rw [callCheck_eq,hr]
  simp [c1,c2,fPrg,cPrg,hv]
 have c0:0≤act:=by omega
 by_cases c4:args.length=y.params.l.length
 case neg =>
  have c4':¬ (args.length:Int)=y.params.l.length:=by omega
  have hv:callCheck d act args=2:=by rw [callCheck_eq,hr]; exact if_pos c4
  simp [c0,c1,c2,c3,hy,c4,c4',fPrg,cPrg,hv]
 have c4':(args.length:Int)=y.params.l.length:=by omega
 have hv:callCheck d act args=if argsAll y args then 0 else 9:=by rw [callCheck_eq,hr]; exact if_neg (by simpa using c4)
 rw [hv]
 simp [c0,c1,c2,c3,hy,c4,fPrg,cPrg]
 refine forX mixed args.length (rccI y d act args) (by kernel_rfl) ⟨.zero,[],Sl.of rfl rfl rfl⟩ ?_
 rintro i ⟨ts,hh,kk⟩ hi ⟨hno,g,rfl,rfl,f,rfl⟩
 by_cases hlt:i < args.length
 ·obtain ⟨x,hx,hx'⟩:=nth_of hlt
  obtain ⟨u,hu,hu'⟩:=nth_of (show i < y.params.l.length by omega)
  have hw:=wrap64 (x:=(i:Int)+1) (by omega) (by have:=lenB; omega)
  have hb:argBad y args i=!fitsW x u.width:=by simp only [argBad,argOk,hx',hu']
  simp [← c4,hlt,hx,hu]
  refine call_g (rfits_g x u.width (hU x (List.mem_of_getElem? hx'))) ?_
  cases hf:fitsW x u.width with
  | false =>
   have:argsAll y args=false:=by
    unfold argsAll
    rw [List.all_eq_false]
    exact ⟨i,List.mem_range.2 hlt,by simp only [argOk,hx',hu',hf]; decide⟩
   simp [this]
  | true =>
   simp [hw]
   exact ⟨hno.next (range_at hlt) (by rw [hb,hf]; rfl),_,Sl.of rfl rfl rfl⟩
 ·obtain rfl:i=args.length:=by omega
  have:argsAll y args=true:=by
   unfold argsAll
   rw [List.all_eq_true]
   intro j hj
   have:=hno j j (List.mem_range.1 hj) (range_at (List.mem_range.1 hj))
   simpa [argBad] using this
  simp [← c4,this]
theorem isum_append (l m:List Int):isum (l ++ m)=isum l+isum m:=by
 induction l with
 | nil=>simp [isum]
 | cons a l ih=>simp only [List.cons_append,isum,ih]; omega
theorem widthOf_bd (d:PrgD) (h f:Int):0≤widthOf d h f∧widthOf d h f≤32:=by
 rw [widthOf_eq]
 split
 ·omega
 ·rename_i h1
  have:=(badW_not _).1 (by simpa using h1)
  omega
theorem keyBits_bd (d:PrgD) (l:List KeyD):0≤keyBits d l∧keyBits d l≤32 * l.length:=by
 unfold keyBits
 induction l with
 | nil=>simp [isum]
 | cons a l ih=>have:=widthOf_bd d a.h a.f; simp only [List.map_cons,isum,List.length_cons]; omega
theorem take_snoc {α:Type} {l:List α} {k:Nat} {x:α} (h:l[k]?=some x):l.take (k+1)=l.take k ++ [x]:=by
 rw [List.take_add_one,h]; rfl
theorem keyBits_next {d:PrgD} {l:List KeyD} {k:Nat} {x:KeyD} (h:l[k]?=some x):keyBits d (l.take (k+1))=keyBits d (l.take k)+widthOf d x.h x.f:=by
 rw [take_snoc h]; unfold keyBits; rw [List.map_append,isum_append]; simp [isum]
theorem keyLpm_next {l:List KeyD} {k:Nat} {x:KeyD} (h:l[k]?=some x):keyLpm (l.take (k+1))=keyLpm (l.take k)+if x.kind=2 then 1 else 0:=by
 rw [take_snoc h]; unfold keyLpm; rw [List.countP_append]; simp [List.countP_cons]
theorem keyLpm_le (l:List KeyD):keyLpm l≤l.length:=List.countP_le_length
def ckI (d:PrgD) (t:TblD) (i:Nat) (s:St):Prop:=noneT (fun i=>(keyScan d t.keys.l i).isSome) (List.range t.keys.l.length) i∧∃ g,Vf.Sl [(2,.ref 0 0),(6,.f (intF (keyLpm (t.keys.l.take i)))),(7,.f (intF (keyBits d (t.keys.l.take i)))),(12,.f (sl (encL fKey t.keys.l))),(13,.f (intF t.keys.l.length)),(14,.f (intF i))] 44 (aPrg d::g) [] s
theorem keys_g (d:PrgD) (t:TblD) (hl:t.keys.l.length < 100000):Gives Tryz.prog 149 [fPrg d,fTbl t] (two (keysCheck d t.keys.l)):=by
 refine Gives.of mixed Tryz.func149 rfl rfl rfl (by kernel_rfl) ?_
 simp [fPrg,cPrg]
 refine forX mixed t.keys.l.length (ckI d t) (by kernel_rfl) ⟨.zero,_,Sl.of rfl rfl rfl⟩ ?_
 rintro i ⟨ts,hh,kk⟩ hi ⟨hno,g,rfl,rfl,f,rfl⟩
 have hkc:keysCheck d t.keys.l=match scan t.keys.l.length (keyScan d t.keys.l) with | some e=>e | none=>if 1 < keyLpm t.keys.l then (-2,7) else if 64 < keyBits d t.keys.l then (-2,10) else (0,0):=rfl
 by_cases hlt:i < t.keys.l.length
 ·obtain ⟨x,hx,hx'⟩:=nth_of hlt
  have hw:=wrap64 (x:=(i:Int)+1) (by omega) (by omega)
  have hlm:=keyLpm_le (t.keys.l.take i)
  have hbb:=keyBits_bd d (t.keys.l.take i)
  have hti:(t.keys.l.take i).length=i:=by rw [List.length_take]; omega
  have hwb:=widthOf_bd d x.h x.f
  have hwl:=wrap64 (x:=((keyLpm (t.keys.l.take i):Nat):Int)+1) (by omega) (by omega)
  have hwk:=wrap64 (x:=keyBits d (t.keys.l.take i)+widthOf d x.h x.f) (by omega) (by omega)
  have hf:keyScan d t.keys.l i=if widthOf d x.h x.f=0 then some ((i:Int),8) else if 1≤x.kind∧x.kind≤3 then none else some ((i:Int),11):=by simp only [keyScan,hx']
  have out:∀ e,keyScan d t.keys.l i=some e→keysCheck d t.keys.l=e:=fun e he=>by rw [hkc,scan_at hno hlt he]
  simp [hlt,hx,aPrg]
  refine call_g (envWidth_g d x.h x.f) ?_
  by_cases h1:widthOf d x.h x.f=0
  ·simp [h1,out _ (hf.trans (if_pos h1))]
  rw [if_neg h1] at hf
  have hb':=keyBits_next (d:=d) hx'
  have hl':=keyLpm_next hx'
  by_cases k2:x.kind=2
  ·rw [if_pos k2] at hl'
   simp [h1,k2,hw,hwl,hwk]
   exact ⟨hno.next (range_at hlt) (by rw [hf,if_pos (by omega)]; rfl),_,by rw [hb',hl']; exact Sl.of rfl rfl rfl⟩
  rw [if_neg k2] at hl'
  by_cases k1:x.kind=1
  ·simp [h1,k1,hw,hwl,hwk]
   exact ⟨hno.next (range_at hlt) (by rw [hf,if_pos (by omega)]; rfl),_,by rw [hb',hl']; exact Sl.of rfl rfl rfl⟩
  by_cases k3:x.kind=3
  ·simp [h1,k3,hw,hwl,hwk]
   exact ⟨hno.next (range_at hlt) (by rw [hf,if_pos (by omega)]; rfl),_,by rw [hb',hl']; exact Sl.of rfl rfl rfl⟩
  simp [h1,k1,k2,k3,out _ (hf.trans (if_neg (by omega)))]
 ·obtain rfl:i=t.keys.l.length:=by omega
  rw [hkc,scan_of hno]
  by_cases h1:1 < keyLpm t.keys.l
  ·have h1':1 < (keyLpm t.keys.l:Int):=by omega
   simp [h1,h1']
  have h1':¬ 1 < (keyLpm t.keys.l:Int):=by omega
  by_cases h2:64 < keyBits d t.keys.l
  ·simp [h1,h1',h2]
  ·simp [h1,h1',h2]
theorem first_of {α:Type} {p:α→Bool} {l:List α} (h:l.any p=true):∃ k:Nat,∃ x,l[k]?=some x∧p x=true∧noneT p l k:=by
 induction l with
 | nil=>simp at h
 | cons a l ih =>
  cases ha:p a with
  | true=>exact ⟨0,a,rfl,ha,.zero⟩
  | false =>
   rw [List.any_cons,ha,Bool.false_or] at h
   obtain ⟨k,x,h1,h2,h3⟩:=ih h
   refine ⟨k+1,x,by simpa using h1,h2,fun j y hj hy=>?_⟩
   cases j with
   | zero=>simp at hy; rw [← hy]; exact ha
   | succ j=>exact h3 j y (by omega) (by simpa using hy)
theorem idxInt_g (l:List Int) (c:Cap) (v:Int) (hl:l.length < 2^62):∃ i:Int,(decide (0≤i)=l.contains v)∧Gives Tryz.prog 210 [.sl (encL intF l) c,intF v] (intF i):=by
 have hc:l.contains v=l.any (fun x=>v == x):=by
  induction l with
  | nil=>rfl
  | cons a l ih=>rw [List.contains_cons,List.any_cons,ih (by simp at hl; omega)]
 rw [hc]
 cases h:l.any (fun x=>v == x) with
 | false =>
  refine ⟨-1,rfl,Gives.of mixed Tryz.func210 rfl rfl rfl (by kernel_rfl) ?_⟩
  simp
  refine forX mixed l.length (fun k s=>Vf.Sl [(0,.f (.sl (encL intF l) c)),(1,.f (intF v)),(7,.f (intF l.length)),(8,.f (intF k))] 19 [] [] s) (by kernel_rfl) (Sl.of rfl rfl rfl) ?_
  rintro k ⟨t,hh,kk⟩ hk ⟨rfl,rfl,f,rfl⟩
  by_cases hlt:k < l.length
  ·obtain ⟨x,hx,hx'⟩:=nth_of hlt
   have hw:=wrap64 (x:=(k:Int)+1) (by omega) (by omega)
   have hq:¬ v=x:=by
    have:=List.any_eq_false.1 h x (List.mem_of_getElem? hx')
    simpa using this
   simp [hlt,hx,hq,hw]
   exact Sl.of rfl rfl rfl
  ·obtain rfl:k=l.length:=by omega
   simp
 | true =>
  obtain ⟨m,z,hm,hz,hno⟩:=first_of h
  have hml:=(List.getElem?_eq_some_iff.1 hm).1
  refine ⟨m,by simp,Gives.of mixed Tryz.func210 rfl rfl rfl (by kernel_rfl) ?_⟩
  simp
  refine forX mixed m (fun k s=>Vf.Sl [(0,.f (.sl (encL intF l) c)),(1,.f (intF v)),(7,.f (intF l.length)),(8,.f (intF k))] 19 [] [] s) (by kernel_rfl) (Sl.of rfl rfl rfl) ?_
  rintro k ⟨t,hh,kk⟩ hk ⟨rfl,rfl,f,rfl⟩
  have hlt:k < l.length:=by omega
  obtain ⟨x,hx,hx'⟩:=nth_of hlt
  have hw:=wrap64 (x:=(k:Int)+1) (by omega) (by omega)
  by_cases hkm:k < m
  ·have hq:¬ v=x:=by simpa using hno k x hkm hx'
   simp [hlt,hx,hq,hw]
   exact ⟨hkm,Sl.of rfl rfl rfl⟩
  ·obtain rfl:k=m:=by omega
   rw [hm] at hx'
   obtain rfl:=Option.some.inj hx'
   have hz':v=z:=by simpa using hz
   simp [hlt,hx,hz']
theorem hasInt_g (l:List Int) (c:Cap) (v:Int) (hl:l.length < 2^62):Gives Tryz.prog 158 [.sl (encL intF l) c,intF v] (boolF (l.contains v)):=by
 refine Gives.of mixed Tryz.func158 rfl rfl rfl (by kernel_rfl) ?_
 simp
 obtain ⟨i,hi,hg⟩:=idxInt_g l c v hl
 refine call_g hg ?_
 simp [hi]
def dpI (d:PrgD) (i:Nat) (s:St):Prop:=noneT (fun i=>(depScan d i).isSome) (List.range d.dep.l.length) i∧∃ g,Vf.Sl [(1,.ref 0 0),(11,.f (sl (encL intF d.dep.l))),(12,.f (intF d.dep.l.length)),(13,.f (intF i))] 38 (aPrg d::g) [] s
theorem dep_g (d:PrgD):Gives Tryz.prog 108 [fPrg d] (two (depCheck d)):=by
 refine Gives.of mixed Tryz.func108 rfl rfl rfl (by kernel_rfl) ?_
 by_cases c1:8 < d.dep.l.length
 ·have c1':8 < (d.dep.l.length:Int):=by omega
  simp [c1,c1',fPrg,cPrg,depCheck]
 have c1':¬ 8 < (d.dep.l.length:Int):=by omega
 have hv:depCheck d=(scan d.dep.l.length (depScan d)).getD (0,0):=by unfold depCheck; rw [if_neg c1]
 rw [hv]
 simp [c1,c1',fPrg,cPrg]
 refine forX mixed d.dep.l.length (dpI d) (by kernel_rfl) ⟨.zero,_,Sl.of rfl rfl rfl⟩ ?_
 rintro i ⟨ts,hh,kk⟩ hi ⟨hno,g,rfl,rfl,f,rfl⟩
 by_cases hlt:i < d.dep.l.length
 ·obtain ⟨x,hx,hx'⟩:=nth_of hlt
  have hw:=wrap64 (x:=(i:Int)+1) (by omega) (by omega)
  have hf:depScan d i=if x < 0∨(d.headers.l.length:Int)≤x then some ((i:Int),8) else if (d.dep.l.take i).contains x then some ((i:Int),7) else none:=by simp only [depScan,hx']
  have out:∀ e,depScan d i=some e→scan d.dep.l.length (depScan d)=some e:=fun e he=>scan_at hno hlt he
  by_cases c2:x < 0
  ·simp [hlt,hx,c2,aPrg,out _ (hf.trans (if_pos (.inl c2)))]
  by_cases c3:(d.headers.l.length:Int)≤x
  ·simp [hlt,hx,c2,c3,aPrg,out _ (hf.trans (if_pos (.inr c3)))]
  rw [if_neg (by omega)] at hf
  simp [hlt,hx,c2,c3,aPrg]
  rw [sliceF (enc:=intF) (l:=d.dep.l) (c:=.un) (i:=i) ty29 ty3 (by simp) (fun _=>rfl) (Nat.le_of_lt hlt)]
  simp
  refine call_g (hasInt_g (d.dep.l.take i) .un x (by rw [List.length_take]; omega)) ?_
  cases he:(d.dep.l.take i).contains x with
  | true=>simp [out _ (hf.trans (if_pos he))]
  | false =>
   simp [hw]
   exact ⟨hno.next (range_at hlt) (by rw [hf,if_neg (by rw [he]; decide)]; rfl),_,Sl.of rfl rfl rfl⟩
 ·obtain rfl:i=d.dep.l.length:=by omega
  simp [hlt,scan_of hno]
theorem leads_g (d:PrgD) (st nx:Int):Gives Tryz.prog 208 [fPrg d,intF st,intF nx] (boolF (leadsD d st nx)):=by
 refine Gives.of mixed Tryz.func208 rfl rfl rfl (by kernel_rfl) ?_
 by_cases c1:nx=-1
 ·simp [c1,fPrg,cPrg,leadsD]
 by_cases c2:nx=-2
 ·simp [c1,c2,fPrg,cPrg,leadsD]
 by_cases c3:st < nx
 ·simp [c1,c2,c3,fPrg,cPrg,leadsD]
 ·simp [c1,c2,c3,fPrg,cPrg,leadsD]
theorem case_g (d:PrgD) (st:Nat) (s:StaD) (c:CaseD) (hs:d.states.l[st]?=some s):Gives Tryz.prog 207 [fPrg d,intF st,fCase c] (intF (caseCheck d st s c)):=by
 refine Gives.of mixed Tryz.func207 rfl rfl rfl (by kernel_rfl) ?_
 have hlt:=(List.getElem?_eq_some_iff.1 hs).1
 have hx:nth d.states.l st=some s:=hs
 simp [hlt,hx,fPrg,cPrg]
 refine call_g (envWidth_g d s.onh s.onf) ?_
 have hv:caseCheck d st s c=if (!fitsW c.value (widthOf d s.onh s.onf)) || !fitsW c.mask (widthOf d s.onh s.onf) then 9
   else if andNotU c.value c.mask ≠ 0 then 5 else if !leadsD d st c.next then 14 else 0:=rfl
 rw [hv]
 generalize widthOf d s.onh s.onf=W
 simp
 refine call_g (fits_g c.value W) ?_
 cases h1:fitsW c.value W with
 | false=>simp
 | true =>
 simp
 refine call_g (fits_g c.mask W) ?_
 cases h2:fitsW c.mask W with
 | false=>simp
 | true =>
 by_cases h3:andNotU c.value c.mask=0
 case neg =>
  have h3':¬ notI .u32 c.value c.mask=0:=h3
  simp [h3,h3']
 have h3':notI .u32 c.value c.mask=0:=h3
 simp [h3,h3']
 refine call_g (leads_g d st c.next) ?_
 cases h4:leadsD d st c.next <;> simp
def aSta (s:StaD) (q:Bool):List AV:=[.f (strF s.name),.f (sl (encL intF s.extract.l)),.f (boolF q),.f (intF s.onh),.f (intF s.onf),.f (sl (encL fCase s.cases.l)),.f (intF s.dfl)]
def noHdr (d:PrgD) (h:Int):Bool:=decide (h < 0) || decide ((d.headers.l.length:Int)≤h)
def stI1 (d:PrgD) (st:Nat) (s:StaD) (i:Nat) (t:St):Prop:=noneT (noHdr d) s.extract.l i∧∃ g,Vf.Sl [(1,.f (intF st)),(2,.ref 0 0),(6,.ref 1 0),(28,.f (sl (encL intF s.extract.l))),(29,.f (intF s.extract.l.length)),(30,.f (intF i))] 87 (aPrg d::aSta s s.sel::g) [] t
def stI2 (d:PrgD) (st:Nat) (s:StaD) (q:Bool) (i:Nat) (t:St):Prop:=noneT (fun i=>(casesScan d st s i).isSome) (List.range s.cases.l.length) i∧∃ g,Vf.Sl [(1,.f (intF st)),(2,.ref 0 0),(6,.ref 1 0),(65,.f (sl (encL fCase s.cases.l))),(66,.f (intF s.cases.l.length)),(67,.f (intF i))] 87 (aPrg d::aSta s q::g) [] t
theorem sta_g (d:PrgD) (st:Nat) (s:StaD) (hs:d.states.l[st]?=some s):Gives Tryz.prog 151 [fPrg d,intF st] (two (staCheck d st s)):=by
 refine Gives.of mixed Tryz.func151 rfl rfl rfl (by kernel_rfl) ?_
 have hlt:=(List.getElem?_eq_some_iff.1 hs).1
 have hx:nth d.states.l st=some s:=hs
 have hv:staCheck d st s=if 4 < s.extract.l.length∨8 < s.cases.l.length then (-1,12)
  else if s.extract.l.any (noHdr d) then (-1,8)
  else if s.sel=true∧widthOf d s.onh s.onf=0 then (-1,8)
  else if s.sel=false∧0 < s.cases.l.length then (-1,11)
  else match scan s.cases.l.length (casesScan d st s) with
   | some e=>e
   | none=>if leadsD d st s.dfl then (0,0) else (-1,14):=rfl
 by_cases c1:4 < s.extract.l.length
 ·have c1':4 < (s.extract.l.length:Int):=by omega
  rw [hv,if_pos (.inl c1)]
  simp [hlt,hx,fPrg,cPrg,c1']
 have c1':¬ 4 < (s.extract.l.length:Int):=by omega
 by_cases c2:8 < s.cases.l.length
 ·have c2':8 < (s.cases.l.length:Int):=by omega
  rw [hv,if_pos (.inr c2)]
  simp [hlt,hx,fPrg,cPrg,c1',c2']
 have c2':¬ 8 < (s.cases.l.length:Int):=by omega
 rw [if_neg (by omega)] at hv
 simp [hlt,hx,fPrg,cPrg,c1',c2']
 refine forX mixed s.extract.l.length (stI1 d st s) (by kernel_rfl) ⟨.zero,_,Sl.of rfl rfl rfl⟩ ?_
 rintro i ⟨ts,hh,kk⟩ hi ⟨hno,g,rfl,rfl,f,rfl⟩
 by_cases hil:i < s.extract.l.length
 ·obtain ⟨x,hx1,hx1'⟩:=nth_of hil
  have hw:=wrap64 (x:=(i:Int)+1) (by omega) (by omega)
  by_cases q1:x < 0
  ·have:s.extract.l.any (noHdr d)=true:=any_hit hx1' (by simp [noHdr,q1])
   rw [if_pos this] at hv
   simp [hil,hx1,aPrg,aSta,q1,hv]
  by_cases q2:(d.headers.l.length:Int)≤x
  ·have:s.extract.l.any (noHdr d)=true:=any_hit hx1' (by simp [noHdr,q2])
   rw [if_pos this] at hv
   simp [hil,hx1,aPrg,aSta,q1,q2,hv]
  simp [hil,hx1,aPrg,aSta,q1,q2,hw]
  exact ⟨hno.next hx1' (by simp [noHdr,q1,q2]),_,Sl.of rfl rfl rfl⟩
 obtain rfl:i=s.extract.l.length:=by omega
 have ha:=hno.all (by omega)
 rw [if_neg (by rw [ha]; decide)] at hv
 clear hno hi hil ha
 have last:(s.sel=true→¬ widthOf d s.onh s.onf=0)→(s.sel=false→¬ 0 < s.cases.l.length)→staCheck d st s=match scan s.cases.l.length (casesScan d st s) with
   | some e=>e
   | none=>if leadsD d st s.dfl then (0,0) else (-1,14):=fun h1 h2=>by
  rw [hv,if_neg (fun h=>h1 h.1 h.2),if_neg (fun h=>h2 h.1 h.2)]
 simp [aPrg,aSta]
 cases hsel:s.sel with
 | false =>
  cases h0:decide (0 < s.cases.l.length) with
  | false =>
   have h0':=of_decide_eq_false h0
   have hl:=last (fun h=>by rw [hsel] at h; cases h) (fun _=>h0')
   simp [h0]
   refine forX mixed s.cases.l.length (stI2 d st s false) (by kernel_rfl) ⟨.zero,_,Sl.of rfl rfl rfl⟩ ?_
   rintro i ⟨ts,hh,kk⟩ hi ⟨hno,g,rfl,rfl,f,rfl⟩
   by_cases hil:i < s.cases.l.length
   ·obtain ⟨x,hx1,hx1'⟩:=nth_of hil
    have hw:=wrap64 (x:=(i:Int)+1) (by omega) (by omega)
    have hf:casesScan d st s i=if caseCheck d st s x=0 then none else some ((i:Int),caseCheck d st s x):=by simp only [casesScan,hx1']
    simp [hil,hx1,aPrg,aSta]
    refine call_g (case_g d st s x hs) ?_
    by_cases h2:caseCheck d st s x=0
    ·simp [h2,hw]
     exact ⟨hno.next (range_at hil) (by rw [hf,if_pos h2]; rfl),_,Sl.of rfl rfl rfl⟩
    ·rw [scan_at hno hil (hf.trans (if_neg h2))] at hl
     simp [h2,hl]
   ·obtain rfl:i=s.cases.l.length:=by omega
    rw [scan_of hno] at hl
    simp [hil,aPrg,aSta]
    refine call_g (leads_g d st s.dfl) ?_
    cases h4:leadsD d st s.dfl <;> simp [hl,h4]
  | true =>
   have h0':=of_decide_eq_true h0
   have hV:staCheck d st s=(-1,11):=by rw [hv,if_neg (fun h=>by rw [hsel] at h; cases h.1),if_pos ⟨hsel,h0'⟩]
   simp [h0,hV]
 | true =>
  simp
  refine call_g (envWidth_g d s.onh s.onf) ?_
  by_cases h1:widthOf d s.onh s.onf=0
  ·have hV:staCheck d st s=(-1,8):=by rw [hv,if_pos ⟨hsel,h1⟩]
   simp [h1,hV]
  have hl:=last (fun _=>h1) (fun h=>by rw [hsel] at h; cases h)
  simp [h1]
  refine forX mixed s.cases.l.length (stI2 d st s true) (by kernel_rfl) ⟨.zero,_,Sl.of rfl rfl rfl⟩ ?_
  rintro i ⟨ts,hh,kk⟩ hi ⟨hno,g,rfl,rfl,f,rfl⟩
  by_cases hil:i < s.cases.l.length
  ·obtain ⟨x,hx1,hx1'⟩:=nth_of hil
   have hw:=wrap64 (x:=(i:Int)+1) (by omega) (by omega)
   have hf:casesScan d st s i=if caseCheck d st s x=0 then none else some ((i:Int),caseCheck d st s x):=by simp only [casesScan,hx1']
   simp [hil,hx1,aPrg,aSta]
   refine call_g (case_g d st s x hs) ?_
   by_cases h2:caseCheck d st s x=0
   ·simp [h2,hw]
    exact ⟨hno.next (range_at hil) (by rw [hf,if_pos h2]; rfl),_,Sl.of rfl rfl rfl⟩
   ·rw [scan_at hno hil (hf.trans (if_neg h2))] at hl
    simp [h2,hl]
  ·obtain rfl:i=s.cases.l.length:=by omega
   rw [scan_of hno] at hl
   simp [hil,aPrg,aSta]
   refine call_g (leads_g d st s.dfl) ?_
   cases h4:leadsD d st s.dfl <;> simp [hl,h4]
end Go.Proofs.YtafenffmgpcjcaaGreat
