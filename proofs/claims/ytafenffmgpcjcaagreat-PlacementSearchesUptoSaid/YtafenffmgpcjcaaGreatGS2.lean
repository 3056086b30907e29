/- Texts of the proof: GS2. -/
import Derived.Test.YtafenffmgpcjcaaGreatGS1
import Derived.Test.YtafenffmgpcjcaaGreatGVC1
namespace Go.Proofs.YtafenffmgpcjcaaGreat
open Go.RowKit Go.Proofs.YtafenffmgpcjcaaGreat.Vf
set_option linter.unusedVariables false
set_option linter.unusedSimpArgs false
set_option maxRecDepth 100000
set_option maxHeartbeats 4000000
abbrev trip (p:Int × Nat × Int):FV:=.tup [intF p.1,intF p.2.1,intF p.2.2]
def opAt (d:PrgD) (ps:List FldD) (n:List ExD) (i:Nat):Nat→Nat
 | 0=>i+1
 | j+1=>(exI d ps n (opAt d ps n i j)).2.1
def opW (d:PrgD) (ps:List FldD) (n:List ExD) (i j q:Nat):Int:=if q < j then (exI d ps n (opAt d ps n i q)).1 else 0
def chI (d:PrgD) (ps:List FldD) (n:List ExD) (i:Nat) (x:ExD) (j:Nat) (s:St):Prop:=(∀ q,q < j→(exI d ps n (opAt d ps n i q)).2.2=0)∧opAt d ps n i j≤n.length∧i < opAt d ps n i j∧∃ g,Vf.Sl [(0,.f (fScp d ps)),(1,.f (sl (encL fEx n))),(2,.f (intF i)),(3,.ref 0 0),(7,.f (intF (opAt d ps n i j))),(9,.f (intF (arity x.op))),(10,.ref 1 0),(43,.f (intF (arity x.op))),(44,.f (intF j))] 73 ([.f (strF d.name),.f (sl (encL fHdr d.headers.l)),.f (sl (encL fFld d.meta_.l)),.f (sl (encL fReg d.regs.l)),.f (sl (encL fAct d.acts.l)),.f (sl (encL fTbl d.tables.l)),.f (sl (encL fSta d.states.l)),.f (sl (encL fNod d.control.l)),.f (sl (encL intF d.dep.l)),.f (sl (encL fFld ps))]::[.f (intF (opW d ps n i j 0)),.f (intF (opW d ps n i j 1)),.f (intF (opW d ps n i j 2))]::g) [] s
theorem arity_le (o:Int):arity o≤3:=by unfold arity; repeat' split <;> omega
theorem exI_err {d:PrgD} {ps:List FldD} {n:List ExD} {i j m:Nat} {x:ExD} (hx:n[i]?=some x) (hm:arity x.op=m) (hm0:m ≠ 0) (hj:j < m) (hz:∀ q,q < j→(exI d ps n (opAt d ps n i q)).2.2=0) (he:(exI d ps n (opAt d ps n i j)).2.2 ≠ 0):exI d ps n i=(0,0,(exI d ps n (opAt d ps n i j)).2.2):=by
 have h3:=arity_le x.op
 rw [exI_some d ps n i x hx,if_neg (by omega),if_neg (by omega)]
 match j,hj,hz,he with
 | 0,hj,hz,he=>rw [if_pos (by exact he)]; rfl
 | 1,hj,hz,he =>
  rw [if_neg (by simpa [opAt] using hz 0 (by omega)),if_neg (by omega),if_pos (by exact he)]; rfl
 | 2,hj,hz,he =>
  rw [if_neg (by simpa [opAt] using hz 0 (by omega)),if_neg (by omega),if_neg (by simpa [opAt] using hz 1 (by omega)),if_neg (by omega),if_pos (by exact he)]; rfl
 | j+3,hj,hz,he=>omega
theorem exI_fin {d:PrgD} {ps:List FldD} {n:List ExD} {i m:Nat} {x:ExD} (hx:n[i]?=some x) (hm:arity x.op=m) (hm0:m ≠ 0) (hz:∀ q,q < m→(exI d ps n (opAt d ps n i q)).2.2=0):exI d ps n i=((combine x (opW d ps n i m 0) (opW d ps n i m 1) (opW d ps n i m 2)).1,opAt d ps n i m,(combine x (opW d ps n i m 0) (opW d ps n i m 1) (opW d ps n i m 2)).2):=by
 have h3:=arity_le x.op
 rw [exI_some d ps n i x hx,if_neg (by omega),if_neg (by omega)]
 match m,hm,hm0,hz with
 | 1,hm,hm0,hz =>
  rw [if_neg (by simpa [opAt] using hz 0 (by omega)),if_pos (by omega)]; rfl
 | 2,hm,hm0,hz =>
  rw [if_neg (by simpa [opAt] using hz 0 (by omega)),if_neg (by omega),if_neg (by simpa [opAt] using hz 1 (by omega)),if_pos (by omega)]; rfl
 | 3,hm,hm0,hz =>
  rw [if_neg (by simpa [opAt] using hz 0 (by omega)),if_neg (by omega),if_neg (by simpa [opAt] using hz 1 (by omega)),if_neg (by omega),if_neg (by simpa [opAt] using hz 2 (by omega))]; rfl
 | m+4,hm,hm0,hz=>omega
theorem opW_next {d:PrgD} {ps:List FldD} {n:List ExD} {i j:Nat} (q:Nat) (hq:q < 3):opW d ps n i (j+1) q=if q=j then (exI d ps n (opAt d ps n i j)).1 else opW d ps n i j q:=by
 unfold opW
 by_cases h:q=j
 ·subst h; simp
 ·rw [if_neg h]
  by_cases h2:q < j
  ·rw [if_pos h2,if_pos (by omega)]
  ·rw [if_neg h2,if_neg (by omega)]
theorem opW_ok {d:PrgD} {ps:List FldD} {n:List ExD} {i j:Nat} (hz:∀ q,q < j→(exI d ps n (opAt d ps n i q)).2.2=0) (q:Nat):0≤opW d ps n i j q∧opW d ps n i j q≤32:=by
 unfold opW
 split
 ·rename_i h; exact (exI_ok _ _ _ _ (hz q h)).2.2
 ·omega
theorem check_g (d:PrgD) (ps:List FldD) (n:List ExD) (hn:n.length < 100000):∀ (k i:Nat),n.length < i+k→Gives Tryz.prog 244 [fScp d ps,sl (encL fEx n),intF i] (trip (exI d ps n i))
 | 0,i,h=>by
  refine Gives.of mixed Tryz.func244 rfl rfl rfl (by kernel_rfl) ?_
  have q:(n.length:Int)≤i:=by omega
  rw [exI_none d ps n i (by omega)]
  simp [q,fScp,cPrg]
 | k+1,i,h=>by
  refine Gives.of mixed Tryz.func244 rfl rfl rfl (by kernel_rfl) ?_
  by_cases hlt:i < n.length
  case neg =>
   have q:(n.length:Int)≤i:=by omega
   rw [exI_none d ps n i (by omega)]
   simp [q,fScp,cPrg]
  obtain ⟨x,hx,hx'⟩:=nth_of hlt
  have q:¬ ((n.length:Int)≤i):=by omega
  have hw:=wrap64 (x:=(i:Int)+1) (by omega) (by omega)
  have hS:=exI_some d ps n i x hx'
  simp [q,hlt,hx,fScp,cPrg]
  refine call_g (arity_g x.op) ?_
  by_cases a0:arity x.op < 0
  ·rw [hS,if_pos a0]
   simp [a0]
  rw [if_neg a0] at hS
  by_cases a1:arity x.op=0
  ·rw [hS,if_pos a1]
   simp [a1,hlt,hx]
   refine call_g (primary_g d ps x) ?_
   simp [hw]
  clear hS
  have a3:=arity_le x.op
  obtain ⟨m,hm⟩:∃ m:Nat,arity x.op=m:=⟨(arity x.op).toNat,by omega⟩
  simp [a0,a1,hw]
  refine forX mixed m (chI d ps n i x) (by kernel_rfl) ⟨fun q h=>by omega,hlt,Nat.lt_succ_self i,_,Sl.of rfl rfl rfl⟩ ?_
  rintro j ⟨ts,hh,kk⟩ hj ⟨hz,hle,hgt,g,rfl,rfl,f,rfl⟩
  by_cases hlj:j < m
  ·have hle2:opAt d ps n i j≤n.length:=hle
   have hwj:=wrap64 (x:=(j:Int)+1) (by omega) (by omega)
   simp [hm,hlj]
   refine call_g (check_g d ps n hn k (opAt d ps n i j) (by omega)) ?_
   by_cases he:(exI d ps n (opAt d ps n i j)).2.2=0
   ·have ho:=exI_ok _ _ _ _ he
    have hj3:j=0∨j=1∨j=2:=by omega
    have hnx:=fun q hq=>opW_next (d:=d) (ps:=ps) (n:=n) (i:=i) (j:=j) q hq
    have hz':∀ q,q < j+1→(exI d ps n (opAt d ps n i q)).2.2=0:=fun q hq=>by
     rcases Nat.lt_or_ge q j with h1 | h1
     ·exact hz q h1
     ·obtain rfl:q=j:=by omega
      exact he
    rcases hj3 with rfl | rfl | rfl
    ·simp [he,hwj]
     refine ⟨hz',ho.2.1,by have:=ho.1; simp only [opAt] at *; omega,g,?_⟩
     rw [hnx 0 (by omega),hnx 1 (by omega),hnx 2 (by omega),hm]
     exact Sl.of rfl rfl rfl
    ·simp [he,hwj]
     refine ⟨hz',ho.2.1,by have:=ho.1; simp only [opAt] at *; omega,g,?_⟩
     rw [hnx 0 (by omega),hnx 1 (by omega),hnx 2 (by omega),hm]
     exact Sl.of rfl rfl rfl
    ·simp [he,hwj]
     refine ⟨hz',ho.2.1,by have:=ho.1; simp only [opAt] at *; omega,g,?_⟩
     rw [hnx 0 (by omega),hnx 1 (by omega),hnx 2 (by omega),hm]
     exact Sl.of rfl rfl rfl
   ·rw [exI_err hx' hm (by omega) hlj hz he]
    have hj3:j=0∨j=1∨j=2:=by omega
    rcases hj3 with rfl | rfl | rfl <;> simp [he]
  ·obtain rfl:j=m:=by omega
   simp [hm,hlt,hx]
   refine call_g (combine_g x _ _ _ (opW_ok hz 0) (opW_ok hz 1) a1) ?_
   rw [exI_fin hx' hm (by omega) hz]
   simp
theorem exCheck_eq (d:PrgD) (ps:List FldD) (n:List ExD):exCheck d ps n=if 24 < n.length then (0,12) else if (exI d ps n 0).2.2 ≠ 0 then (0,(exI d ps n 0).2.2) else if (exI d ps n 0).2.1 < n.length then (0,4) else ((exI d ps n 0).1,0):=rfl
theorem exCheck_g (d:PrgD) (ps:List FldD) (n:List ExD):Gives Tryz.prog 204 [sl (encL fEx n),fScp d ps] (two (exCheck d ps n)):=by
 refine Gives.of mixed Tryz.func204 rfl rfl rfl (by kernel_rfl) ?_
 rw [exCheck_eq]
 by_cases c1:24 < n.length
 ·have c1':24 < (n.length:Int):=by omega
  simp [c1,c1',fScp,cPrg]
 have c1':¬ 24 < (n.length:Int):=by omega
 simp [c1,c1',fScp,cPrg]
 refine call_g (check_g d ps n (by omega) (n.length+1) 0 (by omega)) ?_
 by_cases c2:(exI d ps n 0).2.2=0
 ·by_cases c3:(exI d ps n 0).2.1 < n.length
  ·have c3':((exI d ps n 0).2.1:Int) < n.length:=by omega
   simp [c2,c3,c3']
  ·have c3':¬ ((exI d ps n 0).2.1:Int) < n.length:=by omega
   simp [c2,c3,c3']
 ·simp [c2]
abbrev fRef (h f:Int):FV:=.agg [intF h,intF f]
def fldW (o:Option FldD):Int:=match o with | none=>0 | some f=>f.width
theorem atFld_g (l:List FldD) (c:Cap) (i:Int):Gives Tryz.prog 245 [.sl (encL fFld l) c,intF i] (fFld ((if i < 0 then none else l[i.toNat]?).getD ⟨⟨#[]⟩,0⟩)):=by
 refine Gives.of mixed Tryz.func245 rfl rfl rfl (by kernel_rfl) ?_
 by_cases c1:i < 0
 ·simp [c1]
 ·obtain ⟨n,rfl⟩:∃ n:Nat,i=n:=⟨i.toNat,by omega⟩
  by_cases hlt:n < l.length
  ·obtain ⟨x,hx,hx'⟩:=nth_of hlt
   have q:¬ ((l.length:Int)≤n):=by omega
   have e:(if (n:Int) < 0 then none else l[(n:Int).toNat]?)=some x:=by rw [if_neg c1]; exact hx'
   rw [e]
   simp [c1,q,hlt,hx]
  ·have q:((l.length:Int)≤n):=by omega
   have e:(if (n:Int) < 0 then none else l[(n:Int).toNat]?)=none:=by rw [if_neg c1]; exact List.getElem?_eq_none (by simp; omega)
   rw [e]
   simp [c1,q,hlt]
theorem atHdr_g (l:List HdrD) (i:Int):Gives Tryz.prog 261 [sl (encL fHdr l),intF i] (match (if i < 0 then none else l[i.toNat]?) with | some x=>fHdr x | none=>.agg [strF ⟨#[]⟩,.sl [] .nil]):=by
 refine Gives.of mixed Tryz.func261 rfl rfl rfl (by kernel_rfl) ?_
 by_cases c1:i < 0
 ·simp [c1]
 ·obtain ⟨n,rfl⟩:∃ n:Nat,i=n:=⟨i.toNat,by omega⟩
  by_cases hlt:n < l.length
  ·obtain ⟨x,hx,hx'⟩:=nth_of hlt
   have q:¬ ((l.length:Int)≤n):=by omega
   have e:(if (n:Int) < 0 then none else l[(n:Int).toNat]?)=some x:=by rw [if_neg c1]; exact hx'
   rw [e]
   simp [c1,q,hlt,hx]
  ·have q:((l.length:Int)≤n):=by omega
   have e:(if (n:Int) < 0 then none else l[(n:Int).toNat]?)=none:=by rw [if_neg c1]; exact List.getElem?_eq_none (by simp; omega)
   rw [e]
   simp [c1,q,hlt]
theorem fields_g (d:PrgD) (h:Int):∃ c,Gives Tryz.prog 246 [fPrg d,intF h] (.sl (encL fFld (fldsOf d h)) c):=by
 by_cases c1:h=-1
 ·subst c1
  refine ⟨.un,Gives.of mixed Tryz.func246 rfl rfl rfl (by kernel_rfl) ?_⟩
  simp [fPrg,cPrg,fldsOf]
 ·refine ⟨match (if h < 0 then none else d.headers.l[h.toNat]?) with | some x=>.un | none=>.nil,Gives.of mixed Tryz.func246 rfl rfl rfl (by kernel_rfl) ?_⟩
  simp [fPrg,cPrg,c1]
  refine call_g (atHdr_g d.headers.l h) ?_
  by_cases c2:h < 0
  ·simp [c1,c2,fldsOf]
  ·by_cases c3:(d.headers.l.length:Int)≤h
   ·simp [c1,c2,c3,fldsOf,List.getElem?_eq_none (by omega:d.headers.l.length≤h.toNat)]
   ·obtain ⟨x,hx,hx'⟩:=nth_of (show h.toNat < d.headers.l.length by omega)
    simp only [hx',if_neg c2]
    simp [c1,c2,c3,fldsOf,hx']
theorem widthOf_eq (d:PrgD) (h f:Int):widthOf d h f=if badW (fldW (fldAt d h f)) then 0 else fldW (fldAt d h f):=by
 unfold widthOf fldW
 cases fldAt d h f <;> rfl
theorem envWidth_g (d:PrgD) (h f:Int):Gives Tryz.prog 205 [fPrg d,fRef h f] (intF (widthOf d h f)):=by
 refine Gives.of mixed Tryz.func205 rfl rfl rfl (by kernel_rfl) ?_
 rw [widthOf_eq]
 simp [fPrg,cPrg]
 obtain ⟨c,hf⟩:=fields_g d h
 refine call_g hf ?_
 simp
 refine call_g (atFld_g (fldsOf d h) c f) ?_
 have e:(if f < 0 then none else (fldsOf d h)[f.toNat]?)=fldAt d h f:=rfl
 rw [e]
 have e2:((fldAt d h f).getD ⟨⟨#[]⟩,0⟩).width=fldW (fldAt d h f):=by cases fldAt d h f <;> rfl
 simp [e2]
 generalize fldW (fldAt d h f)=x
 refine call_g (mask_g x) ?_
 cases hb:badW x with
 | true=>simp [mask_zero.2 hb]
 | false =>
  have:¬ maskM x=0:=fun h=>by rw [mask_zero.1 h] at hb; cases hb
  simp [this]
theorem width_g (d:PrgD) (h f:Int):Gives Tryz.prog 202 [fPrg d,fRef h f] (.tup [intF (fldW (fldAt d h f)),boolF (fldAt d h f).isSome]):=by
 refine Gives.of mixed Tryz.func202 rfl rfl rfl (by kernel_rfl) ?_
 by_cases c1:h=-1
 ·subst c1
  by_cases c2:f < 0
  ·have hv:fldAt d (-1) f=none:=by unfold fldAt; rw [if_pos c2]
   simp [c2,fPrg,cPrg,hv,fldW]
  ·obtain ⟨n,rfl⟩:∃ n:Nat,f=n:=⟨f.toNat,by omega⟩
   by_cases hlt:n < d.meta_.l.length
   ·obtain ⟨x,hx,hx'⟩:=nth_of hlt
    have q:¬ ((d.meta_.l.length:Int)≤n):=by omega
    have hv:fldAt d (-1) n=some x:=by unfold fldAt fldsOf; rw [if_neg c2]; exact hx'
    simp [c2,q,hlt,hx,fPrg,cPrg,hv,fldW]
   ·have q:(d.meta_.l.length:Int)≤n:=by omega
    have hv:fldAt d (-1) n=none:=by unfold fldAt fldsOf; rw [if_neg c2]; exact List.getElem?_eq_none (by simp; omega)
    simp [c2,q,hlt,fPrg,cPrg,hv,fldW]
 ·by_cases c2:h < 0
  ·have hv:fldAt d h f=none:=by unfold fldAt fldsOf; rw [if_neg c1,if_pos (Or.inl c2)]; simp
   simp [c1,c2,fPrg,cPrg,hv,fldW]
  ·obtain ⟨m,rfl⟩:∃ n:Nat,h=n:=⟨h.toNat,by omega⟩
   by_cases hm:m < d.headers.l.length
   ·obtain ⟨y,hy,hy'⟩:=nth_of hm
    have qm:¬ ((d.headers.l.length:Int)≤m):=by omega
    by_cases c3:f < 0
    ·have hv:fldAt d m f=none:=by unfold fldAt; rw [if_pos c3]
     simp [c1,c2,c3,qm,hm,hy,fPrg,cPrg,hv,fldW]
    ·obtain ⟨n,rfl⟩:∃ n:Nat,f=n:=⟨f.toNat,by omega⟩
     by_cases hlt:n < y.fields.l.length
     ·obtain ⟨x,hx,hx'⟩:=nth_of hlt
      have q:¬ ((y.fields.l.length:Int)≤n):=by omega
      have hv:fldAt d m n=some x:=by unfold fldAt fldsOf; rw [if_neg c3]; rw [if_neg c1,if_neg (by omega)]; simp only [Int.toNat_natCast,hy']; exact hx'
      simp [c1,c2,c3,qm,hm,hy,q,hlt,hx,fPrg,cPrg,hv,fldW]
     ·have q:(y.fields.l.length:Int)≤n:=by omega
      have hv:fldAt d m n=none:=by unfold fldAt fldsOf; rw [if_neg c3]; rw [if_neg c1,if_neg (by omega)]; simp only [Int.toNat_natCast,hy']; exact List.getElem?_eq_none (by omega)
      simp [c1,c2,c3,qm,hm,hy,q,hlt,fPrg,cPrg,hv,fldW]
   ·have qm:(d.headers.l.length:Int)≤m:=by omega
    have hv:fldAt d m f=none:=by unfold fldAt fldsOf; rw [if_neg c1,if_pos (Or.inr qm)]; simp
    simp [c1,c2,qm,fPrg,cPrg,hv,fldW]
theorem value_g (d:PrgD) (ps:List FldD) (n:List ExD) (w:Int):Gives Tryz.prog 203 [fScp d ps,sl (encL fEx n),intF w] (intF (valCheck d ps n w)):=by
 refine Gives.of mixed Tryz.func203 rfl rfl rfl (by kernel_rfl) ?_
 simp [fScp,cPrg]
 refine call_g (exCheck_g d ps n) ?_
 by_cases c1:(exCheck d ps n).2=0
 ·by_cases c2:(exCheck d ps n).1=w <;> simp [c1,c2,valCheck]
 ·simp [c1,valCheck]
theorem regAt {d:PrgD} (r:Int):(¬ 0≤r∧(if r < 0 then none else d.regs.l[r.toNat]?)=none)∨(0≤r∧¬ r < (d.regs.l.length:Int)∧(if r < 0 then none else d.regs.l[r.toNat]?)=none)∨(0≤r∧r < (d.regs.l.length:Int)∧r.toNat < d.regs.l.length∧∃ y,nth d.regs.l r.toNat=some y∧(if r < 0 then none else d.regs.l[r.toNat]?)=some y):=by
 by_cases c1:r < 0
 ·exact .inl ⟨by omega,if_pos c1⟩
 ·by_cases c2:r < d.regs.l.length
  ·obtain ⟨y,hr,hr'⟩:=nth_of (show r.toNat < d.regs.l.length by omega)
   exact .inr (.inr ⟨by omega,c2,by omega,y,hr,by rw [if_neg c1]; exact hr'⟩)
  ·exact .inr (.inl ⟨by omega,c2,by rw [if_neg c1]; exact List.getElem?_eq_none (by omega)⟩)
theorem st_g (d:PrgD) (ps:List FldD) (s:StD):Gives Tryz.prog 148 [fScp d ps,fSt s] (intF (stCheck d ps s)):=by
 refine Gives.of mixed Tryz.func148 rfl rfl rfl (by kernel_rfl) ?_
 simp [fScp,cPrg]
 refine call_g (width_g d s.dh s.df) ?_
 by_cases k1:s.kind=1
 ·cases hf:fldAt d s.dh s.df with
  | none=>rcases regAt (d:=d) s.reg with ⟨c1,hr⟩ | ⟨c1,c2,hr⟩ | ⟨c1,c2,c3,y,hy,hr⟩ <;> simp [*,stCheck,fldW]
  | some f =>
   have hv:stCheck d ps s=valCheck d ps s.value.l f.width:=by unfold stCheck; rw [if_pos k1,hf]
   rw [hv]
   rcases regAt (d:=d) s.reg with ⟨c1,hr⟩ | ⟨c1,c2,hr⟩ | ⟨c1,c2,c3,y,hy,hr⟩
   ·simp [c1,k1,fldW]; exact call_g (value_g d ps s.value.l f.width) (by simp)
   ·simp [c1,c2,k1,fldW]; exact call_g (value_g d ps s.value.l f.width) (by simp)
   ·simp [c1,c2,k1,fldW]; exact call_g (value_g d ps s.value.l f.width) (by simp)
 by_cases k2:s.kind=2∨s.kind=3
 ·have hv:stCheck d ps s=if s.hdr < 0∨(d.headers.l.length:Int)≤s.hdr then 8 else 0:=by unfold stCheck; rw [if_neg k1,if_pos k2]
  rw [hv]
  by_cases h1:s.hdr < 0 <;> by_cases h2:(d.headers.l.length:Int)≤s.hdr <;> rcases k2 with k2 | k2 <;> rcases regAt (d:=d) s.reg with ⟨c1,hr⟩ | ⟨c1,c2,hr⟩ | ⟨c1,c2,c3,y,hy,hr⟩ <;> simp [*]
 have k2a:¬ s.kind=2:=fun h=>k2 (.inl h)
 have k2b:¬ s.kind=3:=fun h=>k2 (.inr h)
 by_cases k4:s.kind=4∨s.kind=5
 ·rcases regAt (d:=d) s.reg with ⟨c1,hr⟩ | ⟨c1,c2,hr⟩ | ⟨c1,c2,c3,y,hy,hr⟩
  ·have hv:stCheck d ps s=8:=by unfold stCheck; rw [if_neg k1,if_neg k2,if_pos k4,hr]
   rcases k4 with k4 | k4 <;> simp [c1,k4,hv]
  ·have hv:stCheck d ps s=8:=by unfold stCheck; rw [if_neg k1,if_neg k2,if_pos k4,hr]
   rcases k4 with k4 | k4 <;> simp [c1,c2,k4,hv]
  ·have hv:stCheck d ps s=if s.kind=4∧(fldAt d s.dh s.df).isNone then 8
    else if (exCheck d ps s.index.l).2 ≠ 0 then (exCheck d ps s.index.l).2
    else if s.kind=5 then valCheck d ps s.value.l y.width
    else if fldW (fldAt d s.dh s.df)=y.width then 0 else 10:=by
     unfold stCheck; rw [if_neg k1,if_neg k2,if_pos k4,hr]; rfl
   rw [hv]
   rcases k4 with k4 | k4
   ·cases hf:fldAt d s.dh s.df with
    | none=>simp [c1,c2,k4,fldW]
    | some f =>
     simp [c1,c2,k4,fldW]
     refine call_g (exCheck_g d ps s.index.l) ?_
     by_cases h1:(exCheck d ps s.index.l).2=0
     ·by_cases h2:f.width=y.width <;> simp [h1,k4,c1,c3,hy,h2]
     ·simp [h1]
   ·simp [c1,c2,k4]
    refine call_g (exCheck_g d ps s.index.l) ?_
    by_cases h1:(exCheck d ps s.index.l).2=0
    ·simp [h1,k4,c1,c3,hy]
     exact call_g (value_g d ps s.value.l y.width) (by simp)
    ·simp [h1]
 ·have k4a:¬ s.kind=4:=fun h=>k4 (.inl h)
  have k4b:¬ s.kind=5:=fun h=>k4 (.inr h)
  have hv:stCheck d ps s=11:=by unfold stCheck; rw [if_neg k1,if_neg k2,if_neg k4]
  rcases regAt (d:=d) s.reg with ⟨c1,hr⟩ | ⟨c1,c2,hr⟩ | ⟨c1,c2,c3,y,hy,hr⟩ <;> simp [*]
theorem decl1_g (x y:FldD):Gives Tryz.prog 201 [fFld x,.fp [strF y.name,intF y.width]] (boolF (sEq x.name y.name)):=by
 refine Gives.of mixed Tryz.func201 rfl rfl rfl (by kernel_rfl) ?_
 simp
theorem idxFldF_g (f:FuncId) (cs:List FV) (p:FldD→Bool) (l:List FldD) (hl:l.length < 2^62) (hp:∀ x ∈ l,Gives Tryz.prog f (fFld x::cs) (boolF (p x))):∃ i:Int,(decide (0≤i)=l.any p)∧Gives Tryz.prog 243 [sl (encL fFld l),.fn f cs] (intF i):=by
 cases h:l.any p with
 | false =>
  refine ⟨-1,rfl,Gives.of mixed Tryz.func243 rfl rfl rfl (by kernel_rfl) ?_⟩
  simp
  refine forX mixed l.length (fun k s=>Vf.Sl [(0,.f (sl (encL fFld l))),(1,.f (.fn f cs)),(7,.f (intF l.length)),(8,.f (intF k))] 19 [] [] s) (by kernel_rfl) (Sl.of rfl rfl rfl) ?_
  rintro k ⟨t,hh,kk⟩ hk ⟨rfl,rfl,f,rfl⟩
  by_cases hlt:k < l.length
  ·obtain ⟨x,hx,hx'⟩:=nth_of hlt
   have hw:=wrap64 (x:=(k:Int)+1) (by omega) (by omega)
   have hq:p x=false:=by
    have:=List.any_eq_false.1 h x (List.mem_of_getElem? hx')
    simpa using this
   simp [hlt,hx]
   refine call_g (hp x (List.mem_of_getElem? hx')) ?_
   simp [hq,hw]
   exact Sl.of rfl rfl rfl
  ·obtain rfl:k=l.length:=by omega
   simp
 | true =>
  have hex:∃ k:Nat,∃ x,l[k]?=some x∧p x=true∧noneT p l k:=by
   clear hp hl
   induction l with
   | nil=>simp at h
   | cons a l ih =>
    cases ha:p a with
    | true=>exact ⟨0,a,rfl,ha,.zero⟩
    | false =>
     rw [List.any_cons,ha,Bool.false_or] at h
     obtain ⟨k,x,h1,h2,h3⟩:=ih h
     refine ⟨k+1,x,by simpa using h1,h2,fun j y hj hy=>?_⟩
     cases j with
     | zero=>simp at hy; rw [← hy]; exact ha
     | succ j=>exact h3 j y (by omega) (by simpa using hy)
  obtain ⟨m,z,hm,hz,hno⟩:=hex
  have hml:=(List.getElem?_eq_some_iff.1 hm).1
  refine ⟨m,by simp,Gives.of mixed Tryz.func243 rfl rfl rfl (by kernel_rfl) ?_⟩
  simp
  refine forX mixed m (fun k s=>Vf.Sl [(0,.f (sl (encL fFld l))),(1,.f (.fn f cs)),(7,.f (intF l.length)),(8,.f (intF k))] 19 [] [] s) (by kernel_rfl) (Sl.of rfl rfl rfl) ?_
  rintro k ⟨t,hh,kk⟩ hk ⟨rfl,rfl,f,rfl⟩
  have hlt:k < l.length:=by omega
  obtain ⟨x,hx,hx'⟩:=nth_of hlt
  have hw:=wrap64 (x:=(k:Int)+1) (by omega) (by omega)
  simp [hlt,hx]
  refine call_g (hp x (List.mem_of_getElem? hx')) ?_
  by_cases hkm:k < m
  ·simp [hno k x hkm hx',hw]
   exact ⟨hkm,Sl.of rfl rfl rfl⟩
  ·obtain rfl:k=m:=by omega
   rw [hm] at hx'
   obtain rfl:=Option.some.inj hx'
   simp [hz]
theorem hasFldF_g (f:FuncId) (cs:List FV) (p:FldD→Bool) (l:List FldD) (hl:l.length < 2^62) (hp:∀ x ∈ l,Gives Tryz.prog f (fFld x::cs) (boolF (p x))):Gives Tryz.prog 200 [sl (encL fFld l),.fn f cs] (boolF (l.any p)):=by
 refine Gives.of mixed Tryz.func200 rfl rfl rfl (by kernel_rfl) ?_
 simp
 obtain ⟨i,hi,hg⟩:=idxFldF_g f cs p l hl hp
 refine call_g hg ?_
 simp [hi]
def cAct (a:ActD):List AV:=[.f (strF a.name),.f (sl (encL fFld a.params.l)),.f (sl (encL fSt a.body.l))]
def decI (a:ActD) (i:Nat) (s:St):Prop:=noneT (fun i=>(hdrField a.params.l i).isSome) (List.range a.params.l.length) i∧∃ g,Vf.Sl [(1,.ref 0 0),(22,.f (sl (encL fFld a.params.l))),(23,.f (intF a.params.l.length)),(24,.f (intF i))] 51 (cAct a::g) [] s
theorem decl_g (a:ActD) (hn:a.name.size < 2^62) (hs:∀ y ∈ a.params.l,y.name.size < 2^62):Gives Tryz.prog 147 [fAct a] (intF (actDecl a)):=by
 refine Gives.of mixed Tryz.func147 rfl rfl rfl (by kernel_rfl) ?_
 simp
 refine call_g (ident_g a.name hn) ?_
 cases h1:ident a.name with
 | false=>simp [actDecl,h1]
 | true =>
 by_cases c1:4 < a.params.l.length
 ·have c1':4 < (a.params.l.length:Int):=by omega
  simp [c1,c1',actDecl,h1]
 have c1':¬ 4 < (a.params.l.length:Int):=by omega
 by_cases c2:12 < a.body.l.length
 ·have c2':12 < (a.body.l.length:Int):=by omega
  simp [c1,c1',c2,c2',actDecl,h1]
 have c2':¬ 12 < (a.body.l.length:Int):=by omega
 have hD:actDecl a=(scan a.params.l.length (hdrField a.params.l)).getD 0:=by simp [actDecl,h1,c1,c2]
 rw [hD]
 simp [c1',c2']
 refine forX mixed a.params.l.length (decI a) (by kernel_rfl) ⟨.zero,[],Sl.of rfl rfl rfl⟩ ?_
 rintro i ⟨ts,hh,kk⟩ hi ⟨hno,g,rfl,rfl,f,rfl⟩
 by_cases hlt:i < a.params.l.length
 ·obtain ⟨x,hx,hx'⟩:=nth_of hlt
  have hw:=wrap64 (x:=(i:Int)+1) (by omega) (by omega)
  have hf:hdrField a.params.l i=if !ident x.name then some 6 else if badW x.width then some 10 else if (a.params.l.take i).any (fun g=>sEq g.name x.name) then some 7 else none:=by simp [hdrField,hx']
  have out:∀ e,hdrField a.params.l i=some e→scan a.params.l.length (hdrField a.params.l)=some e:=fun e he=>scan_at hno hlt he
  simp [hlt,hx,cAct]
  refine call_g (ident_g x.name (hs x (List.mem_of_getElem? hx'))) ?_
  cases i1:ident x.name with
  | false=>simp [out 6 (by rw [hf,i1]; rfl)]
  | true =>
  by_cases w1:x.width < 1
  ·simp [w1,out 10 (by rw [hf,i1]; simp [badW,w1])]
  by_cases w2:32 < x.width
  ·simp [w1,w2,out 10 (by rw [hf,i1]; simp [badW,w2])]
  have wb:badW x.width=false:=by simp [badW,w1,w2]
  have hmin:min i a.params.l.length=i:=by omega
  simp [w1,w2]
  rw [sliceF (enc:=fFld) (l:=a.params.l) (c:=.un) (i:=i) ty23 ty124 (by simp) (fun _=>rfl) (Nat.le_of_lt hlt)]
  simp
  refine call_b (hasFldF_g 201 [.fp [strF x.name,intF x.width]] (fun g=>sEq g.name x.name) (a.params.l.take i) (by rw [List.length_take]; omega) (fun y _=>decl1_g y x)) ?_ ?_
  ·simp [fzB,fzC,mapO,cellFz,fzA]
  cases he:(a.params.l.take i).any (fun g=>sEq g.name x.name) with
  | true=>simp [out 7 (by rw [hf,i1,wb,he]; rfl)]
  | false =>
   simp [hw]
   exact ⟨hno.next (range_at hlt) (by simp [hf,i1,wb,he]),_,Sl.of rfl rfl rfl⟩
 ·obtain rfl:i=a.params.l.length:=by omega
  simp [hlt,cAct,scan_of hno]
theorem fits_g (v w:Int):Gives Tryz.prog 247 [u32F v,intF w] (boolF (fitsW v w)):=by
 refine Gives.of mixed Tryz.func247 rfl rfl rfl (by kernel_rfl) ?_
 simp
 refine call_g (bvalid_g [w] .full (by simp)) ?_
 have e:okWs [w]=!badW w:=by simp [okWs]
 rw [e]
 cases h:badW w with
 | true=>simp [fitsW,h]
 | false =>
  simp
  refine call_g (mask_g w) ?_
  simp [fitsW,h,maskM]
theorem actAt {d:PrgD} (r:Int):(r < 0∧(if r < 0 then none else d.acts.l[r.toNat]?)=none)∨(¬ r < 0∧(d.acts.l.length:Int)≤r∧(if r < 0 then none else d.acts.l[r.toNat]?)=none)∨(¬ r < 0∧¬ (d.acts.l.length:Int)≤r∧r.toNat < d.acts.l.length∧∃ y,nth d.acts.l r.toNat=some y∧d.acts.l[r.toNat]?=some y∧(if r < 0 then none else d.acts.l[r.toNat]?)=some y):=by
 by_cases c1:r < 0
 ·exact .inl ⟨by omega,if_pos c1⟩
 ·by_cases c2:r < d.acts.l.length
  ·obtain ⟨y,hr,hr'⟩:=nth_of (show r.toNat < d.acts.l.length by omega)
   exact .inr (.inr ⟨by omega,by omega,by omega,y,hr,hr',by rw [if_neg c1]; exact hr'⟩)
  ·exact .inr (.inl ⟨by omega,by omega,by rw [if_neg c1]; exact List.getElem?_eq_none (by omega)⟩)
abbrev fCall (act:Int) (args:List Int):FV:=.agg [intF act,sl (encL u32F args)]
def argOk (a:ActD) (args:List Int) (i:Nat):Bool:=match args[i]?,a.params.l[i]? with | some v,some f=>fitsW v f.width | _,_=>true
def argBad (a:ActD) (args:List Int) (i:Nat):Bool:=!argOk a args i
def argsAll (a:ActD) (args:List Int):Bool:=(List.range args.length).all (argOk a args)
theorem callCheck_eq (d:PrgD) (act:Int) (args:List Int):callCheck d act args=match (if act < 0 then none else d.acts.l[act.toNat]?) with
 | none=>8
 | some a=>if args.length ≠ a.params.l.length then 2 else if argsAll a args then 0 else 9:=by kernel_rfl
def ccI (a:ActD) (c:List AV) (args:List Int) (i:Nat) (s:St):Prop:=noneT (argBad a args) (List.range args.length) i∧∃ g,Vf.Sl [(5,.f (sl (encL fFld a.params.l))),(33,.f (sl (encL u32F args))),(34,.f (intF args.length)),(35,.f (intF i))] 49 (c::g) [] s
theorem call_ok (d:PrgD) (act:Int) (args:List Int) (lenB:args.length < 2^62):Gives Tryz.prog 206 [fPrg d,fCall act args] (intF (callCheck d act args)):=by
 refine Gives.of mixed Tryz.func206 rfl rfl rfl (by kernel_rfl) ?_
 rcases actAt (d:=d) act with ⟨c1,hr⟩ | ⟨c1,c2,hr⟩ | ⟨c1,c2,c3,y,hy,-,hr⟩
 ·have hv:callCheck d act args=8:=by rw [callCheck_eq,hr]
  simp [c1,fPrg,cPrg,hv]
 ·have hv:callCheck d act args=8:=by rw [callCheck_eq,hr]
  simp [c1,c2,fPrg,cPrg,hv]
 have c0:0≤act:=by omega
 by_cases c4:args.length=y.params.l.length
 case neg =>
  have c4':¬ (args.length:Int)=y.params.l.length:=by omega
  have hv:callCheck d act args=2:=by rw [callCheck_eq,hr]; exact if_pos c4
  simp [c0,c1,c2,c3,hy,c4,c4',fPrg,cPrg,hv]
 have c4':(args.length:Int)=y.params.l.length:=by omega
 have hv:callCheck d act args=if argsAll y args then 0 else 9:=by rw [callCheck_eq,hr]; exact if_neg (by simpa using c4)
 rw [hv]
 simp [c0,c1,c2,c3,hy,c4,fPrg,cPrg]
 refine forX mixed args.length (ccI y [.f (strF d.name),.f (sl (encL fHdr d.headers.l)),.f (sl (encL fFld d.meta_.l)),.f (sl (encL fReg d.regs.l)),.f (sl (encL fAct d.acts.l)),.f (sl (encL fTbl d.tables.l)),.f (sl (encL fSta d.states.l)),.f (sl (encL fNod d.control.l)),.f (sl (encL intF d.dep.l))] args) (by kernel_rfl) ⟨.zero,_,by rw [c4]; exact Sl.of rfl rfl rfl⟩ ?_
 rintro i ⟨ts,hh,kk⟩ hi ⟨hno,g,rfl,rfl,f,rfl⟩
 by_cases hlt:i < args.length
 ·obtain ⟨x,hx,hx'⟩:=nth_of hlt
  obtain ⟨u,hu,hu'⟩:=nth_of (show i < y.params.l.length by omega)
  have hw:=wrap64 (x:=(i:Int)+1) (by omega) (by have:=lenB; omega)
  have hb:argBad y args i=!fitsW x u.width:=by simp only [argBad,argOk,hx',hu']
  simp [← c4,hlt,hx,hu]
  refine call_g (fits_g x u.width) ?_
  cases hf:fitsW x u.width with
  | false =>
   have:argsAll y args=false:=by
    unfold argsAll
    rw [List.all_eq_false]
    exact ⟨i,List.mem_range.2 hlt,by simp only [argOk,hx',hu',hf]; decide⟩
   simp [this]
  | true =>
   simp [hw]
   exact ⟨hno.next (range_at hlt) (by rw [hb,hf]; rfl),_,by rw [c4]; exact Sl.of rfl rfl rfl⟩
 ·obtain rfl:i=args.length:=by omega
  have:argsAll y args=true:=by
   unfold argsAll
   rw [List.all_eq_true]
   intro j hj
   have:=hno j j (List.mem_range.1 hj) (range_at (List.mem_range.1 hj))
   simpa [argBad] using this
  simp [← c4,this]
theorem rlet_g (c:UInt8):Gives Tryz.prog 174 [.sc (.int .u8 c.toNat)] (boolF (isLet c)):=by
 refine Gives.of mixed Tryz.func174 rfl rfl rfl (by kernel_rfl) ?_
 by_cases c1:(97:Int)≤c.toNat <;> by_cases c2:(c.toNat:Int)≤122 <;> by_cases c3:(65:Int)≤c.toNat <;> by_cases c4:(c.toNat:Int)≤90 <;> simp [c1,c2,c3,c4,isLet] <;> omega
theorem rdig_g (c:UInt8):Gives Tryz.prog 175 [.sc (.int .u8 c.toNat)] (boolF (isDig c)):=by
 refine Gives.of mixed Tryz.func175 rfl rfl rfl (by kernel_rfl) ?_
 by_cases c1:(48:Int)≤c.toNat <;> by_cases c2:(c.toNat:Int)≤57 <;> simp [c1,c2,isDig] <;> omega
theorem sEq_nil (s:ByteArray):sEq s ⟨#[]⟩=decide (s.size=0):=by
 unfold sEq
 rw [bytes_toList,bytes_toList,Bool.eq_iff_iff,beq_iff_eq,decide_eq_true_eq,Lib.size_eq]
 simp
 exact ⟨fun h=>ByteArray.ext h,fun h=>by rw [h]; rfl⟩
def ridI (s:ByteArray) (i:Nat) (st:St):Prop:=noneT (fun c=>!idc c) s.data.toList i∧Vf.Sl [(0,.f (strF s)),(3,.f (intF i))] 41 [] [] st
theorem rident_g (s:ByteArray) (hs:s.size < 2^62):Gives Tryz.prog 121 [strF s] (boolF (ident s)):=by
 refine Gives.of mixed Tryz.func121 rfl rfl rfl (by kernel_rfl) ?_
 have hsz:=size_len s
 by_cases c1:s.size=0
 ·simp [sEq_nil,c1,ident]
 by_cases c2:(16:Int) < s.size
 ·simp [sEq_nil,c1,c2,ident]; omega
 obtain ⟨c,hc,hc'⟩:=nth_of (show 0 < s.data.toList.length by omega)
 have h0:idxP Tryz.prog 9 (.f (strF s)) (.f (intF 0))=some (.f (.sc (.int .u8 c.toNat))):=idx_s (i:=0) hc'
 have hd:s.data.toList.headD 0=c:=by
  cases h:s.data.toList with
  | nil=>rw [h] at hc'; cases hc'
  | cons a l=>rw [h] at hc'; simpa using hc'
 have hI:ident s=(isLet c && decide ((idLen s.data.toList:Int)=s.size)):=by
  unfold ident
  rw [hd,decide_eq_true (show 0 < s.size by omega),decide_eq_true (show s.size≤16 by omega)]
  simp only [Bool.true_and]
  congr 1
  rw [Bool.eq_iff_iff,beq_iff_eq,decide_eq_true_eq]
  omega
 simp [sEq_nil,c1,c2,h0]
 refine call_g (rlet_g c) ?_
 cases h1:isLet c with
 | false=>simp [hI,h1]
 | true =>
  simp
  refine forX mixed s.size (ridI s) (by kernel_rfl) ⟨.zero,Sl.of rfl rfl rfl⟩ ?_
  rintro i ⟨ts,h,kk⟩ hi ⟨hn,rfl,rfl,f,rfl⟩
  by_cases hlt:i < s.size
  ·obtain ⟨c,hc,hc'⟩:=nth_of (show i < s.data.toList.length by omega)
   have hw:=wrap64 (x:=(i:Int)+1) (by omega) (by omega)
   have hbad:idc c=false→ident s=false:=fun hb=>by
    rw [hI,h1]
    have hne:idLen s.data.toList=i:=by
     have:=tw_len hn (by omega) (fun x hx'=>by rw [hc'] at hx'; obtain rfl:=Option.some.inj hx'; exact hb)
     unfold idLen; omega
    rw [hne,decide_eq_false (by omega)]
    rfl
   simp [hlt,idx_s hc']
   refine call_g (rlet_g c) ?_
   cases l1:isLet c with
   | true =>
    simp [hw,hlt]
    exact ⟨hn.next hc' (by simp [idc,l1]),Sl.of rfl rfl rfl⟩
   | false =>
    simp [idx_s hc']
    refine call_g (rdig_g c) ?_
    cases l2:isDig c with
    | true =>
     simp [hw,hlt]
     exact ⟨hn.next hc' (by simp [idc,l2]),Sl.of rfl rfl rfl⟩
    | false =>
     by_cases h3:(c.toNat:Int)=95
     ·simp [idx_s hc',h3,hw,hlt]
      exact ⟨hn.next hc' (by simp [idc]; omega),Sl.of rfl rfl rfl⟩
     ·have hb:=hbad (by simp [idc,l1,l2]; omega)
      simp [idx_s hc',h3,hb]
  ·have hall:ident s=true:=by
    rw [hI,h1]
    have hne:idLen s.data.toList=i:=by
     have:=tw_len hn (by omega) (fun x hx'=>by rw [List.getElem?_eq_none (by omega)] at hx'; cases hx')
     unfold idLen; omega
    rw [hne,decide_eq_true (by omega)]
    rfl
   simp [hlt,hall]
theorem rreg_g (r:RegD) (hn:r.name.size < 2^62):Gives Tryz.prog 125 [fReg r] (intF (regCheck r)):=by
 refine Gives.of mixed Tryz.func125 rfl rfl rfl (by kernel_rfl) ?_
 simp
 refine call_g (rident_g r.name hn) ?_
 cases h1:ident r.name with
 | false=>simp [regCheck,h1]
 | true =>
  by_cases c1:r.width < 1
  ·simp [regCheck,h1,c1,badW]
  by_cases c2:32 < r.width
  ·simp [regCheck,h1,c1,c2,badW]
  by_cases c3:r.size < 1
  ·simp [regCheck,h1,c1,c2,c3,badW]; omega
  by_cases c4:64 < r.size
  ·simp [regCheck,h1,c1,c2,c3,c4,badW]
  simp [regCheck,h1,c1,c2,c3,c4,badW]
def fxI (h:HdrD) (nm:ByteArray) (j:Nat) (st:St):Prop:=noneT (fun y:FldD=>sEq y.name nm) h.fields.l j∧∃ g,Vf.Sl [(1,.f (strF nm)),(2,.ref 0 0),(6,.f (intF j))] 23 (cHdr h::g) [] st
theorem sEq_self (s:ByteArray):sEq s s=true:=by unfold sEq; simp
theorem rfidx_g (h:HdrD) {i:Nat} {x:FldD} (hx:h.fields.l[i]?=some x) (hl:h.fields.l.length < 2^62):∃ k,k≤i∧(k < i ↔ (h.fields.l.take i).any (fun y=>sEq y.name x.name)=true)∧Gives Tryz.prog 176 [fHdr h,strF x.name] (.tup [intF k,boolF true]):=by
 have hi:=(List.getElem?_eq_some_iff.1 hx).1
 obtain ⟨k,hk,hkx,hno⟩:∃ k,k≤i∧(∃ y,h.fields.l[k]?=some y∧sEq y.name x.name=true)∧noneT (fun y:FldD=>sEq y.name x.name) h.fields.l k:=by
  have:∀ m,m≤i→(noneT (fun y:FldD=>sEq y.name x.name) h.fields.l m)∨∃ k,k≤i∧(∃ y,h.fields.l[k]?=some y∧sEq y.name x.name=true)∧noneT (fun y:FldD=>sEq y.name x.name) h.fields.l k:=by
   intro m
   induction m with
   | zero=>intro _; exact .inl .zero
   | succ m ih =>
    intro hm
    rcases ih (by omega) with h1 | h1
    ·obtain ⟨y,_,hy⟩:=nth_of (show m < h.fields.l.length by omega)
     cases he:sEq y.name x.name with
     | true=>exact .inr ⟨m,by omega,⟨y,hy,he⟩,h1⟩
     | false=>exact .inl (h1.next hy he)
    ·exact .inr h1
  rcases this i (Nat.le_refl _) with h1 | h1
  ·exact ⟨i,Nat.le_refl _,⟨x,hx,sEq_self _⟩,h1⟩
  ·exact h1
 refine ⟨k,hk,?_,?_⟩
 ·obtain ⟨y,hy,he⟩:=hkx
  constructor
  ·intro hlt
   exact any_hit (l:=h.fields.l.take i) (k:=k) (by rw [List.getElem?_take_of_lt hlt]; exact hy) he
  ·intro ha
   obtain ⟨z,hz,he2⟩:=List.any_eq_true.1 ha
   obtain ⟨j,hj,rfl⟩:=List.getElem_of_mem hz
   have hj':j < i:=by simp at hj; omega
   rcases Nat.lt_or_ge j k with h1 | h1
   ·have:=hno j _ h1 (List.getElem?_eq_getElem (by omega))
    rw [List.getElem_take] at he2
    have this:sEq (h.fields.l[j]).name x.name=false:=this
    rw [this] at he2; cases he2
   ·omega
 ·obtain ⟨z,hz,he⟩:=hkx
  refine Gives.of mixed Tryz.func176 rfl rfl rfl (by kernel_rfl) ?_
  simp
  refine forX mixed k (fxI h x.name) (by kernel_rfl) ⟨.zero,[],Sl.of rfl rfl rfl⟩ ?_
  rintro j ⟨ts,hh,kk⟩ hj ⟨hn,g,rfl,rfl,f,rfl⟩
  have hw:=wrap64 (x:=(j:Int)+1) (by omega) (by omega)
  obtain ⟨y,hy,hy'⟩:=nth_of (show j < h.fields.l.length by omega)
  by_cases hlt:j < k
  ·have hs:=hno j y hlt hy'
   simp [cHdr,hy,(show j < h.fields.l.length by omega),hs,hw,hlt]
   exact ⟨hn.next hy' hs,_,Sl.of rfl rfl rfl⟩
  ·obtain rfl:j=k:=by omega
   rw [hz] at hy'
   obtain rfl:=Option.some.inj hy'
   simp [cHdr,hy,(show j < h.fields.l.length by omega),he]
@[simp] theorem conv_u32_u64 {n:Int}:opOne Tryz.prog (convert 197 297) (.f (.sc (.int .u32 n)))=some (.f (.sc (.int .u64 (IntKind.u64.wrap n)))):=by kernel_rfl
@[simp] theorem conv_u64_u32 {n:Int}:opOne Tryz.prog (convert 297 197) (.f (.sc (.int .u64 n)))=some (.f (.sc (.int .u32 (IntKind.u32.wrap n)))):=by kernel_rfl
theorem wrapU {x:Int} (h0:0≤x) (h1:x < 18446744073709551616):IntKind.u64.wrap x=x:=by
 simp [IntKind.wrap,IntKind.bits,IntKind.signed]; omega
theorem wrap32 {x:Int} (h0:0≤x) (h1:x < 4294967296):IntKind.u32.wrap x=x:=by
 simp [IntKind.wrap,IntKind.bits,IntKind.signed]; omega
theorem pow_bd {n:Nat} (h:n≤32):1≤(2:Int) ^ n∧(2:Int) ^ n≤4294967296:=by
 have:∀ n:Nat,n≤32→1≤(2:Int) ^ n∧(2:Int) ^ n≤4294967296:=by decide
 exact this n h
def U32 (x:Int):Prop:=0≤x∧x < 4294967296
theorem rvalid_g (w:Int):Gives Tryz.prog 283 [intF w] (boolF (!badW w)):=by
 refine Gives.of mixed Tryz.func283 rfl rfl rfl (by kernel_rfl) ?_
 by_cases c1:1≤w <;> by_cases c2:w≤32 <;> simp [c1,c2,badW] <;> omega
theorem rpower_g (n:Nat) (hn:n≤32):Gives Tryz.prog 284 [intF n] (.sc (.int .u64 (2 ^ n))):=by
 refine Gives.of mixed Tryz.func284 rfl rfl rfl (by kernel_rfl) ?_
 simp
 refine forX mixed n (fun i st=>Vf.Sl [(0,.f (intF n)),(3,.f (.sc (.int .u64 (2 ^ i)))),(4,.f (intF i))] 13 [] [] st) (by kernel_rfl) (Sl.of rfl rfl rfl) ?_
 rintro i ⟨ts,h,kk⟩ hi ⟨rfl,rfl,f,rfl⟩
 by_cases hlt:i < n
 ·have hw:=wrap64 (x:=(i:Int)+1) (by omega) (by omega)
  have hb:=pow_bd (n:=i) (by omega)
  have hm:=wrapU (x:=2 * (2:Int) ^ i) (by omega) (by omega)
  have hp:2 * (2:Int) ^ i=2 ^ (i+1):=by rw [Int.pow_succ]; omega
  simp [hlt,hw,hm]
  rw [hp]
  exact Sl.of rfl rfl rfl
 ·obtain rfl:i=n:=by omega
  simp
theorem toNat_w {w:Int} (h:badW w=false):((w.toNat:Nat):Int)=w∧w.toNat≤32:=by
 simp only [badW,Bool.or_eq_false_iff,decide_eq_false_iff_not] at h
 omega
theorem rmask_g (w:Int):Gives Tryz.prog 257 [intF w] (u32F (maskM w)):=by
 refine Gives.of mixed Tryz.func257 rfl rfl rfl (by kernel_rfl) ?_
 simp
 refine call_g (rvalid_g w) ?_
 cases h:badW w with
 | true=>simp [maskM,h]
 | false =>
  obtain ⟨e,hle⟩:=toNat_w h
  have hp:=rpower_g w.toNat hle
  rw [e] at hp
  have hb:=pow_bd hle
  have w1:=wrapU (x:=(2:Int) ^ w.toNat - 1) (by omega) (by omega)
  have w2:=wrap32 (x:=(2:Int) ^ w.toNat - 1) (by omega) (by omega)
  simp
  refine call_g hp ?_
  simp [maskM,h,w1,w2]
theorem rfits_g (v w:Int) (hv:U32 v):Gives Tryz.prog 254 [u32F v,intF w] (boolF (fitsW v w)):=by
 refine Gives.of mixed Tryz.func254 rfl rfl rfl (by kernel_rfl) ?_
 simp
 refine call_g (rvalid_g w) ?_
 cases h:badW w with
 | true=>simp [fitsW,h]
 | false =>
  obtain ⟨e,hle⟩:=toNat_w h
  have hp:=rpower_g w.toNat hle
  rw [e] at hp
  have w1:=wrapU (x:=v) hv.1 (by have:=hv.2; omega)
  simp [w1]
  refine call_g hp ?_
  simp [fitsW,h]
  omega
theorem rfits12_g (v w:Int) (hv:U32 v) (hw:badW w=false):Gives Tryz.prog 255 [u32F v,intF w] (boolF (fitsW v w)):=by
 refine Gives.of mixed Tryz.func255 rfl rfl rfl (by kernel_rfl) ?_
 obtain ⟨e,hle⟩:=toNat_w hw
 have w1:=wrapU (x:=v) hv.1 (by have:=hv.2; omega)
 generalize hn:w.toNat=n at *
 subst e
 simp
 refine forX mixed n (fun i st=>Vf.Sl [(0,.f (u32F v)),(1,.f (intF n)),(5,.f (.sc (.int .u64 (2 ^ i)))),(6,.f (intF i))] 18 [] [] st) (by kernel_rfl) (Sl.of rfl rfl rfl) ?_
 rintro i ⟨ts,h,kk⟩ hi ⟨rfl,rfl,f,rfl⟩
 by_cases hlt:i < n
 ·have hw:=wrap64 (x:=(i:Int)+1) (by omega) (by omega)
  have hb:=pow_bd (n:=i) (by omega)
  have hm:=wrapU (x:=2 * (2:Int) ^ i) (by omega) (by omega)
  have hp:2 * (2:Int) ^ i=2 ^ (i+1):=by rw [Int.pow_succ]; omega
  simp [hlt,hw,hm]
  rw [hp]
  exact Sl.of rfl rfl rfl
 ·obtain rfl:i=n:=by omega
  simp [fitsW,hw,w1]
  omega
theorem rwidth_g (d:PrgD) (h f:Int):Gives Tryz.prog 234 [fPrg d,fRef h f] (intF (widthOf d h f)):=by
 refine Gives.of mixed Tryz.func234 rfl rfl rfl (by kernel_rfl) ?_
 generalize hv:widthOf d h f=v
 unfold widthOf at hv
 by_cases c0:0≤h
 ·by_cases c2:(d.headers.l.length:Int)≤h
  ·have hl:fldsOf d h=[]:=by unfold fldsOf; rw [if_neg (by omega),if_pos (Or.inr c2)]
   have hf:fldAt d h f=none:=by unfold fldAt; rw [hl]; split <;> simp
   rw [hf] at hv
   subst hv
   simp [fPrg,cPrg,c0,c2]
  ·obtain ⟨y,hy,hy'⟩:=nth_of (show h.toNat < d.headers.l.length by omega)
   have hn:¬ h < -1:=by omega
   have hm:h.toNat < d.headers.l.length:=by omega
   have hl:fldsOf d h=y.fields.l:=by unfold fldsOf; rw [if_neg (by omega),if_neg (by omega),hy']
   by_cases c3:f < 0
   ·have hf:fldAt d h f=none:=by unfold fldAt; rw [if_pos c3]
    rw [hf] at hv
    subst hv
    simp [fPrg,cPrg,c0,c2,c3,hy,hm,hn]
   by_cases c4:(y.fields.l.length:Int)≤f
   ·have hf:fldAt d h f=none:=by unfold fldAt; rw [if_neg c3,hl]; exact List.getElem?_eq_none (by omega)
    rw [hf] at hv
    subst hv
    simp [fPrg,cPrg,c0,c2,c3,c4,hy,hm,hn]
   obtain ⟨x,hx,hx'⟩:=nth_of (show f.toNat < y.fields.l.length by omega)
   have hf:fldAt d h f=some x:=by unfold fldAt; rw [if_neg c3,hl]; exact hx'
   have hxm:f.toNat < y.fields.l.length:=by omega
   have c3':0≤f:=by omega
   rw [hf] at hv
   have hv:(if badW x.width then 0 else x.width)=v:=hv
   by_cases c5:x.width < 1
   ·rw [if_pos (by simp [badW,c5])] at hv
    subst hv
    simp [fPrg,cPrg,c0,c2,c3,c4,c5,hy,hm,hn,hx,hxm,c3']
   by_cases c6:32 < x.width
   ·rw [if_pos (by simp [badW,c6])] at hv
    subst hv
    simp [fPrg,cPrg,c0,c2,c3,c4,c5,c6,hy,hm,hn,hx,hxm,c3']
   rw [if_neg (by simp [badW,c5,c6])] at hv
   subst hv
   simp [fPrg,cPrg,c0,c2,c3,c4,c5,c6,hy,hm,hn,hx,hxm,c3']
 by_cases c1:h < -1
 ·have hl:fldsOf d h=[]:=by unfold fldsOf; rw [if_neg (by omega),if_pos (by omega)]
  have hf:fldAt d h f=none:=by unfold fldAt; rw [hl]; split <;> simp
  rw [hf] at hv
  subst hv
  simp [fPrg,cPrg,c0,c1]
 obtain rfl:h=-1:=by omega
 by_cases c3:f < 0
 ·have hf:fldAt d (-1) f=none:=by unfold fldAt; rw [if_pos c3]
  rw [hf] at hv
  subst hv
  simp [fPrg,cPrg,c3]
 by_cases c4:(d.meta_.l.length:Int)≤f
 ·have hf:fldAt d (-1) f=none:=by unfold fldAt fldsOf; rw [if_neg c3,if_pos rfl]; exact List.getElem?_eq_none (by omega)
  rw [hf] at hv
  subst hv
  simp [fPrg,cPrg,c3,c4]
 obtain ⟨x,hx,hx'⟩:=nth_of (show f.toNat < d.meta_.l.length by omega)
 have hf:fldAt d (-1) f=some x:=by unfold fldAt fldsOf; rw [if_neg c3,if_pos rfl]; exact hx'
 have hxm:f.toNat < d.meta_.l.length:=by omega
 have c3':0≤f:=by omega
 rw [hf] at hv
 have hv:(if badW x.width then 0 else x.width)=v:=hv
 by_cases c5:x.width < 1
 ·rw [if_pos (by simp [badW,c5])] at hv
  subst hv
  simp [fPrg,cPrg,c3,c4,c5,hx,hxm,c3']
 by_cases c6:32 < x.width
 ·rw [if_pos (by simp [badW,c6])] at hv
  subst hv
  simp [fPrg,cPrg,c3,c4,c5,c6,hx,hxm,c3']
 rw [if_neg (by simp [badW,c5,c6])] at hv
 subst hv
 simp [fPrg,cPrg,c3,c4,c5,c6,hx,hxm,c3']
theorem rtwidth_g (d:PrgD) (h f:Int):Gives Tryz.prog 231 [fPrg d,fRef h f] (intF (widthOf d h f)):=by
 refine Gives.of mixed Tryz.func231 rfl rfl rfl (by kernel_rfl) ?_
 generalize hv:widthOf d h f=v
 unfold widthOf at hv
 by_cases c0:0≤h
 ·by_cases c2:(d.headers.l.length:Int)≤h
  ·have hl:fldsOf d h=[]:=by unfold fldsOf; rw [if_neg (by omega),if_pos (Or.inr c2)]
   have hf:fldAt d h f=none:=by unfold fldAt; rw [hl]; split <;> simp
   rw [hf] at hv
   subst hv
   simp [fPrg,cPrg,c0,c2]
  ·obtain ⟨y,hy,hy'⟩:=nth_of (show h.toNat < d.headers.l.length by omega)
   have hn:¬ h < -1:=by omega
   have hm:h.toNat < d.headers.l.length:=by omega
   have hl:fldsOf d h=y.fields.l:=by unfold fldsOf; rw [if_neg (by omega),if_neg (by omega),hy']
   by_cases c3:f < 0
   ·have hf:fldAt d h f=none:=by unfold fldAt; rw [if_pos c3]
    rw [hf] at hv
    subst hv
    simp [fPrg,cPrg,c0,c2,c3,hy,hm,hn]
   by_cases c4:(y.fields.l.length:Int)≤f
   ·have hf:fldAt d h f=none:=by unfold fldAt; rw [if_neg c3,hl]; exact List.getElem?_eq_none (by omega)
    rw [hf] at hv
    subst hv
    simp [fPrg,cPrg,c0,c2,c3,c4,hy,hm,hn]
   obtain ⟨x,hx,hx'⟩:=nth_of (show f.toNat < y.fields.l.length by omega)
   have hf:fldAt d h f=some x:=by unfold fldAt; rw [if_neg c3,hl]; exact hx'
   have hxm:f.toNat < y.fields.l.length:=by omega
   have c3':0≤f:=by omega
   rw [hf] at hv
   have hv:(if badW x.width then 0 else x.width)=v:=hv
   by_cases c5:x.width < 1
   ·rw [if_pos (by simp [badW,c5])] at hv
    subst hv
    simp [fPrg,cPrg,c0,c2,c3,c4,c5,hy,hm,hn,hx,hxm,c3']
   by_cases c6:32 < x.width
   ·rw [if_pos (by simp [badW,c6])] at hv
    subst hv
    simp [fPrg,cPrg,c0,c2,c3,c4,c5,c6,hy,hm,hn,hx,hxm,c3']
   rw [if_neg (by simp [badW,c5,c6])] at hv
   subst hv
   simp [fPrg,cPrg,c0,c2,c3,c4,c5,c6,hy,hm,hn,hx,hxm,c3']
 by_cases c1:h < -1
 ·have hl:fldsOf d h=[]:=by unfold fldsOf; rw [if_neg (by omega),if_pos (by omega)]
  have hf:fldAt d h f=none:=by unfold fldAt; rw [hl]; split <;> simp
  rw [hf] at hv
  subst hv
  simp [fPrg,cPrg,c0,c1]
 obtain rfl:h=-1:=by omega
 by_cases c3:f < 0
 ·have hf:fldAt d (-1) f=none:=by unfold fldAt; rw [if_pos c3]
  rw [hf] at hv
  subst hv
  simp [fPrg,cPrg,c3]
 by_cases c4:(d.meta_.l.length:Int)≤f
 ·have hf:fldAt d (-1) f=none:=by unfold fldAt fldsOf; rw [if_neg c3,if_pos rfl]; exact List.getElem?_eq_none (by omega)
  rw [hf] at hv
  subst hv
  simp [fPrg,cPrg,c3,c4]
 obtain ⟨x,hx,hx'⟩:=nth_of (show f.toNat < d.meta_.l.length by omega)
 have hf:fldAt d (-1) f=some x:=by unfold fldAt fldsOf; rw [if_neg c3,if_pos rfl]; exact hx'
 have hxm:f.toNat < d.meta_.l.length:=by omega
 have c3':0≤f:=by omega
 rw [hf] at hv
 have hv:(if badW x.width then 0 else x.width)=v:=hv
 by_cases c5:x.width < 1
 ·rw [if_pos (by simp [badW,c5])] at hv
  subst hv
  simp [fPrg,cPrg,c3,c4,c5,hx,hxm,c3']
 by_cases c6:32 < x.width
 ·rw [if_pos (by simp [badW,c6])] at hv
  subst hv
  simp [fPrg,cPrg,c3,c4,c5,c6,hx,hxm,c3']
 rw [if_neg (by simp [badW,c5,c6])] at hv
 subst hv
 simp [fPrg,cPrg,c3,c4,c5,c6,hx,hxm,c3']
def rhI (h:HdrD) (i:Nat) (st:St):Prop:=noneT (fldHit h.fields.l) (List.range h.fields.l.length) i∧∃ g,Vf.Sl [(1,.ref 0 0),(3,.f (intF (sumW (h.fields.l.take i)))),(4,.f (intF i))] 67 (cHdr h::g) [] st
theorem sumW_next {l:List FldD} {i:Nat} {x:FldD} (h:l[i]?=some x):sumW (l.take (i+1))=sumW (l.take i)+x.width:=by
 unfold sumW
 rw [List.map_take,List.map_take]
 have h':(l.map (·.width))[i]?=some x.width:=by rw [List.getElem?_map,h]; rfl
 generalize l.map (·.width)=m at *
 clear h
 induction m generalizing i with
 | nil=>simp at h'
 | cons a m ih =>
  cases i with
  | zero=>simp at h'; simp [isum,h']
  | succ i=>have:=ih (by simpa using h'); simp only [List.take_succ_cons,isum,this]; omega
theorem sumW_few {l:List FldD} {k:Nat} (hk:k≤l.length) (h:∀ i x,i < k→l[i]?=some x→badW x.width=false):0≤sumW (l.take k)∧sumW (l.take k)≤32 * k:=by
 induction k with
 | zero=>simp [sumW,isum]
 | succ k ih =>
  obtain ⟨x,_,hx⟩:=nth_of (show k < l.length by omega)
  have h1:=ih (by omega) fun i x hi=>h i x (by omega)
  have h2:=h k x (by omega) hx
  simp only [badW,Bool.or_eq_false_iff,decide_eq_false_iff_not] at h2
  rw [sumW_next hx]
  omega
theorem hit_width {l:List FldD} {k:Nat} (hno:noneT (fldHit l) (List.range l.length) k) (hk:k≤l.length):∀ i x,i < k→l[i]?=some x→badW x.width=false:=fun i x hi hx=>by
 have:=hno i i hi (range_at (by omega))
 simp only [fldHit,hdrField,hx] at this
 cases hb:badW x.width with
 | false=>rfl
 | true=>rw [hb] at this; revert this; cases ident x.name <;> simp
theorem rhdr_g (h:HdrD) (hn:h.name.size < 2^62) (hs:∀ x ∈ h.fields.l,x.name.size < 2^62):Gives Tryz.prog 123 [fHdr h] (intF (hdrCheck h)):=by
 refine Gives.of mixed Tryz.func123 rfl rfl rfl (by kernel_rfl) ?_
 simp
 refine call_g (rident_g h.name hn) ?_
 cases h1:ident h.name with
 | false=>simp [hdrCheck,h1]
 | true =>
 by_cases c1:h.fields.l.length=0
 ·simp [hdrCheck,h1,c1]
 by_cases c2:12 < (h.fields.l.length:Int)
 ·have c2':12 < h.fields.l.length:=by omega
  simp [hdrCheck,h1,c1,c2,c2']
 have c2':¬ 12 < h.fields.l.length:=by omega
 simp [c1,c2]
 refine forX mixed h.fields.l.length (rhI h) (by kernel_rfl) ⟨.zero,[],Sl.of rfl rfl rfl⟩ ?_
 rintro i ⟨ts,hh,kk⟩ hi ⟨hno,g,rfl,rfl,f,rfl⟩
 by_cases hlt:i < h.fields.l.length
 ·obtain ⟨x,hx,hx'⟩:=nth_of hlt
  have hw:=wrap64 (x:=(i:Int)+1) (by omega) (by omega)
  have hf:hdrField h.fields.l i=if !ident x.name then some 6 else if badW x.width then some 10 else if (h.fields.l.take i).any (fun g=>sEq g.name x.name) then some 7 else none:=by simp [hdrField,hx']
  have out:∀ e,hdrField h.fields.l i=some e→hdrCheck h=e:=fun e he=>by
   simp only [hdrCheck,h1,c1,c2',scan_at hno hlt he,Bool.not_true,Bool.false_eq_true,if_false]
  obtain ⟨k,hk,hki,hkg⟩:=rfidx_g h hx' (by omega)
  simp [hlt,hx,cHdr]
  refine call_g hkg ?_
  simp
  refine call_g (rident_g x.name (hs x (List.mem_of_getElem? hx'))) ?_
  cases i1:ident x.name with
  | false=>simp [out 6 (by rw [hf,i1]; rfl)]
  | true =>
  by_cases w1:x.width < 1
  ·simp [w1,out 10 (by rw [hf,i1]; simp [badW,w1])]
  by_cases w2:32 < x.width
  ·simp [w1,w2,out 10 (by rw [hf,i1]; simp [badW,w2])]
  have wb:badW x.width=false:=by simp [badW,w1,w2]
  by_cases kl:k < i
  ·have kl':(k:Int) < i:=by omega
   simp [w1,w2,kl',kl,out 7 (by rw [hf,i1,wb,hki.1 kl]; rfl)]
  ·have kl':¬ (k:Int) < i:=by omega
   have ha:(h.fields.l.take i).any (fun g=>sEq g.name x.name)=false:=by
    cases e:(h.fields.l.take i).any (fun g=>sEq g.name x.name) with
    | false=>rfl
    | true=>exact absurd (hki.2 e) kl
   have hsum:=sumW_next hx'
   have hbd:=sumW_few hi (hit_width hno hi)
   have hwx:1≤x.width∧x.width≤32:=by omega
   have hw2:=wrap64 (x:=sumW (h.fields.l.take i)+x.width) (by omega) (by omega)
   simp [w1,w2,kl',kl,hw,hw2]
   rw [← hsum]
   exact ⟨hno.next (range_at hlt) (by simp [fldHit,hf,i1,wb,ha]),_,Sl.of rfl rfl rfl⟩
 ·obtain rfl:i=h.fields.l.length:=by omega
  have hsc:=scan_of hno
  have hbd:=sumW_few hi (hit_width hno hi)
  rw [List.take_length] at hbd
  have hmod:(sumW h.fields.l).tmod 8=sumW h.fields.l % 8:=Int.tmod_eq_emod_of_nonneg hbd.1
  have hv:hdrCheck h=if sumW h.fields.l % 8=0 then 0 else 10:=by simp only [hdrCheck,h1,c1,c2',hsc,Bool.not_true,Bool.false_eq_true,if_false]
  rw [hv]
  by_cases hz:sumW h.fields.l % 8=0
  ·simp [hlt,cHdr,hmod,hz]
  ·simp [hlt,cHdr,hmod,hz]
end Go.Proofs.YtafenffmgpcjcaaGreat
