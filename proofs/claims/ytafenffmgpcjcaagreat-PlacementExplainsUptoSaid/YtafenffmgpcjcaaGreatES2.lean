/- Texts of the proof: ES2. -/
import Derived.Test.YtafenffmgpcjcaaGreatES1
import Derived.Test.YtafenffmgpcjcaaGreatEVC1
namespace Go.Proofs.YtafenffmgpcjcaaGreat
open Go.RowKit Go.Proofs.YtafenffmgpcjcaaGreat.Vf
set_option linter.unusedVariables false
set_option linter.unusedSimpArgs false
set_option maxRecDepth 100000
set_option maxHeartbeats 4000000
@[simp] theorem conv_u32_int {n : Int} : opOne Tryz.prog (convert 197 3) (.f (.sc (.int .u32 n))) = some (.f (.sc (.int .i64 (IntKind.i64.wrap n)))):=by kernel_rfl
def f3 (a b c : Int) : FV:=.agg [intF a,intF b,intF c]
theorem combine_g (x : ExD) (a b c : Int) (ha : 0 ≤ a∧a ≤ 32) (hb : 0 ≤ b∧b ≤ 32) (h0 : arity x.op ≠ 0) : Gives Tryz.prog 260 [fEx x,f3 a b c] (two (combine x a b c)):=by
 refine Gives.of mixed Tryz.func260 rfl rfl rfl (by kernel_rfl) ?_
 have hab:=wrap64 (x:=a + b) (by omega) (by omega)
 have tail : ∀ (h : Int→Prop),True:=fun _=>trivial
 clear tail
 by_cases o6 : x.op = 6 ∨ x.op = 7
 ·by_cases c1 : x.n < 0
  ·rcases o6 with o6 | o6 <;> simp [o6,c1,combine,f3]
  by_cases c2 : 31 < x.n
  ·rcases o6 with o6 | o6 <;> simp [o6,c1,c2,combine,f3]
  rcases o6 with o6 | o6
  ·simp [o6,c1,c2,f3]
   refine call_g (arity_g 6) ?_
   simp [arity,combine,o6,c1,c2]
  ·simp [o6,c1,c2,f3]
   refine call_g (arity_g 7) ?_
   simp [arity,combine,o6,c1,c2]
 have o6a : ¬ x.op = 6:=fun h=>o6 (.inl h)
 have o6b : ¬ x.op = 7:=fun h=>o6 (.inr h)
 by_cases o8 : x.op = 8
 ·by_cases c1 : x.n < 0
  ·simp [o8,c1,combine,f3]
  simp [o8,c1,f3]
  refine call_g (wide_g x.w) ?_
  cases hw : badW x.w with
  | true=>simp [wide,hw,combine,o8,c1]
  | false =>
   have h':=(badW_not x.w).1 hw
   have hs:=wrap64 (x:=a - x.w) (by omega) (by omega)
   by_cases c2 : a - x.w < x.n
   ·simp [wide,hw,combine,o8,c1,hs,c2]
   ·simp [wide,hw,combine,o8,c1,hs,c2]
 by_cases o14 : x.op = 14
 ·simp [o14,f3,hab]
  refine call_g (wide_g (a + b)) ?_
  simp [combine,o14]
 by_cases o17 : x.op = 17
 ·by_cases c1 : a = 1
  ·by_cases c2 : b = c
   ·simp [o17,f3,c1,c2,combine]
   ·simp [o17,f3,c1,c2,combine]
  ·simp [o17,f3,c1,combine]
 simp [o6a,o6b,o8,o14,o17,f3]
 refine call_g (arity_g x.op) ?_
 have a15 : arity 15 = 2:=rfl
 have a16 : arity 16 = 2:=rfl
 by_cases c1 : arity x.op = 2
 ·by_cases c2 : a = b
  ·by_cases o15 : x.op = 15
   ·simp [a15,c1,c2,o15,o6a,o6b,o8,o14,o17,combine]
   by_cases o16 : x.op = 16
   ·simp [a16,c1,c2,o15,o16,o6a,o6b,o8,o14,o17,combine]
   simp [c1,c2,o15,o16,o6a,o6b,o8,o14,o17,combine]
  ·simp [c1,c2,o6a,o6b,o8,o14,o17,combine]
 ·have o15 : ¬ x.op = 15:=fun h=>c1 (by rw [h]; rfl)
  have o16 : ¬ x.op = 16:=fun h=>c1 (by rw [h]; rfl)
  simp [c1,o15,o16,o6a,o6b,o8,o14,o17,combine]
theorem primary_g (d : PrgD) (ps : List FldD) (x : ExD) : Gives Tryz.prog 259 [fScp d ps,fEx x] (two (primary d ps x)):=by
 refine Gives.of mixed Tryz.func259 rfl rfl rfl (by kernel_rfl) ?_
 simp [fScp,cPrg]
 by_cases o1 : x.op = 1
 ·simp [o1]
  refine call_g (wide_g x.w) ?_
  cases hw : badW x.w with
  | true=>simp [wide,hw,primary,o1]
  | false =>
   have h':=(badW_not x.w).1 hw
   have hp : (2 : Int) ^ x.w.toNat - 1 ≤ 4294967295∧0 ≤ (2 : Int) ^ x.w.toNat - 1:=by
    obtain ⟨n,hn⟩ : ∃ n : Nat,x.w = n:=⟨x.w.toNat,by omega⟩
    have h1 : n ≤ 32:=by omega
    have : ∀ n : Nat,n ≤ 32→(2 : Int) ^ (n : Int).toNat - 1 ≤ 4294967295∧0 ≤ (2 : Int) ^ (n : Int).toNat - 1:=by decide
    rw [hn]; exact this n h1
   by_cases c1 : x.n < 0
   ·simp [wide,hw,primary,o1,c1]
   simp [wide,hw,o1,c1]
   refine call_g (mask_g x.w) ?_
   have hk:=wrap64 (x:=(2 : Int) ^ x.w.toNat - 1) (by omega) (by omega)
   by_cases c2 : (2 : Int) ^ x.w.toNat - 1 < x.n
   ·simp [maskM,hw,hk,c2,primary,o1,c1]
   ·simp [maskM,hw,hk,c2,primary,o1,c1]
 by_cases o2 : x.op = 2
 ·simp [o2]
  refine call_g (field_g d ps x.n x.w) ?_
  cases hf : fldAt d x.n x.w with
  | none=>simp [fldR,primary,o2,hf]
  | some f =>
   simp [fldR]
   refine call_g (wide_g f.width) ?_
   simp [primary,o2,hf]
 by_cases o3 : x.op = 3
 ·by_cases c1 : x.n < 0
  ·simp [o3,c1,primary]
  ·obtain ⟨n,hn⟩ : ∃ n : Nat,x.n = n:=⟨x.n.toNat,by omega⟩
   have q0 : ¬ ((n : Int) < 0):=by omega
   by_cases hlt : n < ps.length
   ·obtain ⟨f,hx,hx'⟩:=nth_of hlt
    have q : ¬ ((ps.length : Int) ≤ n):=by omega
    simp [o3,hn,q0,q,hlt,hx]
    refine call_g (wide_g f.width) ?_
    have hv : primary d ps x = wide f.width:=by
     unfold primary
     rw [if_neg o1,if_neg o2,if_pos o3,if_neg c1,hn]
     simp only [Int.toNat_natCast,hx']
    simp [hv]
   ·have q : (ps.length : Int) ≤ n:=by omega
    have hv : primary d ps x = (0,8):=by
     unfold primary
     rw [if_neg o1,if_neg o2,if_pos o3,if_neg c1,hn]
     simp only [Int.toNat_natCast,List.getElem?_eq_none (by omega : ps.length ≤ n)]
    simp [o3,hn,q0,q,hlt,hv]
 by_cases c1 : x.n < 0
 ·simp [o1,o2,o3,c1,primary]
 ·by_cases c2 : (d.headers.l.length : Int) ≤ x.n
  ·simp [o1,o2,o3,c1,c2,primary]
  ·simp [o1,o2,o3,c1,c2,primary]
abbrev trip (p : Int × Nat × Int) : FV:=.tup [intF p.1,intF p.2.1,intF p.2.2]
def opAt (d : PrgD) (ps : List FldD) (n : List ExD) (i : Nat) : Nat→Nat
 | 0=>i + 1
 | j + 1=>(exI d ps n (opAt d ps n i j)).2.1
def opW (d : PrgD) (ps : List FldD) (n : List ExD) (i j q : Nat) : Int:=if q < j then (exI d ps n (opAt d ps n i q)).1 else 0
def chI (d : PrgD) (ps : List FldD) (n : List ExD) (i : Nat) (x : ExD) (j : Nat) (s : St) : Prop:=(∀ q,q < j→(exI d ps n (opAt d ps n i q)).2.2 = 0)∧opAt d ps n i j ≤ n.length∧i < opAt d ps n i j∧∃ g,Vf.Sl [(0,.f (fScp d ps)),(1,.f (sl (encL fEx n))),(2,.f (intF i)),(3,.ref 0 0),(7,.f (intF (opAt d ps n i j))),(9,.f (intF (arity x.op))),(10,.ref 1 0),(43,.f (intF (arity x.op))),(44,.f (intF j))] 73 ([.f (strF d.name),.f (sl (encL fHdr d.headers.l)),.f (sl (encL fFld d.meta_.l)),.f (sl (encL fReg d.regs.l)),.f (sl (encL fAct d.acts.l)),.f (sl (encL fTbl d.tables.l)),.f (sl (encL fSta d.states.l)),.f (sl (encL fNod d.control.l)),.f (sl (encL intF d.dep.l)),.f (sl (encL fFld ps))] :: [.f (intF (opW d ps n i j 0)),.f (intF (opW d ps n i j 1)),.f (intF (opW d ps n i j 2))] :: g) [] s
theorem arity_le (o : Int) : arity o ≤ 3:=by unfold arity; repeat' split <;> omega
theorem exI_err {d : PrgD} {ps : List FldD} {n : List ExD} {i j m : Nat} {x : ExD} (hx : n[i]? = some x) (hm : arity x.op = m) (hm0 : m ≠ 0) (hj : j < m) (hz : ∀ q,q < j→(exI d ps n (opAt d ps n i q)).2.2 = 0) (he : (exI d ps n (opAt d ps n i j)).2.2 ≠ 0) : exI d ps n i = (0,0,(exI d ps n (opAt d ps n i j)).2.2):=by
 have h3:=arity_le x.op
 rw [exI_some d ps n i x hx,if_neg (by omega),if_neg (by omega)]
 match j,hj,hz,he with
 | 0,hj,hz,he=>rw [if_pos (by exact he)]; rfl
 | 1,hj,hz,he =>
  rw [if_neg (by simpa [opAt] using hz 0 (by omega)),if_neg (by omega),if_pos (by exact he)]; rfl
 | 2,hj,hz,he =>
  rw [if_neg (by simpa [opAt] using hz 0 (by omega)),if_neg (by omega),if_neg (by simpa [opAt] using hz 1 (by omega)),if_neg (by omega),if_pos (by exact he)]; rfl
 | j + 3,hj,hz,he=>omega
theorem exI_fin {d : PrgD} {ps : List FldD} {n : List ExD} {i m : Nat} {x : ExD} (hx : n[i]? = some x) (hm : arity x.op = m) (hm0 : m ≠ 0) (hz : ∀ q,q < m→(exI d ps n (opAt d ps n i q)).2.2 = 0) : exI d ps n i = ((combine x (opW d ps n i m 0) (opW d ps n i m 1) (opW d ps n i m 2)).1,opAt d ps n i m,(combine x (opW d ps n i m 0) (opW d ps n i m 1) (opW d ps n i m 2)).2):=by
 have h3:=arity_le x.op
 rw [exI_some d ps n i x hx,if_neg (by omega),if_neg (by omega)]
 match m,hm,hm0,hz with
 | 1,hm,hm0,hz =>
  rw [if_neg (by simpa [opAt] using hz 0 (by omega)),if_pos (by omega)]; rfl
 | 2,hm,hm0,hz =>
  rw [if_neg (by simpa [opAt] using hz 0 (by omega)),if_neg (by omega),if_neg (by simpa [opAt] using hz 1 (by omega)),if_pos (by omega)]; rfl
 | 3,hm,hm0,hz =>
  rw [if_neg (by simpa [opAt] using hz 0 (by omega)),if_neg (by omega),if_neg (by simpa [opAt] using hz 1 (by omega)),if_neg (by omega),if_neg (by simpa [opAt] using hz 2 (by omega))]; rfl
 | m + 4,hm,hm0,hz=>omega
theorem opW_next {d : PrgD} {ps : List FldD} {n : List ExD} {i j : Nat} (q : Nat) (hq : q < 3) : opW d ps n i (j + 1) q = if q = j then (exI d ps n (opAt d ps n i j)).1 else opW d ps n i j q:=by
 unfold opW
 by_cases h : q = j
 ·subst h; simp
 ·rw [if_neg h]
  by_cases h2 : q < j
  ·rw [if_pos h2,if_pos (by omega)]
  ·rw [if_neg h2,if_neg (by omega)]
theorem opW_ok {d : PrgD} {ps : List FldD} {n : List ExD} {i j : Nat} (hz : ∀ q,q < j→(exI d ps n (opAt d ps n i q)).2.2 = 0) (q : Nat) : 0 ≤ opW d ps n i j q∧opW d ps n i j q ≤ 32:=by
 unfold opW
 split
 ·rename_i h; exact (exI_ok _ _ _ _ (hz q h)).2.2
 ·omega
theorem check_g (d : PrgD) (ps : List FldD) (n : List ExD) (hn : n.length < 100000) : ∀ (k i : Nat),n.length < i + k→Gives Tryz.prog 244 [fScp d ps,sl (encL fEx n),intF i] (trip (exI d ps n i))
 | 0,i,h=>by
  refine Gives.of mixed Tryz.func244 rfl rfl rfl (by kernel_rfl) ?_
  have q : (n.length : Int) ≤ i:=by omega
  rw [exI_none d ps n i (by omega)]
  simp [q,fScp,cPrg]
 | k + 1,i,h=>by
  refine Gives.of mixed Tryz.func244 rfl rfl rfl (by kernel_rfl) ?_
  by_cases hlt : i < n.length
  case neg =>
   have q : (n.length : Int) ≤ i:=by omega
   rw [exI_none d ps n i (by omega)]
   simp [q,fScp,cPrg]
  obtain ⟨x,hx,hx'⟩:=nth_of hlt
  have q : ¬ ((n.length : Int) ≤ i):=by omega
  have hw:=wrap64 (x:=(i : Int) + 1) (by omega) (by omega)
  have hS:=exI_some d ps n i x hx'
  simp [q,hlt,hx,fScp,cPrg]
  refine call_g (arity_g x.op) ?_
  by_cases a0 : arity x.op < 0
  ·rw [hS,if_pos a0]
   simp [a0]
  rw [if_neg a0] at hS
  by_cases a1 : arity x.op = 0
  ·rw [hS,if_pos a1]
   simp [a1,hlt,hx]
   refine call_g (primary_g d ps x) ?_
   simp [hw]
  clear hS
  have a3:=arity_le x.op
  obtain ⟨m,hm⟩ : ∃ m : Nat,arity x.op = m:=⟨(arity x.op).toNat,by omega⟩
  simp [a0,a1,hw]
  refine forX mixed m (chI d ps n i x) (by kernel_rfl) ⟨fun q h=>by omega,hlt,Nat.lt_succ_self i,_,Sl.of rfl rfl rfl⟩ ?_
  rintro j ⟨ts,hh,kk⟩ hj ⟨hz,hle,hgt,g,rfl,rfl,f,rfl⟩
  by_cases hlj : j < m
  ·have hle2 : opAt d ps n i j ≤ n.length:=hle
   have hwj:=wrap64 (x:=(j : Int) + 1) (by omega) (by omega)
   simp [hm,hlj]
   refine call_g (check_g d ps n hn k (opAt d ps n i j) (by omega)) ?_
   by_cases he : (exI d ps n (opAt d ps n i j)).2.2 = 0
   ·have ho:=exI_ok _ _ _ _ he
    have hj3 : j = 0 ∨ j = 1 ∨ j = 2:=by omega
    have hnx:=fun q hq=>opW_next (d:=d) (ps:=ps) (n:=n) (i:=i) (j:=j) q hq
    have hz' : ∀ q,q < j + 1→(exI d ps n (opAt d ps n i q)).2.2 = 0:=fun q hq=>by
     rcases Nat.lt_or_ge q j with h1 | h1
     ·exact hz q h1
     ·obtain rfl : q = j:=by omega
      exact he
    rcases hj3 with rfl | rfl | rfl
    ·simp [he,hwj]
     refine ⟨hz',ho.2.1,by have:=ho.1; simp only [opAt] at *; omega,g,?_⟩
     rw [hnx 0 (by omega),hnx 1 (by omega),hnx 2 (by omega),hm]
     exact Sl.of rfl rfl rfl
    ·simp [he,hwj]
     refine ⟨hz',ho.2.1,by have:=ho.1; simp only [opAt] at *; omega,g,?_⟩
     rw [hnx 0 (by omega),hnx 1 (by omega),hnx 2 (by omega),hm]
     exact Sl.of rfl rfl rfl
    ·simp [he,hwj]
     refine ⟨hz',ho.2.1,by have:=ho.1; simp only [opAt] at *; omega,g,?_⟩
     rw [hnx 0 (by omega),hnx 1 (by omega),hnx 2 (by omega),hm]
     exact Sl.of rfl rfl rfl
   ·rw [exI_err hx' hm (by omega) hlj hz he]
    have hj3 : j = 0 ∨ j = 1 ∨ j = 2:=by omega
    rcases hj3 with rfl | rfl | rfl <;> simp [he]
  ·obtain rfl : j = m:=by omega
   simp [hm,hlt,hx]
   refine call_g (combine_g x _ _ _ (opW_ok hz 0) (opW_ok hz 1) a1) ?_
   rw [exI_fin hx' hm (by omega) hz]
   simp
theorem exCheck_eq (d : PrgD) (ps : List FldD) (n : List ExD) : exCheck d ps n = if 24 < n.length then (0,12) else if (exI d ps n 0).2.2 ≠ 0 then (0,(exI d ps n 0).2.2) else if (exI d ps n 0).2.1 < n.length then (0,4) else ((exI d ps n 0).1,0):=rfl
theorem exCheck_g (d : PrgD) (ps : List FldD) (n : List ExD) : Gives Tryz.prog 204 [sl (encL fEx n),fScp d ps] (two (exCheck d ps n)):=by
 refine Gives.of mixed Tryz.func204 rfl rfl rfl (by kernel_rfl) ?_
 rw [exCheck_eq]
 by_cases c1 : 24 < n.length
 ·have c1' : 24 < (n.length : Int):=by omega
  simp [c1,c1',fScp,cPrg]
 have c1' : ¬ 24 < (n.length : Int):=by omega
 simp [c1,c1',fScp,cPrg]
 refine call_g (check_g d ps n (by omega) (n.length + 1) 0 (by omega)) ?_
 by_cases c2 : (exI d ps n 0).2.2 = 0
 ·by_cases c3 : (exI d ps n 0).2.1 < n.length
  ·have c3' : ((exI d ps n 0).2.1 : Int) < n.length:=by omega
   simp [c2,c3,c3']
  ·have c3' : ¬ ((exI d ps n 0).2.1 : Int) < n.length:=by omega
   simp [c2,c3,c3']
 ·simp [c2]
abbrev fRef (h f : Int) : FV:=.agg [intF h,intF f]
def fldW (o : Option FldD) : Int:=match o with | none=>0 | some f=>f.width
theorem atFld_g (l : List FldD) (c : Cap) (i : Int) : Gives Tryz.prog 245 [.sl (encL fFld l) c,intF i] (fFld ((if i < 0 then none else l[i.toNat]?).getD ⟨⟨#[]⟩,0⟩)):=by
 refine Gives.of mixed Tryz.func245 rfl rfl rfl (by kernel_rfl) ?_
 by_cases c1 : i < 0
 ·simp [c1]
 ·obtain ⟨n,rfl⟩ : ∃ n : Nat,i = n:=⟨i.toNat,by omega⟩
  by_cases hlt : n < l.length
  ·obtain ⟨x,hx,hx'⟩:=nth_of hlt
   have q : ¬ ((l.length : Int) ≤ n):=by omega
   have e : (if (n : Int) < 0 then none else l[(n : Int).toNat]?) = some x:=by rw [if_neg c1]; exact hx'
   rw [e]
   simp [c1,q,hlt,hx]
  ·have q : ((l.length : Int) ≤ n):=by omega
   have e : (if (n : Int) < 0 then none else l[(n : Int).toNat]?) = none:=by rw [if_neg c1]; exact List.getElem?_eq_none (by simp; omega)
   rw [e]
   simp [c1,q,hlt]
theorem atHdr_g (l : List HdrD) (i : Int) : Gives Tryz.prog 261 [sl (encL fHdr l),intF i] (match (if i < 0 then none else l[i.toNat]?) with | some x=>fHdr x | none=>.agg [strF ⟨#[]⟩,.sl [] .nil]):=by
 refine Gives.of mixed Tryz.func261 rfl rfl rfl (by kernel_rfl) ?_
 by_cases c1 : i < 0
 ·simp [c1]
 ·obtain ⟨n,rfl⟩ : ∃ n : Nat,i = n:=⟨i.toNat,by omega⟩
  by_cases hlt : n < l.length
  ·obtain ⟨x,hx,hx'⟩:=nth_of hlt
   have q : ¬ ((l.length : Int) ≤ n):=by omega
   have e : (if (n : Int) < 0 then none else l[(n : Int).toNat]?) = some x:=by rw [if_neg c1]; exact hx'
   rw [e]
   simp [c1,q,hlt,hx]
  ·have q : ((l.length : Int) ≤ n):=by omega
   have e : (if (n : Int) < 0 then none else l[(n : Int).toNat]?) = none:=by rw [if_neg c1]; exact List.getElem?_eq_none (by simp; omega)
   rw [e]
   simp [c1,q,hlt]
theorem fields_g (d : PrgD) (h : Int) : ∃ c,Gives Tryz.prog 246 [fPrg d,intF h] (.sl (encL fFld (fldsOf d h)) c):=by
 by_cases c1 : h = -1
 ·subst c1
  refine ⟨.un,Gives.of mixed Tryz.func246 rfl rfl rfl (by kernel_rfl) ?_⟩
  simp [fPrg,cPrg,fldsOf]
 ·refine ⟨match (if h < 0 then none else d.headers.l[h.toNat]?) with | some x=>.un | none=>.nil,Gives.of mixed Tryz.func246 rfl rfl rfl (by kernel_rfl) ?_⟩
  simp [fPrg,cPrg,c1]
  refine call_g (atHdr_g d.headers.l h) ?_
  by_cases c2 : h < 0
  ·simp [c1,c2,fldsOf]
  ·by_cases c3 : (d.headers.l.length : Int) ≤ h
   ·simp [c1,c2,c3,fldsOf,List.getElem?_eq_none (by omega : d.headers.l.length ≤ h.toNat)]
   ·obtain ⟨x,hx,hx'⟩:=nth_of (show h.toNat < d.headers.l.length by omega)
    simp only [hx',if_neg c2]
    simp [c1,c2,c3,fldsOf,hx']
theorem widthOf_eq (d : PrgD) (h f : Int) : widthOf d h f = if badW (fldW (fldAt d h f)) then 0 else fldW (fldAt d h f):=by
 unfold widthOf fldW
 cases fldAt d h f <;> rfl
theorem envWidth_g (d : PrgD) (h f : Int) : Gives Tryz.prog 205 [fPrg d,fRef h f] (intF (widthOf d h f)):=by
 refine Gives.of mixed Tryz.func205 rfl rfl rfl (by kernel_rfl) ?_
 rw [widthOf_eq]
 simp [fPrg,cPrg]
 obtain ⟨c,hf⟩:=fields_g d h
 refine call_g hf ?_
 simp
 refine call_g (atFld_g (fldsOf d h) c f) ?_
 have e : (if f < 0 then none else (fldsOf d h)[f.toNat]?) = fldAt d h f:=rfl
 rw [e]
 have e2 : ((fldAt d h f).getD ⟨⟨#[]⟩,0⟩).width = fldW (fldAt d h f):=by cases fldAt d h f <;> rfl
 simp [e2]
 generalize fldW (fldAt d h f) = x
 refine call_g (mask_g x) ?_
 cases hb : badW x with
 | true=>simp [mask_zero.2 hb]
 | false =>
  have : ¬ maskM x = 0:=fun h=>by rw [mask_zero.1 h] at hb; cases hb
  simp [this]
theorem width_g (d : PrgD) (h f : Int) : Gives Tryz.prog 202 [fPrg d,fRef h f] (.tup [intF (fldW (fldAt d h f)),boolF (fldAt d h f).isSome]):=by
 refine Gives.of mixed Tryz.func202 rfl rfl rfl (by kernel_rfl) ?_
 by_cases c1 : h = -1
 ·subst c1
  by_cases c2 : f < 0
  ·have hv : fldAt d (-1) f = none:=by unfold fldAt; rw [if_pos c2]
   simp [c2,fPrg,cPrg,hv,fldW]
  ·obtain ⟨n,rfl⟩ : ∃ n : Nat,f = n:=⟨f.toNat,by omega⟩
   by_cases hlt : n < d.meta_.l.length
   ·obtain ⟨x,hx,hx'⟩:=nth_of hlt
    have q : ¬ ((d.meta_.l.length : Int) ≤ n):=by omega
    have hv : fldAt d (-1) n = some x:=by unfold fldAt fldsOf; rw [if_neg c2]; exact hx'
    simp [c2,q,hlt,hx,fPrg,cPrg,hv,fldW]
   ·have q : (d.meta_.l.length : Int) ≤ n:=by omega
    have hv : fldAt d (-1) n = none:=by unfold fldAt fldsOf; rw [if_neg c2]; exact List.getElem?_eq_none (by simp; omega)
    simp [c2,q,hlt,fPrg,cPrg,hv,fldW]
 ·by_cases c2 : h < 0
  ·have hv : fldAt d h f = none:=by unfold fldAt fldsOf; rw [if_neg c1,if_pos (Or.inl c2)]; simp
   simp [c1,c2,fPrg,cPrg,hv,fldW]
  ·obtain ⟨m,rfl⟩ : ∃ n : Nat,h = n:=⟨h.toNat,by omega⟩
   by_cases hm : m < d.headers.l.length
   ·obtain ⟨y,hy,hy'⟩:=nth_of hm
    have qm : ¬ ((d.headers.l.length : Int) ≤ m):=by omega
    by_cases c3 : f < 0
    ·have hv : fldAt d m f = none:=by unfold fldAt; rw [if_pos c3]
     simp [c1,c2,c3,qm,hm,hy,fPrg,cPrg,hv,fldW]
    ·obtain ⟨n,rfl⟩ : ∃ n : Nat,f = n:=⟨f.toNat,by omega⟩
     by_cases hlt : n < y.fields.l.length
     ·obtain ⟨x,hx,hx'⟩:=nth_of hlt
      have q : ¬ ((y.fields.l.length : Int) ≤ n):=by omega
      have hv : fldAt d m n = some x:=by unfold fldAt fldsOf; rw [if_neg c3]; rw [if_neg c1,if_neg (by omega)]; simp only [Int.toNat_natCast,hy']; exact hx'
      simp [c1,c2,c3,qm,hm,hy,q,hlt,hx,fPrg,cPrg,hv,fldW]
     ·have q : (y.fields.l.length : Int) ≤ n:=by omega
      have hv : fldAt d m n = none:=by unfold fldAt fldsOf; rw [if_neg c3]; rw [if_neg c1,if_neg (by omega)]; simp only [Int.toNat_natCast,hy']; exact List.getElem?_eq_none (by omega)
      simp [c1,c2,c3,qm,hm,hy,q,hlt,fPrg,cPrg,hv,fldW]
   ·have qm : (d.headers.l.length : Int) ≤ m:=by omega
    have hv : fldAt d m f = none:=by unfold fldAt fldsOf; rw [if_neg c1,if_pos (Or.inr qm)]; simp
    simp [c1,c2,qm,fPrg,cPrg,hv,fldW]
theorem value_g (d : PrgD) (ps : List FldD) (n : List ExD) (w : Int) : Gives Tryz.prog 203 [fScp d ps,sl (encL fEx n),intF w] (intF (valCheck d ps n w)):=by
 refine Gives.of mixed Tryz.func203 rfl rfl rfl (by kernel_rfl) ?_
 simp [fScp,cPrg]
 refine call_g (exCheck_g d ps n) ?_
 by_cases c1 : (exCheck d ps n).2 = 0
 ·by_cases c2 : (exCheck d ps n).1 = w <;> simp [c1,c2,valCheck]
 ·simp [c1,valCheck]
theorem regAt {d : PrgD} (r : Int) : (¬ 0 ≤ r∧(if r < 0 then none else d.regs.l[r.toNat]?) = none) ∨ (0 ≤ r∧¬ r < (d.regs.l.length : Int)∧(if r < 0 then none else d.regs.l[r.toNat]?) = none) ∨ (0 ≤ r∧r < (d.regs.l.length : Int)∧r.toNat < d.regs.l.length∧∃ y,nth d.regs.l r.toNat = some y∧(if r < 0 then none else d.regs.l[r.toNat]?) = some y):=by
 by_cases c1 : r < 0
 ·exact .inl ⟨by omega,if_pos c1⟩
 ·by_cases c2 : r < d.regs.l.length
  ·obtain ⟨y,hr,hr'⟩:=nth_of (show r.toNat < d.regs.l.length by omega)
   exact .inr (.inr ⟨by omega,c2,by omega,y,hr,by rw [if_neg c1]; exact hr'⟩)
  ·exact .inr (.inl ⟨by omega,c2,by rw [if_neg c1]; exact List.getElem?_eq_none (by omega)⟩)
theorem st_g (d : PrgD) (ps : List FldD) (s : StD) : Gives Tryz.prog 148 [fScp d ps,fSt s] (intF (stCheck d ps s)):=by
 refine Gives.of mixed Tryz.func148 rfl rfl rfl (by kernel_rfl) ?_
 simp [fScp,cPrg]
 refine call_g (width_g d s.dh s.df) ?_
 by_cases k1 : s.kind = 1
 ·cases hf : fldAt d s.dh s.df with
  | none=>rcases regAt (d:=d) s.reg with ⟨c1,hr⟩ | ⟨c1,c2,hr⟩ | ⟨c1,c2,c3,y,hy,hr⟩ <;> simp [*,stCheck,fldW]
  | some f =>
   have hv : stCheck d ps s = valCheck d ps s.value.l f.width:=by unfold stCheck; rw [if_pos k1,hf]
   rw [hv]
   rcases regAt (d:=d) s.reg with ⟨c1,hr⟩ | ⟨c1,c2,hr⟩ | ⟨c1,c2,c3,y,hy,hr⟩
   ·simp [c1,k1,fldW]; exact call_g (value_g d ps s.value.l f.width) (by simp)
   ·simp [c1,c2,k1,fldW]; exact call_g (value_g d ps s.value.l f.width) (by simp)
   ·simp [c1,c2,k1,fldW]; exact call_g (value_g d ps s.value.l f.width) (by simp)
 by_cases k2 : s.kind = 2 ∨ s.kind = 3
 ·have hv : stCheck d ps s = if s.hdr < 0 ∨ (d.headers.l.length : Int) ≤ s.hdr then 8 else 0:=by unfold stCheck; rw [if_neg k1,if_pos k2]
  rw [hv]
  by_cases h1 : s.hdr < 0 <;> by_cases h2 : (d.headers.l.length : Int) ≤ s.hdr <;> rcases k2 with k2 | k2 <;> rcases regAt (d:=d) s.reg with ⟨c1,hr⟩ | ⟨c1,c2,hr⟩ | ⟨c1,c2,c3,y,hy,hr⟩ <;> simp [*]
 have k2a : ¬ s.kind = 2:=fun h=>k2 (.inl h)
 have k2b : ¬ s.kind = 3:=fun h=>k2 (.inr h)
 by_cases k4 : s.kind = 4 ∨ s.kind = 5
 ·rcases regAt (d:=d) s.reg with ⟨c1,hr⟩ | ⟨c1,c2,hr⟩ | ⟨c1,c2,c3,y,hy,hr⟩
  ·have hv : stCheck d ps s = 8:=by unfold stCheck; rw [if_neg k1,if_neg k2,if_pos k4,hr]
   rcases k4 with k4 | k4 <;> simp [c1,k4,hv]
  ·have hv : stCheck d ps s = 8:=by unfold stCheck; rw [if_neg k1,if_neg k2,if_pos k4,hr]
   rcases k4 with k4 | k4 <;> simp [c1,c2,k4,hv]
  ·have hv : stCheck d ps s = if s.kind = 4∧(fldAt d s.dh s.df).isNone then 8
    else if (exCheck d ps s.index.l).2 ≠ 0 then (exCheck d ps s.index.l).2
    else if s.kind = 5 then valCheck d ps s.value.l y.width
    else if fldW (fldAt d s.dh s.df) = y.width then 0 else 10:=by
     unfold stCheck; rw [if_neg k1,if_neg k2,if_pos k4,hr]; rfl
   rw [hv]
   rcases k4 with k4 | k4
   ·cases hf : fldAt d s.dh s.df with
    | none=>simp [c1,c2,k4,fldW]
    | some f =>
     simp [c1,c2,k4,fldW]
     refine call_g (exCheck_g d ps s.index.l) ?_
     by_cases h1 : (exCheck d ps s.index.l).2 = 0
     ·by_cases h2 : f.width = y.width <;> simp [h1,k4,c1,c3,hy,h2]
     ·simp [h1]
   ·simp [c1,c2,k4]
    refine call_g (exCheck_g d ps s.index.l) ?_
    by_cases h1 : (exCheck d ps s.index.l).2 = 0
    ·simp [h1,k4,c1,c3,hy]
     exact call_g (value_g d ps s.value.l y.width) (by simp)
    ·simp [h1]
 ·have k4a : ¬ s.kind = 4:=fun h=>k4 (.inl h)
  have k4b : ¬ s.kind = 5:=fun h=>k4 (.inr h)
  have hv : stCheck d ps s = 11:=by unfold stCheck; rw [if_neg k1,if_neg k2,if_neg k4]
  rcases regAt (d:=d) s.reg with ⟨c1,hr⟩ | ⟨c1,c2,hr⟩ | ⟨c1,c2,c3,y,hy,hr⟩ <;> simp [*]
theorem decl1_g (x y : FldD) : Gives Tryz.prog 201 [fFld x,.fp [strF y.name,intF y.width]] (boolF (sEq x.name y.name)):=by
 refine Gives.of mixed Tryz.func201 rfl rfl rfl (by kernel_rfl) ?_
 simp
theorem idxFldF_g (f : FuncId) (cs : List FV) (p : FldD→Bool) (l : List FldD) (hl : l.length < 2^62) (hp : ∀ x ∈ l,Gives Tryz.prog f (fFld x :: cs) (boolF (p x))) : ∃ i : Int,(decide (0 ≤ i) = l.any p)∧Gives Tryz.prog 243 [sl (encL fFld l),.fn f cs] (intF i):=by
 cases h : l.any p with
 | false =>
  refine ⟨-1,rfl,Gives.of mixed Tryz.func243 rfl rfl rfl (by kernel_rfl) ?_⟩
  simp
  refine forX mixed l.length (fun k s=>Vf.Sl [(0,.f (sl (encL fFld l))),(1,.f (.fn f cs)),(7,.f (intF l.length)),(8,.f (intF k))] 19 [] [] s) (by kernel_rfl) (Sl.of rfl rfl rfl) ?_
  rintro k ⟨t,hh,kk⟩ hk ⟨rfl,rfl,f,rfl⟩
  by_cases hlt : k < l.length
  ·obtain ⟨x,hx,hx'⟩:=nth_of hlt
   have hw:=wrap64 (x:=(k : Int) + 1) (by omega) (by omega)
   have hq : p x = false:=by
    have:=List.any_eq_false.1 h x (List.mem_of_getElem? hx')
    simpa using this
   simp [hlt,hx]
   refine call_g (hp x (List.mem_of_getElem? hx')) ?_
   simp [hq,hw]
   exact Sl.of rfl rfl rfl
  ·obtain rfl : k = l.length:=by omega
   simp
 | true =>
  have hex : ∃ k : Nat,∃ x,l[k]? = some x∧p x = true∧noneT p l k:=by
   clear hp hl
   induction l with
   | nil=>simp at h
   | cons a l ih =>
    cases ha : p a with
    | true=>exact ⟨0,a,rfl,ha,.zero⟩
    | false =>
     rw [List.any_cons,ha,Bool.false_or] at h
     obtain ⟨k,x,h1,h2,h3⟩:=ih h
     refine ⟨k + 1,x,by simpa using h1,h2,fun j y hj hy=>?_⟩
     cases j with
     | zero=>simp at hy; rw [← hy]; exact ha
     | succ j=>exact h3 j y (by omega) (by simpa using hy)
  obtain ⟨m,z,hm,hz,hno⟩:=hex
  have hml:=(List.getElem?_eq_some_iff.1 hm).1
  refine ⟨m,by simp,Gives.of mixed Tryz.func243 rfl rfl rfl (by kernel_rfl) ?_⟩
  simp
  refine forX mixed m (fun k s=>Vf.Sl [(0,.f (sl (encL fFld l))),(1,.f (.fn f cs)),(7,.f (intF l.length)),(8,.f (intF k))] 19 [] [] s) (by kernel_rfl) (Sl.of rfl rfl rfl) ?_
  rintro k ⟨t,hh,kk⟩ hk ⟨rfl,rfl,f,rfl⟩
  have hlt : k < l.length:=by omega
  obtain ⟨x,hx,hx'⟩:=nth_of hlt
  have hw:=wrap64 (x:=(k : Int) + 1) (by omega) (by omega)
  simp [hlt,hx]
  refine call_g (hp x (List.mem_of_getElem? hx')) ?_
  by_cases hkm : k < m
  ·simp [hno k x hkm hx',hw]
   exact ⟨hkm,Sl.of rfl rfl rfl⟩
  ·obtain rfl : k = m:=by omega
   rw [hm] at hx'
   obtain rfl:=Option.some.inj hx'
   simp [hz]
theorem hasFldF_g (f : FuncId) (cs : List FV) (p : FldD→Bool) (l : List FldD) (hl : l.length < 2^62) (hp : ∀ x ∈ l,Gives Tryz.prog f (fFld x :: cs) (boolF (p x))) : Gives Tryz.prog 200 [sl (encL fFld l),.fn f cs] (boolF (l.any p)):=by
 refine Gives.of mixed Tryz.func200 rfl rfl rfl (by kernel_rfl) ?_
 simp
 obtain ⟨i,hi,hg⟩:=idxFldF_g f cs p l hl hp
 refine call_g hg ?_
 simp [hi]
def cAct (a : ActD) : List AV:=[.f (strF a.name),.f (sl (encL fFld a.params.l)),.f (sl (encL fSt a.body.l))]
def decI (a : ActD) (i : Nat) (s : St) : Prop:=noneT (fun i=>(hdrField a.params.l i).isSome) (List.range a.params.l.length) i∧∃ g,Vf.Sl [(1,.ref 0 0),(22,.f (sl (encL fFld a.params.l))),(23,.f (intF a.params.l.length)),(24,.f (intF i))] 51 (cAct a :: g) [] s
theorem decl_g (a : ActD) (hn : a.name.size < 2^62) (hs : ∀ y ∈ a.params.l,y.name.size < 2^62) : Gives Tryz.prog 147 [fAct a] (intF (actDecl a)):=by
 refine Gives.of mixed Tryz.func147 rfl rfl rfl (by kernel_rfl) ?_
 simp
 refine call_g (ident_g a.name hn) ?_
 cases h1 : ident a.name with
 | false=>simp [actDecl,h1]
 | true =>
 by_cases c1 : 4 < a.params.l.length
 ·have c1' : 4 < (a.params.l.length : Int):=by omega
  simp [c1,c1',actDecl,h1]
 have c1' : ¬ 4 < (a.params.l.length : Int):=by omega
 by_cases c2 : 12 < a.body.l.length
 ·have c2' : 12 < (a.body.l.length : Int):=by omega
  simp [c1,c1',c2,c2',actDecl,h1]
 have c2' : ¬ 12 < (a.body.l.length : Int):=by omega
 have hD : actDecl a = (scan a.params.l.length (hdrField a.params.l)).getD 0:=by simp [actDecl,h1,c1,c2]
 rw [hD]
 simp [c1',c2']
 refine forX mixed a.params.l.length (decI a) (by kernel_rfl) ⟨.zero,[],Sl.of rfl rfl rfl⟩ ?_
 rintro i ⟨ts,hh,kk⟩ hi ⟨hno,g,rfl,rfl,f,rfl⟩
 by_cases hlt : i < a.params.l.length
 ·obtain ⟨x,hx,hx'⟩:=nth_of hlt
  have hw:=wrap64 (x:=(i : Int) + 1) (by omega) (by omega)
  have hf : hdrField a.params.l i = if !ident x.name then some 6 else if badW x.width then some 10 else if (a.params.l.take i).any (fun g=>sEq g.name x.name) then some 7 else none:=by simp [hdrField,hx']
  have out : ∀ e,hdrField a.params.l i = some e→scan a.params.l.length (hdrField a.params.l) = some e:=fun e he=>scan_at hno hlt he
  simp [hlt,hx,cAct]
  refine call_g (ident_g x.name (hs x (List.mem_of_getElem? hx'))) ?_
  cases i1 : ident x.name with
  | false=>simp [out 6 (by rw [hf,i1]; rfl)]
  | true =>
  by_cases w1 : x.width < 1
  ·simp [w1,out 10 (by rw [hf,i1]; simp [badW,w1])]
  by_cases w2 : 32 < x.width
  ·simp [w1,w2,out 10 (by rw [hf,i1]; simp [badW,w2])]
  have wb : badW x.width = false:=by simp [badW,w1,w2]
  have hmin : min i a.params.l.length = i:=by omega
  simp [w1,w2]
  rw [sliceF (enc:=fFld) (l:=a.params.l) (c:=.un) (i:=i) ty23 ty124 (by simp) (fun _=>rfl) (Nat.le_of_lt hlt)]
  simp
  refine call_b (hasFldF_g 201 [.fp [strF x.name,intF x.width]] (fun g=>sEq g.name x.name) (a.params.l.take i) (by rw [List.length_take]; omega) (fun y _=>decl1_g y x)) ?_ ?_
  ·simp [fzB,fzC,mapO,cellFz,fzA]
  cases he : (a.params.l.take i).any (fun g=>sEq g.name x.name) with
  | true=>simp [out 7 (by rw [hf,i1,wb,he]; rfl)]
  | false =>
   simp [hw]
   exact ⟨hno.next (range_at hlt) (by simp [hf,i1,wb,he]),_,Sl.of rfl rfl rfl⟩
 ·obtain rfl : i = a.params.l.length:=by omega
  simp [hlt,cAct,scan_of hno]
theorem fits_g (v w : Int) : Gives Tryz.prog 247 [u32F v,intF w] (boolF (fitsW v w)):=by
 refine Gives.of mixed Tryz.func247 rfl rfl rfl (by kernel_rfl) ?_
 simp
 refine call_g (bvalid_g [w] .full (by simp)) ?_
 have e : okWs [w] = !badW w:=by simp [okWs]
 rw [e]
 cases h : badW w with
 | true=>simp [fitsW,h]
 | false =>
  simp
  refine call_g (mask_g w) ?_
  simp [fitsW,h,maskM]
theorem actAt {d : PrgD} (r : Int) : (r < 0∧(if r < 0 then none else d.acts.l[r.toNat]?) = none) ∨ (¬ r < 0∧(d.acts.l.length : Int) ≤ r∧(if r < 0 then none else d.acts.l[r.toNat]?) = none) ∨ (¬ r < 0∧¬ (d.acts.l.length : Int) ≤ r∧r.toNat < d.acts.l.length∧∃ y,nth d.acts.l r.toNat = some y∧d.acts.l[r.toNat]? = some y∧(if r < 0 then none else d.acts.l[r.toNat]?) = some y):=by
 by_cases c1 : r < 0
 ·exact .inl ⟨by omega,if_pos c1⟩
 ·by_cases c2 : r < d.acts.l.length
  ·obtain ⟨y,hr,hr'⟩:=nth_of (show r.toNat < d.acts.l.length by omega)
   exact .inr (.inr ⟨by omega,by omega,by omega,y,hr,hr',by rw [if_neg c1]; exact hr'⟩)
  ·exact .inr (.inl ⟨by omega,by omega,by rw [if_neg c1]; exact List.getElem?_eq_none (by omega)⟩)
abbrev fCall (act : Int) (args : List Int) : FV:=.agg [intF act,sl (encL u32F args)]
def argOk (a : ActD) (args : List Int) (i : Nat) : Bool:=match args[i]?,a.params.l[i]? with | some v,some f=>fitsW v f.width | _,_=>true
def argBad (a : ActD) (args : List Int) (i : Nat) : Bool:=!argOk a args i
def argsAll (a : ActD) (args : List Int) : Bool:=(List.range args.length).all (argOk a args)
theorem callCheck_eq (d : PrgD) (act : Int) (args : List Int) : callCheck d act args = match (if act < 0 then none else d.acts.l[act.toNat]?) with
 | none=>8
 | some a=>if args.length ≠ a.params.l.length then 2 else if argsAll a args then 0 else 9:=by kernel_rfl
def ccI (a : ActD) (c : List AV) (args : List Int) (i : Nat) (s : St) : Prop:=noneT (argBad a args) (List.range args.length) i∧∃ g,Vf.Sl [(5,.f (sl (encL fFld a.params.l))),(33,.f (sl (encL u32F args))),(34,.f (intF args.length)),(35,.f (intF i))] 49 (c :: g) [] s
theorem call_ok (d : PrgD) (act : Int) (args : List Int) (lenB : args.length < 2^62) : Gives Tryz.prog 206 [fPrg d,fCall act args] (intF (callCheck d act args)):=by
 refine Gives.of mixed Tryz.func206 rfl rfl rfl (by kernel_rfl) ?_
 rcases actAt (d:=d) act with ⟨c1,hr⟩ | ⟨c1,c2,hr⟩ | ⟨c1,c2,c3,y,hy,-,hr⟩
 ·have hv : callCheck d act args = 8:=by rw [callCheck_eq,hr]
  simp [c1,fPrg,cPrg,hv]
 ·have hv : callCheck d act args = 8:=by rw [callCheck_eq,hr]
  simp [c1,c2,fPrg,cPrg,hv]
 have c0 : 0 ≤ act:=by omega
 by_cases c4 : args.length = y.params.l.length
 case neg =>
  have c4' : ¬ (args.length : Int) = y.params.l.length:=by omega
  have hv : callCheck d act args = 2:=by rw [callCheck_eq,hr]; exact if_pos c4
  simp [c0,c1,c2,c3,hy,c4,c4',fPrg,cPrg,hv]
 have c4' : (args.length : Int) = y.params.l.length:=by omega
 have hv : callCheck d act args = if argsAll y args then 0 else 9:=by rw [callCheck_eq,hr]; exact if_neg (by simpa using c4)
 rw [hv]
 simp [c0,c1,c2,c3,hy,c4,fPrg,cPrg]
 refine forX mixed args.length (ccI y [.f (strF d.name),.f (sl (encL fHdr d.headers.l)),.f (sl (encL fFld d.meta_.l)),.f (sl (encL fReg d.regs.l)),.f (sl (encL fAct d.acts.l)),.f (sl (encL fTbl d.tables.l)),.f (sl (encL fSta d.states.l)),.f (sl (encL fNod d.control.l)),.f (sl (encL intF d.dep.l))] args) (by kernel_rfl) ⟨.zero,_,by rw [c4]; exact Sl.of rfl rfl rfl⟩ ?_
 rintro i ⟨ts,hh,kk⟩ hi ⟨hno,g,rfl,rfl,f,rfl⟩
 by_cases hlt : i < args.length
 ·obtain ⟨x,hx,hx'⟩:=nth_of hlt
  obtain ⟨u,hu,hu'⟩:=nth_of (show i < y.params.l.length by omega)
  have hw:=wrap64 (x:=(i : Int) + 1) (by omega) (by have:=lenB; omega)
  have hb : argBad y args i = !fitsW x u.width:=by simp only [argBad,argOk,hx',hu']
  simp [← c4,hlt,hx,hu]
  refine call_g (fits_g x u.width) ?_
  cases hf : fitsW x u.width with
  | false =>
   have : argsAll y args = false:=by
    unfold argsAll
    rw [List.all_eq_false]
    exact ⟨i,List.mem_range.2 hlt,by simp only [argOk,hx',hu',hf]; decide⟩
   simp [this]
  | true =>
   simp [hw]
   exact ⟨hno.next (range_at hlt) (by rw [hb,hf]; rfl),_,by rw [c4]; exact Sl.of rfl rfl rfl⟩
 ·obtain rfl : i = args.length:=by omega
  have : argsAll y args = true:=by
   unfold argsAll
   rw [List.all_eq_true]
   intro j hj
   have:=hno j j (List.mem_range.1 hj) (range_at (List.mem_range.1 hj))
   simpa [argBad] using this
  simp [← c4,this]
def stScan (d : PrgD) (a : ActD) (i : Nat) : Option (Int × Int):=match a.body.l[i]? with | none=>none | some s=>if stCheck d a.params.l s = 0 then none else some ((i : Int),stCheck d a.params.l s)
theorem actCheckA_eq (d : PrgD) (a : ActD) : actCheckA d a = if actDecl a ≠ 0 then (-1,actDecl a) else (scan a.body.l.length (stScan d a)).getD (0,0):=by kernel_rfl
def aScp (d : PrgD) (ps : List FldD) : List AV:=[.f (strF d.name),.f (sl (encL fHdr d.headers.l)),.f (sl (encL fFld d.meta_.l)),.f (sl (encL fReg d.regs.l)),.f (sl (encL fAct d.acts.l)),.f (sl (encL fTbl d.tables.l)),.f (sl (encL fSta d.states.l)),.f (sl (encL fNod d.control.l)),.f (sl (encL intF d.dep.l)),.f (sl (encL fFld ps))]
def acI (d : PrgD) (a : ActD) (i : Nat) (s : St) : Prop:=noneT (fun i=>(stScan d a i).isSome) (List.range a.body.l.length) i∧∃ g,Vf.Sl [(7,.ref 2 0),(35,.f (sl (encL fSt a.body.l))),(36,.f (intF a.body.l.length)),(37,.f (intF i))] 50 (aPrg d :: [.f (strF a.name),.f (sl (encL fFld a.params.l)),.f (sl (encL fSt a.body.l))] :: aScp d a.params.l :: g) [] s
theorem act_g (d : PrgD) (hn : NmOk d) (r : Int) : Gives Tryz.prog 102 [fPrg d,intF r] (two (actCheck d r)):=by
 refine Gives.of mixed Tryz.func102 rfl rfl rfl (by kernel_rfl) ?_
 rcases actAt (d:=d) r with ⟨c1,hr⟩ | ⟨c1,c2,hr⟩ | ⟨c1,c2,c3,a,ha,ha',hr⟩
 ·have hv : actCheck d r = (-1,8):=by unfold actCheck; rw [hr]
  simp [c1,fPrg,cPrg,hv]
 ·have hv : actCheck d r = (-1,8):=by unfold actCheck; rw [hr]
  simp [c1,c2,fPrg,cPrg,hv]
 have c0 : 0 ≤ r:=by omega
 have hv : actCheck d r = actCheckA d a:=by unfold actCheck; rw [hr]
 rw [hv,actCheckA_eq]
 have hna:=hn.acts a (List.mem_of_getElem? ha')
 simp [c0,c1,c2,c3,ha,fPrg,cPrg]
 refine call_g (decl_g a hna.1 hna.2) ?_
 by_cases h1 : actDecl a = 0
 case neg=>simp [h1]
 have hbl : a.body.l.length ≤ 12:=by
  unfold actDecl at h1
  split at h1
  ·simp at h1
  ·split at h1
   ·simp at h1
   ·omega
 simp [h1]
 refine forX mixed a.body.l.length (acI d a) (by kernel_rfl) ⟨.zero,[],Sl.of rfl rfl rfl⟩ ?_
 rintro i ⟨ts,hh,kk⟩ hi ⟨hno,g,rfl,rfl,f,rfl⟩
 by_cases hlt : i < a.body.l.length
 ·obtain ⟨x,hx,hx'⟩:=nth_of hlt
  have hw:=wrap64 (x:=(i : Int) + 1) (by omega) (by omega)
  have hf : stScan d a i = if stCheck d a.params.l x = 0 then none else some ((i : Int),stCheck d a.params.l x):=by simp only [stScan,hx']
  have out : ∀ e,stScan d a i = some e→scan a.body.l.length (stScan d a) = some e:=fun e he=>scan_at hno hlt he
  simp [hlt,hx,aScp,aPrg]
  refine call_g (st_g d a.params.l x) ?_
  by_cases h2 : stCheck d a.params.l x = 0
  ·simp [h2,hw]
   exact ⟨hno.next (range_at hlt) (by rw [hf,if_pos h2]; rfl),_,Sl.of rfl rfl rfl⟩
  ·simp [h2,out _ (hf.trans (if_neg h2))]
 ·obtain rfl : i = a.body.l.length:=by omega
  simp [hlt,scan_of hno]
end Go.Proofs.YtafenffmgpcjcaaGreat
