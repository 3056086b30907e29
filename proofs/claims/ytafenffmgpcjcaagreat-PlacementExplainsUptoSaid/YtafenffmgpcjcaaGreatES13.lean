/- Texts of the proof: ES13. -/
import Derived.Test.YtafenffmgpcjcaaGreatES12
import Derived.Test.YtafenffmgpcjcaaGreatES6
import Derived.Test.YtafenffmgpcjcaaGreatES3
import Derived.Test.YtafenffmgpcjcaaGreatES10
import Derived.Test.YtafenffmgpcjcaaGreatES5
namespace Go.Proofs.YtafenffmgpcjcaaGreat
open Go.RowKit Go.Proofs.YtafenffmgpcjcaaGreat.Vf
set_option linter.unusedVariables false
set_option linter.unusedSimpArgs false
set_option maxRecDepth 100000
set_option maxHeartbeats 4000000
structure PrgN (d : PrgD) : Prop where
 args : ∀ t ∈ d.tables.l,∀ x ∈ t.args.l,U32 x
 cases_ : ∀ s ∈ d.states.l,∀ c ∈ s.cases.l,U32 c.value∧U32 c.mask
theorem pre_next {l : List NodD} {i : Nat} {x : NodD} (h : l[i]? = some x) : nodsPre (l.take (i + 1)) = nodsPre (l.take i) ++ (x :: (nodsPre x.thn.l ++ nodsPre x.els.l)):=by
 have app : ∀ a b : List NodD,nodsPre (a ++ b) = nodsPre a ++ nodsPre b:=by
  intro a b
  induction a with
  | nil=>rfl
  | cons y a ih=>rw [List.cons_append,nodsPre,ih,nodsPre,List.append_assoc]
 rw [take_snoc h,app]
 obtain ⟨k,t,c,tl,el⟩:=x
 simp [nodsPre,nodPre]
 rfl
theorem pre_take_le (l : List NodD) (i : Nat) : (nodsPre (l.take i)).length ≤ (nodsPre l).length:=by
 induction l generalizing i with
 | nil=>simp
 | cons y l ih =>
  cases i with
  | zero=>simp [nodsPre]
  | succ i=>rw [List.take_succ_cons,nodsPre,nodsPre,List.length_append,List.length_append]; have:=ih i; omega
theorem pre_sub {l : List NodD} {x : NodD} (h : x ∈ l) : (nodsPre x.thn.l).length + (nodsPre x.els.l).length + 1 ≤ (nodsPre l).length:=by
 obtain ⟨i,hi,rfl⟩:=List.getElem_of_mem h
 have h1:=pre_next (List.getElem?_eq_getElem hi)
 have h2:=pre_take_le l (i + 1)
 rw [h1,List.length_append,List.length_cons,List.length_append] at h2
 omega
def rcnI (l : List NodD) (i : Nat) (s : St) : Prop:=∃ g,Vf.Sl [(0,.f (sl (encL fNod l))),(3,.f (intF (nodsPre (l.take i)).length)),(4,.f (intF i))] 28 g [] s
theorem rcount_g (l : List NodD) (h : NodB l) : (nodsPre l).length ≤ 10000000→Gives Tryz.prog 77 [sl (encL fNod l)] (intF (nodsPre l).length):=by
 induction h with
 | mk l hl h1 h2 ih1 ih2 =>
  intro hn
  refine Gives.of mixed Tryz.func77 rfl rfl rfl (by kernel_rfl) ?_
  simp
  refine forX mixed l.length (rcnI l) (by kernel_rfl) ⟨[],Sl.of rfl rfl rfl⟩ ?_
  rintro i ⟨ts,hh,kk⟩ hi ⟨g,rfl,rfl,f,rfl⟩
  by_cases hlt : i < l.length
  ·obtain ⟨x,hx,hx'⟩:=nth_of hlt
   have hm:=List.mem_of_getElem? hx'
   have hw:=wrap64 (x:=(i : Int) + 1) (by omega) (by unfold maxLen at hl; omega)
   have hs:=pre_sub hm
   have hnx:=pre_next hx'
   have hle:=pre_take_le l (i + 1)
   have hnl:=congrArg List.length hnx
   rw [List.length_append,List.length_cons,List.length_append] at hnl
   have w1:=wrap64 (x:=1 + ((nodsPre x.thn.l).length : Int)) (by omega) (by omega)
   have w2:=wrap64 (x:=1 + ((nodsPre x.thn.l).length : Int) + (nodsPre x.els.l).length) (by omega) (by omega)
   have w3:=wrap64 (x:=((nodsPre (l.take i)).length : Int) + (1 + ((nodsPre x.thn.l).length : Int) + (nodsPre x.els.l).length)) (by omega) (by omega)
   simp [hlt,hx,fNod_eq]
   refine call_g (ih1 x hm (by omega)) ?_
   simp [hlt,hx,fNod_eq,w1]
   refine call_g (ih2 x hm (by omega)) ?_
   simp [w2,w3,hw]
   have e : ((nodsPre (l.take i)).length : Int) + (1 + ((nodsPre x.thn.l).length : Int) + (nodsPre x.els.l).length) = ((nodsPre (l.take (i + 1))).length : Int):=by omega
   rw [e]
   exact ⟨_,Sl.of rfl rfl rfl⟩
  ·obtain rfl : i = l.length:=by omega
   simp
mutual
theorem deepN_bd : ∀ x : NodD,(nodPre x).length ≤ 10000000→0 ≤ nodDeepW x∧nodDeepW x + 1 ≤ (nodPre x).length
 | .mk k t c tl el,h=>by
  rw [nodPre,List.length_cons,List.length_append] at h ⊢
  have h1:=deepL_bd tl (by omega)
  have h2:=deepL_bd el (by omega)
  rw [nodDeepW]
  omega
theorem mostL_bd : ∀ l : List NodD,(nodsPre l).length ≤ 10000000→0 ≤ nodsMostW l∧nodsMostW l ≤ (nodsPre l).length
 | [],_=>by simp [nodsMostW,nodsPre]
 | x :: l,h=>by
  rw [nodsPre,List.length_append] at h ⊢
  have h1:=deepN_bd x (by omega)
  have h2:=mostL_bd l (by omega)
  rw [nodsMostW]
  omega
theorem deepL_bd : ∀ l : List NodD,(nodsPre l).length ≤ 10000000→0 ≤ nodsDeepW l∧nodsDeepW l ≤ (nodsPre l).length
 | [],_=>by simp [nodsDeepW,nodsPre]
 | x :: l,h=>by
  rw [nodsPre,List.length_append] at h ⊢
  have h1:=deepN_bd x (by omega)
  have h2:=mostL_bd l (by omega)
  rw [nodsDeepW,wr_id (by omega) (by omega)]
  omega
end
theorem deepW_take {l : List NodD} {i : Nat} {x : NodD} (hn : (nodsPre l).length ≤ 10000000) (h : l[i]? = some x) : nodsDeepW (l.take (i + 1)) = max (nodsDeepW (l.take i)) (max (1 + nodsDeepW x.thn.l) (1 + nodsDeepW x.els.l)):=by
 have hb:=mostL_bd (l.take i) (by have:=pre_take_le l i; omega)
 have hb2:=mostL_bd (l.take (i + 1)) (by have:=pre_take_le l (i + 1); omega)
 have hle:=pre_take_le l (i + 1)
 have hne : l.take (i + 1) ≠ []:=by rw [take_snoc h]; simp
 have e:=mostW_snoc (l.take i) x
 rw [← take_snoc h] at e
 rw [deepW_eq hne,wr_id (by omega) (by omega),e,nodDeepW_eq]
 have hs:=pre_sub (List.mem_of_getElem? h)
 have h1:=deepL_bd x.thn.l (by omega)
 have h2:=deepL_bd x.els.l (by omega)
 by_cases h0 : l.take i = []
 ·rw [h0]
  simp only [nodsDeepW,nodsMostW]
  omega
 ·rw [deepW_eq h0,wr_id (by omega) (by have:=pre_take_le l i; omega)]
  omega
def rneI (l : List NodD) (i : Nat) (s : St) : Prop:=∃ g,Vf.Sl [(0,.f (sl (encL fNod l))),(3,.f (intF (nodsDeepW (l.take i)))),(4,.f (intF i))] 28 g [] s
theorem rnest_g (l : List NodD) (h : NodB l) : (nodsPre l).length ≤ 10000000→Gives Tryz.prog 78 [sl (encL fNod l)] (intF (nodsDeepW l)):=by
 induction h with
 | mk l hl h1 h2 ih1 ih2 =>
  intro hn
  refine Gives.of mixed Tryz.func78 rfl rfl rfl (by kernel_rfl) ?_
  simp
  refine forX mixed l.length (rneI l) (by kernel_rfl) ⟨[],Sl.of rfl rfl rfl⟩ ?_
  rintro i ⟨ts,hh,kk⟩ hi ⟨g,rfl,rfl,f,rfl⟩
  by_cases hlt : i < l.length
  ·obtain ⟨x,hx,hx'⟩:=nth_of hlt
   have hm:=List.mem_of_getElem? hx'
   have hw:=wrap64 (x:=(i : Int) + 1) (by omega) (by unfold maxLen at hl; omega)
   have hs:=pre_sub hm
   have hnx:=deepW_take hn hx'
   have d1:=deepL_bd x.thn.l (by omega)
   have d2:=deepL_bd x.els.l (by omega)
   have w1:=wrap64 (x:=1 + nodsDeepW x.thn.l) (by omega) (by omega)
   have w2:=wrap64 (x:=1 + nodsDeepW x.els.l) (by omega) (by omega)
   simp [hlt,hx,fNod_eq]
   refine call_g (ih1 x hm (by omega)) ?_
   simp [hlt,hx,fNod_eq,w1]
   refine call_g (ih2 x hm (by omega)) ?_
   simp [w2]
   rw [ops_max3 (q:=.i64) (a:=nodsDeepW (l.take i)) (b:=1 + nodsDeepW x.thn.l) (c:=1 + nodsDeepW x.els.l) rfl rfl rfl]
   simp [hw]
   have hn2 : nodsDeepW (l.take (i + 1)) = max (nodsDeepW (l.take i)) (1 + max (nodsDeepW x.thn.l) (nodsDeepW x.els.l)):=by rw [hnx]; omega
   unfold rneI
   rw [hn2]
   exact ⟨_,Sl.of rfl rfl rfl⟩
  ·obtain rfl : i = l.length:=by omega
   simp
def rprI (l : List NodD) (i : Nat) (s : St) : Prop:=∃ g k x t,OwnT k (encL fNod (nodsPre (l.take i))) 5 x t∧Vf.Sl [(0,.f (sl (encL fNod l))),(3,x),(4,.f (intF i))] 35 g k s
theorem nod_len (l : List NodD) : (encL fNod l).all (fun u=>u.cells.length == 5) = true:=by
 rw [List.all_eq_true]
 intro u hu
 obtain ⟨x,_,rfl⟩:=List.mem_map.1 hu
 rw [fNod_eq]; rfl
theorem rpre_g (l : List NodD) (h : NodB l) : (nodsPre l).length ≤ 10000000→Gives Tryz.prog 79 [sl (encL fNod l)] (ownF (encL fNod (nodsPre l))):=by
 induction h with
 | mk l hl h1 h2 ih1 ih2 =>
  intro hn
  refine Gives.of mixed Tryz.func79 rfl rfl rfl (by kernel_rfl) ?_
  simp
  refine forX mixed l.length (rprI l) (by kernel_rfl) ⟨[],_,_,0,.nil,Sl.of rfl rfl rfl⟩ ?_
  rintro i ⟨ts,hh,kk⟩ hi ⟨g,k,y,t,ho,rfl,rfl,f,rfl⟩
  by_cases hlt : i < l.length
  ·obtain ⟨x,hx,hx'⟩:=nth_of hlt
   have hm:=List.mem_of_getElem? hx'
   have hw:=wrap64 (x:=(i : Int) + 1) (by omega) (by unfold maxLen at hl; omega)
   have hs:=pre_sub hm
   have hnx:=pre_next hx'
   have hle:=pre_take_le l (i + 1)
   have hnl:=congrArg List.length hnx
   rw [List.length_append,List.length_cons,List.length_append] at hnl
   obtain ⟨y1,t1,k1,e1,ho1,_⟩:=append_own0 ty28 ty122 (by simp) ho (y:=.f (.sl (encL fNod [x]) .full)) rfl (nod_len [x]) (by simp; omega) (by simp; omega)
   obtain ⟨y2,t2,k2,e2,ho2,_⟩:=append_own0 ty28 ty122 (by simp) ho1 (y:=.f (ownF (encL fNod (nodsPre x.thn.l)))) (elems_ownF _) (nod_len _) (by simp; omega) (by simp; omega)
   obtain ⟨y3,t3,k3,e3,ho3,_⟩:=append_own0 ty28 ty122 (by simp) ho2 (y:=.f (ownF (encL fNod (nodsPre x.els.l)))) (elems_ownF _) (nod_len _) (by simp; omega) (by simp; omega)
   rw [show encL fNod (nodsPre (l.take i)) ++ encL fNod [x] ++ encL fNod (nodsPre x.thn.l) ++ encL fNod (nodsPre x.els.l) = encL fNod (nodsPre (l.take (i + 1))) by rw [hnx]; simp [encL]] at ho3
   have e0 : encL fNod [x] = [.agg [intF x.kind,intF x.table,sl (encL fEx x.cond.l),sl (encL fNod x.thn.l),sl (encL fNod x.els.l)]]:=by rw [← fNod_eq]; rfl
   rw [e0] at e1
   simp [hlt,hx,fNod_eq x,-opAppend]
   rw [e1]
   simp [hlt,hx,fNod_eq x,-opAppend]
   refine call_g (ih1 x hm (by omega)) ?_
   simp [-opAppend]
   rw [e2]
   simp [hlt,hx,fNod_eq x,-opAppend]
   refine call_g (ih2 x hm (by omega)) ?_
   simp [-opAppend]
   rw [e3]
   simp [hw]
   exact ⟨_,_,_,_,ho3,Sl.of rfl rfl rfl⟩
  ·obtain rfl : i = l.length:=by omega
   rw [List.take_length] at ho
   simp
   rw [ho.ret]
theorem rapplies_g (x : NodD) : Gives Tryz.prog 187 [fNod x] (boolF (nodApplies x)):=by
 refine Gives.of mixed Tryz.func187 rfl rfl rfl (by kernel_rfl) ?_
 rw [fNod_eq]
 unfold nodApplies
 by_cases c1 : x.kind = 1
 ·simp [c1]
 ·by_cases c3 : x.kind = 3
  ·simp [c3]
  ·have e1 : (x.kind == 1) = false:=by simpa using c1
   have e3 : (x.kind == 3) = false:=by simpa using c3
   simp [c1,c3]
def apSame (x y : NodD) : Bool:=nodApplies y && decide (y.table = x.table)
def rabI (l : List NodD) (c : Cap) (x : NodD) (n i : Nat) (s : St) : Prop:=noneT (apSame x) (l.take n) i∧∃ g,Vf.Sl [(0,.f (.sl (encL fNod l) c)),(1,.f (intF n)),(5,.f (intF i))] 29 g [] s
theorem rbefore_g (l : List NodD) (c : Cap) (n : Nat) (x : NodD) (hx : l[n]? = some x) (hl : l.length < 2^62) : Gives Tryz.prog 133 [.sl (encL fNod l) c,intF n] (boolF ((l.take n).any (apSame x))):=by
 refine Gives.of mixed Tryz.func133 rfl rfl rfl (by kernel_rfl) ?_
 obtain ⟨hn,_⟩:=List.getElem?_eq_some_iff.1 hx
 obtain ⟨z,hz,hz'⟩:=nth_of hn
 rw [hx] at hz'
 obtain rfl:=Option.some.inj hz'
 generalize hv : (l.take n).any (apSame x) = v
 simp
 refine forX mixed n (rabI l c x n) (by kernel_rfl) ⟨.zero,[],Sl.of rfl rfl rfl⟩ ?_
 rintro i ⟨ts,hh,kk⟩ hi ⟨hno,g,rfl,rfl,f,rfl⟩
 by_cases hlt : i < n
 ·obtain ⟨y,hy,hy'⟩:=nth_of (show i < l.length by omega)
  have hyt : (l.take n)[i]? = some y:=by rw [List.getElem?_take_of_lt hlt]; exact hy'
  have hw:=wrap64 (x:=(i : Int) + 1) (by omega) (by omega)
  have hg:=rapplies_g y
  rw [fNod_eq] at hg
  simp [hlt,hy,(show i < l.length by omega),fNod_eq]
  refine call_g hg ?_
  cases ha : nodApplies y with
  | false =>
   simp [hw]
   exact ⟨hno.next hyt (by simp [apSame,ha]),_,Sl.of rfl rfl rfl⟩
  | true =>
   by_cases ht : y.table = x.table
   ·rw [any_hit hyt (by simp [apSame,ha,ht])] at hv
    subst hv
    simp [hlt,hy,hz,hn,(show i < l.length by omega),fNod_eq,ht]
   ·simp [hlt,hy,hz,hn,(show i < l.length by omega),fNod_eq,ht,hw]
    exact ⟨hno.next hyt (by simp [apSame,ha,ht]),_,Sl.of rfl rfl rfl⟩
 ·obtain rfl : i = n:=by omega
  rw [hno.all (by rw [List.length_take]; omega)] at hv
  subst hv
  simp
def usedTo (l : List NodD) (i : Nat) : List Int:=((l.take i).filter nodApplies).map NodD.table
theorem used_any (l : List NodD) (i : Nat) (x : NodD) : (usedTo l i).contains x.table = (l.take i).any (apSame x):=by
 unfold usedTo
 rw [Bool.eq_iff_iff,List.contains_iff_mem,List.mem_map,List.any_eq_true]
 constructor
 ·rintro ⟨y,hy,e⟩
  obtain ⟨h1,h2⟩:=List.mem_filter.1 hy
  exact ⟨y,h1,by simp [apSame,h2,e]⟩
 ·rintro ⟨y,hy,e⟩
  simp [apSame] at e
  exact ⟨y,List.mem_filter.2 ⟨hy,e.1⟩,e.2⟩
theorem used_next {l : List NodD} {i : Nat} {x : NodD} (h : l[i]? = some x) : usedTo l (i + 1) = if nodApplies x then usedTo l i ++ [x.table] else usedTo l i:=by
 unfold usedTo
 rw [take_snoc h,List.filter_append]
 cases ha : nodApplies x <;> simp [ha,List.filter_cons]
theorem rnode_g (d : PrgD) (l : List NodD) (c : Cap) (n : Nat) (x : NodD) (hx : l[n]? = some x) (hl : l.length < 2^62) : Gives Tryz.prog 80 [fPrg d,.sl (encL fNod l) c,intF n] (intF (nodCheckW d x (usedTo l n))):=by
 refine Gives.of mixed Tryz.func80 rfl rfl rfl (by kernel_rfl) ?_
 obtain ⟨hn,_⟩:=List.getElem?_eq_some_iff.1 hx
 obtain ⟨z,hz,hz'⟩:=nth_of hn
 rw [hx] at hz'
 obtain rfl:=Option.some.inj hz'
 by_cases k2 : x.kind = 2
 ·have hv : nodCheckW d x (usedTo l n) = if (exCheck d [] x.cond.l).2 ≠ 0 then (exCheck d [] x.cond.l).2 else if (exCheck d [] x.cond.l).1 ≠ 1 then 10 else 0:=by unfold nodCheckW; rw [if_neg (by omega),if_pos k2]
  rw [hv]
  simp [hz,hn,k2,fPrg,cPrg,fNod_eq]
  refine call_g (Gives.weak (rexCheck_g d [] x.cond.l)) ?_
  by_cases h1 : (exCheck d [] x.cond.l).2 = 0
  ·by_cases h2 : (exCheck d [] x.cond.l).1 = 1
   ·simp [h1,h2]
   ·simp [h1,h2]
  ·simp [h1]
 by_cases k0 : x.kind < 1
 ·have hv : nodCheckW d x (usedTo l n) = 11:=by unfold nodCheckW; rw [if_neg (by omega),if_neg k2]
  simp [hz,hn,k0,fPrg,cPrg,fNod_eq,hv]
 by_cases k4 : 3 < x.kind
 ·have hv : nodCheckW d x (usedTo l n) = 11:=by unfold nodCheckW; rw [if_neg (by omega),if_neg k2]
  simp [hz,hn,k0,k4,fPrg,cPrg,fNod_eq,hv]
 have k1 : x.kind = 1 ∨ x.kind = 3:=by omega
 have hv : nodCheckW d x (usedTo l n) = if x.table < 0 ∨ (d.tables.l.length : Int) ≤ x.table then 8
  else if (usedTo l n).contains x.table then 7
  else if x.kind = 1∧0 < wr ((x.thn.l.length : Int) + x.els.l.length) then 5 else 0:=by unfold nodCheckW; rw [if_pos k1]
 rw [used_any] at hv
 generalize nodCheckW d x (usedTo l n) = v at hv
 by_cases c1 : x.table < 0
 ·rw [if_pos (.inl c1)] at hv
  simp [hz,hn,k0,k4,k2,fPrg,cPrg,fNod_eq,hv,c1]
 by_cases c2 : (d.tables.l.length : Int) ≤ x.table
 ·rw [if_pos (.inr c2)] at hv
  simp [hz,hn,k0,k4,k2,fPrg,cPrg,fNod_eq,hv,c1,c2]
 rw [if_neg (by omega)] at hv
 simp [hz,hn,k0,k4,k2,fPrg,cPrg,fNod_eq,c1,c2]
 refine call_g (rbefore_g l c n x hx hl) ?_
 cases ha : (l.take n).any (apSame x) with
 | true =>
  rw [ha,if_pos rfl] at hv
  simp [hv]
 | false =>
  rw [ha,if_neg (by decide)] at hv
  by_cases e1 : x.kind = 1
  ·by_cases e2 : 0 < wr ((x.thn.l.length : Int) + x.els.l.length)
   ·rw [if_pos ⟨e1,e2⟩] at hv
    unfold wr at e2
    simp [e1,e2,hv]
   ·rw [if_neg (fun h=>e2 h.2)] at hv
    unfold wr at e2
    simp [e1,e2,hv]
  ·rw [if_neg (fun h=>e1 h.1)] at hv
   simp [e1,hv]
def rctI (d : PrgD) (L : List NodD) (c : Cap) (i : Nat) (s : St) : Prop:=ctlGoW d L [] 0 = ctlGoW d (L.drop i) (usedTo L i) i∧∃ g,Vf.Sl [(1,.ref 0 0),(4,.f (.sl (encL fNod L) c)),(5,.f (intF i))] 34 (aPrg d :: g) [] s
theorem rctl_g (d : PrgD) (hB : NodB d.control.l) (hn : (nodsPre d.control.l).length ≤ 10000000) : Gives Tryz.prog 44 [fPrg d] (two (ctlCheckW d)):=by
 refine Gives.of mixed Tryz.func44 rfl rfl rfl (by kernel_rfl) ?_
 have hwr : wr ((nodsPre d.control.l).length : Int) = (nodsPre d.control.l).length:=wr_id (by omega) (by omega)
 have hv : ctlCheckW d = if 24 < ((nodsPre d.control.l).length : Int) then (-1,12)
  else if 6 < nodsDeepW d.control.l then (-1,14)
  else if (ctlGoW d (nodsPre d.control.l) [] 0).2 ≠ 0 then (wr (ctlGoW d (nodsPre d.control.l) [] 0).1,(ctlGoW d (nodsPre d.control.l) [] 0).2) else (0,0):=by unfold ctlCheckW; rw [hwr]
 generalize ctlCheckW d = v at hv
 simp [fPrg,cPrg]
 refine call_g (rcount_g _ hB hn) ?_
 by_cases c1 : 24 < ((nodsPre d.control.l).length : Int)
 ·rw [if_pos c1] at hv
  simp [c1,hv]
 rw [if_neg c1] at hv
 simp [c1]
 refine call_g (rnest_g _ hB hn) ?_
 by_cases c2 : 6 < nodsDeepW d.control.l
 ·rw [if_pos c2] at hv
  simp [c2,hv]
 rw [if_neg c2] at hv
 simp [c2]
 refine call_g (rpre_g _ hB hn) ?_
 generalize nodsPre d.control.l = L at *
 obtain ⟨c,hc⟩:=ownF_is (encL fNod L)
 rw [hc]
 simp
 refine forX mixed L.length (rctI d L c) (by kernel_rfl) ⟨rfl,[],Sl.of rfl rfl rfl⟩ ?_
 rintro i ⟨ts,hh,kk⟩ hi ⟨hgo,g,rfl,rfl,f,rfl⟩
 by_cases hlt : i < L.length
 ·obtain ⟨x,hx,hx'⟩:=nth_of hlt
  have hw:=wrap64 (x:=(i : Int) + 1) (by omega) (by omega)
  have hdr : L.drop i = x :: L.drop (i + 1):=by
   rw [List.drop_eq_getElem_cons hlt]
   have:=List.getElem?_eq_getElem hlt
   rw [hx'] at this
   rw [← Option.some.inj this]
  rw [hdr,ctlGoW] at hgo
  simp [hlt,aPrg]
  refine call_g (rnode_g d L c i x hx' (by omega)) ?_
  by_cases h3 : nodCheckW d x (usedTo L i) = 0
  ·rw [if_neg (by simpa using h3),← used_next hx'] at hgo
   simp [h3,hw]
   exact ⟨hgo,_,Sl.of rfl rfl rfl⟩
  ·rw [if_pos h3] at hgo
   rw [hgo,if_pos h3,wr_id (by omega) (by omega)] at hv
   simp [h3,hv]
 ·obtain rfl : i = L.length:=by omega
  rw [List.drop_length,ctlGoW] at hgo
  rw [hgo,if_neg (by simp)] at hv
  simp [aPrg,hv]
def e3 (a b c : Int) : Int:=if a = 0 then (if b = 0 then c else b) else a
def SameM {α : Type} (a b : List α) : Prop:=∀ z,z ∈ a ↔ z ∈ b
theorem SameM.rfl_ {α : Type} {a : List α} : SameM a a:=fun _=>Iff.rfl
theorem SameM.trans {α : Type} {a b c : List α} (h : SameM a b) (g : SameM b c) : SameM a c:=fun z=>(h z).trans (g z)
theorem SameM.symm {α : Type} {a b : List α} (h : SameM a b) : SameM b a:=fun z=>(h z).symm
theorem SameM.app {α : Type} {a b c e : List α} (h : SameM a b) (g : SameM c e) : SameM (a ++ c) (b ++ e):=fun z=>by rw [List.mem_append,List.mem_append,h z,g z]
theorem compactUpTo_mem (d : Array Int) (z : Int) : ∀ m,z ∈ Lib.compactUpTo d m ↔ ∃ j,j < m∧d[j]! = z
 | 0=>by simp [Lib.compactUpTo]
 | m + 1=>by
  rw [Lib.compactUpTo_succ,List.mem_append,compactUpTo_mem d z m]
  constructor
  ·rintro (⟨j,hj,e⟩ | h)
   ·exact ⟨j,by omega,e⟩
   ·split at h
    ·exact ⟨m,by omega,(List.mem_singleton.1 h).symm⟩
    ·cases h
  ·rintro ⟨j,hj,e⟩
   by_cases hjm : j = m
   ·subst hjm
    by_cases hk : Lib.keeps d j = true
    ·right; rw [if_pos hk]; exact List.mem_singleton.2 e.symm
    ·left
     unfold Lib.keeps at hk
     simp only [ne_eq,decide_eq_true_eq,not_or,Decidable.not_not] at hk
     exact ⟨j - 1,by omega,by rw [← hk.2]; exact e⟩
   ·exact .inl ⟨j,by omega,e⟩
theorem canZ_mem (l : List Int) : SameM (canZ l) l:=fun z=>by
 unfold canZ compZM Lib.compact
 rw [compactUpTo_mem]
 have hp : z ∈ sortZM l ↔ z ∈ l:=by unfold sortZM; exact List.mem_mergeSort
 rw [← hp]
 constructor
 ·rintro ⟨j,hj,e⟩
  rw [← e,getElem!_pos _ _ (by simpa using hj)]
  simp
 ·intro h
  obtain ⟨j,hj,e⟩:=List.mem_iff_getElem.1 h
  exact ⟨j,hj,by rw [getElem!_pos _ _ (by simpa using hj)]; simpa using e⟩
theorem compTo_mem (l : List FR) (z : FR) : ∀ m,m ≤ l.length→(z ∈ compTo l m ↔ z ∈ l.take m)
 | 0,_=>by simp [compTo]
 | m + 1,hm=>by
  have ih:=compTo_mem l z m (by omega)
  rw [compTo,List.mem_append,ih,List.take_add_one,List.mem_append]
  by_cases hk : keepR l m = true
  ·rw [if_pos hk]
  ·rw [if_neg hk]
   unfold keepR at hk
   simp only [ne_eq,decide_eq_true_eq,not_or,Decidable.not_not] at hk
   have : ∀ y,y ∈ l[m]?.toList→y ∈ l.take m:=fun y hy=>by
    rw [hk.2] at hy
    have hm1 : m - 1 < l.length:=by omega
    rw [List.getElem?_eq_getElem hm1] at hy
    have : y = l[m - 1]:=by simpa using hy
    rw [this]
    exact List.mem_take_iff_getElem.2 ⟨m - 1,by omega,rfl⟩
   constructor
   ·rintro (h | h); exact .inl h; cases h
   ·rintro (h | h); exact .inl h; exact .inl (this z h)
theorem canR_mem (l : List FR) : SameM (canR l) l:=fun z=>by
 unfold canR compFM
 rw [compTo_mem _ _ _ (Nat.le_refl _),List.take_length]
 have h:=Sort.pdq_sorts (ltOf cmpF) swoF l.toArray 0 l.length (Lib.bitLen l.length) true true (Nat.zero_le _) (by simp) (.inl rfl)
 have hp : (sortRM l).Perm l:=permIn_list (by simpa using h.1)
 exact hp.mem_iff
def insBy {α : Type} (lt eq : α→α→Bool) (x : α) : List α→List α
 | []=>[x]
 | y :: l=>if lt y x then y :: insBy lt eq x l else if eq y x then y :: l else x :: y :: l
theorem insBy_mem {α : Type} {lt eq : α→α→Bool} (he : ∀ a b,eq a b = true→a = b) (x : α) : ∀ (l : List α) (z : α),z ∈ insBy lt eq x l ↔ z ∈ l ∨ z = x
 | [],z=>by simp [insBy]
 | y :: l,z=>by
  rw [insBy]
  split
  ·rw [List.mem_cons,insBy_mem he x l,List.mem_cons]
   constructor
   ·rintro (h | h | h); exact .inl (.inl h); exact .inl (.inr h); exact .inr h
   ·rintro ((h | h) | h); exact .inl h; exact .inr (.inl h); exact .inr (.inr h)
  ·split
   ·rename_i h
    constructor
    ·exact .inl
    ·rintro (h2 | h2)
     ·exact h2
     ·rw [h2,← he _ _ h]; exact List.mem_cons_self ..
   ·rw [List.mem_cons]
    constructor
    ·rintro (h | h); exact .inr h; exact .inl h
    ·rintro (h | h); exact .inr h; exact .inl h
theorem insBy_len {α : Type} {lt eq : α→α→Bool} (x : α) : ∀ l : List α,(insBy lt eq x l).length ≤ l.length + 1
 | []=>Nat.le_refl _
 | y :: l=>by
  rw [insBy]
  split
  ·have:=insBy_len (lt:=lt) (eq:=eq) x l; simp only [List.length_cons]; omega
  ·split <;> simp
theorem insBy_none {α : Type} {lt eq : α→α→Bool} {x : α} : ∀ {a : List α} (b : List α),(∀ y ∈ a,lt y x = true)→insBy lt eq x (a ++ b) = a ++ insBy lt eq x b
 | [],b,_=>rfl
 | y :: a,b,h=>by
  rw [List.cons_append,insBy,if_pos (h y (.head _)),insBy_none b fun z hz=>h z (.tail _ hz)]; rfl
theorem insBy_app {α : Type} {lt eq : α→α→Bool} {x : α} : ∀ {a : List α} (b : List α),a.any (fun y=>!lt y x) = true→insBy lt eq x (a ++ b) = insBy lt eq x a ++ b
 | [],b,h=>by cases h
 | y :: a,b,h=>by
  rw [List.cons_append,insBy,insBy]
  split
  ·rename_i h1
   rw [insBy_app b (by simpa [h1] using h)]; rfl
  ·split <;> rfl
abbrev insZ : Int→List Int→List Int:=insBy (fun y x=>decide (y < x)) (fun y x=>decide (y = x))
abbrev ltR (a b : FR) : Bool:=decide (a.1 < b.1) || (decide (a.1 = b.1) && decide (a.2 < b.2))
abbrev insR : FR→List FR→List FR:=insBy ltR (fun a b=>decide (a.1 = b.1) && decide (a.2 = b.2))
theorem insZ_mem (x : Int) (l : List Int) (z : Int) : z ∈ insZ x l ↔ z ∈ l ∨ z = x:=insBy_mem (fun a b h=>by simpa using h) x l z
theorem insR_mem (x : FR) (l : List FR) (z : FR) : z ∈ insR x l ↔ z ∈ l ∨ z = x:=insBy_mem (fun a b h=>by simp at h; exact Prod.ext h.1 h.2) x l z
def allIn {α : Type} (ins : α→List α→List α) (a l : List α) : List α:=l.foldl (fun a x=>ins x a) a
theorem allIn_next {α : Type} {ins : α→List α→List α} {a l : List α} {i : Nat} {x : α} (h : l[i]? = some x) : allIn ins a (l.take (i + 1)) = ins x (allIn ins a (l.take i)):=by
 unfold allIn
 rw [← take_one h,List.foldl_append]; rfl
theorem allIn_mem {α : Type} {ins : α→List α→List α} (hm : ∀ x l z,z ∈ ins x l ↔ z ∈ l ∨ z = x) : ∀ (l a : List α),SameM (allIn ins a l) (a ++ l)
 | [],a=>fun z=>by simp [allIn]
 | x :: l,a=>fun z=>by
  have:=allIn_mem hm l (ins x a) z
  show z ∈ allIn ins (ins x a) l ↔ _
  rw [this,List.mem_append,hm,List.mem_append,List.mem_cons]
  constructor
  ·rintro ((h | h) | h); exact .inl h; exact .inr (.inl h); exact .inr (.inr h)
  ·rintro (h | h | h); exact .inl (.inl h); exact .inl (.inr h); exact .inr h
theorem allIn_len {α : Type} {ins : α→List α→List α} (hl : ∀ x l,(ins x l).length ≤ l.length + 1) : ∀ (l a : List α),(allIn ins a l).length ≤ a.length + l.length
 | [],a=>by simp [allIn]
 | x :: l,a=>by
  have h1:=allIn_len hl l (ins x a)
  have h2:=hl x a
  show (allIn ins (ins x a) l).length ≤ _
  simp only [List.length_cons]
  omega
def insM (n : Int) (l : List Int) : List Int:=if n < 0 then l else insZ n l
theorem insM_mem (n : Int) (l : List Int) (z : Int) : z ∈ insM n l ↔ z ∈ l ∨ (0 ≤ n∧z = n):=by
 unfold insM
 split
 ·constructor
  ·exact .inl
  ·rintro (h | h); exact h; omega
 ·rw [insZ_mem]
  constructor
  ·rintro (h | h); exact .inl h; exact .inr ⟨by omega,h⟩
  ·rintro (h | h); exact .inl h; exact .inr h.2
theorem insM_len (n : Int) (l : List Int) : (insM n l).length ≤ l.length + 1:=by
 unfold insM
 split
 ·omega
 ·exact insBy_len _ _
def insAll (L : List Int) (l : List Int) : List Int:=l.foldl (fun L n=>insM n L) L
theorem insAll_next {L l : List Int} {i : Nat} {x : Int} (h : l[i]? = some x) : insAll L (l.take (i + 1)) = insM x (insAll L (l.take i)):=by
 unfold insAll
 rw [← take_one h,List.foldl_append]; rfl
theorem insAll_len : ∀ (l L : List Int),(insAll L l).length ≤ L.length + l.length
 | [],L=>by simp [insAll]
 | x :: l,L=>by
  have h1:=insAll_len l (insM x L)
  have h2:=insM_len x L
  show (insAll (insM x L) l).length ≤ _
  simp only [List.length_cons]
  omega
theorem insAll_put : ∀ (l L K : List Int),SameM L K→SameM (insAll L l) (l.foldl putM K)
 | [],L,K,h=>h
 | x :: l,L,K,h=>insAll_put l (insM x L) (putM K x) fun z=>by
  rw [insM_mem]
  unfold putM
  split
  ·rw [List.mem_append,List.mem_singleton,h z]
   constructor
   ·rintro (h | h); exact .inl h; exact .inr h.2
   ·rintro (h | h); exact .inl h; exact .inr ⟨by omega,h⟩
  ·rw [h z]
   constructor
   ·rintro (h | h); exact h; omega
   ·exact .inl
theorem mem_put (L : List Int) (x z : Int) : z ∈ putM L x ↔ z ∈ L ∨ (0 ≤ x∧z = x):=by
 unfold putM
 split
 ·rw [List.mem_append,List.mem_singleton]
  constructor
  ·rintro (h | h); exact .inl h; exact .inr ⟨by omega,h⟩
  ·rintro (h | h); exact .inl h; exact .inr h.2
 ·constructor
  ·exact .inl
  ·rintro (h | h); exact h; omega
theorem mem_puts : ∀ (l L : List Int) (z : Int),z ∈ l.foldl putM L ↔ z ∈ L ∨ (0 ≤ z∧z ∈ l)
 | [],L,z=>by simp
 | x :: l,L,z=>by
  rw [List.foldl_cons,mem_puts l,mem_put,List.mem_cons]
  constructor
  ·rintro ((h | ⟨h,rfl⟩) | h); exact .inl h; exact .inr ⟨h,.inl rfl⟩; exact .inr ⟨h.1,.inr h.2⟩
  ·rintro (h | ⟨h,rfl | h2⟩); exact .inl (.inl h); exact .inl (.inr ⟨h,rfl⟩); exact .inr ⟨h,h2⟩
structure SameT (a b : Tri) : Prop where
 F : SameM a.F b.F
 M : SameM a.M b.M
 G : SameM a.G b.G
theorem putAll_same {α : Type} (f : α→Int) {L K : List Int} {l m : List α} (h : SameM L K) (g : SameM l m) : SameM (putAll f L l) (putAll f K m):=fun z=>by
 unfold putAll
 rw [mem_puts,mem_puts,h z]
 have : z ∈ l.map f ↔ z ∈ m.map f:=by
  rw [List.mem_map,List.mem_map]
  constructor
  ·rintro ⟨a,ha,e⟩; exact ⟨a,(g a).1 ha,e⟩
  ·rintro ⟨a,ha,e⟩; exact ⟨a,(g a).2 ha,e⟩
 rw [this]
theorem addM_same {d : PrgD} {L K : List Int} {a b : Tri} (h : SameM L K) (g : SameT a b) : SameM (addM d L a) (addM d K b) :=
 putAll_same _ (putAll_same _ (putAll_same _ h g.F) g.M) g.G
def gathM (d : PrgD) (L : List Int) (T : Tri) : List Int:=insAll (insAll (insAll L (T.F.map fun r : FR=>fieldCell d r.1 r.2)) (T.M.map (cellM d 1))) (T.G.map (cellM d 3))
theorem gathM_same {d : PrgD} {L K : List Int} {a b : Tri} (h : SameM L K) (g : SameT a b) : SameM (gathM d L a) (addM d K b) :=
 SameM.trans (insAll_put _ _ _ (insAll_put _ _ _ (insAll_put _ _ _ h))) (addM_same SameM.rfl_ g)
theorem gathM_len (d : PrgD) (L : List Int) (T : Tri) : (gathM d L T).length ≤ L.length + T.F.length + T.M.length + T.G.length:=by
 unfold gathM
 have h1:=insAll_len (T.F.map fun r : FR=>fieldCell d r.1 r.2) L
 have h2:=insAll_len (T.M.map (cellM d 1)) (insAll L (T.F.map fun r : FR=>fieldCell d r.1 r.2))
 have h3:=insAll_len (T.G.map (cellM d 3)) (insAll (insAll L (T.F.map fun r : FR=>fieldCell d r.1 r.2)) (T.M.map (cellM d 1)))
 simp only [List.length_map] at h1 h2 h3
 omega
theorem comB_same {a b c e : List Int} (h : SameM a b) (g : SameM c e) : comB a c = comB b e:=by
 unfold comB
 rw [Bool.eq_iff_iff,List.any_eq_true,List.any_eq_true]
 constructor
 ·rintro ⟨x,hx,hy⟩
  obtain ⟨y,hy,e⟩:=List.any_eq_true.1 hy
  exact ⟨x,(h x).1 hx,List.any_eq_true.2 ⟨y,(g y).1 hy,e⟩⟩
 ·rintro ⟨x,hx,hy⟩
  obtain ⟨y,hy,e⟩:=List.any_eq_true.1 hy
  exact ⟨x,(h x).2 hx,List.any_eq_true.2 ⟨y,(g y).2 hy,e⟩⟩
theorem depM_same {R R' W W' : Nat→List Int} (h : ∀ a,SameM (R a) (R' a)) (g : ∀ a,SameM (W a) (W' a)) (us : List UnitD) (a b : Nat) : depM R W us a b = depM R' W' us a b:=by
 unfold depM
 rw [comB_same (h b) (g a),comB_same (g b) (g a),comB_same (g b) (h a)]
end Go.Proofs.YtafenffmgpcjcaaGreat
