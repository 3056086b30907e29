/- Texts of the proof: GS7. -/
import Derived.Test.YtafenffmgpcjcaaGreatGS5
import Derived.Shelf.SlLaysF0
import Derived.Shelf.SlLaysN
import Derived.Shelf.SlLaysNS
import Derived.Shelf.SlicesG.In.CompactI
import Derived.Shelf.SlSortFuncK.RowK2
import Derived.Test.YtafenffmgpcjcaaGreatGS0
import Derived.Test.YtafenffmgpcjcaaGreatGS6
namespace Go.Proofs.YtafenffmgpcjcaaGreat
open Go.RowKit
set_option linter.unusedVariables false
section
variable {P:Program} {ops:Array Oper} {Q:Exit→Act→World→Prop}
def OpGood (P:Program) (F:Value→World→Prop) (S:World→Prop) (St:World→World→Prop) (w:World):Result Next→Prop
 | .ok (.value v) w'=>F v w'∧S w'∧St w w'
 | .ok .skip w'=>F undef w'∧S w'∧St w w'
 | .ok (.enter f args) w'=>Calls P f args w' fun e w''=>∃ v,e=.returned v∧F v w''∧S w''∧St w w''
 | _=>False
def depB (o:Oper) (j:Nat):Bool:=o.after.toList.any fun e=>Nat.beq e.on j && Region.binds .any e
theorem dep_of {o:Oper} {j:Nat} (h:depB o j=true):∃ e ∈ o.after,e.on=j∧Region.binds .any e=true:=by
 obtain ⟨e,he,h⟩:=List.any_eq_true.1 h
 rw [Bool.and_eq_true] at h
 exact ⟨e,by simpa using he,Nat.eq_of_beq_eq_true h.1,h.2⟩
def behind (ops:Array Oper):Nat→Nat→Nat→Bool
 | 0,_,_=>false
 | n+1,i,j=>match ops[i]? with
  | none=>false
  | some o=>depB o j || o.after.toList.any fun e=>Region.binds .any e && behind ops n e.on j
def relOk (ops:Array Oper) (n:Nat):Bool :=
 (ops.toList.zipIdx.all fun (o,i)=>(o.after.all fun e=>!Region.binds .any e || decide (e.on < i)) && (match o.dst with | some d=>decide (d < n) | none=>true)) &&
 (ops.toList.zipIdx.all fun (o,i)=>ops.toList.zipIdx.all fun (o',j)=>Nat.beq i j || (match o.dst,o'.dst with | some d,some d'=>!(Nat.beq d d') | _,_=>true))
theorem relOk_edge {n:Nat} (h:relOk ops n=true) {i:Nat} {o:Oper} (ho:ops[i]?=some o):(∀ e ∈ o.after,Region.binds .any e=true→e.on < i)∧(∀ d,o.dst=some d→d < n):=by
 unfold relOk at h
 rw [Bool.and_eq_true] at h
 have h1:=List.all_eq_true.1 h.1 (o,i) (List.mem_zipIdx_iff_getElem?.2 (by simpa using ho))
 simp only [Bool.and_eq_true] at h1
 refine ⟨fun e he hb=>?_,fun d hd=>?_⟩
 ·have:=Array.all_eq_true_iff_forall_mem.1 h1.1 e he
  simpa [hb] using this
 ·have:=h1.2
  rw [hd] at this
  simpa using this
theorem relOk_dst {n:Nat} (h:relOk ops n=true) {i j:Nat} {o o':Oper} (ho:ops[i]?=some o) (ho':ops[j]?=some o') (hne:i ≠ j) {d:Nat} (hd:o.dst=some d):o'.dst ≠ some d:=by
 intro hd'
 unfold relOk at h
 rw [Bool.and_eq_true] at h
 have h1:=List.all_eq_true.1 h.2 (o,i) (List.mem_zipIdx_iff_getElem?.2 (by simpa using ho))
 have h2:=List.all_eq_true.1 h1 (o',j) (List.mem_zipIdx_iff_getElem?.2 (by simpa using ho'))
 simp [hd,hd',hne] at h2
def Free (ops:Array Oper) (t:Nat):Prop:=∀ (i:Nat) (o:Oper),ops[i]?=some o→o.dst ≠ some t
def freeB (ops:Array Oper) (t:Nat):Bool:=ops.toList.all fun o=>match o.dst with | some d=>!(Nat.beq d t) | none=>true
theorem free_of {t:Nat} (h:freeB ops t=true):Free ops t:=fun i o ho hd=>by
 have:=List.all_eq_true.1 h o (List.mem_of_getElem? (i:=i) (by simpa using ho))
 rw [hd] at this
 simp at this
structure Chain where
 effs:List Nat
 rng:List (Nat × Nat)
def Chain.next (C:Chain) (i j:Nat):Nat:=if C.effs[j]?=some i then j+1 else j
def chainOk (ops:Array Oper) (C:Chain):Bool :=
 (C.effs.zipIdx.all fun (e,m)=>(C.effs.take m).all (fun e'=>!(Nat.beq e e') && behind ops 6 e e') && decide (e < ops.size)) &&
 (C.rng.zipIdx.all fun (r,i)=>(decide (r.1≤C.effs.length) && (C.effs.take r.1).all (fun e=>behind ops 6 i e)) && (match C.effs[r.2]? with | some e=>Nat.beq e i || behind ops 6 e i | none=>true))
structure RelInv (P:Program) (ops:Array Oper) (C:Chain) (fr:Nat→Nat) (S:Nat→World→Prop) (F:Nat→Value→World→Prop) (a:Act) (listed:Array Bool) (j:Nat) (b:Act) (u:World):Prop where
 good:S j u
 size:listed.size=ops.size
 defers:b.defers=a.defers
 tmps:b.tmps.size=a.tmps.size
 le:j≤C.effs.length
 effs:∀ m e,C.effs[m]?=some e→(listed.getD e false=true ↔ m < j)
 down:∀ (i:Nat) (o:Oper),ops[i]?=some o→listed.getD i false=true→∀ e ∈ o.after,Region.binds .any e=true→listed.getD e.on false=true
 old:∀ t:Nat,(∀ (i:Nat) (o:Oper),ops[i]?=some o→o.dst=some t→listed.getD i false=false)→b.tmps[t]?=a.tmps[t]?
 new:∀ (i:Nat) (o:Oper) (d:Nat),ops[i]?=some o→listed.getD i false=true→o.dst=some d→∃ v,b.tmps[d]?=some v∧F i v u
 from_:∀ (i:Nat) (o:Oper),ops[i]?=some o→listed.getD i false=true→fr i≤j
theorem behind_listed {C:Chain} {fr:Nat→Nat} {S:Nat→World→Prop} {F:Nat→Value→World→Prop} {a b:Act} {listed:Array Bool} {j:Nat} {u:World} (h:RelInv P ops C fr S F a listed j b u) :
  ∀ (n i k:Nat),behind ops n i k=true→(∀ (o:Oper),ops[i]?=some o→∀ e ∈ o.after,Region.binds .any e=true→listed.getD e.on false=true)→listed.getD k false=true:=by
 intro n
 induction n with
 | zero=>intro i k hb; cases hb
 | succ n ih =>
  intro i k hb hi
  unfold behind at hb
  cases ho:ops[i]? with
  | none=>rw [ho] at hb; cases hb
  | some o =>
   rw [ho] at hb
   simp only [Bool.or_eq_true] at hb
   rcases hb with hb | hb
   ·obtain ⟨e,he,rfl,hbe⟩:=dep_of hb
    exact hi o ho e he hbe
   ·obtain ⟨e,he,hb⟩:=List.any_eq_true.1 hb
    rw [Bool.and_eq_true] at hb
    have hl:=hi o ho e (by simpa using he) hb.1
    exact ih e.on k hb.2 fun o' ho' e' he' hb'=>h.down e.on o' ho' hl e' he' hb'
theorem getD_set_self {listed:Array Bool} {i:Nat} (h:i < listed.size):(listed.setIfInBounds i true).getD i false=true:=by
 simp [Array.getD_eq_getD_getElem?,Array.getElem?_setIfInBounds_self_of_lt h]
theorem getD_false_of {listed:Array Bool} {i:Nat} (h:listed.getD i true=false):i < listed.size∧listed.getD i false=false:=by
 have hlt:i < listed.size:=by
  rcases Nat.lt_or_ge i listed.size with h' | h'
  ·exact h'
  ·rw [Array.getD_eq_getD_getElem?,Array.getElem?_eq_none h'] at h; cases h
 refine ⟨hlt,?_⟩
 rw [Array.getD_eq_getD_getElem?,Array.getElem?_eq_getElem hlt] at h ⊢
 exact h
theorem RelInv.range {C:Chain} {fr:Nat→Nat} {S:Nat→World→Prop} {F:Nat→Value→World→Prop} {a b:Act} {listed:Array Bool} {j:Nat} {u:World} (hC:chainOk ops C=true) (h:RelInv P ops C fr S F a listed j b u)
  {i:Nat} {o:Oper} (ho:ops[i]?=some o) (hi:listed.getD i true=false) (hdep:∀ e ∈ o.after,Region.binds .any e=true→listed.getD e.on false=true) :
  (∀ r,C.rng[i]?=some r→r.1≤j∧j≤r.2)∧(∀ m,C.effs[m]?=some i→m=j):=by
 unfold chainOk at hC
 rw [Bool.and_eq_true] at hC
 have hall:∀ (o':Oper),ops[i]?=some o'→∀ e ∈ o'.after,Region.binds .any e=true→listed.getD e.on false=true:=fun o' ho' e he hb=>by
  obtain rfl:o=o':=Option.some.inj (ho.symm.trans ho')
  exact hdep e he hb
 have hif:=(getD_false_of hi).2
 refine ⟨fun r hr=>?_,fun m hm=>?_⟩
 ·have h1:=List.all_eq_true.1 hC.2 (r,i) (List.mem_zipIdx_iff_getElem?.2 (by simpa using hr))
  rw [Bool.and_eq_true] at h1
  refine ⟨?_,?_⟩
  ·rcases Nat.lt_or_ge j r.1 with hlt | hge
   ·have h2:=h1.1
    rw [Bool.and_eq_true] at h2
    have hrl:r.1≤C.effs.length:=of_decide_eq_true h2.1
    have hmem:C.effs[j]'(by omega) ∈ C.effs.take r.1:=List.mem_take_iff_getElem.2 ⟨j,by omega,rfl⟩
    have hb:=List.all_eq_true.1 h2.2 _ hmem
    have:=(h.effs j _ (List.getElem?_eq_getElem (by omega))).1 (behind_listed h 6 i _ hb hall)
    omega
   ·exact hge
  ·rcases Nat.lt_or_ge r.2 j with hlt | hge
   ·have hjl:r.2 < C.effs.length:=Nat.lt_of_lt_of_le hlt h.le
    have h2:=h1.2
    rw [List.getElem?_eq_getElem hjl] at h2
    have hl:=(h.effs r.2 _ (List.getElem?_eq_getElem hjl)).2 hlt
    simp only [Bool.or_eq_true] at h2
    rcases h2 with h2 | h2
    ·rw [Nat.eq_of_beq_eq_true h2,hif] at hl; cases hl
    ·have hopt:∀ (o':Oper),ops[C.effs[r.2]]?=some o'→∀ e ∈ o'.after,Region.binds .any e=true→listed.getD e.on false=true:=fun o' ho' e he hb=>h.down _ o' ho' hl e he hb
     have:=behind_listed h 6 _ i h2 hopt
     rw [hif] at this; cases this
   ·exact hge
 ·have h1:=List.all_eq_true.1 hC.1 (i,m) (List.mem_zipIdx_iff_getElem?.2 (by simpa using hm))
  rw [Bool.and_eq_true] at h1
  have hge:j≤m:=by
   rcases Nat.lt_or_ge m j with hlt | hge
   ·have:=(h.effs m i hm).2 hlt
    rw [hif] at this; cases this
   ·exact hge
  rcases Nat.lt_or_ge j m with hlt | hge2
  ·have hml:m < C.effs.length:=(List.getElem?_eq_some_iff.1 hm).1
   have hmem:C.effs[j]'(by omega) ∈ C.effs.take m:=List.mem_take_iff_getElem.2 ⟨j,by omega,rfl⟩
   have hb:=List.all_eq_true.1 h1.1 _ hmem
   rw [Bool.and_eq_true] at hb
   have:=(h.effs j _ (List.getElem?_eq_getElem (by omega))).1 (behind_listed h 6 i _ hb.2 hall)
   omega
  ·omega
theorem getD_set_ne' {listed:Array Bool} {i j:Nat} (h:j ≠ i):(listed.setIfInBounds i true).getD j false=listed.getD j false:=getD_set_ne false (Ne.symm h)
def frOk (C:Chain) (fr:Nat→Nat) (n:Nat):Bool:=(List.range n).all fun i=>match C.rng[i]? with | some r=>decide (fr i≤if C.effs.contains i then r.1+1 else r.1) | none=>false
theorem next_of {C:Chain} {i j:Nat} (hne:∀ m:Nat,C.effs[m]?=some i→m=j):(C.effs[j]?=some i∧C.next i j=j+1)∨((∀ m:Nat,C.effs[m]? ≠ some i)∧C.next i j=j):=by
 unfold Chain.next
 by_cases h:C.effs[j]?=some i
 ·exact .inl ⟨h,if_pos h⟩
 ·refine .inr ⟨fun m hm=>h ?_,if_neg h⟩
  have:=hne m hm
  subst this
  exact hm
theorem RelInv.step {C:Chain} {fr:Nat→Nat} {S:Nat→World→Prop} {St:Nat→World→World→Prop} {F:Nat→Value→World→Prop} {a b:Act} {listed:Array Bool} {j:Nat} {u u':World} {i:Nat} {o:Oper} {v:Value}
  (hst:∀ i v j w w',F i v w→fr i≤j→S j w→St j w w'→F i v w') (hok:relOk ops a.tmps.size=true) (hC:chainOk ops C=true) (hfr:frOk C fr ops.size=true)
  (h:RelInv P ops C fr S F a listed j b u) (ho:ops[i]?=some o) (hi:listed.getD i true=false) (hdep:∀ e ∈ o.after,Region.binds .any e=true→listed.getD e.on false=true)
  (hv:F i v u') (hS:S (C.next i j) u') (hs:St j u u'):RelInv P ops C fr S F a (listed.setIfInBounds i true) (C.next i j) (b.put o.dst v) u':=by
 obtain ⟨hlt,hif⟩:=getD_false_of hi
 obtain ⟨hrng,heff⟩:=h.range hC ho hi hdep
 have hset:∀ k,k ≠ i→(listed.setIfInBounds i true).getD k false=listed.getD k false:=fun k hk=>getD_set_ne' hk
 have hself:=getD_set_self hlt
 have hin:i < ops.size:=(Array.getElem?_eq_some_iff.1 ho).1
 have hfri:fr i≤C.next i j:=by
  have:=List.all_eq_true.1 hfr i (List.mem_range.2 hin)
  cases hr:C.rng[i]? with
  | none=>rw [hr] at this; cases this
  | some r =>
   rw [hr] at this
   have h1:=of_decide_eq_true this
   have h2:=(hrng r hr).1
   rcases next_of heff with ⟨he,hn⟩ | ⟨he,hn⟩
   ·rw [hn]
    split at h1 <;> omega
   ·rw [hn]
    rw [if_neg (by
     intro hc
     rw [List.contains_iff_mem] at hc
     obtain ⟨m,hm⟩:=List.mem_iff_getElem?.1 hc
     exact he m hm)] at h1
    omega
 have hjle:j≤C.next i j:=by rcases next_of heff with ⟨_,hn⟩ | ⟨_,hn⟩ <;> omega
 refine ⟨hS,by simpa using h.size,?_,?_,?_,?_,?_,?_,?_,?_⟩
 ·cases hd:o.dst <;> simpa [Act.put] using h.defers
 ·cases hd:o.dst <;> simpa [Act.put] using h.tmps
 ·rcases next_of heff with ⟨he,hn⟩ | ⟨_,hn⟩
  ·rw [hn]; exact (List.getElem?_eq_some_iff.1 he).1
  ·rw [hn]; exact h.le
 ·intro m e hm
  by_cases hei:e=i
  ·subst hei
   obtain rfl:=heff m hm
   rcases next_of heff with ⟨_,hn⟩ | ⟨he,_⟩
   ·rw [hn,hself]; simp
   ·exact absurd hm (he m)
  ·rw [hset e hei,h.effs m e hm]
   rcases next_of heff with ⟨he,hn⟩ | ⟨_,hn⟩
   ·rw [hn]
    constructor
    ·intro; omega
    ·intro hlt'
     rcases Nat.lt_or_ge m j with h' | h'
     ·exact h'
     ·have:m=j:=by omega
      subst this
      rw [hm] at he
      exact absurd (Option.some.inj he) hei
   ·rw [hn]
 ·intro k o' ho' hl e he hb
  by_cases hek:e.on=i
  ·rw [hek]; exact hself
  ·rw [hset e.on hek]
   by_cases hk:k=i
   ·subst hk
    obtain rfl:o=o':=Option.some.inj (ho.symm.trans ho')
    exact hdep e he hb
   ·rw [hset k hk] at hl
    exact h.down k o' ho' hl e he hb
 ·intro t ht
  have hne:o.dst ≠ some t:=fun hd=>by
   have:=ht i o ho hd
   rw [hself] at this
   cases this
  have e:(b.put o.dst v).tmps[t]?=b.tmps[t]?:=by
   cases hd:o.dst with
   | none=>rfl
   | some d=>rw [hd] at hne; simp only [Act.put]; exact Array.getElem?_setIfInBounds_ne (fun e=>hne (by rw [e]))
  rw [e]
  refine h.old t fun k o' ho' hd'=>?_
  have hk:k ≠ i:=fun e=>by
   subst e
   obtain rfl:o=o':=Option.some.inj (ho.symm.trans ho')
   exact hne hd'
  rw [← hset k hk]
  exact ht k o' ho' hd'
 ·intro k o' d ho' hl hd'
  by_cases hk:k=i
  ·subst hk
   obtain rfl:o=o':=Option.some.inj (ho.symm.trans ho')
   have hdn:=(relOk_edge hok ho).2 d hd'
   refine ⟨v,?_,hv⟩
   rw [hd']
   simp only [Act.put]
   exact Array.getElem?_setIfInBounds_self_of_lt (by rw [h.tmps]; exact hdn)
  ·rw [hset k hk] at hl
   obtain ⟨v',e,f⟩:=h.new k o' d ho' hl hd'
   refine ⟨v',?_,hst _ _ _ _ _ f (h.from_ k o' ho' hl) h.good hs⟩
   rw [← e]
   cases hd:o.dst with
   | none=>rfl
   | some d0 =>
    have:=relOk_dst hok ho ho' (Ne.symm hk) hd
    simp only [Act.put]
    exact Array.getElem?_setIfInBounds_ne (fun e=>this (by rw [hd',e]))
 ·intro k o' ho' hl
  by_cases hk:k=i
  ·subst hk; exact hfri
  ·rw [hset k hk] at hl
   exact Nat.le_trans (h.from_ k o' ho' hl) hjle
theorem RelInv.done {C:Chain} {fr:Nat→Nat} {S:Nat→World→Prop} {F:Nat→Value→World→Prop} {a b:Act} {listed:Array Bool} {j:Nat} {u:World} (hok:relOk ops a.tmps.size=true) (h:RelInv P ops C fr S F a listed j b u)
  (hr:Region.ready .any ops listed=[]):∀ i,i < ops.size→listed.getD i false=true:=by
 intro i
 induction i using Nat.strongRecOn with
 | _ i ih =>
  intro hi
  cases hl:listed.getD i false with
  | true=>rfl
  | false =>
   have hm:i ∈ Region.ready .any ops listed:=mem_ready.2 ⟨by
    rw [Array.getD_eq_getD_getElem?,Array.getElem?_eq_getElem (by rw [h.size]; exact hi)] at hl ⊢
    exact hl,ops[i],Array.getElem?_eq_getElem hi,fun e he hb=>by
     have:=(relOk_edge hok (Array.getElem?_eq_getElem hi)).1 e he hb
     exact ih e.on this (by omega)⟩
   rw [hr] at hm
   cases hm
def RegEnd (Q':Act→World→Prop) (F:Nat→Value→World→Prop) (u:World):Nat→List Oper→Act→Prop
 | _,[],a=>Q' a u
 | k,o::l,a=>match o.dst with
  | none=>RegEnd Q' F u (k+1) l a
  | some d=>∀ v,F k v u→RegEnd Q' F u (k+1) l (a.put (some d) v)
theorem RegEnd.run {Q':Act→World→Prop} {F:Nat→Value→World→Prop} {u:World}:∀ (l:List Oper) (k:Nat) (a b:Act),RegEnd Q' F u k l a→b.defers=a.defers→b.tmps.size=a.tmps.size →
  (∀ t,(∀ o ∈ l,o.dst ≠ some t)→b.tmps[t]?=a.tmps[t]?)→(∀ (i:Nat) (o:Oper) (d:Nat),l[i]?=some o→o.dst=some d→∃ v,b.tmps[d]?=some v∧F (k+i) v u)→Q' b u:=by
 intro l
 induction l with
 | nil =>
  intro k a b h hd hsz hold _
  have e:b.tmps=a.tmps:=Array.ext_getElem? fun t=>hold t (fun o ho=>by cases ho)
  have:b=a:=by cases a; cases b; simp_all
  rw [this]; exact h
 | cons o l ih =>
  intro k a b h hd hsz hold hnew
  unfold RegEnd at h
  have hnew':∀ (i:Nat) (o':Oper) (d:Nat),l[i]?=some o'→o'.dst=some d→∃ v,b.tmps[d]?=some v∧F (k+1+i) v u:=fun i o' d ho' hd'=>by
   have:=hnew (i+1) o' d (by simpa using ho') hd'
   rwa [show k+(i+1)=k+1+i by omega] at this
  cases hdst:o.dst with
  | none =>
   rw [hdst] at h
   refine ih (k+1) a b h hd hsz (fun t ht=>hold t fun o' ho'=>?_) hnew'
   rcases List.mem_cons.1 ho' with rfl | ho'
   ·rw [hdst]; simp
   ·exact ht o' ho'
  | some d =>
   rw [hdst] at h
   obtain ⟨v,ev,fv⟩:=hnew 0 o d (by simp) hdst
   rw [Nat.add_zero] at fv
   refine ih (k+1) (a.put (some d) v) b (h v fv) (by simpa [Act.put] using hd) (by simpa [Act.put] using hsz) (fun t ht=>?_) hnew'
   by_cases htd:t=d
   ·subst htd
    have hlt:t < b.tmps.size:=(Array.getElem?_eq_some_iff.1 ev).1
    rw [ev]
    simp only [Act.put]
    rw [Array.getElem?_setIfInBounds_self_of_lt (by rw [← hsz]; exact hlt)]
   ·simp only [Act.put]
    rw [Array.getElem?_setIfInBounds_ne (Ne.symm htd)]
    refine hold t fun o' ho'=>?_
    rcases List.mem_cons.1 ho' with rfl | ho'
    ·rw [hdst]; simpa using Ne.symm htd
    ·exact ht o' ho'
end
theorem wanted_plain {o:Oper} {y:Nat→Option Bool} {C:Prop} (hg:o.guard=none) (h:Region.wanted o y=false):C:=by
 unfold Region.wanted at h
 rw [hg] at h
 cases h
end Go.Proofs.YtafenffmgpcjcaaGreat
namespace Go.Proofs.YtafenffmgpcjcaaGreat
open Go.RowKit
set_option linter.unusedVariables false
theorem chain_next {C:Chain} {i j:Nat} (h:C.effs.contains i=false):C.next i j=j:=by
 unfold Chain.next
 rw [if_neg]
 intro he
 have:C.effs.contains i=true:=by rw [List.contains_iff_mem]; exact List.mem_of_getElem? he
 rw [h] at this; cases this
abbrev LFact:=Nat→Value→World→Prop
def lfact (l:List LFact) (i j:Nat) (v:Value) (w:World):Prop:=match l[i]? with | some f=>f j v w | none=>True
def leq (X:Value):LFact:=fun _ v _=>v=X
def KeepL (ops:Array Oper) (ρ:Operand→Value) (i j j':Nat) (u u':World):Nat→List Oper→List LFact→Prop
 | _,[],_=>True
 | _,_::_,[]=>True
 | k,o::l,f::fs=>(match o.dst with | none=>True | some d=>k=i∨behind ops 6 k i=true∨(f j (ρ (.tmp d)) u→f j' (ρ (.tmp d)) u'))∧KeepL ops ρ i j j' u u' (k+1) l fs
theorem KeepL.at_ {ops:Array Oper} {ρ:Operand→Value} {i j j':Nat} {u u':World}:∀ (l:List Oper) (fs:List LFact) (k0:Nat),KeepL ops ρ i j j' u u' k0 l fs →
  ∀ (k:Nat) (o:Oper) (d:Nat),l[k]?=some o→o.dst=some d→k0+k ≠ i→behind ops 6 (k0+k) i=false→lfact fs k j (ρ (.tmp d)) u→lfact fs k j' (ρ (.tmp d)) u':=by
 intro l
 induction l with
 | nil=>intro fs k0 _ k o d h; simp at h
 | cons x l ih =>
  intro fs k0 h k o d ho hd hne hnd hf
  cases fs with
  | nil=>simp [lfact]
  | cons f fs =>
   cases k with
   | zero =>
    obtain rfl:x=o:=by simpa using ho
    have h1:=h.1
    rw [hd] at h1
    rcases h1 with h1 | h1 | h1
    ·exact absurd h1 hne
    ·rw [Nat.add_zero] at hnd; rw [hnd] at h1; cases h1
    ·exact h1 hf
   | succ k=>exact ih fs (k0+1) h.2 k o d (by simpa using ho) hd (by omega) (by rwa [show k0+1+k=k0+(k+1) by omega]) hf
def LStable (fs:List LFact):Prop:=∀ f ∈ fs,∀ (j:Nat) (v:Value) (u u':World),Below u.heap.size u u'→f j v u→f j v u'
theorem KeepL.below {ops:Array Oper} {ρ:Operand→Value} {i j:Nat} {u u':World} (hb:Below u.heap.size u u'):∀ (l:List Oper) (fs:List LFact) (k0:Nat),LStable fs→KeepL ops ρ i j j u u' k0 l fs:=by
 intro l
 induction l with
 | nil=>intro fs k0 _; trivial
 | cons o l ih =>
  intro fs k0 hs
  cases fs with
  | nil=>trivial
  | cons f fs =>
   refine ⟨?_,ih fs (k0+1) fun f' hf'=>hs f' (List.mem_cons_of_mem _ hf')⟩
   cases o.dst with
   | none=>trivial
   | some d=>exact .inr (.inr (hs f (List.mem_cons_self ..) j _ u u' hb))
section
variable {P:Program} {ops:Array Oper} {Q:Exit→Act→World→Prop}
structure RelInvL (P:Program) (ops:Array Oper) (C:Chain) (S:Nat→World→Prop) (fs:List LFact) (a:Act) (listed:Array Bool) (j:Nat) (b:Act) (u:World):Prop where
 base:RelInv P ops C (fun _=>0) (fun _ _=>True) (fun _ _ _=>True) a listed j b u
 good:S j u
 new:∀ (i:Nat) (o:Oper) (d:Nat),ops[i]?=some o→listed.getD i false=true→o.dst=some d→lfact fs i j (b.eval (.tmp d)) u
def OpLookL (P:Program) (l:List Oper) (C:Chain) (S:Nat→World→Prop) (fs:List LFact) (a:Act) (i:Nat) (o:Oper):Prop :=
 ∀ (j:Nat),(∀ r,C.rng[i]?=some r→r.1≤j∧j≤r.2)→∀ (ρ:Operand→Value) (y:Nat→Option Bool) (u:World),S j u →
  (∀ c,ρ (.const c)=c)→(∀ f,ρ (.func f)=.func (.func f) #[] #[])→(∀ g,ρ (.global g)=.pointer (some ⟨g,0,none⟩)) →
  (∀ t,freeB l.toArray t=true→ρ (.tmp t)=a.eval (.tmp t)) →
  (∀ (k:Nat) (o':Oper) (d:Nat),depB o k=true→l.toArray[k]?=some o'→o'.dst=some d→lfact fs k j (ρ (.tmp d)) u∧y k=(match ρ (.tmp d) with | .bool x=>some x | _=>none)) →
  (Region.wanted o y=true→OpGood P (lfact fs i (C.next i j)) (S (C.next i j)) (fun _ u'=>KeepL l.toArray ρ i j (C.next i j) u u' 0 l fs) u ((execOp ρ o).run P u))∧(Region.wanted o y=false→lfact fs i (C.next i j) undef u∧S (C.next i j) u∧KeepL l.toArray ρ i j (C.next i j) u u 0 l fs)
def LooksL (P:Program) (l:List Oper) (C:Chain) (S:Nat→World→Prop) (fs:List LFact) (a:Act):Nat→List Oper→Prop
 | _,[]=>True
 | k,o::r=>OpLookL P l C S fs a k o∧LooksL P l C S fs a (k+1) r
theorem LooksL.at_ {l0:List Oper} {C:Chain} {S:Nat→World→Prop} {fs:List LFact} {a:Act}:∀ (l:List Oper) (k:Nat),LooksL P l0 C S fs a k l→∀ i o,l[i]?=some o→OpLookL P l0 C S fs a (k+i) o:=by
 intro l
 induction l with
 | nil=>intro k h i o ho; simp at ho
 | cons x l ih =>
  intro k h i o ho
  cases i with
  | zero=>simp at ho; subst ho; exact h.1
  | succ i=>have:=ih (k+1) h.2 i o (by simpa using ho); rwa [show k+1+i=k+(i+1) by omega] at this
theorem eval_put_ne {b:Act} {v:Value} {o:Oper} {d:Nat} (h:o.dst ≠ some d):(b.put o.dst v).eval (.tmp d)=b.eval (.tmp d):=by
 cases hd:o.dst with
 | none=>rfl
 | some d0 =>
  rw [hd] at h
  simp only [Act.put,Act.eval,Array.getD_eq_getD_getElem?]
  rw [Array.getElem?_setIfInBounds_ne (fun e=>h (by rw [e]))]
theorem RelInvL.step {l:List Oper} {C:Chain} {S:Nat→World→Prop} {fs:List LFact} {a b:Act} {listed:Array Bool} {j:Nat} {u u':World} {i:Nat} {o:Oper} {v:Value}
  (hok:relOk l.toArray a.tmps.size=true) (hC:chainOk l.toArray C=true) (hfr:frOk C (fun _=>0) l.toArray.size=true)
  (h:RelInvL P l.toArray C S fs a listed j b u) (ho:l.toArray[i]?=some o) (hi:listed.getD i true=false) (hdep:∀ e ∈ o.after,Region.binds .any e=true→listed.getD e.on false=true)
  (hv:lfact fs i (C.next i j) v u') (hS:S (C.next i j) u') (hs:KeepL l.toArray b.eval i j (C.next i j) u u' 0 l fs):RelInvL P l.toArray C S fs a (listed.setIfInBounds i true) (C.next i j) (b.put o.dst v) u':=by
 refine ⟨h.base.step (St:=fun _ _ _=>True) (fun _ _ _ _ _ _ _ _ _=>trivial) hok hC hfr ho hi hdep trivial trivial trivial,hS,?_⟩
 obtain ⟨hlt,hif⟩:=getD_false_of hi
 intro k o' d ho' hl hd
 by_cases hk:k=i
 ·subst hk
  obtain rfl:o=o':=Option.some.inj (ho.symm.trans ho')
  have hdn:=(relOk_edge hok ho).2 d hd
  have:(b.put o.dst v).eval (.tmp d)=v:=by
   rw [hd]
   simp only [Act.put,Act.eval,Array.getD_eq_getD_getElem?]
   rw [Array.getElem?_setIfInBounds_self_of_lt (by rw [h.base.tmps]; exact hdn)]
   rfl
  rw [this]
  exact hv
 ·rw [getD_set_ne' hk] at hl
  rw [eval_put_ne (fun e=>relOk_dst hok ho ho' (Ne.symm hk) e hd)]
  have hnd:behind l.toArray 6 (0+k) i=false:=by
   cases hb:behind l.toArray 6 (0+k) i with
   | false=>rfl
   | true =>
    rw [Nat.zero_add] at hb
    have:=behind_listed h.base 6 k i hb fun o1 ho1 e he hb1=>h.base.down k o1 ho1 hl e he hb1
    rw [hif] at this
    cases this
  exact hs.at_ l fs 0 k o' d (by simpa using ho') hd (by omega) hnd (h.new k o' d ho' hl hd)
theorem wpAny_relL {l:List Oper} {C:Chain} {S:Nat→World→Prop} {fs:List LFact} {a:Act} (hok:relOk l.toArray a.tmps.size=true) (hC:chainOk l.toArray C=true) (hfr:frOk C (fun _=>0) l.toArray.size=true)
  (hops:LooksL P l C S fs a 0 l) (hend:∀ u,S C.effs.length u→RegEnd (Q .normal) (fun i=>lfact fs i C.effs.length) u 0 l a) :
  ∀ (fuel:Nat) (listed:Array Bool) (j:Nat) (b:Act) (u:World),listed.toList.count false≤fuel→RelInvL P l.toArray C S fs a listed j b u→wpAny P .any l.toArray Q fuel listed b u:=by
 have hfin:∀ (listed:Array Bool) (j:Nat) (b:Act) (u:World),RelInvL P l.toArray C S fs a listed j b u→Region.ready .any l.toArray listed=[]→Q .normal b u:=fun listed j b u h hr=>by
  have hall:=h.base.done hok hr
  have hj:j=C.effs.length:=by
   rcases Nat.lt_or_ge j C.effs.length with hlt | hge
   ·have h0:=(h.base.effs j _ (List.getElem?_eq_getElem hlt))
    have hin:C.effs[j] < l.toArray.size:=by
     unfold chainOk at hC
     rw [Bool.and_eq_true] at hC
     have h1:=List.all_eq_true.1 hC.1 (C.effs[j],j) (List.mem_zipIdx_iff_getElem?.2 (by simp))
     rw [Bool.and_eq_true] at h1
     exact of_decide_eq_true h1.2
    have:=h0.1 (hall _ hin)
    omega
   ·have:=h.base.le; omega
  have hg:=h.good
  have hn:=h.new
  rw [hj] at hg hn
  refine RegEnd.run l 0 a b (hend u hg) h.base.defers h.base.tmps (fun t ht=>h.base.old t fun i o ho hd=>absurd hd (ht o (List.mem_of_getElem? (i:=i) (by simpa using ho)))) (fun i o d ho hd=>?_)
  have hl:=hall i (Array.getElem?_eq_some_iff.1 (show l.toArray[i]?=some o by simpa using ho)).1
  obtain ⟨v,ev,_⟩:=h.base.new i o d (by simpa using ho) hl hd
  have:=hn i o d (by simpa using ho) hl hd
  have hev:b.eval (.tmp d)=v:=by simp [Act.eval,ev]
  rw [hev] at this
  exact ⟨v,ev,by rw [Nat.zero_add]; exact this⟩
 intro fuel
 induction fuel with
 | zero =>
  intro listed j b u hc h
  have hr:Region.ready .any l.toArray listed=[]:=by
   cases hr:Region.ready .any l.toArray listed with
   | nil=>rfl
   | cons i r =>
    have hm:i ∈ Region.ready .any l.toArray listed:=by rw [hr]; exact List.mem_cons_self
    obtain ⟨hi,o,ho,_⟩:=mem_ready.1 hm
    have hlt:i < listed.size:=by rw [h.base.size]; exact (Array.getElem?_eq_some_iff.1 ho).1
    have hmem:false ∈ listed.toList:=by
     rw [Array.getD_eq_getD_getElem?,Array.getElem?_eq_getElem hlt] at hi
     have:listed[i]=false:=hi
     rw [← this]; simp
    have:=List.count_pos_iff.2 hmem
    omega
  exact ⟨hr,hfin listed j b u h hr⟩
 | succ fuel ih =>
  intro listed j b u hc h
  refine ⟨hfin listed j b u h,fun i hi=>?_⟩
  obtain ⟨hi0,o,ho,hdep⟩:=mem_ready.1 hi
  have hlt:i < listed.size:=by rw [h.base.size]; exact (Array.getElem?_eq_some_iff.1 ho).1
  have hli:listed[i]=false:=by
   rw [Array.getD_eq_getD_getElem?,Array.getElem?_eq_getElem hlt] at hi0
   exact hi0
  have hcnt:(listed.setIfInBounds i true).toList.count false≤fuel:=by
   rw [Array.toList_setIfInBounds,List.count_set (by simpa using hlt)]
   have hmem:false ∈ listed.toList:=by rw [← hli]; simp
   have:=List.count_pos_iff.2 hmem
   simp only [Array.getElem_toList,hli,beq_self_eq_true,if_true,Bool.true_beq,Bool.false_eq_true,if_false]
   omega
  have hlk:=LooksL.at_ l 0 hops i o (by simpa using ho)
  rw [Nat.zero_add] at hlk
  have hlook:=hlk j (h.base.range hC ho hi0 hdep).1 b.eval (yielded l.toArray b.tmps) u h.good (fun _=>rfl) (fun _=>rfl) (fun _=>rfl) (fun t ht=>by
    have:=h.base.old t fun i o ho hd=>absurd hd (free_of ht i o ho)
    unfold Act.eval; simp only [Array.getD_eq_getD_getElem?]
    rw [this]) (fun k o' d hj ho' hd'=>by
    obtain ⟨e,he,rfl,hb⟩:=dep_of hj
    obtain ⟨v,ev,fv⟩:=h.base.new e.on o' d ho' (hdep e he hb) hd'
    have hev:b.eval (.tmp d)=v:=by simp [Act.eval,ev]
    refine ⟨h.new e.on o' d ho' (hdep e he hb) hd',?_⟩
    unfold yielded
    rw [ho']
    simp only [Option.bind_some,hd',ev,hev]
    cases v <;> rfl)
  unfold wpOp
  rw [ho]
  show if Region.wanted o (yielded l.toArray b.tmps)=true then _ else _
  split
  ·rename_i hw
   have hg:=hlook.1 hw
   refine .inl ?_
   unfold Oper.wp
   generalize (execOp b.eval o).run P u=r at hg ⊢
   cases r with
   | halt x w'=>exact hg.elim
   | ok n w' =>
    cases n with
    | value v =>
     obtain ⟨f,s,t⟩:=hg
     exact ih _ _ _ _ hcnt (h.step hok hC hfr ho hi0 hdep f s t)
    | skip =>
     obtain ⟨f,s,t⟩:=hg
     exact ih _ _ _ _ hcnt (h.step hok hC hfr ho hi0 hdep f s t)
    | enter f args =>
     refine Calls.mono (show Calls P f args w' _ from hg) ?_
     rintro e w'' ⟨v,rfl,f,s,t⟩
     exact ih _ _ _ _ hcnt (h.step hok hC hfr ho hi0 hdep f s t)
    | _=>exact hg.elim
  ·rename_i hw
   have hw':Region.wanted o (yielded l.toArray b.tmps)=false:=by simpa using hw
   obtain ⟨f,s,t⟩:=hlook.2 hw'
   exact ih _ _ _ _ hcnt (h.step hok hC hfr ho hi0 hdep f s t)
theorem wp_region_relL {l:List Oper} {id:Nat} {a:Act} {w:World} (C:Chain) (S:Nat→World→Prop) (fs:List LFact) (hm:P.follows .mixedOrders=true)
  (hok:relOk l.toArray a.tmps.size=true) (hC:chainOk l.toArray C=true) (hfr:frOk C (fun _=>0) l.toArray.size=true) (hS:S 0 w.drew)
  (hops:LooksL P l C S fs a 0 l) (hend:∀ u,S C.effs.length u→RegEnd (Q .normal) (fun i=>lfact fs i C.effs.length) u 0 l a) :
  (Code.region id l.toArray true).wp P Q a w:=by
 refine wp_region_any hm ?_
 have hno:∀ i,(Array.replicate l.toArray.size false).getD i false=false:=fun i=>by
  rw [Array.getD_eq_getD_getElem?]
  rcases Nat.lt_or_ge i l.toArray.size with h | h
  ·rw [Array.getElem?_eq_getElem (by simpa using h)]; simp
  ·rw [Array.getElem?_eq_none (by simpa using h)]; rfl
 refine wpAny_relL hok hC hfr hops hend _ _ 0 _ _ ?_ ⟨⟨trivial,by simp,rfl,rfl,Nat.zero_le _,(fun m e _=>(by rw [hno]; simp)),(fun i o _ hl=>(by rw [hno] at hl; cases hl)),(fun _ _=>rfl),(fun i o d _ hl=>(by rw [hno] at hl; cases hl)),(fun i o _ hl=>(by rw [hno] at hl; cases hl))⟩,hS,(fun i o d _ hl=>(by rw [hno] at hl; cases hl))⟩
 simp
end
theorem LStable.nil_:LStable []:=fun f hf=>absurd hf (by simp)
theorem LStable.cons_ {f:LFact} {fs:List LFact} (h:∀ (j:Nat) (v:Value) (u u':World),Below u.heap.size u u'→f j v u→f j v u') (hs:LStable fs):LStable (f::fs):=fun g hg=>by
 rcases List.mem_cons.1 hg with rfl | hg
 ·exact h
 ·exact hs g hg
theorem leq_st (X:Value):∀ (j:Nat) (v:Value) (u u':World),Below u.heap.size u u'→leq X j v u→leq X j v u':=fun _ _ _ _ _ h=>h
def lat (m:Nat) (p:Value→World→Prop):LFact:=fun j v u=>j=m→p v u
def VStable (p:Value→World→Prop):Prop:=∀ (v:Value) (u u':World),Below u.heap.size u u'→p v u→p v u'
theorem lat_st {m:Nat} {p:Value→World→Prop} (h:VStable p):∀ (j:Nat) (v:Value) (u u':World),Below u.heap.size u u'→lat m p j v u→lat m p j v u':=fun _ v u u' hb hp hj=>h v u u' hb (hp hj)
def pLit (lo:Nat) (t:TypeId) (n:Nat) (cs:Array Value) (v:Value) (u:World):Prop:=∃ g,v=.slice (some ⟨g,0,none⟩) n n∧lo≤g∧Blk u g t cs
theorem pLit_st {lo:Nat} {t:TypeId} {n:Nat} {cs:Array Value}:VStable (pLit lo t n cs):=fun v u u' hb ⟨g,e,hg,ho⟩=>⟨g,e,hg,ho.below hb ho.lt⟩
theorem good_call {P:Program} {u:World} {F:Value→World→Prop} {S:World→Prop} {St:World→World→Prop} {f:FuncId} {args:Array Value} {Q:Ending→World→Prop} (h:Calls P f args u Q)
  (hq:∀ e w',Q e w'→∃ v,e=.returned v∧F v w'∧S w'∧St u w'):OpGood P F S St u (.ok (.enter f args) u):=h.mono hq
end Go.Proofs.YtafenffmgpcjcaaGreat
namespace Go.Proofs.YtafenffmgpcjcaaGreat
open Go.Shelf Go.RowKit Go.Sort
set_option linter.unusedVariables false
def sortFR_ren:Ren where
 f:=fun x=>match x with
  | 6=>215
  | 15=>250
  | 14=>249
  | 28=>272
  | 29=>273
  | 20=>264
  | 21=>265
  | 22=>266
  | 23=>267
  | 24=>268
  | 25=>269
  | 26=>270
  | 27=>271
  | 46=>287
  | 47=>288
  | 48=>289
  | 49=>290
  | 50=>291
  | 57=>295
  | n=>n
 t:=fun x=>match x with
  | 22=>187
  | 24=>71
  | 25=>252
  | 3=>3
  | 39=>278
  | 0=>0
  | 53=>197
  | 55=>297
  | 4=>4
  | 46=>290
  | 45=>289
  | 50=>225
  | 5=>5
  | 9=>9
  | 66=>306
  | 70=>310
  | 76=>314
  | 77=>315
  | n=>n
 g:=fun n=>n
set_option maxRecDepth 100000 in
theorem sortFR:SlLaysF0.n6 Tryz.prog sortFR_ren where
 mixed:=by kernel_rfl
 f6 := Exists.intro "slices.SortFunc[[]patchbay/api.FieldRef,patchbay/api.FieldRef]" ⟨of_decide_eq_true (id (Eq.refl true)), Tryz.func215.trans (congrArg some (by kernel_rfl))⟩
 f14 := Exists.intro "slices.pdqsortCmpFunc[patchbay/api.FieldRef]" ⟨of_decide_eq_true (id (Eq.refl true)), Tryz.func249.trans (congrArg some (by kernel_rfl))⟩
 f15:=Tryz.func250.trans (congrArg some (by kernel_rfl))
 f20 := Exists.intro "slices.insertionSortCmpFunc[patchbay/api.FieldRef]" ⟨of_decide_eq_true (id (Eq.refl true)), Tryz.func264.trans (congrArg some (by kernel_rfl))⟩
 f21 := Exists.intro "slices.heapSortCmpFunc[patchbay/api.FieldRef]" ⟨of_decide_eq_true (id (Eq.refl true)), Tryz.func265.trans (congrArg some (by kernel_rfl))⟩
 f22 := Exists.intro "slices.breakPatternsCmpFunc[patchbay/api.FieldRef]" ⟨of_decide_eq_true (id (Eq.refl true)), Tryz.func266.trans (congrArg some (by kernel_rfl))⟩
 f23 := Exists.intro "slices.choosePivotCmpFunc[patchbay/api.FieldRef]" ⟨of_decide_eq_true (id (Eq.refl true)), Tryz.func267.trans (congrArg some (by kernel_rfl))⟩
 f24 := Exists.intro "slices.reverseRangeCmpFunc[patchbay/api.FieldRef]" ⟨of_decide_eq_true (id (Eq.refl true)), Tryz.func268.trans (congrArg some (by kernel_rfl))⟩
 f25 := Exists.intro "slices.partialInsertionSortCmpFunc[patchbay/api.FieldRef]" ⟨of_decide_eq_true (id (Eq.refl true)), Tryz.func269.trans (congrArg some (by kernel_rfl))⟩
 f26 := Exists.intro "slices.partitionEqualCmpFunc[patchbay/api.FieldRef]" ⟨of_decide_eq_true (id (Eq.refl true)), Tryz.func270.trans (congrArg some (by kernel_rfl))⟩
 f27 := Exists.intro "slices.partitionCmpFunc[patchbay/api.FieldRef]" ⟨of_decide_eq_true (id (Eq.refl true)), Tryz.func271.trans (congrArg some (by kernel_rfl))⟩
 f28:=Tryz.func272.trans (congrArg some (by kernel_rfl))
 f29:=Tryz.func273.trans (congrArg some (by kernel_rfl))
 f46 := Exists.intro "slices.siftDownCmpFunc[patchbay/api.FieldRef]" ⟨of_decide_eq_true (id (Eq.refl true)), Tryz.func287.trans (congrArg some (by kernel_rfl))⟩
 f47:=Tryz.func288.trans (congrArg some (by kernel_rfl))
 f48:=Tryz.func289.trans (congrArg some (by kernel_rfl))
 f49 := Exists.intro "slices.medianAdjacentCmpFunc[patchbay/api.FieldRef]" ⟨of_decide_eq_true (id (Eq.refl true)), Tryz.func290.trans (congrArg some (by kernel_rfl))⟩
 f50 := Exists.intro "slices.medianCmpFunc[patchbay/api.FieldRef]" ⟨of_decide_eq_true (id (Eq.refl true)), Tryz.func291.trans (congrArg some (by kernel_rfl))⟩
 f57 := Exists.intro "slices.order2CmpFunc[patchbay/api.FieldRef]" ⟨of_decide_eq_true (id (Eq.refl true)), Tryz.func295.trans (congrArg some (by kernel_rfl))⟩
 t0:=Tryz.underlying0
 a0:=Tryz.isAgg0
 z0:=Tryz.sizeOf0
 v0:=Tryz.zeroValue0
 t3:=Tryz.underlying3
 a3:=Tryz.isAgg3
 z3:=Tryz.sizeOf3
 v3:=Tryz.zeroValue3
 t4:=Tryz.underlying4
 a4:=Tryz.isAgg4
 z4:=Tryz.sizeOf4
 v4:=Tryz.zeroValue4
 t5:=Tryz.underlying5
 a5:=Tryz.isAgg5
 z5:=Tryz.sizeOf5
 v5:=Tryz.zeroValue5
 t9:=Tryz.underlying9
 a9:=Tryz.isAgg9
 z9:=Tryz.sizeOf9
 v9:=Tryz.zeroValue9
 t22:=Tryz.underlying187
 a22:=Tryz.isAgg187
 z22:=Tryz.sizeOf187
 v22:=Tryz.zeroValue187
 t25:=Tryz.underlying252
 a25:=Tryz.isAgg252
 z25:=Tryz.sizeOf252
 v25:=Tryz.zeroValue252
 t39:=Tryz.underlying278
 a39:=Tryz.isAgg278
 z39:=Tryz.sizeOf278
 v39:=Tryz.zeroValue278
 t45:=Tryz.underlying289
 a45:=Tryz.isAgg289
 z45:=Tryz.sizeOf289
 v45:=Tryz.zeroValue289
 t46:=Tryz.underlying290
 a46:=Tryz.isAgg290
 z46:=Tryz.sizeOf290
 v46:=Tryz.zeroValue290
 t50:=Tryz.underlying225
 a50:=Tryz.isAgg225
 z50:=Tryz.sizeOf225
 v50:=Tryz.zeroValue225
 t53:=Tryz.underlying197
 a53:=Tryz.isAgg197
 z53:=Tryz.sizeOf197
 v53:=Tryz.zeroValue197
 t55:=Tryz.underlying297
 a55:=Tryz.isAgg297
 z55:=Tryz.sizeOf297
 v55:=Tryz.zeroValue297
 t66:=Tryz.underlying306
 a66:=Tryz.isAgg306
 z66:=Tryz.sizeOf306
 v66:=Tryz.zeroValue306
 t70:=Tryz.underlying310
 a70:=Tryz.isAgg310
 z70:=Tryz.sizeOf310
 v70:=Tryz.zeroValue310
 t76:=Tryz.underlying314
 a76:=Tryz.isAgg314
 z76:=Tryz.sizeOf314
 v76:=Tryz.zeroValue314
 t77:=Tryz.underlying315
 a77:=Tryz.isAgg315
 z77:=Tryz.sizeOf315
 v77:=Tryz.zeroValue315
def sortZ_ren:Ren where
 f:=fun x=>match x with
  | 53=>220
  | 64=>250
  | 63=>252
  | 78=>272
  | 79=>273
  | 70=>274
  | 71=>275
  | 72=>276
  | 73=>277
  | 74=>278
  | 75=>279
  | 59=>280
  | 76=>281
  | 77=>282
  | 88=>292
  | 89=>288
  | 90=>289
  | 91=>293
  | 92=>294
  | 68=>251
  | 96=>296
  | n=>n
 t:=fun x=>match x with
  | 22=>29
  | 23=>3
  | 3=>3
  | 51=>278
  | 0=>0
  | 67=>197
  | 69=>297
  | 4=>4
  | 61=>290
  | 60=>289
  | 44=>225
  | 5=>5
  | 9=>9
  | 75=>306
  | 79=>310
  | 83=>314
  | 84=>315
  | n=>n
 g:=fun n=>n
set_option maxRecDepth 100000 in
theorem sortZ:SlLaysN.n53 Tryz.prog sortZ_ren where
 mixed:=by kernel_rfl
 f53 := Exists.intro "slices.Sort[[]int,int]" ⟨of_decide_eq_true (id (Eq.refl true)), Tryz.func220.trans (congrArg some (by kernel_rfl))⟩
 f59 := Exists.intro "cmp.Less[int]" ⟨of_decide_eq_true (id (Eq.refl true)), Tryz.func280.trans (congrArg some (by kernel_rfl))⟩
 f63 := Exists.intro "slices.pdqsortOrdered[int]" ⟨of_decide_eq_true (id (Eq.refl true)), Tryz.func252.trans (congrArg some (by kernel_rfl))⟩
 f64:=Tryz.func250.trans (congrArg some (by kernel_rfl))
 f68 := Exists.intro "cmp.isNaN[int]" ⟨of_decide_eq_true (id (Eq.refl true)), Tryz.func251.trans (congrArg some (by kernel_rfl))⟩
 f70 := Exists.intro "slices.insertionSortOrdered[int]" ⟨of_decide_eq_true (id (Eq.refl true)), Tryz.func274.trans (congrArg some (by kernel_rfl))⟩
 f71 := Exists.intro "slices.heapSortOrdered[int]" ⟨of_decide_eq_true (id (Eq.refl true)), Tryz.func275.trans (congrArg some (by kernel_rfl))⟩
 f72 := Exists.intro "slices.breakPatternsOrdered[int]" ⟨of_decide_eq_true (id (Eq.refl true)), Tryz.func276.trans (congrArg some (by kernel_rfl))⟩
 f73 := Exists.intro "slices.choosePivotOrdered[int]" ⟨of_decide_eq_true (id (Eq.refl true)), Tryz.func277.trans (congrArg some (by kernel_rfl))⟩
 f74 := Exists.intro "slices.reverseRangeOrdered[int]" ⟨of_decide_eq_true (id (Eq.refl true)), Tryz.func278.trans (congrArg some (by kernel_rfl))⟩
 f75 := Exists.intro "slices.partialInsertionSortOrdered[int]" ⟨of_decide_eq_true (id (Eq.refl true)), Tryz.func279.trans (congrArg some (by kernel_rfl))⟩
 f76 := Exists.intro "slices.partitionEqualOrdered[int]" ⟨of_decide_eq_true (id (Eq.refl true)), Tryz.func281.trans (congrArg some (by kernel_rfl))⟩
 f77 := Exists.intro "slices.partitionOrdered[int]" ⟨of_decide_eq_true (id (Eq.refl true)), Tryz.func282.trans (congrArg some (by kernel_rfl))⟩
 f78:=Tryz.func272.trans (congrArg some (by kernel_rfl))
 f79:=Tryz.func273.trans (congrArg some (by kernel_rfl))
 f88 := Exists.intro "slices.siftDownOrdered[int]" ⟨of_decide_eq_true (id (Eq.refl true)), Tryz.func292.trans (congrArg some (by kernel_rfl))⟩
 f89:=Tryz.func288.trans (congrArg some (by kernel_rfl))
 f90:=Tryz.func289.trans (congrArg some (by kernel_rfl))
 f91 := Exists.intro "slices.medianAdjacentOrdered[int]" ⟨of_decide_eq_true (id (Eq.refl true)), Tryz.func293.trans (congrArg some (by kernel_rfl))⟩
 f92 := Exists.intro "slices.medianOrdered[int]" ⟨of_decide_eq_true (id (Eq.refl true)), Tryz.func294.trans (congrArg some (by kernel_rfl))⟩
 f96 := Exists.intro "slices.order2Ordered[int]" ⟨of_decide_eq_true (id (Eq.refl true)), Tryz.func296.trans (congrArg some (by kernel_rfl))⟩
 t0:=Tryz.underlying0
 a0:=Tryz.isAgg0
 z0:=Tryz.sizeOf0
 v0:=Tryz.zeroValue0
 t3:=Tryz.underlying3
 a3:=Tryz.isAgg3
 z3:=Tryz.sizeOf3
 v3:=Tryz.zeroValue3
 t4:=Tryz.underlying4
 a4:=Tryz.isAgg4
 z4:=Tryz.sizeOf4
 v4:=Tryz.zeroValue4
 t5:=Tryz.underlying5
 a5:=Tryz.isAgg5
 z5:=Tryz.sizeOf5
 v5:=Tryz.zeroValue5
 t9:=Tryz.underlying9
 a9:=Tryz.isAgg9
 z9:=Tryz.sizeOf9
 v9:=Tryz.zeroValue9
 t22:=Tryz.underlying29
 a22:=Tryz.isAgg29
 z22:=Tryz.sizeOf29
 v22:=Tryz.zeroValue29
 t23:=Tryz.underlying3
 a23:=Tryz.isAgg3
 z23:=Tryz.sizeOf3
 v23:=Tryz.zeroValue3
 t44:=Tryz.underlying225
 a44:=Tryz.isAgg225
 z44:=Tryz.sizeOf225
 v44:=Tryz.zeroValue225
 t51:=Tryz.underlying278
 a51:=Tryz.isAgg278
 z51:=Tryz.sizeOf278
 v51:=Tryz.zeroValue278
 t60:=Tryz.underlying289
 a60:=Tryz.isAgg289
 z60:=Tryz.sizeOf289
 v60:=Tryz.zeroValue289
 t61:=Tryz.underlying290
 a61:=Tryz.isAgg290
 z61:=Tryz.sizeOf290
 v61:=Tryz.zeroValue290
 t67:=Tryz.underlying197
 a67:=Tryz.isAgg197
 z67:=Tryz.sizeOf197
 v67:=Tryz.zeroValue197
 t69:=Tryz.underlying297
 a69:=Tryz.isAgg297
 z69:=Tryz.sizeOf297
 v69:=Tryz.zeroValue297
 t75:=Tryz.underlying306
 a75:=Tryz.isAgg306
 z75:=Tryz.sizeOf306
 v75:=Tryz.zeroValue306
 t79:=Tryz.underlying310
 a79:=Tryz.isAgg310
 z79:=Tryz.sizeOf310
 v79:=Tryz.zeroValue310
 t83:=Tryz.underlying314
 a83:=Tryz.isAgg314
 z83:=Tryz.sizeOf314
 v83:=Tryz.zeroValue314
 t84:=Tryz.underlying315
 a84:=Tryz.isAgg315
 z84:=Tryz.sizeOf315
 v84:=Tryz.zeroValue315
def compZ_ren:Ren where
 f:=fun x=>match x with
  | 43=>221
  | n=>n
 t:=fun x=>match x with
  | 22=>29
  | 23=>3
  | 3=>3
  | 4=>4
  | 0=>0
  | n=>n
 g:=fun n=>n
set_option maxRecDepth 100000 in
theorem compZ:SlLaysN.n43 Tryz.prog compZ_ren where
 mixed:=by kernel_rfl
 f43 := Exists.intro "slices.Compact[[]int,int]" ⟨of_decide_eq_true (id (Eq.refl true)), Tryz.func221.trans (congrArg some (by kernel_rfl))⟩
 t0:=Tryz.underlying0
 a0:=Tryz.isAgg0
 z0:=Tryz.sizeOf0
 v0:=Tryz.zeroValue0
 t3:=Tryz.underlying3
 a3:=Tryz.isAgg3
 z3:=Tryz.sizeOf3
 v3:=Tryz.zeroValue3
 t4:=Tryz.underlying4
 a4:=Tryz.isAgg4
 z4:=Tryz.sizeOf4
 v4:=Tryz.zeroValue4
 t22:=Tryz.underlying29
 a22:=Tryz.isAgg29
 z22:=Tryz.sizeOf29
 v22:=Tryz.zeroValue29
 t23:=Tryz.underlying3
 a23:=Tryz.isAgg3
 z23:=Tryz.sizeOf3
 v23:=Tryz.zeroValue3
 i23:=Eq.refl (some (some (Value.int IntKind.i64 0),1,8))
end Go.Proofs.YtafenffmgpcjcaaGreat
namespace Go.Proofs.YtafenffmgpcjcaaGreat
open Go.Proofs.YtafenffmgpcjcaaGreat.Vf (sEq)
set_option linter.unusedVariables false
def NZ (o:Option Diag):Prop:=∀ e,o=some e→e.1 ≠ 0
theorem NZ.req (c p i s:Int):NZ (req c p i s):=by
 intro e h
 unfold Go.Proofs.YtafenffmgpcjcaaGreat.req at h
 split at h
 ·cases h
 ·injection h with h; subst h; assumption
theorem NZ.none_:NZ none:=fun e h=>by cases h
theorem NZ.firstD:∀ {l:List (Option Diag)},(∀ x ∈ l,NZ x)→NZ (firstD l)
 | [],_=>NZ.none_
 | x::l,h=>by
  intro e he
  unfold Go.Proofs.YtafenffmgpcjcaaGreat.firstD at he
  cases x with
  | none=>exact NZ.firstD (fun y hy=>h y (List.mem_cons_of_mem _ hy)) e he
  | some y=>exact h _ (List.mem_cons_self ..) e he
theorem NZ.scan {n:Nat} {f:Nat→Option Diag} (h:∀ i,NZ (f i)):NZ (scan n f):=by
 intro e he
 unfold Go.Proofs.YtafenffmgpcjcaaGreat.scan at he
 obtain ⟨i,_,hi⟩:=List.exists_of_findSome?_eq_some he
 exact h i e hi
theorem firstD_none {l:List (Option Diag)} (h:firstD l=none):∀ x ∈ l,x=none:=by
 induction l with
 | nil=>intro x hx; cases hx
 | cons y l ih =>
  intro x hx
  unfold firstD at h
  cases y with
  | none=>rcases List.mem_cons.1 hx with rfl | hx; rfl; exact ih h x hx
  | some y=>cases h
theorem req_none {c p i s:Int} (h:req c p i s=none):c=0:=by
 unfold req at h
 split at h
 ·assumption
 ·cases h
theorem scan_all {E:Type} {n:Nat} {f:Nat→Option E} (h:scan n f=none):∀ i,i < n→f i=none:=fun i hi =>
 List.findSome?_eq_none_iff.1 h i (List.mem_range.2 hi)
theorem NZ.hdr (d:PrgD) (i:Nat):NZ (prgHdr d i):=by
 unfold prgHdr
 split
 ·exact NZ.none_
 ·exact NZ.firstD fun x hx=>by simp at hx; rcases hx with rfl | rfl | rfl <;> exact NZ.req _ _ _ _
theorem NZ.met (d:PrgD) (i:Nat):NZ (prgMeta d i):=by
 unfold prgMeta
 split
 ·exact NZ.none_
 ·exact NZ.firstD fun x hx=>by simp at hx; rcases hx with rfl | rfl | rfl <;> exact NZ.req _ _ _ _
theorem NZ.reg (d:PrgD) (i:Nat):NZ (prgReg d i):=by
 unfold prgReg
 split
 ·exact NZ.none_
 ·exact NZ.firstD fun x hx=>by simp at hx; rcases hx with rfl | rfl <;> exact NZ.req _ _ _ _
theorem NZ.all (d:PrgD):NZ (Go.Proofs.YtafenffmgpcjcaaGreat.firstD [prgLimits d,Go.Proofs.YtafenffmgpcjcaaGreat.scan d.headers.l.length (prgHdr d),prgMetas d,prgObjs d,prgFlowW d]):=by
 refine NZ.firstD fun x hx=>?_
 simp only [List.mem_cons,List.not_mem_nil,or_false] at hx
 rcases hx with rfl | rfl | rfl | rfl | rfl
 ·exact NZ.firstD fun x hx=>by simp only [List.mem_cons,List.not_mem_nil,or_false] at hx; rcases hx with rfl | rfl | rfl | rfl | rfl <;> exact NZ.req _ _ _ _
 ·exact NZ.scan (NZ.hdr d)
 ·exact NZ.firstD fun x hx=>by
   simp only [List.mem_cons,List.not_mem_nil,or_false] at hx
   rcases hx with rfl | rfl | rfl | rfl | rfl
   ·exact NZ.req _ _ _ _
   ·exact NZ.scan (NZ.met d)
   all_goals exact NZ.req _ _ _ _
 ·exact NZ.firstD fun x hx=>by
   simp only [List.mem_cons,List.not_mem_nil,or_false] at hx
   rcases hx with rfl | rfl | rfl
   ·exact NZ.scan (NZ.reg d)
   ·exact NZ.scan fun i=>NZ.firstD fun x hx=>by simp only [List.mem_cons,List.not_mem_nil,or_false] at hx; rcases hx with rfl | rfl <;> exact NZ.req _ _ _ _
   ·exact NZ.scan fun i=>NZ.firstD fun x hx=>by simp only [List.mem_cons,List.not_mem_nil,or_false] at hx; rcases hx with rfl | rfl <;> exact NZ.req _ _ _ _
 ·exact NZ.firstD fun x hx=>by simp only [List.mem_cons,List.not_mem_nil,or_false] at hx; rcases hx with rfl | rfl | rfl <;> exact NZ.req _ _ _ _
structure PrgC (d:PrgD):Prop where
 h:d.headers.l.length≤8
 r:d.regs.l.length≤4
 a:d.acts.l.length≤16
 t:d.tables.l.length≤12
 m:d.meta_.l.length≤12
 hd:∀ x ∈ d.headers.l,hdrCheck x=0
 ac:∀ i:Nat,i < d.acts.l.length→(actCheck d i).2=0
 tc:∀ i:Nat,i < d.tables.l.length→(tblCheck d i).2=0
 cc:(ctlCheckW d).2=0
theorem if_zero {p:Prop} [Decidable p] {x:Int} (hx:x ≠ 0) (h:(if p then x else 0)=0):¬ p:=by
 intro hp
 rw [if_pos hp] at h
 exact hx h
theorem prgC_of {d:PrgD} (h:(prgCheckW d).1=0):PrgC d:=by
 have h0:firstD [prgLimits d,scan d.headers.l.length (prgHdr d),prgMetas d,prgObjs d,prgFlowW d]=none:=by
  cases he:firstD [prgLimits d,scan d.headers.l.length (prgHdr d),prgMetas d,prgObjs d,prgFlowW d] with
  | none=>rfl
  | some e =>
   unfold prgCheckW at h
   rw [he] at h
   exact absurd h (NZ.all d e he)
 have hall:=firstD_none h0
 have h1:=firstD_none (show firstD _=none from hall (prgLimits d) (by simp))
 have h2:=scan_all (hall (scan d.headers.l.length (prgHdr d)) (by simp))
 have h3:=firstD_none (show firstD _=none from hall (prgMetas d) (by simp))
 have h4:=firstD_none (show firstD _=none from hall (prgObjs d) (by simp))
 have h5:=firstD_none (show firstD _=none from hall (prgFlowW d) (by simp))
 refine ⟨?_,?_,?_,?_,?_,fun x hx=>?_,fun i hi=>?_,fun i hi=>?_,?_⟩
 ·have:=if_zero (by decide) (req_none (h1 (req (if 8 < d.headers.l.length then 12 else 0) 0 1 0) (by simp))); omega
 ·have:=if_zero (by decide) (req_none (h1 (req (if 4 < d.regs.l.length then 12 else 0) 0 3 0) (by simp))); omega
 ·have:=if_zero (by decide) (req_none (h1 (req (if 16 < d.acts.l.length then 12 else 0) 0 4 0) (by simp))); omega
 ·have:=if_zero (by decide) (req_none (h1 (req (if 12 < d.tables.l.length then 12 else 0) 0 5 0) (by simp))); omega
 ·have:=if_zero (by decide) (req_none (h3 (req (if 12 < d.meta_.l.length then 12 else 0) 2 0 0) (by simp))); omega
 ·obtain ⟨i,hi,rfl⟩:=List.mem_iff_getElem.1 hx
  have:=h2 i hi
  unfold prgHdr at this
  rw [List.getElem?_eq_getElem hi] at this
  exact req_none (firstD_none this _ (List.mem_cons_self ..))
 ·have:=scan_all (h4 (scan d.acts.l.length (prgAct d)) (by simp)) i hi
  exact req_none (firstD_none this _ (List.mem_cons_self ..))
 ·have:=scan_all (h4 (scan d.tables.l.length (prgTbl d)) (by simp)) i hi
  exact req_none (firstD_none this _ (List.mem_cons_self ..))
 ·exact req_none (h5 (req (ctlCheckW d).2 7 (ctlCheckW d).1 0) (by simp))
theorem getD_zero {o:Option (Int × Int)} (hn:∀ e,o=some e→e.2 ≠ 0) (h:(o.getD (0,0)).2=0):o=none:=by
 cases o with
 | none=>rfl
 | some e=>exact absurd h (hn e rfl)
theorem exCheck_len {d:PrgD} {ps:List FldD} {n:List ExD} (h:(exCheck d ps n).2=0):n.length≤24:=by
 unfold exCheck at h
 split at h
 ·cases h
 ·omega
theorem actC_of {d:PrgD} {a:ActD} (h:(actCheckA d a).2=0):a.params.l.length≤4∧a.body.l.length≤12∧∀ s ∈ a.body.l,stCheck d a.params.l s=0:=by
 unfold actCheckA at h
 split at h
 ·rename_i h1; exact absurd h h1
 ·rename_i h1
  have h1:actDecl a=0:=by omega
  have h2:¬ (4 < a.params.l.length∨12 < a.body.l.length):=by
   unfold actDecl at h1
   split at h1
   ·cases h1
   ·split at h1
    ·cases h1
    ·assumption
  have h3:=getD_zero (fun e he=>by
   unfold scan at he
   obtain ⟨i,_,hi⟩:=List.exists_of_findSome?_eq_some he
   split at hi
   ·cases hi
   ·split at hi
    ·cases hi
    ·injection hi with hi; subst hi; assumption) h
  refine ⟨by omega,by omega,fun s hs=>?_⟩
  obtain ⟨i,hi,rfl⟩:=List.mem_iff_getElem.1 hs
  have:=scan_all h3 i hi
  rw [List.getElem?_eq_getElem hi] at this
  simp only at this
  split at this
  ·assumption
  ·cases this
theorem stC_of {d:PrgD} {ps:List FldD} {s:StD} (h:stCheck d ps s=0) :
  (s.kind=1∨s.kind=2∨s.kind=3∨s.kind=4∨s.kind=5)∧((s.kind=2∨s.kind=3)→0≤s.hdr∧s.hdr < d.headers.l.length) ∧
  ((s.kind=1∨s.kind=5)→s.value.l.length≤24)∧((s.kind=4∨s.kind=5)→s.index.l.length≤24):=by
 have hval:∀ w,valCheck d ps s.value.l w=0→s.value.l.length≤24:=fun w hv=>by
  unfold valCheck at hv
  split at hv
  ·cases hv
  ·exact exCheck_len hv
 unfold stCheck at h
 split at h
 ·rename_i h1
  split at h
  ·cases h
  ·exact ⟨by omega,by omega,fun _=>hval _ h,by omega⟩
 ·rename_i h1
  split at h
  ·rename_i h2
   split at h
   ·cases h
   ·exact ⟨by omega,fun _=>by omega,by omega,by omega⟩
  ·rename_i h2
   split at h
   ·rename_i h3
    split at h
    ·cases h
    ·split at h
     ·cases h
     ·split at h
      ·exact absurd h (by assumption)
      ·rename_i h5
       have hi:(exCheck d ps s.index.l).2=0:=by omega
       split at h
       ·exact ⟨by omega,by omega,fun _=>hval _ h,fun _=>exCheck_len hi⟩
       ·exact ⟨by omega,by omega,by omega,fun _=>exCheck_len hi⟩
   ·cases h
theorem hdrC_of {h:HdrD} (hc:hdrCheck h=0):h.fields.l.length≤12:=by
 unfold hdrCheck at hc
 split at hc
 ·cases hc
 ·split at hc
  ·cases hc
  ·split at hc
   ·cases hc
   ·omega
theorem tblC_of {d:PrgD} {t:TblD} (h:(tblCheckA d t).2=0):t.keys.l.length≤6∧t.acts.l.length≤16∧1≤t.size∧t.size≤256:=by
 unfold tblCheckA at h
 split at h
 ·cases h
 ·split at h
  ·cases h
  ·split at h
   ·cases h
   ·omega
theorem actCheck_at {d:PrgD} {k:Nat} {x:ActD} (h:d.acts.l[k]?=some x):actCheck d (k:Int)=actCheckA d x:=by
 unfold actCheck
 rw [if_neg (by omega),Int.toNat_natCast,h]
theorem tblCheck_nat {d:PrgD} {k:Nat} {x:TblD} (h:d.tables.l[k]?=some x):tblCheck d (k:Int)=tblCheckA d x:=by
 unfold tblCheck
 rw [if_neg (by omega),Int.toNat_natCast,h]
set_option linter.unusedSimpArgs false
end Go.Proofs.YtafenffmgpcjcaaGreat
namespace Go.Proofs.YtafenffmgpcjcaaGreat
open Go.RowKit Go.Proofs.YtafenffmgpcjcaaGreat.Vf
set_option linter.unusedVariables false
set_option linter.unusedSimpArgs false
set_option maxRecDepth 100000
set_option maxHeartbeats 4000000
theorem getD_z {o:Option Int} (hn:∀ e,o=some e→e ≠ 0) (h:o.getD 0=0):o=none:=by
 cases o with
 | none=>rfl
 | some e=>exact absurd h (hn e rfl)
theorem widthsOk_of {d:PrgD} (hC:PrgC d):WidthsOk d:=fun x hx=>by
 obtain ⟨i,hi,rfl⟩:=List.mem_iff_getElem.1 hx
 have h1:=hC.ac i hi
 rw [actCheck_at (List.getElem?_eq_getElem hi)] at h1
 refine ⟨by have:=(actC_of h1).1; omega,fun f hf=>?_⟩
 have h2:actDecl d.acts.l[i]=0:=by
  unfold actCheckA at h1
  split at h1
  ·rename_i h3; exact absurd h1 h3
  ·omega
 have h3:(scan d.acts.l[i].params.l.length (hdrField d.acts.l[i].params.l)).getD 0=0:=by
  unfold actDecl at h2
  split at h2
  ·cases h2
  ·split at h2
   ·cases h2
   ·exact h2
 have h4:=getD_z (fun e he=>by
   unfold scan at he
   obtain ⟨i,_,hi⟩:=List.exists_of_findSome?_eq_some he
   unfold hdrField at hi
   split at hi
   ·cases hi
   ·split at hi
    ·injection hi with hi; omega
    ·split at hi
     ·injection hi with hi; omega
     ·split at hi
      ·injection hi with hi; omega
      ·cases hi) h3
 obtain ⟨j,hj,rfl⟩:=List.mem_iff_getElem.1 hf
 have h5:=scan_all h4 j hj
 unfold hdrField at h5
 rw [List.getElem?_eq_getElem hj] at h5
 simp only at h5
 split at h5
 ·cases h5
 ·split at h5
  ·cases h5
  ·rename_i hb
   unfold badW at hb
   simp only [Bool.or_eq_true,decide_eq_true_eq,not_or] at hb
   omega
def tblOf (d:PrgD) (t:Int):Option TblD:=if t < 0 then none else d.tables.l[t.toNat]?
def blocksOf (n size:Int):Int:=(n+size - 1) / size
def tblCost (d:PrgD) (i:Int):Int × Int :=
 if (prgCheckW d).1=0 then (match tblOf d i with
  | none=>(0,0)
  | some t=>if t.keys.l.length=0 then (0,0) else if tblKind d i=1 then (blocksOf (t.size * (tblBits d i+(8+argBits d t))) 4096,0) else (blocksOf (t.size * (8+argBits d t)) 4096,blocksOf (t.size * tblBits d i) 2048)) else (0,0)
theorem argBits_bd {d:PrgD} (hW:WidthsOk d) (t:TblD):0≤argBits d t∧argBits d t≤32000:=by
 unfold argBits
 have key:∀ (l:List Int) (m:Int),0≤m∧m≤32000→0≤l.foldl (argStep d) m∧l.foldl (argStep d) m≤32000:=by
  intro l
  induction l with
  | nil=>exact fun m h=>h
  | cons a l ih =>
   intro m h
   refine ih _ ?_
   rcases actAt (d:=d) a with ⟨c1,hr⟩ | ⟨c1,c2,hr⟩ | ⟨c1,c2,c3,x,hx,hx',hr⟩ <;> (unfold argStep; rw [hr])
   ·exact h
   ·exact h
   ·have hx2:=hW x (List.mem_of_getElem? hx')
    have:=sumW_bd hx2.2 x.params.l.length
    rw [List.take_length] at this
    show 0≤max m (sumW x.params.l)∧max m (sumW x.params.l)≤32000
    omega
 exact key _ 0 ⟨by omega,by omega⟩
theorem cost_g (d:PrgD) (ho:PrgOk d) (i:Int):Gives Tryz.prog 118 [fPrg d,intF i] (fRes (tblCost d i)):=by
 refine Gives.of mixed Tryz.func118 rfl rfl rfl (by kernel_rfl) ?_
 simp [fPrg,cPrg]
 refine call_g (prg_g d ho) ?_
 by_cases h:(prgCheckW d).1=0
 case neg =>
  have hv:tblCost d i=(0,0):=if_neg h
  simp [h,hv]
 have hC:=prgC_of h
 have hv:tblCost d i=match tblOf d i with
  | none=>(0,0)
  | some t=>if t.keys.l.length=0 then (0,0) else if tblKind d i=1 then (blocksOf (t.size * (tblBits d i+(8+argBits d t))) 4096,0) else (blocksOf (t.size * (8+argBits d t)) 4096,blocksOf (t.size * tblBits d i) 2048):=if_pos h
 rcases tblAt (d:=d) i with ⟨c1,hr⟩ | ⟨c1,c2,hr⟩ | ⟨c0,c1,c2,c3,t,hx,hx',hr⟩
 ·have hv:tblCost d i=(0,0):=by rw [hv]; unfold tblOf; rw [hr]
  simp [h,c1,hv]
 ·have hv:tblCost d i=(0,0):=by rw [hv]; unfold tblOf; rw [hr]
  simp [h,c1,c2,hv]
 have hv:tblCost d i=if t.keys.l.length=0 then (0,0) else if tblKind d i=1 then (blocksOf (t.size * (tblBits d i+(8+argBits d t))) 4096,0) else (blocksOf (t.size * (8+argBits d t)) 4096,blocksOf (t.size * tblBits d i) 2048):=by rw [hv]; unfold tblOf; rw [hr]
 by_cases k0:t.keys.l.length=0
 ·have k0':(t.keys.l.length:Int)=0:=by omega
  rw [if_pos k0] at hv
  simp [h,c0,c1,c2,c3,hx,k0,k0',hv]
 rw [if_neg k0] at hv
 have hm:=List.mem_of_getElem? hx'
 have hal:d.acts.l.length≤1000:=by have:=hC.a; omega
 have hW:=widthsOk_of hC
 have hbd:=tblWidths_bd d i
 have hbb:=isum_32 hbd.2
 have hbits:0≤tblBits d i∧tblBits d i≤192:=by unfold tblBits; omega
 have htc:(tblCheck d i).2=0:=by
  have:=hC.tc i.toNat c3
  rwa [show ((i.toNat:Nat):Int)=i by omega] at this
 have hsz:1≤t.size∧t.size≤256∧t.acts.l.length≤16:=by
  have htc:=htc
  unfold tblCheck at htc
  rw [hr] at htc
  have htc:(tblCheckA d t).2=0:=htc
  unfold tblCheckA at htc
  split at htc
  ·cases htc
  ·split at htc
   ·cases htc
   ·split at htc
    ·cases htc
    ·omega
 have hne:¬ t.keys.l=[]:=fun h=>k0 (by rw [h]; rfl)
 have k0':¬ (t.keys.l.length:Int)=0:=by omega
 simp [h,c0,c1,c2,c3,hx,k0,k0',hne]
 refine call_g (bitsT_g d ho.nm ho.tbl hal i) ?_
 simp [c0,c3,hx]
 refine call_g (argBits_g d t hW (by unfold maxLen; omega)) ?_
 have hab:=argBits_bd hW t
 have w1:=wrap64 (x:=8+argBits d t) (by omega) (by omega)
 simp [w1]
 refine call_g (kindT_g d ho.nm ho.tbl hal i) ?_
 generalize argBits d t=A at hab hv w1
 generalize tblBits d i=B at hbits hv
 have m1:0≤t.size * (B+(8+A))∧t.size * (B+(8+A))≤256 * 33000:=⟨Int.mul_nonneg (by omega) (by omega),Int.mul_le_mul hsz.2.1 (by omega) (by omega) (by omega)⟩
 have m2:0≤t.size * (8+A)∧t.size * (8+A)≤256 * 33000:=⟨Int.mul_nonneg (by omega) (by omega),Int.mul_le_mul hsz.2.1 (by omega) (by omega) (by omega)⟩
 have m3:0≤t.size * B∧t.size * B≤256 * 33000:=⟨Int.mul_nonneg (by omega) (by omega),Int.mul_le_mul hsz.2.1 (by omega) (by omega) (by omega)⟩
 have w2:=wrap64 (x:=B+(8+A)) (by omega) (by omega)
 have w3:=wrap64 (x:=t.size * (B+(8+A))) (by omega) (by omega)
 have w4:=wrap64 (x:=t.size * (8+A)) (by omega) (by omega)
 have w5:=wrap64 (x:=t.size * B) (by omega) (by omega)
 by_cases kk:tblKind d i=1
 ·rw [if_pos kk] at hv
  simp [kk,w2,w3]
  refine call_g (blocks_g (t.size * (B+(8+A))) 4096 (by omega) (by omega)) ?_
  simp [hv,blocksOf]
 ·rw [if_neg kk] at hv
  simp [kk,w4,w5]
  refine call_g (blocks_g (t.size * (8+A)) 4096 (by omega) (by omega)) ?_
  simp [w4,w5]
  refine call_g (blocks_g (t.size * B) 2048 (by omega) (by omega)) ?_
  simp [hv,blocksOf]
def unitCost (d:PrgD) (u:UnitD):Int × Int:=if u.table=-1 then (0,0) else tblCost d u.table
theorem unitCost_g (d:PrgD) (ho:PrgOk d) (u:UnitD):Gives Tryz.prog 57 [fPrg d,fUnit u] (fRes (unitCost d u)):=by
 refine Gives.of mixed Tryz.func57 rfl rfl rfl (by kernel_rfl) ?_
 simp [fPrg,cPrg]
 by_cases h:u.table=-1
 ·have hv:unitCost d u=(0,0):=if_pos h
  simp [h,hv]
 ·have hv:unitCost d u=tblCost d u.table:=if_neg h
  simp [h]
  refine call_g (cost_g d ho u.table) ?_
  simp [hv]
structure PrgS (d:PrgD):Prop where
 h:d.headers.l.length≤1000
 f:∀ x ∈ d.headers.l,x.fields.l.length≤1000
 m:d.meta_.l.length≤1000
 r:d.regs.l.length≤1000
def cntTo (l:List HdrD):Int:=isum (l.map fun h=>(h.fields.l.length:Int))
theorem cntTo_next {l:List HdrD} {k:Nat} {x:HdrD} (h:l[k]?=some x):cntTo (l.take (k+1))=cntTo (l.take k)+x.fields.l.length:=by
 rw [take_snoc h]; unfold cntTo; rw [List.map_append,isum_append]; simp [isum]
theorem cntTo_bd {l:List HdrD} (h:∀ x ∈ l,x.fields.l.length≤1000):0≤cntTo l∧cntTo l≤1000 * l.length:=by
 induction l with
 | nil=>simp [cntTo,isum]
 | cons a l ih =>
  have h1:=ih fun x hx=>h x (.tail _ hx)
  have h2:=h a (.head _)
  simp only [cntTo,List.map_cons,isum,List.length_cons] at *
  omega
abbrev f4 (a b c e:Int):FV:=.agg [intF a,intF b,intF c,intF e]
def cnI4 (d:PrgD) (i:Nat) (s:St):Prop:=∃ g,Vf.Sl [(1,.ref 0 0),(2,.ref 1 0),(3,.ref 2 0),(17,.f (sl (encL fHdr d.headers.l))),(18,.f (intF d.headers.l.length)),(19,.f (intF i))] 32 (aPrg d::[.f (intF 0),.f (intF 0),.f (intF 0),.f (intF 0)]::[.f (intF (cntTo (d.headers.l.take i))),.f (intF d.headers.l.length),.f (intF d.meta_.l.length),.f (intF d.regs.l.length)]::g) [] s
theorem counts_g (d:PrgD) (hs:PrgS d):Gives Tryz.prog 262 [fPrg d] (f4 (cntTo d.headers.l) d.headers.l.length d.meta_.l.length d.regs.l.length):=by
 refine Gives.of mixed Tryz.func262 rfl rfl rfl (by kernel_rfl) ?_
 simp [fPrg,cPrg]
 refine forX mixed d.headers.l.length (cnI4 d) (by kernel_rfl) ⟨_,Sl.of rfl rfl rfl⟩ ?_
 rintro i ⟨ts,hh,kk⟩ hi ⟨g,rfl,rfl,f,rfl⟩
 by_cases hlt:i < d.headers.l.length
 ·obtain ⟨x,hx,hx'⟩:=nth_of hlt
  have h1:=hs.h
  have hw:=wrap64 (x:=(i:Int)+1) (by omega) (by omega)
  have hb:=cntTo_bd (l:=d.headers.l.take i) fun y hy=>hs.f y (List.mem_of_mem_take hy)
  rw [List.length_take] at hb
  have hf:=hs.f x (List.mem_of_getElem? hx')
  have hw2:=wrap64 (x:=cntTo (d.headers.l.take i)+x.fields.l.length) (by omega) (by omega)
  simp [hlt,hx,hw,hw2]
  exact ⟨_,by rw [cntTo_next hx']; exact Sl.of rfl rfl rfl⟩
 ·obtain rfl:i=d.headers.l.length:=by omega
  simp
def cntAt (d:PrgD):Nat→Int
 | 0=>cntTo d.headers.l
 | 1=>d.headers.l.length
 | 2=>d.meta_.l.length
 | _=>d.regs.l.length
def fstTo (d:PrgD) (k:Int):Nat→Int
 | 0=>0
 | i+1=>if (i:Int) < k then fstTo d k i+cntAt d i else fstTo d k i
def fiI (d:PrgD) (k:Int) (i:Nat) (s:St):Prop:=∃ g,Vf.Sl [(1,.f (intF k)),(5,.f (intF (fstTo d k i))),(9,.f (f4 (cntTo d.headers.l) d.headers.l.length d.meta_.l.length d.regs.l.length)),(10,.f (intF i))] 22 g [] s
theorem cnt_bd {d:PrgD} (hs:PrgS d) (i:Nat):0≤cntAt d i∧cntAt d i≤1000000:=by
 have h0:=cntTo_bd hs.f
 have:=hs.h
 have:=hs.m
 have:=hs.r
 match i with
 | 0=>show 0≤cntTo d.headers.l∧cntTo d.headers.l≤1000000; omega
 | 1=>show (0:Int)≤d.headers.l.length∧(d.headers.l.length:Int)≤1000000; omega
 | 2=>show (0:Int)≤d.meta_.l.length∧(d.meta_.l.length:Int)≤1000000; omega
 | i+3=>show (0:Int)≤d.regs.l.length∧(d.regs.l.length:Int)≤1000000; omega
theorem fst_bd {d:PrgD} (hs:PrgS d) (k:Int) (i:Nat):0≤fstTo d k i∧fstTo d k i≤1000000 * i:=by
 induction i with
 | zero=>simp [fstTo]
 | succ i ih =>
  have:=cnt_bd hs i
  unfold fstTo
  split <;> omega
theorem first_g (d:PrgD) (hs:PrgS d) (k:Int):Gives Tryz.prog 263 [fPrg d,intF k] (intF (fstTo d k 4)):=by
 refine Gives.of mixed Tryz.func263 rfl rfl rfl (by kernel_rfl) ?_
 simp [fPrg,cPrg]
 refine call_g (counts_g d hs) ?_
 simp
 refine forX mixed 4 (fiI d k) (by kernel_rfl) ⟨_,Sl.of rfl rfl rfl⟩ ?_
 rintro i ⟨ts,hh,kk⟩ hi ⟨g,rfl,rfl,f,rfl⟩
 by_cases hlt:i < 4
 ·have hb:=fst_bd hs k i
  have hc:=cnt_bd hs i
  have hw:=wrap64 (x:=fstTo d k i+cntAt d i) (by omega) (by omega)
  have h4:i=0∨i=1∨i=2∨i=3:=by omega
  by_cases hk:(i:Int) < k
  ·have hn:fstTo d k (i+1)=fstTo d k i+cntAt d i:=by rw [fstTo,if_pos hk]
   rcases h4 with rfl | rfl | rfl | rfl
   ·have hk':(0:Int) < k:=hk
    have hw':IntKind.i64.wrap (fstTo d k 0+cntTo d.headers.l)=fstTo d k 0+cntTo d.headers.l:=hw
    simp [hk',Vf.wrap64,hw']
    exact ⟨_,by rw [hn]; exact Sl.of rfl rfl rfl⟩
   ·have hk':(1:Int) < k:=hk
    have hw':IntKind.i64.wrap (fstTo d k 1+(d.headers.l.length:Int))=fstTo d k 1+(d.headers.l.length:Int):=hw
    simp [hk',Vf.wrap64,hw']
    exact ⟨_,by rw [hn]; exact Sl.of rfl rfl rfl⟩
   ·have hk':(2:Int) < k:=hk
    have hw':IntKind.i64.wrap (fstTo d k 2+(d.meta_.l.length:Int))=fstTo d k 2+(d.meta_.l.length:Int):=hw
    simp [hk',Vf.wrap64,hw']
    exact ⟨_,by rw [hn]; exact Sl.of rfl rfl rfl⟩
   ·have hk':(3:Int) < k:=hk
    have hw':IntKind.i64.wrap (fstTo d k 3+(d.regs.l.length:Int))=fstTo d k 3+(d.regs.l.length:Int):=hw
    simp [hk',Vf.wrap64,hw']
    exact ⟨_,by rw [hn]; exact Sl.of rfl rfl rfl⟩
  ·have hn:fstTo d k (i+1)=fstTo d k i:=by rw [fstTo,if_neg hk]
   rcases h4 with rfl | rfl | rfl | rfl
   ·have hk':¬ (0:Int) < k:=hk
    simp [hk',Vf.wrap64]
    exact ⟨_,by rw [hn]; exact Sl.of rfl rfl rfl⟩
   ·have hk':¬ (1:Int) < k:=hk
    simp [hk',Vf.wrap64]
    exact ⟨_,by rw [hn]; exact Sl.of rfl rfl rfl⟩
   ·have hk':¬ (2:Int) < k:=hk
    simp [hk',Vf.wrap64]
    exact ⟨_,by rw [hn]; exact Sl.of rfl rfl rfl⟩
   ·have hk':¬ (3:Int) < k:=hk
    simp [hk',Vf.wrap64]
    exact ⟨_,by rw [hn]; exact Sl.of rfl rfl rfl⟩
 ·obtain rfl:i=4:=by omega
  simp
end Go.Proofs.YtafenffmgpcjcaaGreat
