/- Lemmas. -/
import Derived.Test.YtakgiamhdpgoeaaGreatP27
set_option linter.unusedSimpArgs false
namespace Go.Proofs.YtakgiamhdpgoeaaGreat
open Go.RowKit
set_option linter.unusedVariables false
section
variable {P : Program} {Q : Exit → Act → World → Prop}
def LinkI (listed : Array Bool) (b : Act) (p q dp dq : Nat) (link : Value → Value → Prop) : Prop :=
 listed.getD p false = true → listed.getD q false = true → link (b.eval (.tmp dp)) (b.eval (.tmp dq))
def OpLookK (P : Program) (l : List Oper) (C : Chain) (S : Nat → World → Prop) (fs : List LFact) (a : Act) (p q dp dq : Nat) (link : Value → Value → Prop) (i : Nat) (o : Oper) : Prop :=
 ∀ (j : Nat), (∀ r, C.rng[i]? = some r → r.1 ≤ j ∧ j ≤ r.2) → ∀ (ρ : Operand → Value) (y : Nat → Option Bool) (u : World), S j u →
  (∀ c, ρ (.const c) = c) → (∀ f, ρ (.func f) = .func (.func f) #[] #[]) → (∀ g, ρ (.global g) = .pointer (some ⟨g, 0, none⟩)) →
  (∀ t, freeB l.toArray t = true → ρ (.tmp t) = a.eval (.tmp t)) →
  (∀ (k : Nat) (o' : Oper) (d : Nat), depB o k = true → l.toArray[k]? = some o' → o'.dst = some d → lfact fs k j (ρ (.tmp d)) u ∧ y k = (match ρ (.tmp d) with | .bool x => some x | _ => none)) →
  (depB o p = true → depB o q = true → link (ρ (.tmp dp)) (ρ (.tmp dq))) →
  (Region.wanted o y = true → OpGood P (lfact fs i (C.next i j)) (S (C.next i j)) (fun _ u' => KeepL l.toArray ρ i j (C.next i j) u u' 0 l fs) u ((execOp ρ o).run P u)) ∧ (Region.wanted o y = false → lfact fs i (C.next i j) undef u ∧ S (C.next i j) u ∧ KeepL l.toArray ρ i j (C.next i j) u u 0 l fs)
def LooksK (P : Program) (l : List Oper) (C : Chain) (S : Nat → World → Prop) (fs : List LFact) (a : Act) (p q dp dq : Nat) (link : Value → Value → Prop) : Nat → List Oper → Prop
 | _, [] => True
 | k, o :: r => OpLookK P l C S fs a p q dp dq link k o ∧ LooksK P l C S fs a p q dp dq link (k + 1) r
theorem LooksK.at_ {l0 : List Oper} {C : Chain} {S : Nat → World → Prop} {fs : List LFact} {a : Act} {p q dp dq : Nat} {link : Value → Value → Prop} : ∀ (l : List Oper) (k : Nat), LooksK P l0 C S fs a p q dp dq link k l → ∀ i o, l[i]? = some o → OpLookK P l0 C S fs a p q dp dq link (k + i) o := by
 intro l
 induction l with
 | nil => intro k h i o ho; simp at ho
 | cons x l ih =>
  intro k h i o ho
  cases i with
  | zero => simp at ho; subst ho; exact h.1
  | succ i => have := ih (k + 1) h.2 i o (by simpa using ho); rwa [show k + 1 + i = k + (i + 1) by omega] at this
theorem zye {b : Act} {v : Value} {d : Nat} (h : d < b.tmps.size) : (b.put (some d) v).eval (.tmp d) = v := by
 simp only [Act.put, Act.eval, Array.getD_eq_getD_getElem?]
 rw [Array.getElem?_setIfInBounds_self_of_lt h]
 rfl
theorem LinkI.step {ops : Array Oper} {b : Act} {listed : Array Bool} {p q dp dq n : Nat} {link : Value → Value → Prop} {i : Nat} {o : Oper} {v : Value} (hok : relOk ops n = true) (hn : b.tmps.size = n)
  (hp : ∃ o, ops[p]? = some o ∧ o.dst = some dp) (hq : ∃ o, ops[q]? = some o ∧ o.dst = some dq) (hpq : p ≠ q) (h : LinkI listed b p q dp dq link) (ho : ops[i]? = some o)
  (h1 : i = p → listed.getD q false = true → link v (b.eval (.tmp dq))) (h2 : i = q → listed.getD p false = true → link (b.eval (.tmp dp)) v) : LinkI (listed.setIfInBounds i true) (b.put o.dst v) p q dp dq link := by
 obtain ⟨op, hop, hdp⟩ := hp
 obtain ⟨oq, hoq, hdq⟩ := hq
 intro g1 g2
 by_cases hip : i = p
 ·subst hip
  obtain rfl : o = op := Option.some.inj (ho.symm.trans hop)
  rw [zpc (Ne.symm hpq)] at g2
  rw [zIc (fun e => zDd hok ho hoq hpq e hdq), hdp, zye (by rw [hn]; exact (zrd hok ho).2 dp hdp)]
  exact h1 rfl g2
 ·rw [zpc (Ne.symm hip)] at g1
  by_cases hiq : i = q
  ·subst hiq
   obtain rfl : o = oq := Option.some.inj (ho.symm.trans hoq)
   rw [zIc (fun e => zDd hok ho hop (Ne.symm hpq) e hdp), hdq, zye (by rw [hn]; exact (zrd hok ho).2 dq hdq)]
   exact h2 rfl g1
  ·rw [zpc (Ne.symm hiq)] at g2
   rw [zIc (fun e => zDd hok ho hop hip e hdp), zIc (fun e => zDd hok ho hoq hiq e hdq)]
   exact h g1 g2
structure TellK (P : Program) (l : List Oper) (S : Nat → World → Prop) (fs : List LFact) (p q dp dq : Nat) (link : Value → Value → Prop) : Prop where
 np : p ≠ q
 op : ∃ o, l.toArray[p]? = some o ∧ o.dst = some dp
 oq : ∃ o, l.toArray[q]? = some o ∧ o.dst = some dq
 gp : ∀ o, l.toArray[p]? = some o → o.guard = none
 gq : ∀ o, l.toArray[q]? = some o → o.guard = none
 tp : ∀ o, l.toArray[p]? = some o → ∀ (ρ : Operand → Value) (u : World) (j : Nat) (vq : Value), S j u → lfact fs q j vq u → ∃ v u', (execOp ρ o).run P u = .ok (.value v) u' ∧ link v vq
 tq : ∀ o, l.toArray[q]? = some o → ∀ (ρ : Operand → Value) (u : World) (j : Nat) (vp : Value), S j u → lfact fs p j vp u → ∃ v u', (execOp ρ o).run P u = .ok (.value v) u' ∧ link vp v
theorem wpAny_relK {l : List Oper} {C : Chain} {S : Nat → World → Prop} {fs : List LFact} {a : Act} {p q dp dq : Nat} {link : Value → Value → Prop} (hok : relOk l.toArray a.tmps.size = true) (hC : zFd l.toArray C = true) (hfr : frOk C (fun _ => 0) l.toArray.size = true)
  (hT : TellK P l S fs p q dp dq link) (hops : LooksK P l C S fs a p q dp dq link 0 l) (hend : ∀ u, S C.effs.length u → zxb (Q .normal) (fun i => lfact fs i C.effs.length) u 0 l a) :
  ∀ (fuel : Nat) (listed : Array Bool) (j : Nat) (b : Act) (u : World), listed.toList.count false ≤ fuel → zUe P l.toArray C S fs a listed j b u → LinkI listed b p q dp dq link → wpAny P .any l.toArray Q fuel listed b u := by
 have hfin : ∀ (listed : Array Bool) (j : Nat) (b : Act) (u : World), zUe P l.toArray C S fs a listed j b u → Region.ready .any l.toArray listed = [] → Q .normal b u := fun listed j b u h hr => by
  have hall := h.base.done hok hr
  have hj : j = C.effs.length := by
   rcases Nat.lt_or_ge j C.effs.length with hlt | hge
   ·have h0 := (h.base.effs j _ (List.getElem?_eq_getElem hlt))
    have hin : C.effs[j] < l.toArray.size := by
     unfold zFd at hC
     rw [Bool.and_eq_true] at hC
     have h1 := List.all_eq_true.1 hC.1 (C.effs[j], j) (List.mem_zipIdx_iff_getElem?.2 (by simp))
     rw [Bool.and_eq_true] at h1
     exact of_decide_eq_true h1.2
    have := h0.1 (hall _ hin)
    omega
   ·have := h.base.le; omega
  have hg := h.good
  have hn := h.new
  rw [hj] at hg hn
  refine zxb.run l 0 a b (hend u hg) h.base.defers h.base.tmps (fun t ht => h.base.old t fun i o ho hd => absurd hd (ht o (List.mem_of_getElem? (i := i) (by simpa using ho)))) (fun i o d ho hd => ?_)
  have hl := hall i (Array.getElem?_eq_some_iff.1 (show l.toArray[i]? = some o by simpa using ho)).1
  obtain ⟨v, ev, _⟩ := h.base.new i o d (by simpa using ho) hl hd
  have := hn i o d (by simpa using ho) hl hd
  have hev : b.eval (.tmp d) = v := by simp [Act.eval, ev]
  rw [hev] at this
  exact ⟨v, ev, by rw [Nat.zero_add]; exact this⟩
 intro fuel
 induction fuel with
 | zero =>
  intro listed j b u hc h hL
  have hr : Region.ready .any l.toArray listed = [] := by
   cases hr : Region.ready .any l.toArray listed with
   | nil => rfl
   | cons i r =>
    have hm : i ∈ Region.ready .any l.toArray listed := by rw [hr]; exact List.mem_cons_self
    obtain ⟨hi, o, ho, _⟩ := mem_ready.1 hm
    have hlt : i < listed.size := by rw [h.base.size]; exact (Array.getElem?_eq_some_iff.1 ho).1
    have hmem : false ∈ listed.toList := by
     rw [Array.getD_eq_getD_getElem?, Array.getElem?_eq_getElem hlt] at hi
     have : listed[i] = false := hi
     rw [← this]; simp
    have := List.count_pos_iff.2 hmem
    omega
  exact ⟨hr, hfin listed j b u h hr⟩
 | succ fuel ih =>
  intro listed j b u hc h hL
  refine ⟨hfin listed j b u h, fun i hi => ?_⟩
  obtain ⟨hi0, o, ho, hdep⟩ := mem_ready.1 hi
  have hlt : i < listed.size := by rw [h.base.size]; exact (Array.getElem?_eq_some_iff.1 ho).1
  have hli : listed[i] = false := by
   rw [Array.getD_eq_getD_getElem?, Array.getElem?_eq_getElem hlt] at hi0
   exact hi0
  have hcnt : (listed.setIfInBounds i true).toList.count false ≤ fuel := by
   rw [Array.toList_setIfInBounds, List.count_set (by simpa using hlt)]
   have hmem : false ∈ listed.toList := by rw [← hli]; simp
   have := List.count_pos_iff.2 hmem
   simp only [Array.getElem_toList, hli, beq_self_eq_true, if_true, Bool.true_beq, Bool.false_eq_true, if_false]
   omega
  have hlk := LooksK.at_ l 0 hops i o (by simpa using ho)
  rw [Nat.zero_add] at hlk
  have hlook := hlk j (h.base.range hC ho hi0 hdep).1 b.eval (yielded l.toArray b.tmps) u h.good (fun _ => rfl) (fun _ => rfl) (fun _ => rfl) (fun t ht => by
    have := h.base.old t fun i o ho hd => absurd hd (free_of ht i o ho)
    unfold Act.eval; simp only [Array.getD_eq_getD_getElem?]
    rw [this]) (fun k o' d hj ho' hd' => by
    obtain ⟨e, he, rfl, hb⟩ := dep_of hj
    obtain ⟨v, ev, fv⟩ := h.base.new e.on o' d ho' (hdep e he hb) hd'
    have hev : b.eval (.tmp d) = v := by simp [Act.eval, ev]
    refine ⟨h.new e.on o' d ho' (hdep e he hb) hd', ?_⟩
    unfold yielded
    rw [ho']
    simp only [Option.bind_some, hd', ev, hev]
    cases v <;> rfl) (fun hdp hdq => by
    obtain ⟨e, he, ep, hb⟩ := dep_of hdp
    obtain ⟨e2, he2, eq2, hb2⟩ := dep_of hdq
    have l1 := hdep e he hb
    have l2 := hdep e2 he2 hb2
    rw [ep] at l1
    rw [eq2] at l2
    exact hL l1 l2)
  obtain ⟨oq, hoq, hdq⟩ := hT.oq
  obtain ⟨op, hop, hdp⟩ := hT.op
  have hpl : i = p → listed.getD q false = true → ∃ v u', (execOp b.eval o).run P u = .ok (.value v) u' ∧ link v (b.eval (.tmp dq)) := fun hip hlq => by
   subst hip
   exact hT.tp o ho b.eval u j _ h.good (h.new q oq dq hoq hlq hdq)
  have hql : i = q → listed.getD p false = true → ∃ v u', (execOp b.eval o).run P u = .ok (.value v) u' ∧ link (b.eval (.tmp dp)) v := fun hiq hlp => by
   subst hiq
   exact hT.tq o ho b.eval u j _ h.good (h.new p op dp hop hlp hdp)
  unfold wpOp
  rw [ho]
  show if Region.wanted o (yielded l.toArray b.tmps) = true then _ else _
  split
  ·rename_i hw
   have hg := hlook.1 hw
   refine .inl ?_
   unfold Oper.wp
   generalize hr : (execOp b.eval o).run P u = r at hg hpl hql ⊢
   have hstep : ∀ v, (i = p → listed.getD q false = true → link v (b.eval (.tmp dq))) → (i = q → listed.getD p false = true → link (b.eval (.tmp dp)) v) → LinkI (listed.setIfInBounds i true) (b.put o.dst v) p q dp dq link :=
    fun v g1 g2 => LinkI.step hok h.base.tmps hT.op hT.oq hT.np hL ho g1 g2
   cases r with
   | halt x w' => exact hg.elim
   | ok n w' =>
    cases n with
    | value v =>
     obtain ⟨f, s, t⟩ := hg
     exact ih _ _ _ _ hcnt (h.step hok hC hfr ho hi0 hdep f s t) (hstep v (fun e1 e2 => by obtain ⟨v', u', e, hl⟩ := hpl e1 e2; cases e; exact hl) (fun e1 e2 => by obtain ⟨v', u', e, hl⟩ := hql e1 e2; cases e; exact hl))
    | skip =>
     obtain ⟨f, s, t⟩ := hg
     exact ih _ _ _ _ hcnt (h.step hok hC hfr ho hi0 hdep f s t) (hstep _ (fun e1 e2 => by obtain ⟨v', u', e, hl⟩ := hpl e1 e2; cases e) (fun e1 e2 => by obtain ⟨v', u', e, hl⟩ := hql e1 e2; cases e))
    | enter f args =>
     refine Calls.mono (show Calls P f args w' _ from hg) ?_
     rintro e w'' ⟨v, rfl, f, s, t⟩
     exact ih _ _ _ _ hcnt (h.step hok hC hfr ho hi0 hdep f s t) (hstep _ (fun e1 e2 => by obtain ⟨v', u', e, hl⟩ := hpl e1 e2; cases e) (fun e1 e2 => by obtain ⟨v', u', e, hl⟩ := hql e1 e2; cases e))
    | _ => exact hg.elim
  ·rename_i hw
   have hw' : Region.wanted o (yielded l.toArray b.tmps) = false := by simpa using hw
   obtain ⟨f, s, t⟩ := hlook.2 hw'
   refine ih _ _ _ _ hcnt (h.step hok hC hfr ho hi0 hdep f s t) (LinkI.step hok h.base.tmps hT.op hT.oq hT.np hL ho (fun e1 _ => ?_) (fun e1 _ => ?_))
   ·subst e1; exact zaa (hT.gp o ho) hw'
   ·subst e1; exact zaa (hT.gq o ho) hw'
theorem wp_region_relK {l : List Oper} {id : Nat} {a : Act} {w : World} (C : Chain) (S : Nat → World → Prop) (fs : List LFact) (p q dp dq : Nat) (link : Value → Value → Prop) (hm : P.follows .mixedOrders = true)
  (hok : relOk l.toArray a.tmps.size = true) (hC : zFd l.toArray C = true) (hfr : frOk C (fun _ => 0) l.toArray.size = true) (hT : TellK P l S fs p q dp dq link) (hS : S 0 w.drew)
  (hops : LooksK P l C S fs a p q dp dq link 0 l) (hend : ∀ u, S C.effs.length u → zxb (Q .normal) (fun i => lfact fs i C.effs.length) u 0 l a) :
  (Code.region id l.toArray true).wp P Q a w := by
 refine wp_region_any hm ?_
 have hno : ∀ i, (Array.replicate l.toArray.size false).getD i false = false := fun i => by
  rw [Array.getD_eq_getD_getElem?]
  rcases Nat.lt_or_ge i l.toArray.size with h | h
  ·rw [Array.getElem?_eq_getElem (by simpa using h)]; simp
  ·rw [Array.getElem?_eq_none (by simpa using h)]; rfl
 refine wpAny_relK hok hC hfr hT hops hend _ _ 0 _ _ ?_ ⟨⟨trivial, by simp, rfl, rfl, Nat.zero_le _, (fun m e _ => (by rw [hno]; simp)), (fun i o _ hl => (by rw [hno] at hl; cases hl)), (fun _ _ => rfl), (fun i o d _ hl => (by rw [hno] at hl; cases hl)), (fun i o _ hl => (by rw [hno] at hl; cases hl))⟩, hS, (fun i o d _ hl => (by rw [hno] at hl; cases hl))⟩ (fun hl => by rw [hno] at hl; cases hl)
 simp
end
end Go.Proofs.YtakgiamhdpgoeaaGreat
