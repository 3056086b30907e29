/- A region that draws its order of evaluation, met by facts on its values that outlast every step: one look at each operation, whatever the order. -/
import Derived.Test.YtfomcphbclojpaaBase
namespace Go.Proofs.Ytfomcphbclojpaa
open Go.RowKit
set_option linter.unusedVariables false

section
variable {P : Program} {ops : Array Oper} {Q : Exit → Act → World → Prop}

/-- what one operation must come to: a value with the fact F, the world still S, gone on by St -/
def OpGood (P : Program) (F : Value → World → Prop) (S : World → Prop) (St : World → World → Prop) (w : World) : Result Next → Prop
  | .ok (.value v) w' => F v w' ∧ S w' ∧ St w w'
  | .ok .skip w' => F undef w' ∧ S w' ∧ St w w'
  | .ok (.enter f args) w' => Calls P f args w' fun e w'' => ∃ v, e = .returned v ∧ F v w'' ∧ S w'' ∧ St w w''
  | _ => False

/-- the look at the region's shape: its edges lead back, no slot is written twice -/
def relOk (ops : Array Oper) (n : Nat) : Bool :=
  (ops.toList.zipIdx.all fun (o, i) => (o.after.all fun e => !Region.binds .any e || decide (e.on < i)) && (match o.dst with | some d => decide (d < n) | none => true)) &&
  (ops.toList.zipIdx.all fun (o, i) => ops.toList.zipIdx.all fun (o', j) => i == j || (match o.dst with | some d => o'.dst != some d | none => true))

theorem relOk_edge {n : Nat} (h : relOk ops n = true) {i : Nat} {o : Oper} (ho : ops[i]? = some o) : (∀ e ∈ o.after, Region.binds .any e = true → e.on < i) ∧ (∀ d, o.dst = some d → d < n) := by
  unfold relOk at h
  rw [Bool.and_eq_true] at h
  have h1 := List.all_eq_true.1 h.1 (o, i) (List.mem_zipIdx_iff_getElem?.2 (by simpa using ho))
  simp only [Bool.and_eq_true] at h1
  refine ⟨fun e he hb => ?_, fun d hd => ?_⟩
  · have := Array.all_eq_true_iff_forall_mem.1 h1.1 e he
    simpa [hb] using this
  · have := h1.2
    rw [hd] at this
    simpa using this
theorem relOk_dst {n : Nat} (h : relOk ops n = true) {i j : Nat} {o o' : Oper} (ho : ops[i]? = some o) (ho' : ops[j]? = some o') (hne : i ≠ j) {d : Nat} (hd : o.dst = some d) : o'.dst ≠ some d := by
  unfold relOk at h
  rw [Bool.and_eq_true] at h
  have h1 := List.all_eq_true.1 h.2 (o, i) (List.mem_zipIdx_iff_getElem?.2 (by simpa using ho))
  have h2 := List.all_eq_true.1 h1 (o', j) (List.mem_zipIdx_iff_getElem?.2 (by simpa using ho'))
  simp only [Bool.or_eq_true, beq_iff_eq, hne, false_or] at h2
  rw [hd] at h2
  simpa using h2

/-- slot t is written by no operation of the region -/
def Free (ops : Array Oper) (t : Nat) : Prop := ∀ (i : Nat) (o : Oper), ops[i]? = some o → o.dst ≠ some t
theorem free_ne {ops : Array Oper} {t i : Nat} {o : Oper} (h : Free ops t) (ho : ops[i]? = some o) : o.dst ≠ some t := h i o ho

structure RelInv (P : Program) (ops : Array Oper) (S : World → Prop) (F : Nat → Value → World → Prop) (a : Act) (listed : Array Bool) (b : Act) (u : World) : Prop where
  good : S u
  size : listed.size = ops.size
  defers : b.defers = a.defers
  tmps : b.tmps.size = a.tmps.size
  old : ∀ t : Nat, (∀ (i : Nat) (o : Oper), ops[i]? = some o → o.dst = some t → listed.getD i false = false) → b.tmps[t]? = a.tmps[t]?
  new : ∀ (i : Nat) (o : Oper) (d : Nat), ops[i]? = some o → listed.getD i false = true → o.dst = some d → ∃ v, b.tmps[d]? = some v ∧ F i v u

theorem getD_set_self {listed : Array Bool} {i : Nat} (h : i < listed.size) : (listed.setIfInBounds i true).getD i false = true := by
  simp [Array.getD_eq_getD_getElem?, Array.getElem?_setIfInBounds_self_of_lt h]

theorem RelInv.step {S : World → Prop} {St : World → World → Prop} {F : Nat → Value → World → Prop} {a b : Act} {listed : Array Bool} {u u' : World} {i : Nat} {o : Oper} {v : Value}
    (hst : ∀ i v w w', F i v w → S w → St w w' → F i v w') (hok : relOk ops a.tmps.size = true) (h : RelInv P ops S F a listed b u) (ho : ops[i]? = some o) (hi : listed.getD i true = false)
    (hv : F i v u') (hS : S u') (hs : St u u') : RelInv P ops S F a (listed.setIfInBounds i true) (b.put o.dst v) u' := by
  have hlt : i < listed.size := by
    rcases Nat.lt_or_ge i listed.size with h | h
    · exact h
    · rw [Array.getD_eq_getD_getElem?, Array.getElem?_eq_none h] at hi; cases hi
  have hset : ∀ j, j ≠ i → (listed.setIfInBounds i true).getD j false = listed.getD j false := fun j hj => getD_set_ne false (Ne.symm hj)
  refine ⟨hS, by simpa using h.size, ?_, ?_, ?_, ?_⟩
  · cases hd : o.dst <;> simpa [Act.put] using h.defers
  · cases hd : o.dst <;> simpa [Act.put] using h.tmps
  · intro t ht
    have hne : o.dst ≠ some t := fun hd => by
      have := ht i o ho hd
      rw [getD_set_self hlt] at this
      cases this
    have e : (b.put o.dst v).tmps[t]? = b.tmps[t]? := by
      cases hd : o.dst with
      | none => rfl
      | some d => rw [hd] at hne; simp only [Act.put]; exact Array.getElem?_setIfInBounds_ne (fun e => hne (by rw [e]))
    rw [e]
    refine h.old t fun j o' ho' hd' => ?_
    have hj : j ≠ i := fun e => by
      subst e
      rw [ho] at ho'
      injection ho' with ho'
      subst ho'
      exact hne hd'
    rw [← hset j hj]
    exact ht j o' ho' hd'
  · intro j o' d ho' hl hd'
    by_cases hj : j = i
    · subst hj
      obtain rfl : o = o' := Option.some.inj (ho.symm.trans ho')
      have hdn := (relOk_edge hok ho).2 d hd'
      refine ⟨v, ?_, hv⟩
      rw [hd']
      simp only [Act.put]
      exact Array.getElem?_setIfInBounds_self_of_lt (by rw [h.tmps]; exact hdn)
    · rw [hset j hj] at hl
      obtain ⟨v', e, f⟩ := h.new j o' d ho' hl hd'
      refine ⟨v', ?_, hst _ _ _ _ f h.good hs⟩
      rw [← e]
      cases hd : o.dst with
      | none => rfl
      | some d0 =>
        have := relOk_dst hok ho ho' (Ne.symm hj) hd
        simp only [Act.put]
        exact Array.getElem?_setIfInBounds_ne (fun e => this (by rw [hd', e]))

theorem RelInv.done {S : World → Prop} {F : Nat → Value → World → Prop} {a b : Act} {listed : Array Bool} {u : World} (hok : relOk ops a.tmps.size = true) (h : RelInv P ops S F a listed b u)
    (hr : Region.ready .any ops listed = []) : ∀ i, i < ops.size → listed.getD i false = true := by
  intro i
  induction i using Nat.strongRecOn with
  | _ i ih =>
    intro hi
    cases hl : listed.getD i false with
    | true => rfl
    | false =>
      have hm : i ∈ Region.ready .any ops listed := mem_ready.2 ⟨by
        rw [Array.getD_eq_getD_getElem?, Array.getElem?_eq_getElem (by rw [h.size]; exact hi)] at hl ⊢
        exact hl, ops[i], Array.getElem?_eq_getElem hi, fun e he hb => by
          have := (relOk_edge hok (Array.getElem?_eq_getElem hi)).1 e he hb
          exact ih e.on this (by omega)⟩
      rw [hr] at hm
      cases hm

def freeB (ops : Array Oper) (t : Nat) : Bool := ops.toList.all fun o => match o.dst with | some d => !(Nat.beq d t) | none => true
theorem free_of {ops : Array Oper} {t : Nat} (h : freeB ops t = true) : Free ops t := fun i o ho hd => by
  have := List.all_eq_true.1 h o (List.mem_of_getElem? (i := i) (by simpa using ho))
  rw [hd] at this
  simp at this
def depB (o : Oper) (j : Nat) : Bool := o.after.toList.any fun e => Nat.beq e.on j && Region.binds .any e
theorem dep_of {o : Oper} {j : Nat} (h : depB o j = true) : ∃ e ∈ o.after, e.on = j ∧ Region.binds .any e = true := by
  obtain ⟨e, he, h⟩ := List.any_eq_true.1 h
  rw [Bool.and_eq_true] at h
  exact ⟨e, by simpa using he, Nat.eq_of_beq_eq_true h.1, h.2⟩
/-- one look at an operation: in whatever frame and world it comes up -/
def OpLook (P : Program) (ops : Array Oper) (S : World → Prop) (St : World → World → Prop) (F : Nat → Value → World → Prop) (a : Act) (i : Nat) (o : Oper) : Prop :=
  ∀ (ρ : Operand → Value) (y : Nat → Option Bool) (u : World), S u → (∀ c, ρ (.const c) = c) → (∀ f, ρ (.func f) = .func (.func f) #[] #[]) → (∀ g, ρ (.global g) = .pointer (some ⟨g, 0, none⟩)) →
    (∀ t, freeB ops t = true → ρ (.tmp t) = a.eval (.tmp t)) →
    (∀ (j : Nat) (o' : Oper) (d : Nat), depB o j = true → ops[j]? = some o' → o'.dst = some d → F j (ρ (.tmp d)) u ∧ y j = (match ρ (.tmp d) with | .bool x => some x | _ => none)) →
    (Region.wanted o y = true → OpGood P (F i) S St u ((execOp ρ o).run P u)) ∧ (Region.wanted o y = false → F i undef u ∧ St u u)

theorem wpAny_rel {S : World → Prop} {St : World → World → Prop} {F : Nat → Value → World → Prop} {a : Act}
    (hst : ∀ i v w w', F i v w → S w → St w w' → F i v w') (hok : relOk ops a.tmps.size = true) (hops : ∀ i o, ops[i]? = some o → OpLook P ops S St F a i o)
    (hend : ∀ b u, S u → b.defers = a.defers → b.tmps.size = a.tmps.size → (∀ t, Free ops t → b.tmps[t]? = a.tmps[t]?) → (∀ i o d, ops[i]? = some o → o.dst = some d → ∃ v, b.tmps[d]? = some v ∧ F i v u) → Q .normal b u) :
    ∀ (fuel : Nat) (listed : Array Bool) (b : Act) (u : World), listed.toList.count false ≤ fuel → RelInv P ops S F a listed b u → wpAny P .any ops Q fuel listed b u := by
  have hfin : ∀ (listed : Array Bool) (b : Act) (u : World), RelInv P ops S F a listed b u → Region.ready .any ops listed = [] → Q .normal b u := fun listed b u h hr => by
    have hall := h.done hok hr
    refine hend b u h.good h.defers h.tmps (fun t ht => h.old t fun i o ho hd => absurd hd (free_ne ht ho)) (fun i o d ho hd => h.new i o d ho (hall i (Array.getElem?_eq_some_iff.1 ho).1) hd)
  intro fuel
  induction fuel with
  | zero =>
    intro listed b u hc h
    have hr : Region.ready .any ops listed = [] := by
      cases hr : Region.ready .any ops listed with
      | nil => rfl
      | cons i r =>
        have hm : i ∈ Region.ready .any ops listed := by rw [hr]; exact List.mem_cons_self
        obtain ⟨hi, o, ho, _⟩ := mem_ready.1 hm
        have hlt : i < listed.size := by rw [h.size]; exact (Array.getElem?_eq_some_iff.1 ho).1
        have hmem : false ∈ listed.toList := by
          rw [Array.getD_eq_getD_getElem?, Array.getElem?_eq_getElem hlt] at hi
          have : listed[i] = false := hi
          rw [← this]; simp
        have := List.count_pos_iff.2 hmem
        omega
    exact ⟨hr, hfin listed b u h hr⟩
  | succ fuel ih =>
    intro listed b u hc h
    refine ⟨hfin listed b u h, fun i hi => ?_⟩
    obtain ⟨hi0, o, ho, hdep⟩ := mem_ready.1 hi
    have hlt : i < listed.size := by rw [h.size]; exact (Array.getElem?_eq_some_iff.1 ho).1
    have hli : listed[i] = false := by
      rw [Array.getD_eq_getD_getElem?, Array.getElem?_eq_getElem hlt] at hi0
      exact hi0
    have hcnt : (listed.setIfInBounds i true).toList.count false ≤ fuel := by
      rw [Array.toList_setIfInBounds, List.count_set (by simpa using hlt)]
      have hmem : false ∈ listed.toList := by rw [← hli]; simp
      have := List.count_pos_iff.2 hmem
      simp only [Array.getElem_toList, hli, beq_self_eq_true, if_true, Bool.true_beq, Bool.false_eq_true, if_false]
      omega
    have hlook := hops i o ho b.eval (yielded ops b.tmps) u h.good (fun _ => rfl) (fun _ => rfl) (fun _ => rfl) (fun t ht => by
        have := h.old t fun i o ho hd => absurd hd (free_ne (free_of ht) ho)
        unfold Act.eval; simp only [Array.getD_eq_getD_getElem?]
        rw [this]) (fun j o' d hj ho' hd' => by
        obtain ⟨e, he, rfl, hb⟩ := dep_of hj
        obtain ⟨v, ev, fv⟩ := h.new e.on o' d ho' (hdep e he hb) hd'
        have hev : b.eval (.tmp d) = v := by simp [Act.eval, ev]
        refine ⟨by rw [hev]; exact fv, ?_⟩
        unfold yielded
        rw [ho']
        simp only [Option.bind_some, hd', ev, hev]
        cases v <;> rfl)
    unfold wpOp
    rw [ho]
    show if Region.wanted o (yielded ops b.tmps) = true then _ else _
    split
    · rename_i hw
      have hg := hlook.1 hw
      refine .inl ?_
      unfold Oper.wp
      generalize (execOp b.eval o).run P u = r at hg ⊢
      cases r with
      | halt x w' => exact hg.elim
      | ok n w' =>
        cases n with
        | value v =>
          obtain ⟨f, s, t⟩ := hg
          exact ih _ _ _ hcnt (h.step hst hok ho hi0 f s t)
        | skip =>
          obtain ⟨f, s, t⟩ := hg
          exact ih _ _ _ hcnt (h.step hst hok ho hi0 f s t)
        | enter f args =>
          refine Calls.mono (show Calls P f args w' _ from hg) ?_
          rintro e w'' ⟨v, rfl, f, s, t⟩
          exact ih _ _ _ hcnt (h.step hst hok ho hi0 f s t)
        | _ => exact hg.elim
    · rename_i hw
      have hw' : Region.wanted o (yielded ops b.tmps) = false := by simpa using hw
      obtain ⟨f, t⟩ := hlook.2 hw'
      exact ih _ _ _ hcnt (h.step hst hok ho hi0 f h.good t)

/-- the looks at a list of operations, the first of which is number k -/
def Looks (P : Program) (ops : Array Oper) (S : World → Prop) (St : World → World → Prop) (F : Nat → Value → World → Prop) (a : Act) : Nat → List Oper → Prop
  | _, [] => True
  | k, o :: l => OpLook P ops S St F a k o ∧ Looks P ops S St F a (k + 1) l
theorem Looks.at_ {S : World → Prop} {St : World → World → Prop} {F : Nat → Value → World → Prop} {a : Act} : ∀ (l : List Oper) (k : Nat), Looks P ops S St F a k l → ∀ i o, l[i]? = some o → OpLook P ops S St F a (k + i) o := by
  intro l
  induction l with
  | nil => intro k h i o ho; simp at ho
  | cons x l ih =>
    intro k h i o ho
    cases i with
    | zero => simp at ho; subst ho; exact h.1
    | succ i => have := ih (k + 1) h.2 i o (by simpa using ho); rwa [show k + 1 + i = k + (i + 1) by omega] at this

theorem wp_region_rel {l : List Oper} {id : Nat} {a : Act} {w : World} (S : World → Prop) (St : World → World → Prop) (F : Nat → Value → World → Prop) (hm : P.follows .mixedOrders = true)
    (hok : relOk l.toArray a.tmps.size = true) (hS : S w.drew) (hst : ∀ i v w w', F i v w → S w → St w w' → F i v w') (hops : Looks P l.toArray S St F a 0 l)
    (hend : ∀ b u, S u → b.defers = a.defers → b.tmps.size = a.tmps.size → (∀ t, Free l.toArray t → b.tmps[t]? = a.tmps[t]?) → (∀ i o d, l[i]? = some o → o.dst = some d → ∃ v, b.tmps[d]? = some v ∧ F i v u) → Q .normal b u) :
    (Code.region id l.toArray true).wp P Q a w := by
  refine wp_region_any hm ?_
  refine wpAny_rel hst hok (fun i o ho => ?_) (fun b u h1 h2 h3 h4 h5 => hend b u h1 h2 h3 h4 fun i o d ho hd => h5 i o d (by simpa using ho) hd) _ _ _ _ ?_ ⟨hS, by simp, rfl, rfl, fun _ _ => rfl, fun i o d _ hl _ => by
    simp [Array.getD_eq_getD_getElem?] at hl
    cases hx : (Array.replicate l.length false)[i]? with
    | none => rw [hx] at hl; cases hl
    | some x => rw [hx] at hl; have := Array.getElem?_eq_some_iff.1 hx; obtain ⟨hh, e⟩ := this; simp at e; subst e; cases hl⟩
  · have := Looks.at_ l 0 hops i o (by simpa using ho)
    rwa [Nat.zero_add] at this
  · simp
end
/-- a fact on a value that outlasts every step -/
structure SFact (S : World → Prop) (St : World → World → Prop) where
  f : Value → World → Prop
  st : ∀ v w w', f v w → S w → St w w' → f v w'
def eqv {S : World → Prop} {St : World → World → Prop} (X : Value) : SFact S St := ⟨fun v _ => v = X, fun _ _ _ h _ _ => h⟩
def factAt {S : World → Prop} {St : World → World → Prop} (l : List (SFact S St)) (i : Nat) (v : Value) (w : World) : Prop := match l[i]? with | some f => f.f v w | none => True
theorem factAt_st {S : World → Prop} {St : World → World → Prop} (l : List (SFact S St)) (i : Nat) (v : Value) (w w' : World) (h : factAt l i v w) (hS : S w) (hs : St w w') : factAt l i v w' := by
  unfold factAt at *
  split
  · rename_i f hf; rw [hf] at h; exact f.st _ _ _ h hS hs
  · trivial
def Gone (w w' : World) : Prop := Below w.heap.size w w'
theorem not_wanted {o : Oper} {y : Nat → Option Bool} {g : Nat} {x : Bool} {C : Prop} (hg : o.guard = some (g, x)) (hy : y g = some x) (h : Region.wanted o y = false) : C := by
  unfold Region.wanted at h
  rw [hg] at h
  simp [hy] at h
theorem wanted_plain {o : Oper} {y : Nat → Option Bool} {C : Prop} (hg : o.guard = none) (h : Region.wanted o y = false) : C := by
  unfold Region.wanted at h
  rw [hg] at h
  cases h
end Go.Proofs.Ytfomcphbclojpaa
