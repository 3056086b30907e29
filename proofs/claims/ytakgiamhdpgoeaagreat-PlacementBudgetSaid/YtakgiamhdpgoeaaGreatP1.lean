/- Lemmas. -/
import Derived.Test.YtakgiamhdpgoeaaGreatP0
set_option linter.unusedSimpArgs false
namespace Go.Proofs.YtakgiamhdpgoeaaGreat
open Go.RowKit
set_option linter.unusedVariables false
section
variable {P : Program} {ops : Array Oper} {Q : Exit → Act → World → Prop}
def OpGood (P : Program) (F : Value → World → Prop) (S : World → Prop) (St : World → World → Prop) (w : World) : Result Next → Prop
 | .ok (.value v) w' => F v w' ∧ S w' ∧ St w w'
 | .ok .skip w' => F undef w' ∧ S w' ∧ St w w'
 | .ok (.enter f args) w' => Calls P f args w' fun e w'' => ∃ v, e = .returned v ∧ F v w'' ∧ S w'' ∧ St w w''
 | _ => False
def depB (o : Oper) (j : Nat) : Bool := o.after.toList.any fun e => Nat.beq e.on j && Region.binds .any e
theorem dep_of {o : Oper} {j : Nat} (h : depB o j = true) : ∃ e ∈ o.after, e.on = j ∧ Region.binds .any e = true := by
 obtain ⟨e, he, h⟩ := List.any_eq_true.1 h
 rw [Bool.and_eq_true] at h
 exact ⟨e, by simpa using he, Nat.eq_of_beq_eq_true h.1, h.2⟩
def zTf (ops : Array Oper) : Nat → Nat → Nat → Bool
 | 0, _, _ => false
 | n + 1, i, j => match ops[i]? with
  | none => false
  | some o => depB o j || o.after.toList.any fun e => Region.binds .any e && zTf ops n e.on j
def relOk (ops : Array Oper) (n : Nat) : Bool :=
 (ops.toList.zipIdx.all fun (o, i) => (o.after.all fun e => !Region.binds .any e || decide (e.on < i)) && (match o.dst with | some d => decide (d < n) | none => true)) &&
 (ops.toList.zipIdx.all fun (o, i) => ops.toList.zipIdx.all fun (o', j) => Nat.beq i j || (match o.dst, o'.dst with | some d, some d' => !(Nat.beq d d') | _, _ => true))
theorem zrd {n : Nat} (h : relOk ops n = true) {i : Nat} {o : Oper} (ho : ops[i]? = some o) : (∀ e ∈ o.after, Region.binds .any e = true → e.on < i) ∧ (∀ d, o.dst = some d → d < n) := by
 unfold relOk at h
 rw [Bool.and_eq_true] at h
 have h1 := List.all_eq_true.1 h.1 (o, i) (List.mem_zipIdx_iff_getElem?.2 (by simpa using ho))
 simp only [Bool.and_eq_true] at h1
 refine ⟨fun e he hb => ?_, fun d hd => ?_⟩
 ·have := Array.all_eq_true_iff_forall_mem.1 h1.1 e he
  simpa [hb] using this
 ·have := h1.2
  rw [hd] at this
  simpa using this
theorem zDd {n : Nat} (h : relOk ops n = true) {i j : Nat} {o o' : Oper} (ho : ops[i]? = some o) (ho' : ops[j]? = some o') (hne : i ≠ j) {d : Nat} (hd : o.dst = some d) : o'.dst ≠ some d := by
 intro hd'
 unfold relOk at h
 rw [Bool.and_eq_true] at h
 have h1 := List.all_eq_true.1 h.2 (o, i) (List.mem_zipIdx_iff_getElem?.2 (by simpa using ho))
 have h2 := List.all_eq_true.1 h1 (o', j) (List.mem_zipIdx_iff_getElem?.2 (by simpa using ho'))
 simp [hd, hd', hne] at h2
def Free (ops : Array Oper) (t : Nat) : Prop := ∀ (i : Nat) (o : Oper), ops[i]? = some o → o.dst ≠ some t
def freeB (ops : Array Oper) (t : Nat) : Bool := ops.toList.all fun o => match o.dst with | some d => !(Nat.beq d t) | none => true
theorem free_of {t : Nat} (h : freeB ops t = true) : Free ops t := fun i o ho hd => by
 have := List.all_eq_true.1 h o (List.mem_of_getElem? (i := i) (by simpa using ho))
 rw [hd] at this
 simp at this
structure Chain where
 effs : List Nat
 rng : List (Nat × Nat)
def Chain.next (C : Chain) (i j : Nat) : Nat := if C.effs[j]? = some i then j + 1 else j
def zFd (ops : Array Oper) (C : Chain) : Bool :=
 (C.effs.zipIdx.all fun (e, m) => (C.effs.take m).all (fun e' => !(Nat.beq e e') && zTf ops 6 e e') && decide (e < ops.size)) &&
 (C.rng.zipIdx.all fun (r, i) => (decide (r.1 ≤ C.effs.length) && (C.effs.take r.1).all (fun e => zTf ops 6 i e)) && (match C.effs[r.2]? with | some e => Nat.beq e i || zTf ops 6 e i | none => true))
structure RelInv (P : Program) (ops : Array Oper) (C : Chain) (fr : Nat → Nat) (S : Nat → World → Prop) (F : Nat → Value → World → Prop) (a : Act) (listed : Array Bool) (j : Nat) (b : Act) (u : World) : Prop where
 good : S j u
 size : listed.size = ops.size
 defers : b.defers = a.defers
 tmps : b.tmps.size = a.tmps.size
 le : j ≤ C.effs.length
 effs : ∀ m e, C.effs[m]? = some e → (listed.getD e false = true ↔ m < j)
 down : ∀ (i : Nat) (o : Oper), ops[i]? = some o → listed.getD i false = true → ∀ e ∈ o.after, Region.binds .any e = true → listed.getD e.on false = true
 old : ∀ t : Nat, (∀ (i : Nat) (o : Oper), ops[i]? = some o → o.dst = some t → listed.getD i false = false) → b.tmps[t]? = a.tmps[t]?
 new : ∀ (i : Nat) (o : Oper) (d : Nat), ops[i]? = some o → listed.getD i false = true → o.dst = some d → ∃ v, b.tmps[d]? = some v ∧ F i v u
 from_ : ∀ (i : Nat) (o : Oper), ops[i]? = some o → listed.getD i false = true → fr i ≤ j
theorem zwc {C : Chain} {fr : Nat → Nat} {S : Nat → World → Prop} {F : Nat → Value → World → Prop} {a b : Act} {listed : Array Bool} {j : Nat} {u : World} (h : RelInv P ops C fr S F a listed j b u) :
  ∀ (n i k : Nat), zTf ops n i k = true → (∀ (o : Oper), ops[i]? = some o → ∀ e ∈ o.after, Region.binds .any e = true → listed.getD e.on false = true) → listed.getD k false = true := by
 intro n
 induction n with
 | zero => intro i k hb; cases hb
 | succ n ih =>
  intro i k hb hi
  unfold zTf at hb
  cases ho : ops[i]? with
  | none => rw [ho] at hb; cases hb
  | some o =>
   rw [ho] at hb
   simp only [Bool.or_eq_true] at hb
   rcases hb with hb | hb
   ·obtain ⟨e, he, rfl, hbe⟩ := dep_of hb
    exact hi o ho e he hbe
   ·obtain ⟨e, he, hb⟩ := List.any_eq_true.1 hb
    rw [Bool.and_eq_true] at hb
    have hl := hi o ho e (by simpa using he) hb.1
    exact ih e.on k hb.2 fun o' ho' e' he' hb' => h.down e.on o' ho' hl e' he' hb'
theorem getD_set_self {listed : Array Bool} {i : Nat} (h : i < listed.size) : (listed.setIfInBounds i true).getD i false = true := by
 simp [Array.getD_eq_getD_getElem?, Array.getElem?_setIfInBounds_self_of_lt h]
theorem zod {listed : Array Bool} {i : Nat} (h : listed.getD i true = false) : i < listed.size ∧ listed.getD i false = false := by
 have hlt : i < listed.size := by
  rcases Nat.lt_or_ge i listed.size with h' | h'
  ·exact h'
  ·rw [Array.getD_eq_getD_getElem?, Array.getElem?_eq_none h'] at h; cases h
 refine ⟨hlt, ?_⟩
 rw [Array.getD_eq_getD_getElem?, Array.getElem?_eq_getElem hlt] at h ⊢
 exact h
theorem RelInv.range {C : Chain} {fr : Nat → Nat} {S : Nat → World → Prop} {F : Nat → Value → World → Prop} {a b : Act} {listed : Array Bool} {j : Nat} {u : World} (hC : zFd ops C = true) (h : RelInv P ops C fr S F a listed j b u)
  {i : Nat} {o : Oper} (ho : ops[i]? = some o) (hi : listed.getD i true = false) (hdep : ∀ e ∈ o.after, Region.binds .any e = true → listed.getD e.on false = true) :
  (∀ r, C.rng[i]? = some r → r.1 ≤ j ∧ j ≤ r.2) ∧ (∀ m, C.effs[m]? = some i → m = j) := by
 unfold zFd at hC
 rw [Bool.and_eq_true] at hC
 have hall : ∀ (o' : Oper), ops[i]? = some o' → ∀ e ∈ o'.after, Region.binds .any e = true → listed.getD e.on false = true := fun o' ho' e he hb => by
  obtain rfl : o = o' := Option.some.inj (ho.symm.trans ho')
  exact hdep e he hb
 have hif := (zod hi).2
 refine ⟨fun r hr => ?_, fun m hm => ?_⟩
 ·have h1 := List.all_eq_true.1 hC.2 (r, i) (List.mem_zipIdx_iff_getElem?.2 (by simpa using hr))
  rw [Bool.and_eq_true] at h1
  refine ⟨?_, ?_⟩
  ·rcases Nat.lt_or_ge j r.1 with hlt | hge
   ·have h2 := h1.1
    rw [Bool.and_eq_true] at h2
    have hrl : r.1 ≤ C.effs.length := of_decide_eq_true h2.1
    have hmem : C.effs[j]'(by omega) ∈ C.effs.take r.1 := List.mem_take_iff_getElem.2 ⟨j, by omega, rfl⟩
    have hb := List.all_eq_true.1 h2.2 _ hmem
    have := (h.effs j _ (List.getElem?_eq_getElem (by omega))).1 (zwc h 6 i _ hb hall)
    omega
   ·exact hge
  ·rcases Nat.lt_or_ge r.2 j with hlt | hge
   ·have hjl : r.2 < C.effs.length := Nat.lt_of_lt_of_le hlt h.le
    have h2 := h1.2
    rw [List.getElem?_eq_getElem hjl] at h2
    have hl := (h.effs r.2 _ (List.getElem?_eq_getElem hjl)).2 hlt
    simp only [Bool.or_eq_true] at h2
    rcases h2 with h2 | h2
    ·rw [Nat.eq_of_beq_eq_true h2, hif] at hl; cases hl
    ·have hopt : ∀ (o' : Oper), ops[C.effs[r.2]]? = some o' → ∀ e ∈ o'.after, Region.binds .any e = true → listed.getD e.on false = true := fun o' ho' e he hb => h.down _ o' ho' hl e he hb
     have := zwc h 6 _ i h2 hopt
     rw [hif] at this; cases this
   ·exact hge
 ·have h1 := List.all_eq_true.1 hC.1 (i, m) (List.mem_zipIdx_iff_getElem?.2 (by simpa using hm))
  rw [Bool.and_eq_true] at h1
  have hge : j ≤ m := by
   rcases Nat.lt_or_ge m j with hlt | hge
   ·have := (h.effs m i hm).2 hlt
    rw [hif] at this; cases this
   ·exact hge
  rcases Nat.lt_or_ge j m with hlt | hge2
  ·have hml : m < C.effs.length := (List.getElem?_eq_some_iff.1 hm).1
   have hmem : C.effs[j]'(by omega) ∈ C.effs.take m := List.mem_take_iff_getElem.2 ⟨j, by omega, rfl⟩
   have hb := List.all_eq_true.1 h1.1 _ hmem
   rw [Bool.and_eq_true] at hb
   have := (h.effs j _ (List.getElem?_eq_getElem (by omega))).1 (zwc h 6 i _ hb.2 hall)
   omega
  ·omega
theorem zpc {listed : Array Bool} {i j : Nat} (h : j ≠ i) : (listed.setIfInBounds i true).getD j false = listed.getD j false := getD_set_ne false (Ne.symm h)
def frOk (C : Chain) (fr : Nat → Nat) (n : Nat) : Bool := (List.range n).all fun i => match C.rng[i]? with | some r => decide (fr i ≤ if C.effs.contains i then r.1 + 1 else r.1) | none => false
theorem next_of {C : Chain} {i j : Nat} (hne : ∀ m : Nat, C.effs[m]? = some i → m = j) : (C.effs[j]? = some i ∧ C.next i j = j + 1) ∨ ((∀ m : Nat, C.effs[m]? ≠ some i) ∧ C.next i j = j) := by
 unfold Chain.next
 by_cases h : C.effs[j]? = some i
 ·exact .inl ⟨h, if_pos h⟩
 ·refine .inr ⟨fun m hm => h ?_, if_neg h⟩
  have := hne m hm
  subst this
  exact hm
theorem RelInv.step {C : Chain} {fr : Nat → Nat} {S : Nat → World → Prop} {St : Nat → World → World → Prop} {F : Nat → Value → World → Prop} {a b : Act} {listed : Array Bool} {j : Nat} {u u' : World} {i : Nat} {o : Oper} {v : Value}
  (hst : ∀ i v j w w', F i v w → fr i ≤ j → S j w → St j w w' → F i v w') (hok : relOk ops a.tmps.size = true) (hC : zFd ops C = true) (hfr : frOk C fr ops.size = true)
  (h : RelInv P ops C fr S F a listed j b u) (ho : ops[i]? = some o) (hi : listed.getD i true = false) (hdep : ∀ e ∈ o.after, Region.binds .any e = true → listed.getD e.on false = true)
  (hv : F i v u') (hS : S (C.next i j) u') (hs : St j u u') : RelInv P ops C fr S F a (listed.setIfInBounds i true) (C.next i j) (b.put o.dst v) u' := by
 obtain ⟨hlt, hif⟩ := zod hi
 obtain ⟨hrng, heff⟩ := h.range hC ho hi hdep
 have hset : ∀ k, k ≠ i → (listed.setIfInBounds i true).getD k false = listed.getD k false := fun k hk => zpc hk
 have hself := getD_set_self hlt
 have hin : i < ops.size := (Array.getElem?_eq_some_iff.1 ho).1
 have hfri : fr i ≤ C.next i j := by
  have := List.all_eq_true.1 hfr i (List.mem_range.2 hin)
  cases hr : C.rng[i]? with
  | none => rw [hr] at this; cases this
  | some r =>
   rw [hr] at this
   have h1 := of_decide_eq_true this
   have h2 := (hrng r hr).1
   rcases next_of heff with ⟨he, hn⟩ | ⟨he, hn⟩
   ·rw [hn]
    split at h1 <;> omega
   ·rw [hn]
    rw [if_neg (by
     intro hc
     rw [List.contains_iff_mem] at hc
     obtain ⟨m, hm⟩ := List.mem_iff_getElem?.1 hc
     exact he m hm)] at h1
    omega
 have hjle : j ≤ C.next i j := by rcases next_of heff with ⟨_, hn⟩ | ⟨_, hn⟩ <;> omega
 refine ⟨hS, by simpa using h.size, ?_, ?_, ?_, ?_, ?_, ?_, ?_, ?_⟩
 ·cases hd : o.dst <;> simpa [Act.put] using h.defers
 ·cases hd : o.dst <;> simpa [Act.put] using h.tmps
 ·rcases next_of heff with ⟨he, hn⟩ | ⟨_, hn⟩
  ·rw [hn]; exact (List.getElem?_eq_some_iff.1 he).1
  ·rw [hn]; exact h.le
 ·intro m e hm
  by_cases hei : e = i
  ·subst hei
   obtain rfl := heff m hm
   rcases next_of heff with ⟨_, hn⟩ | ⟨he, _⟩
   ·rw [hn, hself]; simp
   ·exact absurd hm (he m)
  ·rw [hset e hei, h.effs m e hm]
   rcases next_of heff with ⟨he, hn⟩ | ⟨_, hn⟩
   ·rw [hn]
    constructor
    ·intro; omega
    ·intro hlt'
     rcases Nat.lt_or_ge m j with h' | h'
     ·exact h'
     ·have : m = j := by omega
      subst this
      rw [hm] at he
      exact absurd (Option.some.inj he) hei
   ·rw [hn]
 ·intro k o' ho' hl e he hb
  by_cases hek : e.on = i
  ·rw [hek]; exact hself
  ·rw [hset e.on hek]
   by_cases hk : k = i
   ·subst hk
    obtain rfl : o = o' := Option.some.inj (ho.symm.trans ho')
    exact hdep e he hb
   ·rw [hset k hk] at hl
    exact h.down k o' ho' hl e he hb
 ·intro t ht
  have hne : o.dst ≠ some t := fun hd => by
   have := ht i o ho hd
   rw [hself] at this
   cases this
  have e : (b.put o.dst v).tmps[t]? = b.tmps[t]? := by
   cases hd : o.dst with
   | none => rfl
   | some d => rw [hd] at hne; simp only [Act.put]; exact Array.getElem?_setIfInBounds_ne (fun e => hne (by rw [e]))
  rw [e]
  refine h.old t fun k o' ho' hd' => ?_
  have hk : k ≠ i := fun e => by
   subst e
   obtain rfl : o = o' := Option.some.inj (ho.symm.trans ho')
   exact hne hd'
  rw [← hset k hk]
  exact ht k o' ho' hd'
 ·intro k o' d ho' hl hd'
  by_cases hk : k = i
  ·subst hk
   obtain rfl : o = o' := Option.some.inj (ho.symm.trans ho')
   have hdn := (zrd hok ho).2 d hd'
   refine ⟨v, ?_, hv⟩
   rw [hd']
   simp only [Act.put]
   exact Array.getElem?_setIfInBounds_self_of_lt (by rw [h.tmps]; exact hdn)
  ·rw [hset k hk] at hl
   obtain ⟨v', e, f⟩ := h.new k o' d ho' hl hd'
   refine ⟨v', ?_, hst _ _ _ _ _ f (h.from_ k o' ho' hl) h.good hs⟩
   rw [← e]
   cases hd : o.dst with
   | none => rfl
   | some d0 =>
    have := zDd hok ho ho' (Ne.symm hk) hd
    simp only [Act.put]
    exact Array.getElem?_setIfInBounds_ne (fun e => this (by rw [hd', e]))
 ·intro k o' ho' hl
  by_cases hk : k = i
  ·subst hk; exact hfri
  ·rw [hset k hk] at hl
   exact Nat.le_trans (h.from_ k o' ho' hl) hjle
theorem RelInv.done {C : Chain} {fr : Nat → Nat} {S : Nat → World → Prop} {F : Nat → Value → World → Prop} {a b : Act} {listed : Array Bool} {j : Nat} {u : World} (hok : relOk ops a.tmps.size = true) (h : RelInv P ops C fr S F a listed j b u)
  (hr : Region.ready .any ops listed = []) : ∀ i, i < ops.size → listed.getD i false = true := by
 intro i
 induction i using Nat.strongRecOn with
 | _ i ih =>
  intro hi
  cases hl : listed.getD i false with
  | true => rfl
  | false =>
   have hm : i ∈ Region.ready .any ops listed := mem_ready.2 ⟨by
    rw [Array.getD_eq_getD_getElem?, Array.getElem?_eq_getElem (by rw [h.size]; exact hi)] at hl ⊢
    exact hl, ops[i], Array.getElem?_eq_getElem hi, fun e he hb => by
     have := (zrd hok (Array.getElem?_eq_getElem hi)).1 e he hb
     exact ih e.on this (by omega)⟩
   rw [hr] at hm
   cases hm
def zxb (Q' : Act → World → Prop) (F : Nat → Value → World → Prop) (u : World) : Nat → List Oper → Act → Prop
 | _, [], a => Q' a u
 | k, o :: l, a => match o.dst with
  | none => zxb Q' F u (k + 1) l a
  | some d => ∀ v, F k v u → zxb Q' F u (k + 1) l (a.put (some d) v)
theorem zxb.run {Q' : Act → World → Prop} {F : Nat → Value → World → Prop} {u : World} : ∀ (l : List Oper) (k : Nat) (a b : Act), zxb Q' F u k l a → b.defers = a.defers → b.tmps.size = a.tmps.size →
  (∀ t, (∀ o ∈ l, o.dst ≠ some t) → b.tmps[t]? = a.tmps[t]?) → (∀ (i : Nat) (o : Oper) (d : Nat), l[i]? = some o → o.dst = some d → ∃ v, b.tmps[d]? = some v ∧ F (k + i) v u) → Q' b u := by
 intro l
 induction l with
 | nil =>
  intro k a b h hd hsz hold _
  have e : b.tmps = a.tmps := Array.ext_getElem? fun t => hold t (fun o ho => by cases ho)
  have : b = a := by cases a; cases b; simp_all
  rw [this]; exact h
 | cons o l ih =>
  intro k a b h hd hsz hold hnew
  unfold zxb at h
  have hnew' : ∀ (i : Nat) (o' : Oper) (d : Nat), l[i]? = some o' → o'.dst = some d → ∃ v, b.tmps[d]? = some v ∧ F (k + 1 + i) v u := fun i o' d ho' hd' => by
   have := hnew (i + 1) o' d (by simpa using ho') hd'
   rwa [show k + (i + 1) = k + 1 + i by omega] at this
  cases hdst : o.dst with
  | none =>
   rw [hdst] at h
   refine ih (k + 1) a b h hd hsz (fun t ht => hold t fun o' ho' => ?_) hnew'
   rcases List.mem_cons.1 ho' with rfl | ho'
   ·rw [hdst]; simp
   ·exact ht o' ho'
  | some d =>
   rw [hdst] at h
   obtain ⟨v, ev, fv⟩ := hnew 0 o d (by simp) hdst
   rw [Nat.add_zero] at fv
   refine ih (k + 1) (a.put (some d) v) b (h v fv) (by simpa [Act.put] using hd) (by simpa [Act.put] using hsz) (fun t ht => ?_) hnew'
   by_cases htd : t = d
   ·subst htd
    have hlt : t < b.tmps.size := (Array.getElem?_eq_some_iff.1 ev).1
    rw [ev]
    simp only [Act.put]
    rw [Array.getElem?_setIfInBounds_self_of_lt (by rw [← hsz]; exact hlt)]
   ·simp only [Act.put]
    rw [Array.getElem?_setIfInBounds_ne (Ne.symm htd)]
    refine hold t fun o' ho' => ?_
    rcases List.mem_cons.1 ho' with rfl | ho'
    ·rw [hdst]; simpa using Ne.symm htd
    ·exact ht o' ho'
end
theorem zsa {o : Oper} {y : Nat → Option Bool} {g : Nat} {x : Bool} {C : Prop} (hg : o.guard = some (g, x)) (hy : y g = some x) (h : Region.wanted o y = false) : C := by
 unfold Region.wanted at h
 rw [hg] at h
 simp [hy] at h
theorem zaa {o : Oper} {y : Nat → Option Bool} {C : Prop} (hg : o.guard = none) (h : Region.wanted o y = false) : C := by
 unfold Region.wanted at h
 rw [hg] at h
 cases h
open Go.RowKit
theorem eqlFld (a b : ByteArray) (x y : Int) (w : World) : (binOp .eql 88 (.agg #[.string a, .int .i64 x]) (.agg #[.string b, .int .i64 y])).run Tryz.prog w = .ok (.bool (sEq a b && x == y)) w := by
 have u3 := Tryz.underlying3
 have u9 := Tryz.underlying9
 have a3 := Tryz.isAgg3
 have z3 := Tryz.sizeOf3
 have a9 := Tryz.isAgg9
 have z9 := Tryz.sizeOf9
 have hS : Tryz.prog.underlying 88 = some (.struct (Tryz.prog.fieldsOf 88)) := by kernel_rfl
 have hp : Tryz.prog.stoodInHeld 88 = false := by kernel_rfl
 rw [run_eql_struct, show (10000 : Nat) = 9999 + 1 from rfl, run_equalIn_agg w 9999 88 _ _ hS hp]
 simp only [Program.fieldsOf, Tryz.underlying88]
 go_simp
 unfold sEq
 cases h1 : (a.toList == b.toList) <;> cases h2 : (x == y) <;> simp_all
theorem eqlFldG (w : World) (x y : Operand) (xs ys : Array Value) : (eqGuard .eql 88 x y (.agg xs) (.agg ys)).run Tryz.prog w = .ok () w := run_eqGuard_agg w .eql _ x y xs ys (by kernel_rfl)
theorem hdrField_none {l : List FldD} {k : Nat} {f : FldD} (hf : l[k]? = some f) (h : zIa l k = none) : ident f.name = true ∧ badW f.width = false ∧ (l.take k).any (fun g => sEq g.name f.name) = false := by
 unfold zIa at h
 rw [hf] at h
 simp only at h
 cases h1 : ident f.name with
 | false => simp [h1] at h
 | true =>
  cases h2 : badW f.width with
  | true => simp [h1, h2] at h
  | false =>
   cases h3 : (l.take k).any (fun g => sEq g.name f.name) with
   | true => simp [h1, h2, h3] at h
   | false => exact ⟨rfl, rfl, rfl⟩
theorem any_take {l : List FldD} {k m : Nat} {g : FldD} {p : FldD → Bool} (hm : m < k) (hg : l[m]? = some g) (h : p g = true) : (l.take k).any p = true :=
 List.any_eq_true.2 ⟨g, List.mem_of_getElem? (by rw [List.getElem?_take, if_pos hm]; exact hg), h⟩
theorem zXe {l : List FldD} {k : Nat} {p : FldD → Bool} (h : ∀ m g, m < k → l[m]? = some g → p g = false) : (l.take k).any p = false := by
 rw [← Bool.not_eq_true, List.any_eq_true]
 rintro ⟨g, hg, hp⟩
 obtain ⟨m, hm⟩ := List.mem_iff_getElem?.1 hg
 rw [List.getElem?_take] at hm
 split at hm
 ·rename_i hlt
  rw [h m g hlt hm] at hp; cases hp
 ·cases hm
set_option maxRecDepth 100000 in
set_option maxHeartbeats 2000000 in
theorem hdrCheck_any (h : HdrD) (w : World) (hR : HdrD.ok w w.heap.size h) :
  Calls Tryz.prog 47 #[.agg #[.string h.name, .slice h.fields.a h.fields.l.length h.fields.c]] w fun e w' => e = .returned (.int .i64 (zac h)) ∧ Below w.heap.size w w' := by
 obtain ⟨N, hN⟩ : ∃ N, N = w.heap.size := ⟨_, rfl⟩
 have HN := Hd hN
 have HR := Hd hR
 have HF := Hd hR.fields
 have hnm := hR.nm
 obtain ⟨nm, ⟨fa, fc, fl⟩⟩ := h
 have hlen := HF.out.len
 simp only at HF hnm hlen ⊢
 rw [← hN]
 have HNm := Hd hnm
 obtain ⟨q1, h1⟩ : ∃ q, ident nm = q := ⟨_, rfl⟩
 have H1 := Hd h1
 have hE := eqlFld
 have hE2 := eqlFldG
 clear hR hN hnm h1
 go_enter Tryz.func47, Tryz.ntmps47
 go_wp2_with fail
 rw [← HN.out]
 obtain ⟨W1, hW1⟩ : ∃ U, U = w.alloc (.cells #[.string nm, .slice fa fl.length fc] 118) := ⟨_, rfl⟩
 rw [← hW1]
 have HB1 := Hd (show Below N w W1 by rw [hW1, HN.out]; exact (Below.refl _ _).alloc (Nat.le_refl _) _)
 have HK1 := Hd (show Blk W1 N 118 #[.string nm, .slice fa fl.length fc] by rw [hW1, HN.out]; exact Blk.new _ _ _)
 have HS1 := Hd (show W1.heap.size = N + 1 by rw [hW1, HN.out]; simp)
 have k0 : W1.cell? ⟨N, 0, none⟩ = some (.string nm) := HK1.out.cell 0
 have k1 : W1.cell? ⟨N, 1, none⟩ = some (.slice fa fl.length fc) := HK1.out.cell 1
 clear hW1
 refine (zGa nm HNm.out W1).mono ?_
 rintro e w1 ⟨rfl, hw1⟩
 subst hw1
 rw [H1.out]
 cases q1
 ·go_wp2_with fail
  go_ret
  exact ⟨zfb (by unfold zac; simp only; rw [H1.out]; rfl), HB1.out⟩
 ·by_cases hz : fl.length = 0
  ·have b0 : ((fl.length : Int) == 0) = true := by simp [hz]
   have HZ := Hd hz
   clear hz
   go_wp2_with fail
   go_ret
   exact ⟨zfb (by unfold zac; simp only; rw [H1.out, HZ.out]; rfl), HB1.out⟩
  ·have b0 : ((fl.length : Int) == 0) = false := by simpa using hz
   by_cases h12 : 12 < fl.length
   ·have b1 : decide ((12 : Int) < fl.length) = true := by simp; omega
    have HZ := Hd hz
    clear hz
    go_wp2_with fail
    go_ret
    exact ⟨zfb (by unfold zac; simp only; rw [H1.out, if_neg (by simp), if_neg HZ.out, if_pos h12]), HB1.out⟩
   ·have b1 : decide ((12 : Int) < fl.length) = false := by simp; omega
    have HZ := Hd hz
    have hl12 : fl.length ≤ 12 := by omega
    clear hz h12
    have HL := Hd (show zac ⟨nm, ⟨fa, fc, fl⟩⟩ = match scan fl.length (zIa fl) with | some e => e | none => if sumW fl % 8 = 0 then 0 else 10 by
     unfold zac; simp only; rw [H1.out, if_neg (by simp), if_neg HZ.out, if_neg (by omega)]; rfl)
    go_wp2_with fail
    go_loopw [25] (fun i wr => ∃ k : Nat, k ≤ fl.length ∧ i = .int .i64 k ∧ (∀ j, j < k → zIa fl j = none) ∧ Below (N + 1) W1 wr) (fun i _ => fl.length - (intOf i).toNat)
    case atStart => exact ⟨0, Nat.zero_le _, rfl, fun j hj => absurd hj (by omega), Below.refl _ _⟩
    case round =>
     obtain ⟨wo, rfl⟩ : ∃ wo : World, wo = wr := ⟨_, rfl⟩
     obtain ⟨k, hk, rfl, hall, hB⟩ := hrel
     have HA := Hd hall
     have HB := Hd hB
     have HKr := Hd (HK1.out.below hB (by omega))
     clear hall hB k0 k1
     have k1 : wo.cell? ⟨N, 1, none⟩ = some (.slice fa fl.length fc) := HKr.out.cell 1
     have k0 : wo.cell? ⟨N, 0, none⟩ = some (.string nm) := HKr.out.cell 0
     have hsz : N + 1 ≤ wo.heap.size := by have := HB.out.size; have := HS1.out; omega
     by_cases hlt : k < fl.length
     ·obtain ⟨b, off, x, hA, hb, hx, ⟨hxn, hxw⟩, hc⟩ := HF.out.at_ zFb (by omega) hlt
      have hBw : Below N w wo := HB1.out.trans (HB.out.mono (by omega))
      have hbN : b < N := by rw [HN.out]; exact hb
      have c0 : wo.cell? ⟨b, off + k * 2, none⟩ = some (.string x.name) := by have := hc 0 _ rfl; exact (hBw.cell (p := ⟨b, off + k * 2, none⟩) hbN).trans (by simpa using this)
      have c1 : wo.cell? ⟨b, off + k * 2 + 1, none⟩ = some (.int .i64 x.width) := (hBw.cell (p := ⟨b, off + k * 2 + 1, none⟩) hbN).trans (hc 1 _ rfl)
      simp only at hA hx
      subst hA
      obtain ⟨p1, hp1⟩ : ∃ q, ident x.name = q := ⟨_, rfl⟩
      obtain ⟨p2, hp2⟩ : ∃ q, badW x.width = q := ⟨_, rfl⟩
      have HX := Hd hx
      have HXn := Hd hxn
      have HP1 := Hd hp1
      have HP2 := Hd hp2
      have HBw := Hd hBw
      have hkl : (k : Int) < fl.length := by omega
      obtain ⟨fb, hfb⟩ : ∃ fb, fb = wo.heap.size := ⟨_, rfl⟩
      have d2 : p2 = false → 1 ≤ x.width ∧ x.width ≤ 32 := fun h => (zSb _).1 (hp2.trans h)
      have d3 : p2 = true → x.width < 1 ∨ 32 < x.width := fun h => (zbf _).1 (hp2.trans h)
      have hkc : k ≤ fc := by have := HF.out.le; simp only at this; omega
      clear hp1 hp2 hc hxn hx hb hBw
      go_wp2_with fail
      obtain ⟨Wf, hWf⟩ : ∃ U, U = wo.alloc (.cells #[.string x.name, .int .i64 x.width] 88) := ⟨_, rfl⟩
      rw [← hWf, ← hfb]
      have HBf := Hd (show Below fb wo Wf by rw [hWf, hfb]; exact (Below.refl _ _).alloc (Nat.le_refl _) _)
      have HKf := Hd (show Blk Wf fb 88 #[.string x.name, .int .i64 x.width] by rw [hWf, hfb]; exact Blk.new _ _ _)
      have HSf := Hd (show Wf.heap.size = fb + 1 by rw [hWf, hfb]; simp)
      have hfN : N + 1 ≤ fb := by omega
      have f0 : Wf.cell? ⟨fb, 0, none⟩ = some (.string x.name) := HKf.out.cell 0
      have f1 : Wf.cell? ⟨fb, 1, none⟩ = some (.int .i64 x.width) := HKf.out.cell 1
      have HKh := Hd (HKr.out.below HBf.out (by omega))
      clear hWf hfb c0 c1 k0 k1
      have k0 : Wf.cell? ⟨N, 0, none⟩ = some (.string nm) := HKh.out.cell 0
      have k1 : Wf.cell? ⟨N, 1, none⟩ = some (.slice (some ⟨b, off, none⟩) fl.length fc) := HKh.out.cell 1
      have HBF := Hd (HBw.out.trans (HBf.out.mono (show N ≤ fb by omega)))
      refine (zGa x.name HXn.out Wf).mono ?_
      rintro e w3 ⟨rfl, hw3⟩
      subst hw3
      rw [HP1.out]
      cases p1
      ·go_wp2_with fail
       go_ret
       refine ⟨zfb ?_, HBF.out⟩
       rw [HL.out, zua hlt HA.out (show zIa fl k = some 6 by unfold zIa; rw [HX.out]; simp [HP1.out])]
      ·cases p2
       case true =>
        have h := d3 rfl
        have hS := Hd (show zIa fl k = some 10 by unfold zIa; rw [HX.out]; simp [HP1.out, HP2.out])
        clear d2 d3
        rcases h with h | h
        ·go_wp2_with fail
         go_ret
         refine ⟨zfb ?_, HBF.out⟩
         rw [HL.out, zua hlt HA.out hS.out]
        ·have h1 : decide (x.width < 1) = false := by simp; omega
         go_wp2_with fail
         go_ret
         refine ⟨zfb ?_, HBF.out⟩
         rw [HL.out, zua hlt HA.out hS.out]
       case false =>
        obtain ⟨h1, h2⟩ := d2 rfl
        clear d2 d3
        go_wp2_with fail
        go_loopw [47] (fun i wr => ∃ m : Nat, m ≤ k ∧ i = .int .i64 m ∧ (∀ j y, j < m → fl[j]? = some y → sEq y.name x.name = false) ∧ Below (fb + 1) Wf wr) (fun i _ => k - (intOf i).toNat)
        case atStart => exact ⟨0, Nat.zero_le _, rfl, fun j y hj => absurd hj (by omega), Below.refl _ _⟩
        case round =>
         obtain ⟨m, hm, rfl, hny, hBx⟩ := hrel
         have HNY := Hd hny
         have HBx := Hd hBx
         have HKx := Hd (HKf.out.below hBx (by omega))
         have HKy := Hd (HKh.out.below hBx (by omega))
         have HBW := Hd (HBF.out.trans (hBx.mono (by omega)))
         clear hny hBx f0 f1 k0 k1
         have f0 : wr.cell? ⟨fb, 0, none⟩ = some (.string x.name) := HKx.out.cell 0
         have f1 : wr.cell? ⟨fb, 1, none⟩ = some (.int .i64 x.width) := HKx.out.cell 1
         have hsx : fb + 1 ≤ wr.heap.size := by have := HBx.out.size; have := HSf.out; omega
         by_cases hmk : m < k
         ·obtain ⟨b', off', y, hA', _, hy, ⟨hyn, hyw⟩, hc⟩ := HF.out.at_ zFb (by omega) (show m < fl.length by omega)
          obtain ⟨rfl, rfl⟩ := addr_inj hA'
          have c0 : wr.cell? ⟨b, off + m * 2, none⟩ = some (.string y.name) := by have := hc 0 _ rfl; exact (HBW.out.cell (p := ⟨b, off + m * 2, none⟩) hbN).trans (by simpa using this)
          have c1 : wr.cell? ⟨b, off + m * 2 + 1, none⟩ = some (.int .i64 y.width) := (HBW.out.cell (p := ⟨b, off + m * 2 + 1, none⟩) hbN).trans (hc 1 _ rfl)
          have HY := Hd hy
          have hmkI : (m : Int) < k := by omega
          obtain ⟨q, hq⟩ : ∃ q, sEq y.name x.name = q := ⟨_, rfl⟩
          have HQ := Hd hq
          obtain ⟨gb, hgb⟩ : ∃ gb, gb = wr.heap.size := ⟨_, rfl⟩
          clear hA' hc hy
          go_upto_region 17 with (fail)
          obtain ⟨Wg, hWg⟩ : ∃ U, U = wr.alloc (.cells #[.string y.name, .int .i64 y.width] 88) := ⟨_, rfl⟩
          rw [← hWg, ← hgb]
          have HBg := Hd (show Below gb wr Wg by rw [hWg, hgb]; exact (Below.refl _ _).alloc (Nat.le_refl _) _)
          have HKg := Hd (show Blk Wg gb 88 #[.string y.name, .int .i64 y.width] by rw [hWg, hgb]; exact Blk.new _ _ _)
          have HBxg := Hd (HBx.out.trans (HBg.out.mono (by omega)))
          have HBWg := Hd (HBW.out.trans (HBg.out.mono (by omega)))
          have g0 : Wg.cell? ⟨gb, 0, none⟩ = some (.string y.name) := HKg.out.cell 0
          have g1 : Wg.cell? ⟨gb, 1, none⟩ = some (.int .i64 y.width) := HKg.out.cell 1
          have gf := HKg.out.frozen 1
          have HKfg := Hd (HKx.out.below HBg.out (by omega))
          have hgf : fb < gb := by omega
          clear hWg hgb f0 f1 c0 c1
          have f0 : Wg.cell? ⟨fb, 0, none⟩ = some (.string x.name) := HKfg.out.cell 0
          have f1 : Wg.cell? ⟨fb, 1, none⟩ = some (.int .i64 x.width) := HKfg.out.cell 1
          have n1 : gb ≠ fb := by omega
          have n2 : fb ≠ gb := by omega
          cases q
          case true =>
           go_wp2_with fail
           go_ret
           refine ⟨zfb ?_, ?_⟩
           ·rw [HL.out, zua hlt HA.out (show zIa fl k = some 7 by unfold zIa; rw [HX.out]; simp only [HP1.out, HP2.out, any_take hmk HY.out (p := fun g => sEq g.name x.name) HQ.out]; rfl)]
           ·exact HBWg.out.setCell (p := ⟨gb, 1, none⟩) (by simp; omega) _
          case false =>
           go_wp2_with fail
           go_roundw
           case rel =>
            refine ⟨m + 1, by omega, by go_num, fun j z hj hz => ?_, ?_⟩
            ·by_cases hjm : j < m
             ·exact HNY.out j z hjm hz
             ·obtain rfl : j = m := by omega
              rw [HY.out] at hz
              rw [← Option.some.inj hz]; exact HQ.out
            ·exact HBxg.out.setCell (p := ⟨gb, 1, none⟩) (by simp; omega) _
           case measure => simp [intOf]; omega
         ·obtain rfl : m = k := by omega
          clear hmk
          go_wp2_with fail
          go_roundw
          case rel =>
           refine ⟨m + 1, by omega, by go_num, fun j hj => ?_, HB.out.trans ((HBf.out.mono (by omega)).trans (HBx.out.mono (by omega)))⟩
           by_cases hjm : j < m
           ·exact HA.out j hjm
           ·obtain rfl : j = m := by omega
            unfold zIa
            rw [HX.out]
            simp only [HP1.out, HP2.out, zXe (p := fun g => sEq g.name x.name) (HNY.out)]
            rfl
          case measure => simp [intOf]; omega
     ·obtain rfl : k = fl.length := by omega
      clear hlt hk
      have HBw := Hd (HB1.out.trans (HB.out.mono (show N ≤ N + 1 by omega)))
      have HRr := Hd ((HR.out.below (by rw [← HN.out]; exact HBw.out)).more (show w.heap.size ≤ wo.heap.size by have := HBw.out.size; omega))
      go_wp2_with fail
      refine (widths_any ⟨nm, ⟨fa, fc, fl⟩⟩ wo HRr.out (by simp only; omega)).mono ?_
      rintro e w2 ⟨A, c, rfl, hO, hb2⟩
      simp only at hO ⊢
      have hbad : ∀ (j : Nat) (f : FldD), fl[j]? = some f → badW f.width = false := fun j f hf => (hdrField_none hf (HA.out j (List.getElem?_eq_some_iff.1 hf).1)).2.1
      have hb01 : ∀ x ∈ fl.map (·.width), 0 ≤ x ∧ x ≤ 32 := by
       intro x hx
       obtain ⟨f, hf, rfl⟩ := List.mem_map.1 hx
       obtain ⟨j, hj⟩ := List.mem_iff_getElem?.1 hf
       have := (zSb _).1 (hbad j f hj)
       omega
      have hS := sum_any A c (fl.map (·.width)) w2 (hO.slr (fun x hx => by have := hb01 x hx; omega)) (by simp; omega)
      have hs0 := isum_bd hb01
      rw [List.length_map] at hS hs0
      obtain ⟨s, hs⟩ : ∃ s, isum (fl.map (·.width)) = s := ⟨_, rfl⟩
      rw [hs] at hS hs0
      have HSW := Hd (show sumW fl = s from hs)
      have HScan := Hd (znb (n := fl.length) (f := zIa fl) HA.out)
      have HB2 := Hd (HBw.out.trans (hb2.mono (by have := HBw.out.size; have := HN.out; omega)))
      have HSc := Hd hS
      obtain ⟨s0, s1⟩ := hs0
      have s2 : s ≤ 400 := by omega
      clear hS hO hb2 hbad hb01 hs s1 k0 k1
      go_wp2_with fail
      refine HSc.out.mono ?_
      rintro e w3 ⟨rfl, hw3⟩
      subst hw3
      by_cases h8 : s % 8 = 0
      ·have b8 : (s % 8 != 0) = false := by simp [h8]
       have H8 := Hd h8
       clear h8
       go_wp2_with fail
       go_ret
       exact ⟨zfb (by rw [HL.out, HScan.out]; simp only; rw [HSW.out, if_pos H8.out]), HB2.out⟩
      ·have b8 : (s % 8 != 0) = true := by simp [h8]
       go_wp2_with fail
       go_ret
       exact ⟨zfb (by rw [HL.out, HScan.out]; simp only; rw [HSW.out, if_neg h8]), HB2.out⟩
theorem wide_ok (x : Int) (h : (wide x).2 = 0) : 0 ≤ (wide x).1 ∧ (wide x).1 ≤ 32 := by
 unfold wide at *
 cases hb : badW x with
 | true => simp [hb] at h
 | false => have := (zSb x).1 hb; simp; omega
theorem primary_ok (d : PrgD) (ps : List FldD) (x : ExD) (h : (zSa d ps x).2 = 0) : 0 ≤ (zSa d ps x).1 ∧ (zSa d ps x).1 ≤ 32 := by
 unfold zSa at *
 split at h
 ·split at h
  ·cases h
  ·split at h
   ·cases h
   ·rename_i h1 h2 h3
    have := (zSb x.w).1 (by simpa using h2)
    simp only [h1, h3, if_true, if_false]
    rw [if_neg h2]
    simp only
    omega
 ·rename_i h1
  split at h
  ·rename_i h2
   rw [if_neg h1, if_pos h2]
   cases hf : fldAt d x.n x.w with
   | none => rw [hf] at h; cases h
   | some f => rw [hf] at h; exact wide_ok _ h
  ·rename_i h2
   rw [if_neg h1, if_neg h2]
   split at h
   ·rename_i h3
    rw [if_pos h3]
    split at h
    ·cases h
    ·rename_i h4
     rw [if_neg h4]
     cases hf : ps[x.n.toNat]? with
     | none => rw [hf] at h; cases h
     | some f => rw [hf] at h; exact wide_ok _ h
   ·rename_i h3
    rw [if_neg h3]
    split at h
    ·cases h
    ·rename_i h4; rw [if_neg h4]; decide
theorem zkf (x : ExD) (a b c : Int) (ha : 0 ≤ a ∧ a ≤ 32) (hb : 0 ≤ b ∧ b ≤ 32) (h : (zpa x a b c).2 = 0) : 0 ≤ (zpa x a b c).1 ∧ (zpa x a b c).1 ≤ 32 := by
 unfold zpa at *
 repeat' split
 all_goals try (simp_all; done)
 all_goals try (simp only; omega)
 ·rename_i h1 h2 h3 h4
  have := (zSb x.w).1 (by revert h4; simp; intro h _; exact h)
  simp only; omega
 ·rename_i h1 h2 h3
  rw [if_neg h1, if_neg h2, if_pos h3] at h
  exact wide_ok _ h
def exI (d : PrgD) (ps : List FldD) (n : List ExD) (i : Nat) : Int × Nat × Int := exAt d ps n (n.length - i + 1) i
theorem ex_ok (d : PrgD) (ps : List FldD) (n : List ExD) : ∀ (f i : Nat), (exAt d ps n f i).2.2 = 0 → i < (exAt d ps n f i).2.1 ∧ (exAt d ps n f i).2.1 ≤ n.length ∧ 0 ≤ (exAt d ps n f i).1 ∧ (exAt d ps n f i).1 ≤ 32
 | 0, i, h => by simp [exAt] at h
 | f + 1, i, h => by
  have I1 := ex_ok d ps n f (i + 1)
  generalize hr1 : exAt d ps n f (i + 1) = r1 at I1
  have I2 := ex_ok d ps n f r1.2.1
  generalize hr2 : exAt d ps n f r1.2.1 = r2 at I2
  have I3 := ex_ok d ps n f r2.2.1
  generalize hr3 : exAt d ps n f r2.2.1 = r3 at I3
  unfold exAt at h ⊢
  cases hx : n[i]? with
  | none => rw [hx] at h; simp at h
  | some x =>
   have hi : i < n.length := (List.getElem?_eq_some_iff.1 hx).1
   rw [hx] at h
   simp only [hr1, hr2, hr3] at h ⊢
   split at h
   ·simp at h
   ·rename_i g1
    rw [if_neg g1]
    split at h
    ·rename_i g2
     rw [if_pos g2]
     have := primary_ok d ps x h
     simp only; omega
    ·rename_i g2
     rw [if_neg g2]
     split at h
     ·rename_i g3; exact absurd h g3
     ·rename_i g3
      rw [if_neg g3]
      have J1 := I1 (by omega)
      split at h
      ·rename_i g4
       rw [if_pos g4]
       have := zkf x r1.1 0 0 (by omega) (by omega) h
       simp only; omega
      ·rename_i g4
       rw [if_neg g4]
       split at h
       ·rename_i g5; exact absurd h g5
       ·rename_i g5
        rw [if_neg g5]
        have J2 := I2 (by omega)
        split at h
        ·rename_i g6
         rw [if_pos g6]
         have := zkf x r1.1 r2.1 0 (by omega) (by omega) h
         simp only; omega
        ·rename_i g6
         rw [if_neg g6]
         split at h
         ·rename_i g7; exact absurd h g7
         ·rename_i g7
          rw [if_neg g7]
          have J3 := I3 (by omega)
          have := zkf x r1.1 r2.1 r3.1 (by omega) (by omega) h
          simp only; omega
theorem zfg (d : PrgD) (ps : List FldD) (n : List ExD) : ∀ (f g i : Nat), n.length < f + i → n.length < g + i → exAt d ps n f i = exAt d ps n g i
 | 0, 0, i, _, _ => rfl
 | 0, g + 1, i, h1, h2 => by unfold exAt; rw [List.getElem?_eq_none (by omega)]
 | f + 1, 0, i, h1, h2 => by unfold exAt; rw [List.getElem?_eq_none (by omega)]
 | f + 1, g + 1, i, h1, h2 => by
  have e1 := zfg d ps n f g (i + 1) (by omega) (by omega)
  have K1 := ex_ok d ps n g (i + 1)
  unfold exAt
  rw [e1]
  dsimp only
  generalize exAt d ps n g (i + 1) = r1 at *
  by_cases q1 : r1.2.2 = 0
  ·have J1 := K1 q1
   have e2 := zfg d ps n f g r1.2.1 (by omega) (by omega)
   have K2 := ex_ok d ps n g r1.2.1
   rw [e2]
   generalize exAt d ps n g r1.2.1 = r2 at *
   by_cases q2 : r2.2.2 = 0
   ·have J2 := K2 q2
    have e3 := zfg d ps n f g r2.2.1 (by omega) (by omega)
    rw [e3]
   ·simp [q1, q2]
  ·simp [q1]
theorem exI_ok (d : PrgD) (ps : List FldD) (n : List ExD) (i : Nat) (h : (exI d ps n i).2.2 = 0) : i < (exI d ps n i).2.1 ∧ (exI d ps n i).2.1 ≤ n.length ∧ 0 ≤ (exI d ps n i).1 ∧ (exI d ps n i).1 ≤ 32 := ex_ok d ps n _ i h
theorem exI_none (d : PrgD) (ps : List FldD) (n : List ExD) (i : Nat) (h : n.length ≤ i) : exI d ps n i = (0, 0, 3) := by
 unfold exI exAt; rw [List.getElem?_eq_none h]
theorem exI_some (d : PrgD) (ps : List FldD) (n : List ExD) (i : Nat) (x : ExD) (hx : n[i]? = some x) : exI d ps n i =
  if arity x.op < 0 then (0, 0, 11) else if arity x.op = 0 then ((zSa d ps x).1, i + 1, (zSa d ps x).2)
  else if (exI d ps n (i + 1)).2.2 ≠ 0 then (0, 0, (exI d ps n (i + 1)).2.2)
  else if arity x.op = 1 then ((zpa x (exI d ps n (i + 1)).1 0 0).1, (exI d ps n (i + 1)).2.1, (zpa x (exI d ps n (i + 1)).1 0 0).2)
  else if (exI d ps n (exI d ps n (i + 1)).2.1).2.2 ≠ 0 then (0, 0, (exI d ps n (exI d ps n (i + 1)).2.1).2.2)
  else if arity x.op = 2 then ((zpa x (exI d ps n (i + 1)).1 (exI d ps n (exI d ps n (i + 1)).2.1).1 0).1, (exI d ps n (exI d ps n (i + 1)).2.1).2.1, (zpa x (exI d ps n (i + 1)).1 (exI d ps n (exI d ps n (i + 1)).2.1).1 0).2)
  else if (exI d ps n (exI d ps n (exI d ps n (i + 1)).2.1).2.1).2.2 ≠ 0 then (0, 0, (exI d ps n (exI d ps n (exI d ps n (i + 1)).2.1).2.1).2.2)
  else ((zpa x (exI d ps n (i + 1)).1 (exI d ps n (exI d ps n (i + 1)).2.1).1 (exI d ps n (exI d ps n (exI d ps n (i + 1)).2.1).2.1).1).1, (exI d ps n (exI d ps n (exI d ps n (i + 1)).2.1).2.1).2.1, (zpa x (exI d ps n (i + 1)).1 (exI d ps n (exI d ps n (i + 1)).2.1).1 (exI d ps n (exI d ps n (exI d ps n (i + 1)).2.1).2.1).1).2) := by
 have hi : i < n.length := (List.getElem?_eq_some_iff.1 hx).1
 have e1 : exAt d ps n (n.length - i) (i + 1) = exI d ps n (i + 1) := zfg d ps n _ _ _ (by omega) (by omega)
 have K1 := exI_ok d ps n (i + 1)
 conv => lhs; unfold exI exAt
 rw [hx, e1]
 dsimp only
 generalize exI d ps n (i + 1) = r1 at *
 by_cases q1 : r1.2.2 = 0
 ·have J1 := K1 q1
  have e2 : exAt d ps n (n.length - i) r1.2.1 = exI d ps n r1.2.1 := zfg d ps n _ _ _ (by omega) (by omega)
  have K2 := exI_ok d ps n r1.2.1
  rw [e2]
  generalize exI d ps n r1.2.1 = r2 at *
  by_cases q2 : r2.2.2 = 0
  ·have J2 := K2 q2
   have e3 : exAt d ps n (n.length - i) r2.2.1 = exI d ps n r2.2.1 := zfg d ps n _ _ _ (by omega) (by omega)
   rw [e3]
  ·simp [q1, q2]
 ·simp [q1]
open Go.RowKit
abbrev declF (fb : Nat) : Value := .func (.func 116) #[] #[.pointer (some ⟨fb, 0, none⟩)]
theorem decl1_any (f : FldD) (nm : ByteArray) (fb : Nat) (w : World) (hb : fb < w.heap.size) (h0 : w.cell? ⟨fb, 0, none⟩ = some (.string nm)) :
  Calls Tryz.prog 116 #[.agg #[.string f.name, .int .i64 f.width], .pointer (some ⟨fb, 0, none⟩)] w fun e w' => e = .returned (.bool (sEq f.name nm)) ∧ Below w.heap.size w w' := by
 have n1 : fb ≠ w.heap.size := by omega
 go_enter Tryz.func116, Tryz.ntmps116
 go_wp2_with fail
 go_returns
 exact ⟨rfl, by (first | (refine zca ?_ _; go_grown; done) | (go_grown; done))⟩
set_option maxRecDepth 100000 in
set_option maxHeartbeats 1000000 in
theorem index_any (s : SL FldD) (nm : ByteArray) (fb : Nat) (w : World) (hS : SLR w w.heap.size 2 FldD.enc FldD.ok s) (hb : fb < w.heap.size) (h0 : w.cell? ⟨fb, 0, none⟩ = some (.string nm)) :
  Calls Tryz.prog 144 #[.slice s.a s.l.length s.c, declF fb] w fun e w' => (∃ k, e = .returned (.int .i64 k) ∧ (decide (0 ≤ k)) = s.l.any (fun g => sEq g.name nm)) ∧ Below w.heap.size w w' := by
 obtain ⟨N, hN⟩ : ∃ N, N = w.heap.size := ⟨_, rfl⟩
 have HN := Hd hN
 have HS := Hd hS
 have HB := Hd hb
 have H0 := Hd h0
 have hlen := hS.len
 clear hS hb h0
 obtain ⟨sa, sc, sl⟩ := s
 simp only at HS hlen ⊢
 rw [← hN]
 clear hN
 go_enter Tryz.func144, Tryz.ntmps144
 go_wp2_with fail
 go_loopw [8] (fun i wr => ∃ k : Nat, k ≤ sl.length ∧ i = .int .i64 k ∧ (∀ j y, j < k → sl[j]? = some y → sEq y.name nm = false) ∧ Below N w wr) (fun i _ => sl.length - (intOf i).toNat)
 case atStart => exact ⟨0, Nat.zero_le _, rfl, fun j y hj => absurd hj (by omega), Below.refl _ _⟩
 case round =>
  obtain ⟨k, hk, rfl, hno, hB⟩ := hrel
  have HNO := Hd hno
  have HBr := Hd hB
  clear hno hB
  by_cases hlt : k < sl.length
  ·obtain ⟨b, off, x, hA, hb, hx, hok, hc⟩ := HS.out.at_ zFb (by omega) hlt
   have hbN : b < N := by rw [HN.out]; exact hb
   have c0 : wr.cell? ⟨b, off + k * 2, none⟩ = some (.string x.name) := by have := hc 0 _ rfl; exact (HBr.out.cell (p := ⟨b, off + k * 2, none⟩) hbN).trans (by simpa using this)
   have c1 : wr.cell? ⟨b, off + k * 2 + 1, none⟩ = some (.int .i64 x.width) := (HBr.out.cell (p := ⟨b, off + k * 2 + 1, none⟩) hbN).trans (hc 1 _ rfl)
   have f0 : wr.cell? ⟨fb, 0, none⟩ = some (.string nm) := (HBr.out.cell (p := ⟨fb, 0, none⟩) (by rw [HN.out]; exact HB.out)).trans H0.out
   have hfb : fb < wr.heap.size := by have := HBr.out.size; have := HB.out; omega
   have HC := Hd (decl1_any x nm fb wr hfb f0)
   have HX := Hd hx
   simp only at hA
   subst hA
   have hkl : (k : Int) < sl.length := by omega
   obtain ⟨q, hq⟩ : ∃ q, sEq x.name nm = q := ⟨_, rfl⟩
   have HQ := Hd hq
   rw [hq] at HC
   clear hx hok hc hq f0 hfb hb
   go_wp2_with fail
   refine HC.out.mono ?_
   rintro e w1 ⟨rfl, hb1⟩
   have HB1 := Hd (HBr.out.trans (hb1.mono (by have := HBr.out.size; have := HN.out; omega)))
   clear hb1
   cases q
   case true =>
    go_wp2_with fail
    go_ret
    refine ⟨⟨_, rfl, ?_⟩, HB1.out⟩
    rw [show decide ((0 : Int) ≤ k) = true by simp, List.any_eq_true.2 ⟨x, List.mem_of_getElem? HX.out, HQ.out⟩]
   case false =>
    go_wp2_with fail
    go_roundw
    case rel =>
     refine ⟨k + 1, by omega, by go_num, fun j y hj hy => ?_, HB1.out⟩
     by_cases hjk : j < k
     ·exact HNO.out j y hjk hy
     ·obtain rfl : j = k := by omega
      rw [HX.out] at hy
      rw [← Option.some.inj hy]; exact HQ.out
    case measure => simp [intOf]; omega
  ·obtain rfl : k = sl.length := by omega
   go_wp2_with fail
   go_ret
   refine ⟨⟨_, rfl, ?_⟩, HBr.out⟩
   have : sl.any (fun g => sEq g.name nm) = false := by
    have := zXe (l := sl) (k := sl.length) (p := fun g => sEq g.name nm) (fun m g hm hg => HNO.out m g hm hg)
    rwa [List.take_length] at this
   rw [this]
   decide
set_option maxRecDepth 100000 in
theorem contains_any (s : SL FldD) (nm : ByteArray) (fb : Nat) (w : World) (hS : SLR w w.heap.size 2 FldD.enc FldD.ok s) (hb : fb < w.heap.size) (h0 : w.cell? ⟨fb, 0, none⟩ = some (.string nm)) :
  Calls Tryz.prog 115 #[.slice s.a s.l.length s.c, declF fb] w fun e w' => e = .returned (.bool (s.l.any (fun g => sEq g.name nm))) ∧ Below w.heap.size w w' := by
 have HC := Hd (index_any s nm fb w hS hb h0)
 clear hS hb h0
 unfold declF at *
 go_enter Tryz.func115, Tryz.ntmps115
 go_wp2_with fail
 refine HC.out.mono ?_
 rintro e w1 ⟨⟨k, rfl, hk⟩, hb1⟩
 have HK := Hd hk
 have HB1 := Hd hb1
 clear hk hb1
 go_wp2_with fail
 go_ret
 exact ⟨by rw [← HK.out]; rfl, HB1.out⟩
end Go.Proofs.YtakgiamhdpgoeaaGreat
