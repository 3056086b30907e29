/- Plain mathematics of the priority queue: heaps, swaps, the order of popping. No program in sight. -/
import Derived.Laws.BitsAllLaws
namespace Go.Proofs.Ytaiefhdnjmiafaa
set_option linter.unusedVariables false

/-- an item: its key, its number, its value -/
abbrev PI := Int × Int × Int
def ltB (x y : PI) : Bool := decide (x.1 < y.1) || (x.1 == y.1 && decide (x.2.1 < y.2.1))
theorem ltB_iff (x y : PI) : ltB x y = true ↔ (x.1 < y.1 ∨ (x.1 = y.1 ∧ x.2.1 < y.2.1)) := by unfold ltB; simp
theorem ltB_not (x y : PI) : ltB x y = false ↔ ¬ (x.1 < y.1 ∨ (x.1 = y.1 ∧ x.2.1 < y.2.1)) := by
  rw [← ltB_iff]; cases ltB x y <;> simp
theorem le_trans_ {x y z : PI} (h1 : ltB y x = false) (h2 : ltB z y = false) : ltB z x = false := by rw [ltB_not] at *; omega
theorem le_of_lt {x y : PI} (h : ltB x y = true) : ltB y x = false := by rw [ltB_not]; rw [ltB_iff] at h; omega
theorem le_refl_ (x : PI) : ltB x x = false := by rw [ltB_not]; omega
def at_ (l : List PI) (i : Nat) : PI := l.getD i (0, 0, 0)
theorem at_get {l : List PI} {i : Nat} (h : i < l.length) : l[i]? = some (at_ l i) := by unfold at_; rw [List.getElem?_eq_getElem h, List.getD_eq_getElem?_getD, List.getElem?_eq_getElem h]; rfl
theorem at_set (l : List PI) (i k : Nat) (x : PI) (hi : i < l.length) : at_ (l.set i x) k = if k = i then x else at_ l k := by
  unfold at_
  rw [List.getD_eq_getElem?_getD, List.getD_eq_getElem?_getD]
  by_cases h : k = i
  · subst h; rw [if_pos rfl, List.getElem?_set_self hi]; rfl
  · rw [if_neg h, List.getElem?_set_ne (Ne.symm h)]
def swp (l : List PI) (i j : Nat) : List PI := (l.set i (at_ l j)).set j (at_ l i)
theorem swp_len (l : List PI) (i j : Nat) : (swp l i j).length = l.length := by unfold swp; simp
theorem swp_at (l : List PI) (i j k : Nat) (hi : i < l.length) (hj : j < l.length) : at_ (swp l i j) k = if k = j then at_ l i else if k = i then at_ l j else at_ l k := by
  unfold swp
  rw [at_set _ _ _ _ (by simpa using hj), at_set _ _ _ _ hi]
theorem swp_perm (l : List PI) (i j : Nat) (hi : i < l.length) (hj : j < l.length) : (swp l i j).Perm l := by
  rw [List.perm_iff_count]
  intro a
  unfold swp
  rw [List.count_set (by simpa using hj), List.count_set hi]
  have e1 : l[i] = at_ l i := by have := at_get hi; rw [List.getElem?_eq_getElem hi] at this; exact Option.some.inj this
  have e2 : l[j] = at_ l j := by have := at_get hj; rw [List.getElem?_eq_getElem hj] at this; exact Option.some.inj this
  have hm1 : at_ l i ∈ l := by rw [← e1]; exact List.getElem_mem hi
  have hc : ∀ x, x ∈ l → (x == a) = true → 1 ≤ l.count a := by
    intro x hx h
    have : x = a := by simpa using h
    subst this
    exact List.count_pos_iff.2 hx
  have hc1 := hc _ hm1
  by_cases hij : i = j
  · subst hij
    rw [List.getElem_set_self, e1]
    by_cases h1 : (at_ l i == a) = true
    · have := hc1 h1; simp only [h1, if_true]; omega
    · simp only [h1]; simp
  · rw [List.getElem_set_ne hij, e1, e2]
    by_cases h1 : (at_ l i == a) = true <;> by_cases h2 : (at_ l j == a) = true
    all_goals first
      | (have := hc1 h1; simp only [h1, h2, if_true]; simp; try omega)
      | (simp only [h1, h2]; simp; try omega)

/-! heaps -/
def IsHeap (l : List PI) : Prop := ∀ i, 0 < i → i < l.length → ltB (at_ l i) (at_ l ((i - 1) / 2)) = false
theorem heap_root {l : List PI} (h : IsHeap l) : ∀ i, i < l.length → ltB (at_ l i) (at_ l 0) = false := by
  intro i
  induction i using Nat.strongRecOn with
  | _ i ih =>
    intro hi
    rcases Nat.eq_zero_or_pos i with h0 | h0
    · subst h0; exact le_refl_ _
    · exact le_trans_ (ih ((i - 1) / 2) (by omega) (by omega)) (h i h0 hi)
def HeapUp (l : List PI) (i : Nat) : Prop :=
  (∀ k, 0 < k → k < l.length → k ≠ i → ltB (at_ l k) (at_ l ((k - 1) / 2)) = false) ∧
  (∀ k, 0 < k → k < l.length → (k - 1) / 2 = i → 0 < i → ltB (at_ l k) (at_ l ((i - 1) / 2)) = false)
theorem at_app_lt (l : List PI) (x : PI) (k : Nat) (h : k < l.length) : at_ (l ++ [x]) k = at_ l k := by
  unfold at_; rw [List.getD_eq_getElem?_getD, List.getElem?_append_left h, ← List.getD_eq_getElem?_getD]
theorem up_start {l : List PI} (h : IsHeap l) (x : PI) : HeapUp (l ++ [x]) l.length := by
  refine ⟨fun k h0 hk hne => ?_, fun k h0 hk hp hi => ?_⟩
  · rw [List.length_append] at hk
    simp only [List.length_cons, List.length_nil] at hk
    rw [at_app_lt _ _ _ (by omega), at_app_lt _ _ _ (by omega)]
    exact h k h0 (by omega)
  · rw [List.length_append] at hk
    simp only [List.length_cons, List.length_nil] at hk
    omega
theorem up_stop {l : List PI} {i : Nat} (h : HeapUp l i) (hs : i = 0 ∨ ltB (at_ l i) (at_ l ((i - 1) / 2)) = false) : IsHeap l := by
  intro k h0 hk
  by_cases hki : k = i
  · subst hki
    rcases hs with hs | hs
    · omega
    · exact hs
  · exact h.1 k h0 hk hki
theorem up_step {l : List PI} {i : Nat} (hi : i < l.length) (h0 : 0 < i) (h : HeapUp l i) (hlt : ltB (at_ l i) (at_ l ((i - 1) / 2)) = true) : HeapUp (swp l i ((i - 1) / 2)) ((i - 1) / 2) := by
  have hp : (i - 1) / 2 < l.length := by omega
  have hpi : (i - 1) / 2 ≠ i := by omega
  refine ⟨fun k hk0 hk hne => ?_, fun k hk0 hk hkp hip => ?_⟩
  · rw [swp_len] at hk
    rw [swp_at _ _ _ _ hi hp, swp_at _ _ _ _ hi hp, if_neg hne]
    by_cases hki : k = i
    · subst hki
      rw [if_pos rfl, if_pos rfl]
      exact le_of_lt hlt
    · rw [if_neg hki]
      by_cases hpk : (k - 1) / 2 = (i - 1) / 2
      · rw [if_pos hpk]
        have := h.1 k hk0 hk hki
        rw [hpk] at this
        exact le_trans_ (le_of_lt hlt) this
      · rw [if_neg hpk]
        by_cases hpk2 : (k - 1) / 2 = i
        · rw [if_pos hpk2]
          exact h.2 k hk0 hk hpk2 h0
        · rw [if_neg hpk2]
          exact h.1 k hk0 hk hki
  · rw [swp_len] at hk
    rw [swp_at _ _ _ _ hi hp, swp_at _ _ _ _ hi hp]
    have hpp : ((i - 1) / 2 - 1) / 2 ≠ (i - 1) / 2 := by omega
    have hppi : ((i - 1) / 2 - 1) / 2 ≠ i := by omega
    rw [if_neg hpp, if_neg hppi]
    have hpar := h.1 ((i - 1) / 2) hip hp hpi
    by_cases hkq : k = (i - 1) / 2
    · omega
    · rw [if_neg hkq]
      by_cases hki : k = i
      · rw [if_pos hki]; exact hpar
      · rw [if_neg hki]
        have := h.1 k hk0 hk hki
        rw [hkp] at this
        exact le_trans_ hpar this
def HeapDown (l : List PI) (i : Nat) : Prop :=
  (∀ k, 0 < k → k < l.length → (k - 1) / 2 ≠ i → ltB (at_ l k) (at_ l ((k - 1) / 2)) = false) ∧
  (∀ k, 0 < k → k < l.length → (k - 1) / 2 = i → 0 < i → ltB (at_ l k) (at_ l ((i - 1) / 2)) = false)
theorem down_stop {l : List PI} {i : Nat} (h : HeapDown l i) (h1 : 2 * i + 1 < l.length → ltB (at_ l (2 * i + 1)) (at_ l i) = false) (h2 : 2 * i + 2 < l.length → ltB (at_ l (2 * i + 2)) (at_ l i) = false) : IsHeap l := by
  intro k h0 hk
  by_cases hp : (k - 1) / 2 = i
  · rw [hp]
    have : k = 2 * i + 1 ∨ k = 2 * i + 2 := by omega
    rcases this with rfl | rfl
    · exact h1 hk
    · exact h2 hk
  · exact h.1 k h0 hk hp
theorem down_step {l : List PI} {i f : Nat} (hi : i < l.length) (hf : f < l.length) (h : HeapDown l i) (hpf : (f - 1) / 2 = i) (hf0 : 0 < f) (hlt : ltB (at_ l f) (at_ l i) = true)
    (h1 : 2 * i + 1 < l.length → ltB (at_ l (2 * i + 1)) (at_ l f) = false) (h2 : 2 * i + 2 < l.length → ltB (at_ l (2 * i + 2)) (at_ l f) = false) : HeapDown (swp l i f) f := by
  have hif : i ≠ f := by omega
  refine ⟨fun k hk0 hk hne => ?_, fun k hk0 hk hkp hip => ?_⟩
  · rw [swp_len] at hk
    rw [swp_at _ _ _ _ hi hf, swp_at _ _ _ _ hi hf]
    by_cases hkf : k = f
    · subst hkf
      rw [if_pos rfl, hpf, if_neg hif, if_pos rfl]
      exact le_of_lt hlt
    · rw [if_neg hkf, if_neg hne]
      by_cases hki : k = i
      · subst hki
        rw [if_pos rfl, if_neg (by omega)]
        exact h.2 f hf0 hf hpf hk0
      · rw [if_neg hki]
        by_cases hpk : (k - 1) / 2 = i
        · rw [if_pos hpk]
          have : k = 2 * i + 1 ∨ k = 2 * i + 2 := by omega
          rcases this with rfl | rfl
          · exact h1 hk
          · exact h2 hk
        · rw [if_neg hpk]
          exact h.1 k hk0 hk hpk
  · rw [swp_len] at hk
    rw [swp_at _ _ _ _ hi hf, swp_at _ _ _ _ hi hf, hpf]
    rw [if_neg (show k ≠ f by omega), if_neg (show k ≠ i by omega), if_neg hif, if_pos rfl]
    have := h.1 k hk0 hk (by omega)
    rw [hkp] at this
    exact this
/-- the root taken out, the last item put in its place -/
def popped (l : List PI) : List PI := (l.set 0 (at_ l (l.length - 1))).take (l.length - 1)
theorem popped_len (l : List PI) : (popped l).length = l.length - 1 := by unfold popped; rw [List.length_take, List.length_set]; omega
theorem popped_at (l : List PI) (k : Nat) (hk : k < l.length - 1) : at_ (popped l) k = if k = 0 then at_ l (l.length - 1) else at_ l k := by
  have : at_ (popped l) k = at_ (l.set 0 (at_ l (l.length - 1))) k := by
    show (popped l).getD k (0, 0, 0) = (l.set 0 (at_ l (l.length - 1))).getD k (0, 0, 0)
    unfold popped; rw [List.getD_eq_getElem?_getD, List.getElem?_take, if_pos hk, ← List.getD_eq_getElem?_getD]
  rw [this, at_set _ _ _ _ (by omega)]
theorem down_start {l : List PI} (h : IsHeap l) : HeapDown (popped l) 0 := by
  refine ⟨fun k h0 hk hne => ?_, fun k h0 hk hp hi => by omega⟩
  rw [popped_len] at hk
  rw [popped_at _ _ hk, popped_at _ _ (by omega), if_neg (by omega), if_neg hne]
  exact h k h0 (by omega)
theorem popped_perm {l : List PI} (hl : 0 < l.length) : l.Perm (at_ l 0 :: popped l) := by
  have hs := swp_perm l 0 (l.length - 1) hl (by omega)
  have e : swp l 0 (l.length - 1) = popped l ++ [at_ l 0] := by
    unfold swp popped
    apply List.ext_getElem?
    intro k
    rcases Nat.lt_trichotomy k (l.length - 1) with hk | hk | hk
    · rw [List.getElem?_append_left (by rw [List.length_take, List.length_set]; omega), List.getElem?_set_ne (by omega), List.getElem?_take, if_pos hk]
    · rw [List.getElem?_append_right (by rw [List.length_take, List.length_set]; omega), hk, List.getElem?_set_self (by rw [List.length_set]; omega), List.length_take, List.length_set, Nat.min_eq_left (by omega), Nat.sub_self]
      rfl
    · rw [List.getElem?_eq_none (by rw [List.length_set, List.length_set]; omega), List.getElem?_eq_none (by rw [List.length_append, List.length_take, List.length_set]; simp; omega)]
  rw [e] at hs
  exact hs.symm.trans (List.perm_append_comm (l₁ := popped l) (l₂ := [at_ l 0]))

/-! the item that is popped: the first of the smallest key -/
def fmTo (S : List PI) : Nat → Nat
  | 0 => 0
  | i + 1 => if (at_ S i).1 < (at_ S (fmTo S i)).1 then i else fmTo S i
def fm (S : List PI) : Nat := fmTo S S.length
theorem fmTo_lt (S : List PI) (i : Nat) (h : 0 < i) : fmTo S i < i := by
  induction i with
  | zero => omega
  | succ i ih =>
    unfold fmTo
    split
    · omega
    · rcases Nat.eq_zero_or_pos i with h0 | h0
      · subst h0; simp [fmTo]
      · have := ih h0; omega
theorem fmTo_min (S : List PI) (i : Nat) : ∀ m, m < i → (at_ S (fmTo S i)).1 ≤ (at_ S m).1 ∧ (m < fmTo S i → (at_ S (fmTo S i)).1 < (at_ S m).1) := by
  induction i with
  | zero => intro m hm; omega
  | succ i ih =>
    intro m hm
    unfold fmTo
    split
    · rename_i hlt
      rcases Nat.lt_or_ge m i with h | h
      · have := (ih m h).1; exact ⟨by omega, fun _ => by omega⟩
      · have : m = i := by omega
        subst this; exact ⟨Int.le_refl _, fun h => by omega⟩
    · rename_i hlt
      rcases Nat.lt_or_ge m i with h | h
      · exact ih m h
      · have : m = i := by omega
        subst this
        refine ⟨by omega, fun hm => ?_⟩
        rcases Nat.eq_zero_or_pos m with h0 | h0
        · subst h0; simp [fmTo] at hm
        · have := fmTo_lt S m h0; omega
def Num (S : List PI) : Prop := S.Pairwise fun x y => x.2.1 < y.2.1
theorem num_lt {S : List PI} (h : Num S) {i j : Nat} (hij : i < j) (hj : j < S.length) : (at_ S i).2.1 < (at_ S j).2.1 := by
  have := List.pairwise_iff_getElem.1 h i j (by omega) hj hij
  have e1 := at_get (show i < S.length by omega)
  have e2 := at_get hj
  rw [List.getElem?_eq_getElem (by omega)] at e1 e2
  rw [← Option.some.inj e1, ← Option.some.inj e2]
  exact this
theorem fm_lt {S : List PI} (h : 0 < S.length) : fm S < S.length := fmTo_lt S _ h
theorem fm_min {S : List PI} (hn : Num S) {m : Nat} (hm : m < S.length) (hne : m ≠ fm S) : ltB (at_ S (fm S)) (at_ S m) = true := by
  rw [ltB_iff]
  obtain ⟨h1, h2⟩ := fmTo_min S S.length m hm
  have hf := fm_lt (S := S) (by omega)
  unfold fm at *
  rcases Nat.lt_or_ge m (fmTo S S.length) with h | h
  · exact .inl (h2 h)
  · rcases Int.lt_or_eq_of_le h1 with h' | h'
    · exact .inl h'
    · exact .inr ⟨h', num_lt hn (by omega) hm⟩
/-- the root of a heap is that item -/
theorem root_fm {l S : List PI} (h : IsHeap l) (hp : l.Perm S) (hn : Num S) (hl : 0 < l.length) : at_ l 0 = at_ S (fm S) := by
  have hlen := hp.length_eq
  have hm0 : at_ l 0 ∈ l := List.mem_of_getElem? (at_get hl)
  have hf := fm_lt (S := S) (by omega)
  have hmf : at_ S (fm S) ∈ S := List.mem_of_getElem? (at_get hf)
  obtain ⟨j, hj⟩ := List.mem_iff_getElem?.1 (hp.mem_iff.1 hm0)
  obtain ⟨i, hi⟩ := List.mem_iff_getElem?.1 (hp.mem_iff.2 hmf)
  have hjl : j < S.length := (List.getElem?_eq_some_iff.1 hj).1
  have hil : i < l.length := (List.getElem?_eq_some_iff.1 hi).1
  have ej : at_ S j = at_ l 0 := by rw [at_get hjl] at hj; exact Option.some.inj hj
  have ei : at_ l i = at_ S (fm S) := by rw [at_get hil] at hi; exact Option.some.inj hi
  by_cases hjf : j = fm S
  · rw [← hjf, ej]
  · have h1 := fm_min hn hjl hjf
    have h2 := heap_root h i hil
    rw [ei, ← ej] at h2
    rw [h1] at h2
    cases h2
theorem erase_perm {S : List PI} {k : Nat} (hk : k < S.length) : S.Perm (at_ S k :: S.eraseIdx k) := by
  have e : S[k] = at_ S k := by have := at_get hk; rw [List.getElem?_eq_getElem hk] at this; exact Option.some.inj this
  rw [← e, List.eraseIdx_eq_take_drop_succ]
  have e2 : S = S.take k ++ S[k] :: S.drop (k + 1) := by rw [← List.drop_eq_getElem_cons hk, List.take_append_drop]
  exact (List.Perm.of_eq e2).trans List.perm_middle
theorem num_erase {S : List PI} (h : Num S) (k : Nat) : Num (S.eraseIdx k) := List.Pairwise.sublist (List.eraseIdx_sublist ..) h
theorem popped_of {l l' S : List PI} (h : IsHeap l) (hp : l.Perm S) (hn : Num S) (hl : 0 < l.length) (hl' : l'.Perm (popped l)) : l'.Perm (S.eraseIdx (fm S)) := by
  have h1 : (at_ l 0 :: popped l).Perm (at_ S (fm S) :: S.eraseIdx (fm S)) := ((popped_perm hl).symm.trans hp).trans (erase_perm (fm_lt (by rw [← hp.length_eq]; exact hl)))
  rw [root_fm h hp hn hl] at h1
  exact hl'.trans (List.Perm.cons_inv h1)
/-- all items in the order of popping -/
def ord : Nat → List PI → List PI
  | 0, _ => []
  | n + 1, S => at_ S (fm S) :: ord n (S.eraseIdx (fm S))
theorem ord_len (n : Nat) (S : List PI) : (ord n S).length = n := by induction n generalizing S with | zero => rfl | succ n ih => simp [ord, ih]
end Go.Proofs.Ytaiefhdnjmiafaa
