/- Lemmas. -/
import Derived.Test.YtakgiamhdpgoeaaGreatP23
set_option linter.unusedSimpArgs false
namespace Go.Proofs.YtakgiamhdpgoeaaGreat
set_option linter.unusedVariables false
variable {J : JobM} {b b' : Nat}
def JobM.good (J : JobM) (st : List Int) : Prop := ∀ i x, st[i]? = some x → 0 ≤ x ∧ x < J.chip.stages ∧ J.ok (st.take i) x = true
def Past (pre : List Int) (s : Int) (st : List Int) : Prop := ∃ i x y, st.take i = pre.take i ∧ i ≤ pre.length ∧ st[i]? = some x ∧ (pre ++ [s])[i]? = some y ∧ x < y
theorem good_snoc {pre : List Int} {s : Int} (h : J.good pre) (h0 : 0 ≤ s) (h1 : s < J.chip.stages) (h2 : J.ok pre s = true) : J.good (pre ++ [s]) := by
 intro i x hx
 by_cases hi : i < pre.length
 ·rw [List.getElem?_append_left hi] at hx
  rw [List.take_append_of_le_length (by omega)]
  exact h i x hx
 ·have hi2 : i = pre.length := by
   have := (List.getElem?_eq_some_iff.1 hx).1
   simp at this
   omega
  subst hi2
  simp at hx
  subst hx
  simpa using ⟨h0, h1, h2⟩
theorem good_init {pre : List Int} {x : Int} (h : J.good (pre ++ [x])) : J.good pre ∧ 0 ≤ x := by
 constructor
 ·intro i y hy
  have hi := (List.getElem?_eq_some_iff.1 hy).1
  have := h i y (by rw [List.getElem?_append_left hi]; exact hy)
  rwa [List.take_append_of_le_length (by omega)] at this
 ·exact (h pre.length x (by simp)).1
theorem past_next {pre st : List Int} {s : Int} (h : Past pre (s + 1) st) : Past pre s st ∨ (st.take pre.length = pre ∧ st[pre.length]? = some s) := by
 obtain ⟨i, x, y, h1, h2, h3, h4, h5⟩ := h
 by_cases hi : i < pre.length
 ·rw [List.getElem?_append_left hi] at h4
  exact .inl ⟨i, x, y, h1, h2, h3, by rw [List.getElem?_append_left hi]; exact h4, h5⟩
 ·obtain rfl : i = pre.length := by omega
  simp at h4
  by_cases hx : x < s
  ·exact .inl ⟨_, x, s, h1, h2, h3, by simp, hx⟩
  ·obtain rfl : x = s := by omega
   exact .inr ⟨by simpa using h1, h3⟩
theorem past_down {pre st : List Int} {s : Int} (h : Past (pre ++ [s]) 0 st) (h0 : ∀ x ∈ st, 0 ≤ x) : Past pre s st := by
 obtain ⟨i, x, y, h1, h2, h3, h4, h5⟩ := h
 have hm := h0 x (List.mem_of_getElem? h3)
 by_cases hi : i ≤ pre.length
 ·rw [List.getElem?_append_left (by simp; omega)] at h4
  exact ⟨i, x, y, by rw [h1, List.take_append_of_le_length hi], hi, h3, h4, h5⟩
 ·simp at h2
  obtain rfl : i = pre.length + 1 := by omega
  rw [List.getElem?_append_right (by simp)] at h4
  simp at h4
  omega
theorem past_up {pre st : List Int} {x s S : Int} (hs : S ≤ s) (hst : ∀ y ∈ st, y < S) (hl : pre.length + 1 < st.length) (h : Past pre (x + 1) st) : Past (pre ++ [x]) s st := by
 rcases past_next h with ⟨i, u, v, h1, h2, h3, h4, h5⟩ | ⟨h1, h2⟩
 ·exact ⟨i, u, v, by rw [h1, List.take_append_of_le_length h2], by simp; omega, h3, by rw [List.getElem?_append_left (by simp; omega)]; exact h4, h5⟩
 ·obtain ⟨y, hy⟩ : ∃ y, st[pre.length + 1]? = some y := ⟨_, List.getElem?_eq_getElem hl⟩
  refine ⟨pre.length + 1, y, s, ?_, by simp, hy, by rw [List.getElem?_append_right (by simp)]; simp, ?_⟩
  ·rw [List.take_add_one, h1, h2, List.take_of_length_le (by simp)]
   rfl
  ·have := hst y (List.mem_of_getElem? hy); omega
theorem Srch.finds {pre s k r} (h : Srch J b pre s k r) (hs : 0 ≤ s) (hg : J.good pre) (hp : ∀ st, st.length = J.n → J.good st → ¬ Past pre s st) :
  (∀ st k, r = .placed st k → st.length = J.n ∧ J.good st ∧ ∀ st', st'.length = J.n → J.good st' → ¬ Past st 0 st') ∧ (∀ k, r = .full k → ∀ st, st.length = J.n → ¬ J.good st) := by
 have hlo : ∀ st, J.good st → ∀ x ∈ st, 0 ≤ x ∧ x < J.chip.stages := fun st h x hx => by
  obtain ⟨i, hi, rfl⟩ := List.mem_iff_getElem.1 hx
  have := h i _ (List.getElem?_eq_getElem hi)
  exact ⟨this.1, this.2.1⟩
 induction h with
 | @done pre s k h1 =>
  refine ⟨fun st k' e => ?_, fun k' e => (by cases e)⟩
  injection e with e1 e2
  subst e1
  refine ⟨h1, hg, fun st' hl hg' ⟨i, x, y, p1, p2, p3, p4, p5⟩ => hp st' hl hg' ?_⟩
  have hi : i < st'.length := (List.getElem?_eq_some_iff.1 p3).1
  rw [List.getElem?_append_left (by omega)] at p4
  exact ⟨i, x, y, p1, p2, p3, by rw [List.getElem?_append_left (by omega)]; exact p4, p5⟩
 | out h1 h2 h3 => exact ⟨fun st k e => (by cases e), fun k e => (by cases e)⟩
 | yes h1 h2 h3 h4 h5 ih => exact ih (Int.le_refl _) (good_snoc hg hs h2 h4) fun st hl hg' hpa => hp st hl hg' (past_down hpa fun x hx => (hlo st hg' x hx).1)
 | @no pre s k r h1 h2 h3 h4 h5 ih =>
  refine ih (by omega) hg fun st hl hg' hpa => ?_
  rcases past_next hpa with h | ⟨e1, e2⟩
  ·exact hp st hl hg' h
  ·have := (hg' _ _ e2).2.2
   rw [e1, h4] at this
   cases this
 | @full s k h1 h2 =>
  refine ⟨fun st k e => (by cases e), fun k' _ st hl hg' => hp st hl hg' ?_⟩
  obtain ⟨y, hy⟩ : ∃ y, st[0]? = some y := ⟨_, List.getElem?_eq_getElem (by omega)⟩
  exact ⟨0, y, s, by simp, by simp, hy, by simp, by have := (hlo st hg' y (List.mem_of_getElem? hy)).2; omega⟩
 | @back pre x s k r h1 h2 h3 ih =>
  obtain ⟨g1, g2⟩ := good_init hg
  exact ih (by omega) g1 fun st hl hg' hpa => hp st hl hg' (past_up h2 (fun y hy => (hlo st hg' y hy).2) (by omega) hpa)
theorem Srch.start_past (st : List Int) (h : ∀ x ∈ st, 0 ≤ x) : ¬ Past [] 0 st := by
 rintro ⟨i, x, y, h1, h2, h3, h4, h5⟩
 simp at h2
 subst h2
 simp at h4
 have := h x (List.mem_of_getElem? h3)
 omega
theorem Use.Le.fits {u v : Use} {c : ChipD} (h : u.Le v) (hf : v.fits c = true) : u.fits c = true := by
 unfold Use.fits at *
 simp only [Bool.and_eq_true, decide_eq_true_eq] at *
 have := h.t; have := h.g; have := h.s; have := h.m
 omega
theorem cost2_mono {a a' b : Int} (h : a ≤ a') : cost2 a b ≤ cost2 a' b := by
 unfold cost2
 rw [zLb, zLb, zLb, zLb]
 omega
theorem Use.Ok.zero_le {u : Use} (h : u.Ok) : Use.zero.Le u := ⟨h.t, h.g, h.s.1, h.m.1⟩
section
variable {J : JobM}
theorem JobM.add_mono {u v : Use} (h : u.Le v) (i : Nat) : (J.add u i).Le (J.add v i) := by
 have := h.t; have := h.g
 refine ⟨?_, ?_, cost2_mono h.s, cost2_mono h.m⟩
 ·show (if J.gate.getD i false then u.tZ else u.tZ + 1) ≤ (if J.gate.getD i false then v.tZ else v.tZ + 1); split <;> omega
 ·show (if J.gate.getD i false then u.gates + 1 else u.gates) ≤ (if J.gate.getD i false then v.gates + 1 else v.gates); split <;> omega
theorem JobM.use_take {st : List Int} {i : Nat} {x : Int} (h : st[i]? = some x) : (J.add (J.use (st.take i) x) i).Le (J.use st x) := by
 have hi := (List.getElem?_eq_some_iff.1 h).1
 have e : st = st.take (i + 1) ++ st.drop (i + 1) := (List.take_append_drop _ _).symm
 have e2 : J.add (J.use (st.take i) x) i = J.use (st.take (i + 1)) x := by
  rw [List.take_add_one, h]
  show _ = J.use (st.take i ++ [x]) x
  rw [JobM.use_snoc, if_pos rfl, List.length_take, Nat.min_eq_left (by omega)]
 rw [e2]
 conv => rhs; rw [e]
 unfold JobM.use
 rw [JobM.useFrom_app]
 exact (JobM.useFrom_ok _ _ _ _ (JobM.use_ok _ _)).2
theorem take_getD {l : List Int} {i j : Nat} (d : Int) (h : j < i) : (l.take i).getD j d = l.getD j d := by simp [List.getD, h]
theorem JobM.follows_take {st : List Int} {i : Nat} {x : Int} : J.follows (st.take i) i x = J.follows st i x := by
 unfold JobM.follows
 rw [Bool.eq_iff_iff, List.all_eq_true, List.all_eq_true]
 constructor
 ·intro h j hj; have := h j hj; rwa [take_getD 0 (List.mem_range.1 hj)] at this
 ·intro h j hj; have := h j hj; rwa [take_getD 0 (List.mem_range.1 hj)]
theorem JobM.valid_iff {st : List Int} : J.valid st = true ↔ (st.length = J.n ∧ (∀ j, j < J.n → J.follows st j (st.getD j 0) = true)) ∧ (∀ s ∈ st, 0 ≤ s ∧ s < J.chip.stages) ∧ ∀ s : Nat, s < J.chip.stages.toNat → (J.use st (s : Int)).fits J.chip = true := by
 unfold JobM.valid JobM.sat
 simp only [Bool.and_eq_true, decide_eq_true_eq, List.all_eq_true, List.mem_range, and_assoc]
theorem JobM.valid_good {st : List Int} (h : J.valid st = true) : st.length = J.n ∧ J.good st := by
 obtain ⟨⟨hl, hf⟩, hr, hu⟩ := JobM.valid_iff.1 h
 refine ⟨hl, fun i x hx => ?_⟩
 have hi := (List.getElem?_eq_some_iff.1 hx).1
 have hx2 := hr x (List.mem_of_getElem? hx)
 refine ⟨hx2.1, hx2.2, ?_⟩
 unfold JobM.ok
 have e : (st.take i).length = i := by rw [List.length_take]; exact Nat.min_eq_left (by omega)
 rw [e, JobM.follows_take, Bool.and_eq_true]
 refine ⟨(JobM.use_take hx).fits ?_, ?_⟩
 ·have := hu x.toNat (by omega)
  rwa [Int.toNat_of_nonneg hx2.1] at this
 ·have := hf i (by omega)
  rwa [zec hx] at this
theorem JobM.good_valid {st : List Int} (hc : Use.zero.fits J.chip = true) (hl : st.length = J.n) (h : J.good st) : J.valid st = true := by
 refine JobM.valid_iff.2 ⟨⟨hl, fun j hj => ?_⟩, fun s hs => ?_, fun s hs => ?_⟩
 ·obtain ⟨x, hx⟩ : ∃ x, st[j]? = some x := ⟨_, List.getElem?_eq_getElem (by omega)⟩
  have := (h j x hx).2.2
  unfold JobM.ok at this
  rw [show (st.take j).length = j by rw [List.length_take]; exact Nat.min_eq_left (by omega), JobM.follows_take, Bool.and_eq_true] at this
  rw [zec hx]
  exact this.2
 ·obtain ⟨i, hi, rfl⟩ := List.mem_iff_getElem.1 hs
  have := h i _ (List.getElem?_eq_getElem hi)
  exact ⟨this.1, this.2.1⟩
 ·have key : ∀ i, i ≤ st.length → (J.use (st.take i) (s : Int)).fits J.chip = true := by
   intro i
   induction i with
   | zero => intro _; simpa [JobM.use, JobM.useFrom] using hc
   | succ i ih =>
    intro hi
    obtain ⟨x, hx⟩ : ∃ x, st[i]? = some x := ⟨_, List.getElem?_eq_getElem (by omega)⟩
    rw [List.take_add_one, hx]
    show (J.use (st.take i ++ [x]) _).fits _ = true
    rw [JobM.use_snoc]
    split
    ·rename_i e
     have := (h i x hx).2.2
     unfold JobM.ok at this
     rw [Bool.and_eq_true] at this
     rw [← e]
     exact this.1
    ·exact ih (by omega)
  have := key st.length (Nat.le_refl _)
  rwa [List.take_length] at this
theorem JobM.early_le {st : List Int} (hl : st.length = J.n) (h : J.good st) : ∀ j, j ≤ J.n → ∀ i x, (J.earlyTo j)[i]? = some x → x ≤ st.getD i 0 := by
 intro j
 induction j with
 | zero => intro _ i x hx; simp [JobM.earlyTo] at hx
 | succ j ih =>
  intro hj i x hx
  rw [JobM.earlyTo] at hx
  by_cases hi : i < j
  ·rw [List.getElem?_append_left (by rw [JobM.earlyTo_len]; exact hi)] at hx
   exact ih (by omega) i x hx
  ·rw [List.getElem?_append_right (by rw [JobM.earlyTo_len]; omega), JobM.earlyTo_len] at hx
   have hij : i = j := by
    have := (List.getElem?_eq_some_iff.1 hx).1
    simp at this
    omega
   subst hij
   simp at hx
   subst hx
   obtain ⟨y, hy⟩ : ∃ y, st[i]? = some y := ⟨_, List.getElem?_eq_getElem (by omega)⟩
   have hg := h i y hy
   rw [zec hy]
   have hfo : J.follows st i y = true := by
    have := hg.2.2
    unfold JobM.ok at this
    rw [show (st.take i).length = i by rw [List.length_take]; exact Nat.min_eq_left (by omega), JobM.follows_take, Bool.and_eq_true] at this
    exact this.2
   unfold JobM.follows at hfo
   rw [List.all_eq_true] at hfo
   have key : ∀ (l : List Nat) (m : Int), (∀ k ∈ l, k < i) → m ≤ y → l.foldl (fun m k => if J.dep k i = 2 then max m ((J.earlyTo i).getD k 0 + 1) else if J.dep k i = 1 then max m ((J.earlyTo i).getD k 0) else m) m ≤ y := by
    intro l
    induction l with
    | nil => intro m _ hm; exact hm
    | cons k l ih2 =>
     intro m hk hm
     rw [List.foldl_cons]
     refine ih2 _ (fun k' h' => hk k' (List.mem_cons_of_mem _ h')) ?_
     have hki := hk k (List.mem_cons_self ..)
     have h1 := hfo k (List.mem_range.2 hki)
     obtain ⟨z, hz⟩ : ∃ z, (J.earlyTo i)[k]? = some z := ⟨_, List.getElem?_eq_getElem (by rw [JobM.earlyTo_len]; exact hki)⟩
     have h2 := ih (by omega) k z hz
     rw [zec hz]
     unfold depOk at h1
     split
     ·rename_i e
      rw [if_pos e, decide_eq_true_eq] at h1
      omega
     ·rename_i e
      rw [if_neg e] at h1
      split
      ·rename_i e2
       rw [if_pos e2, decide_eq_true_eq] at h1
       omega
      ·exact hm
   exact key _ 0 (fun k hk => List.mem_range.1 hk) hg.1
end
section
variable {J : JobM} {e : Int} {crit : List Int}
theorem obst_none {st : List Int} (hl : st.length = J.n) (h : J.good st) : (J.obst crit).1 = 0 := by
 unfold JobM.obst
 have h1 : J.bigs = none := by
  unfold JobM.bigs
  rw [List.find?_eq_none]
  intro i hi
  have hi := List.mem_range.1 hi
  obtain ⟨x, hx⟩ : ∃ x, st[i]? = some x := ⟨_, List.getElem?_eq_getElem (by omega)⟩
  have := (h i x hx).2.2
  unfold JobM.ok at this
  rw [show (st.take i).length = i by rw [List.length_take]; exact Nat.min_eq_left (by omega), Bool.and_eq_true] at this
  have := (JobM.add_mono (J := J) (JobM.use_ok (J := J) (st.take i) x).zero_le i).fits this.1
  simp [this]
 have h2 : J.lates = false := by
  unfold JobM.lates
  rw [List.any_eq_false]
  intro s hs
  obtain ⟨i, hi, rfl⟩ := List.mem_iff_getElem.1 hs
  have hi2 : i < J.n := by rw [JobM.earlyTo_len] at hi; exact hi
  have h3 := JobM.early_le hl h J.n (Nat.le_refl _) i _ (List.getElem?_eq_getElem hi)
  obtain ⟨x, hx⟩ : ∃ x, st[i]? = some x := ⟨_, List.getElem?_eq_getElem (by omega)⟩
  have := (h i x hx).2.1
  rw [zec hx] at h3
  simp only [decide_eq_true_eq]
  omega
 rw [h1, h2]
 rfl
theorem good_nil : J.good [] := fun i x hx => by simp at hx
theorem good_nonneg {st : List Int} (h : J.good st) : ∀ x ∈ st, 0 ≤ x := fun x hx => by
 obtain ⟨i, hi, rfl⟩ := List.mem_iff_getElem.1 hx
 exact (h i _ (List.getElem?_eq_getElem hi)).1
theorem Srch.found {b : Nat} {r : Res} (h : Srch J b [] 0 0 r) :
  (∀ st k, r = .placed st k → st.length = J.n ∧ J.good st ∧ ∀ st', st'.length = J.n → J.good st' → ¬ Past st 0 st') ∧ (∀ k, r = .full k → ∀ st, st.length = J.n → ¬ J.good st) :=
 h.finds (Int.le_refl _) good_nil fun st _ hg => Srch.start_past st (good_nonneg hg)
theorem zub.placed {b : Int} {r : PlcM} (h : zub e J crit b r) (hs : r.status = 1) : zRb e J r.stage = true ∧ r.reason = 0 ∧ ∀ st', zRb e J st' = true → ¬ Past r.stage 0 st' := by
 unfold zub at h
 split at h
 ·rw [h] at hs; simp [PlcM.no] at hs
 ·rename_i he
  split at h
  ·rw [h] at hs; simp [PlcM.no] at hs
  ·rename_i hc
   split at h
   ·rw [h] at hs; simp [PlcM.no] at hs
   ·split at h
    ·rw [h] at hs; simp [PlcM.no] at hs
    ·obtain ⟨x, hx, rfl⟩ := h
     have hf := hx.found
     cases x with
     | placed st k =>
      obtain ⟨g1, g2, g3⟩ := hf.1 st k rfl
      have he' : e = 0 := by omega
      have hc' : zAa J.chip = 0 := by omega
      refine ⟨?_, rfl, fun st' hv => ?_⟩
      ·unfold zRb
       rw [decide_eq_true he', decide_eq_true hc']
       exact JobM.good_valid (zOe hc').1 g1 g2
      ·unfold zRb at hv
       rw [Bool.and_eq_true] at hv
       obtain ⟨v1, v2⟩ := JobM.valid_good hv.2
       exact g3 st' v1 v2
     | undecided k => simp [Res.plc] at hs
     | full k => simp [Res.plc] at hs
theorem zub.none_ {b : Int} {r : PlcM} (h : zub e J crit b r) (hs : r.status = 2) (hr : r.reason ≠ 2) (hb : r.reason = 2 ∨ 0 ≤ b) {st : List Int} : zRb e J st = false := by
 cases hv : zRb e J st with
 | false => rfl
 | true =>
  exfalso
  unfold zRb at hv
  simp only [Bool.and_eq_true, decide_eq_true_eq] at hv
  obtain ⟨⟨h1, h2⟩, h3⟩ := hv
  obtain ⟨v1, v2⟩ := JobM.valid_good h3
  have ho := obst_none (crit := crit) v1 v2
  unfold zub at h
  rw [if_neg (by omega), if_neg (by omega), if_neg (by omega), if_neg (by omega)] at h
  obtain ⟨x, hx, rfl⟩ := h
  have hf := hx.found
  cases x with
  | placed st k => simp [Res.plc] at hs
  | undecided k => simp [Res.plc] at hs
  | full k => exact hf.2 k rfl st v1 v2
theorem zub.kinds {b : Int} {r : PlcM} (h : zub e J crit b r) : r.status = 1 ∨ r.status = 2 ∨ (r.status = 3 ∧ r.stage = []) := by
 unfold zub at h
 split at h
 ·rw [h]; exact .inr (.inl rfl)
 ·split at h
  ·rw [h]; exact .inr (.inl rfl)
  ·split at h
   ·rw [h]; exact .inr (.inl rfl)
   ·split at h
    ·rw [h]; exact .inr (.inl rfl)
    ·obtain ⟨x, hx, rfl⟩ := h
     cases x with
     | placed st k => exact .inl rfl
     | undecided k => exact .inr (.inr ⟨rfl, rfl⟩)
     | full k => exact .inr (.inl rfl)
theorem zub.neg {b : Int} {r : PlcM} (h : zub e J crit b r) (hb : b < 0) (hs : r.status = 2) {st : List Int} : zRb e J st = false ∨ r.reason = 2 := by
 unfold zub at h
 by_cases he : e = 0
 ·by_cases hc : zAa J.chip = 0
  ·rw [if_neg (by omega), if_neg (by omega), if_pos hb] at h
   rw [h]
   exact .inr rfl
  ·exact .inl (by unfold zRb; rw [decide_eq_false hc]; simp)
 ·exact .inl (by unfold zRb; rw [decide_eq_false he]; simp)
end
structure ChipLe (c d : ChipD) : Prop where
 s : c.stages ≤ d.stages
 t : c.tZ ≤ d.tZ
 g : c.gates ≤ d.gates
 m : c.sram ≤ d.sram
 k : c.tcam ≤ d.tcam
theorem zRb.grow {e : Int} {J : JobM} {d : ChipD} {st : List Int} (h : zRb e J st = true) (hd : zAa d = 0) (hl : ChipLe J.chip d) : zRb e { J with chip := d } st = true := by
 unfold zRb at h ⊢
 simp only [Bool.and_eq_true, decide_eq_true_eq] at h ⊢
 refine ⟨⟨h.1.1, hd⟩, ?_⟩
 obtain ⟨h1, h2⟩ := JobM.valid_good h.2
 refine JobM.good_valid (zOe hd).1 h1 fun i x hx => ?_
 obtain ⟨g1, g2, g3⟩ := h2 i x hx
 refine ⟨g1, by have := hl.s; show x < d.stages; omega, ?_⟩
 unfold JobM.ok at g3 ⊢
 rw [Bool.and_eq_true] at g3 ⊢
 refine ⟨?_, g3.2⟩
 have huse : ∀ l s, JobM.use { J with chip := d } l s = J.use l s := by
  intro l s
  have key : ∀ (l : List Int) (i : Nat) (u : Use), JobM.useFrom { J with chip := d } s i l u = J.useFrom s i l u := by
   intro l
   induction l with
   | nil => intro i u; rfl
   | cons x l ih => intro i u; simp only [JobM.useFrom]; rw [ih]; rfl
  exact key l 0 _
 have g4 := g3.1
 rw [huse]
 show (J.add (J.use _ x) _).fits d = true
 unfold Use.fits at g4 ⊢
 simp only [Bool.and_eq_true, decide_eq_true_eq] at g4 ⊢
 have := hl.t; have := hl.g; have := hl.m; have := hl.k
 omega
end Go.Proofs.YtakgiamhdpgoeaaGreat
