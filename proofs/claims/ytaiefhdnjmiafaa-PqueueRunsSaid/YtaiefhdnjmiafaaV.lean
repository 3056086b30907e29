/- Words of the laws: the items that were pushed, a row of integers, a row of bools, what Pop leaves alone. -/
import Derived.Test.YtaiefhdnjmiafaaU
import Derived.ProofKit
import Derived.OpenShut
import Derived.ShutString
import Derived.ChangeOld
namespace Go.Proofs.Ytaiefhdnjmiafaa
open Go.ChangeShapes Go.WideShapes Go.ChangeAt Go.RowKit
set_option linter.unusedVariables false

def IsRow (k : IntKind) (w : World) (a : Option Addr) (len cap : Nat) (zs : List Int) : Prop :=
  (a = none ∧ len = 0 ∧ cap = 0 ∧ zs = []) ∨
  ∃ x, a = some x ∧ len ≤ cap ∧ cap ≤ maxLen ∧ zs.length = cap ∧ (∀ i, i < zs.length → w.cell? (x.add i) = some (.int k (zs.getD i 0))) ∧ ∀ n ∈ zs, (Lit.int k n).wf = true
def zat (z : List Int) (k : Nat) : Int := z.getD k 0
def bat (s : List Bool) (k : Nat) : Bool := s.getD k true
def zi (z : Int) : Value := .int .i64 z
theorem row_ints {w : World} {a : Option Addr} {len cap : Nat} {zs : List Int} (h : IsRow .i64 w a len cap zs) : ∃ z : List Int, z.length = len ∧ Reads w w.heap.size 1 a len (z.map zi) := by
  rcases h with ⟨rfl, rfl, rfl, rfl⟩ | ⟨x, rfl, hl, hm, hz, hcell, hwf⟩
  · exact ⟨[], rfl, Reads.none_⟩
  · have hlen : (zs.take len).length = len := by rw [List.length_take]; omega
    refine ⟨zs.take len, hlen, by rw [List.length_map, hlen]; omega, fun hn => ?_⟩
    have h0 := hcell 0 (by omega)
    have hb := World.block_lt_of_cell? _ _ h0
    rw [block_add] at hb
    refine ⟨x, rfl, hb, fun j u hu => ?_⟩
    rw [List.getElem?_map] at hu
    cases ht : (zs.take len)[j]? with
    | none => rw [ht] at hu; cases hu
    | some n =>
      rw [ht] at hu
      obtain rfl := Option.some.inj hu
      have hj : j < (zs.take len).length := (List.getElem?_eq_some_iff.1 ht).1
      rw [List.length_take] at hj
      rw [List.getElem?_take, if_pos (by omega)] at ht
      rw [hcell j (by omega), List.getD_eq_getElem?_getD, ht]
      rfl
theorem ints_at {w : World} {B len : Nat} {a : Option Addr} {z : List Int} (h : Reads w B 1 a len (z.map zi)) {k : Nat} (hk : k < len) : ∃ b off, a = some ⟨b, off, none⟩ ∧ b < B ∧ w.cell? ⟨b, off + k, none⟩ = some (.int .i64 (zat z k)) := by
  obtain ⟨b, off, u, h1, h2, h3, h4⟩ := h.at_ hk
  refine ⟨b, off, h1, h2, h4.trans ?_⟩
  rw [List.getElem?_map] at h3
  cases ht : z[k]? with
  | none => rw [ht] at h3; cases h3
  | some n => rw [ht] at h3; unfold zat; rw [List.getD_eq_getElem?_getD, ht]; exact h3.symm

/-- the items after k calls of Push(keys[i], i) -/
def its (z : List Int) (k : Nat) : List PI := (List.range k).map fun i => (zat z i, (i : Int), (i : Int))
theorem its_len (z : List Int) (k : Nat) : (its z k).length = k := by simp [its]
theorem its_succ (z : List Int) (k : Nat) : its z (k + 1) = its z k ++ [(zat z k, (k : Int), (k : Int))] := by simp [its, List.range_succ]
theorem its_mem {z : List Int} {k : Nat} {y : PI} (h : y ∈ its z k) : ∃ m : Nat, m < k ∧ y = (zat z m, (m : Int), (m : Int)) := by
  obtain ⟨m, h1, h2⟩ := List.mem_map.1 h
  exact ⟨m, List.mem_range.1 h1, h2.symm⟩

/-- what the calls of a queue turn: blocks of its two types -/
def isQ : Obj → Bool
  | .cells _ t _ => t == 57 || t == 60
  | _ => false
structure QK (base : Nat) (w w' : World) : Prop where
  below : Below base w w'
  oth : ∀ (b : Nat) (o : Obj), w.heap[b]? = some o → isQ o = false → w'.heap[b]? = some o
theorem QK.trans {base : Nat} {w w' w'' : World} (h : QK base w w') (h' : QK base w' w'') : QK base w w'' := ⟨h.below.trans h'.below, fun b o ho hi => h'.oth b o (h.oth b o ho hi) hi⟩
theorem QK.of {base : Nat} {w w' : World} (h : Below w.heap.size w w') (hb : base ≤ w.heap.size) : QK base w w' := ⟨h.mono hb, fun b o ho _ => (h.block b (Array.getElem?_eq_some_iff.1 ho).1).trans ho⟩
theorem own_isQ {U : World} {base q g c cap p : Nat} {l : List PI} (h : QAt U base q (some ⟨g, 0, none⟩) c l cap p) : (∃ o, U.heap[q]? = some o ∧ isQ o = true) ∧ ∃ o, U.heap[g]? = some o ∧ isQ o = true := by
  refine ⟨⟨_, h.2.1, rfl⟩, ?_⟩
  rcases h.2.2.2 with ⟨h', _⟩ | ⟨g', cap', cur, h', _, hg', _⟩
  · simp at h'
  · simp only [Value.slice.injEq, Option.some.injEq, Addr.mk.injEq] at h'
    rw [h'.1.1]
    exact ⟨_, hg', rfl⟩
theorem QK.of_fr {base q g c cap p : Nat} {U U' : World} {l : List PI} (h : Fr base q g U U') (hQ : QAt U base q (some ⟨g, 0, none⟩) c l cap p) : QK base U U' :=
  ⟨h.below, fun b o ho hi => by
    obtain ⟨⟨o1, h1, h2⟩, ⟨o2, h3, h4⟩⟩ := own_isQ hQ
    refine (h.rest b (Array.getElem?_eq_some_iff.1 ho).1 (fun e => ?_) (fun e => ?_)).trans ho
    · subst e; rw [h1] at ho; rw [Option.some.inj ho, hi] at h2; cases h2
    · subst e; rw [h3] at ho; rw [Option.some.inj ho, hi] at h4; cases h4⟩
theorem Pop_pqk (base q : Nat) (S : List PI) (cap p : Nat) (w : World) (h : PQ w base q S cap p) (hl0 : 0 < S.length) (hl1 : S.length ≤ 4096) :
    Calls Try.prog 13 #[.pointer (some ⟨q, 0, none⟩)] w fun e w' => e = .returned (.tuple #[.int .i64 (at_ S (fm S)).1, .int .i64 (at_ S (fm S)).2.2, .bool true]) ∧ PQ w' base q (S.eraseIdx (fm S)) cap p ∧ QK base w w' := by
  obtain ⟨A, c, hs, h1, h2, h3, h4, h5⟩ := h
  have e := h2.length_eq
  obtain ⟨g, rfl, _, _⟩ := h1.2.2.addr (by omega)
  refine (Pop_fr base q g c hs cap p w h1 (by omega) (by omega) h4).mono ?_
  rintro e' w' ⟨he, l', hQ, hP, hH, hb⟩
  rw [root_fm h4 h2 h3 (by omega)] at he
  exact ⟨he, ⟨_, c, l', hQ, popped_of h4 h2 h3 (by omega) hP, num_erase h3 _, hH, fun y hy => h5 y ((List.eraseIdx_sublist ..).mem hy)⟩, QK.of_fr hb h1⟩

/-- a row of bools that the call made -/
def Seen (w : World) (base g n : Nat) (sn : List Bool) : Prop := w.ownsRow base 4 1 (.slice (some ⟨g, 0, none⟩) n n) n (sn.map .bool)
theorem infoB : (Try.prog.info? 4).map (fun i => (i.zero, i.size, i.bytes)) = some (some (.bool false), 1, 1) := by kernel_rfl
section
variable {w w' : World} {base g n : Nat} {sn : List Bool}
theorem Seen.cell (h : Seen w base g n sn) {k : Nat} (hk : k < n) : w.cell? ⟨g, k, none⟩ = some (.bool (bat sn k)) := by
  have hl : sn.length = n := by have := h.1; simpa using this
  unfold bat
  rw [World.ownsRow.cellAt h k (by omega), List.getElem?_map, List.getD_eq_getElem?_getD, List.getElem?_eq_getElem (by omega)]
  rfl
theorem Seen.frozen (h : Seen w base g n sn) (k : Nat) : w.frozen? ⟨g, k, none⟩ = false := World.ownsRow.frozenAt h k
theorem Seen.set (h : Seen w base g n sn) (k : Nat) : Seen (w.setCell ⟨g, k, none⟩ (.bool true)) base g n (sn.set k true) := by
  have := (World.ownsRow.stored h k (.bool true)).1
  unfold Seen
  rw [List.map_set]
  exact this
theorem Seen.qk {B : Nat} (h : Seen w base g n sn) (hq : QK B w w') : Seen w' base g n sn := by
  refine ⟨h.1, ?_⟩
  rcases h.2 with h' | ⟨g', cap, cur, h', hb, hg, r⟩
  · exact .inl h'
  · exact .inr ⟨g', cap, cur, h', hb, hq.oth g' _ hg rfl, r⟩
theorem Seen.isQ (h : Seen w base g n sn) : ∃ o, w.heap[g]? = some o ∧ isQ o = false := by
  rcases h.2 with ⟨h', _⟩ | ⟨g', cap, cur, h', hb, hg, r⟩
  · simp at h'
  · simp only [Value.slice.injEq, Option.some.injEq, Addr.mk.injEq] at h'
    rw [h'.1.1]
    exact ⟨_, hg, rfl⟩
theorem Seen.base_le (h : Seen w base g n sn) : base ≤ g ∧ g < w.heap.size := World.ownsRow.lt h g rfl
end
theorem PQ.other {w w' : World} {base q g cap p : Nat} {S : List PI} (h : PQ w base q S cap p) (hg : w.grownBy w' (some g)) (hi : ∃ o, w.heap[g]? = some o ∧ isQ o = false) : PQ w' base q S cap p := by
  obtain ⟨A, c, hs, h1, h2⟩ := h
  obtain ⟨o, ho, hq⟩ := hi
  have hne : q ≠ g := fun e => by
    subst e
    have := h1.2.1
    unfold Blk at this
    rw [this] at ho
    rw [← Option.some.inj ho] at hq
    cases hq
  refine ⟨A, c, hs, ⟨h1.1, (hg.block q h1.2.1.lt (fun e => hne (Option.some.inj e))).trans h1.2.1, Own.grown h1.2.2 hg (.inr fun e => ?_)⟩, h2⟩
  rcases h1.2.2.2 with ⟨h', _⟩ | ⟨g', cap', cur, h', _, hg', _⟩
  · simp only [Value.slice.injEq] at h'; rw [h'.1] at e; simp [ownB] at e
  · simp only [Value.slice.injEq] at h'
    rw [h'.1] at e
    simp [ownB] at e
    subst e
    rw [hg'] at ho
    rw [← Option.some.inj ho] at hq
    cases hq

/-- what is left in the queue after some calls of Pop: items that were pushed, not seen yet, none before the last that came out -/
structure Left (z : List Int) (n : Nat) (sn : List Bool) (j : Nat) (kk ll : Int) (T : List PI) : Prop where
  len : T.length + j = n
  sl : sn.length = n
  num : Num T
  mem : ∀ y ∈ T, ∃ m : Nat, m < n ∧ y = (zat z m, (m : Int), (m : Int)) ∧ bat sn m = false
  ge : 0 < j → ∀ y ∈ T, kk < y.1 ∨ kk = y.1 ∧ ll < y.2.2
theorem left_start (z : List Int) (n : Nat) (kk ll : Int) (hn : Num (its z n)) : Left z n (List.replicate n false) 0 kk ll (its z n) :=
  ⟨by rw [its_len]; omega, by simp, hn, fun y hy => by
    obtain ⟨m, h1, h2⟩ := its_mem hy
    exact ⟨m, h1, h2, by unfold bat; rw [List.getD_eq_getElem?_getD, List.getElem?_replicate, if_pos h1]; rfl⟩, fun h => absurd h (by omega)⟩
theorem its_num (z : List Int) (n : Nat) : Num (its z n) := by
  unfold Num its
  rw [List.pairwise_map]
  exact List.pairwise_lt_range.imp fun h => by simpa using h
theorem left_step {z : List Int} {n : Nat} {sn : List Bool} {j : Nat} {kk ll : Int} {T : List PI} (h : Left z n sn j kk ll T) (h0 : 0 < T.length) :
    ∃ m : Nat, m < n ∧ at_ T (fm T) = (zat z m, (m : Int), (m : Int)) ∧ bat sn m = false ∧ (0 < j → kk < zat z m ∨ kk = zat z m ∧ ll < (m : Int)) ∧ Left z n (sn.set m true) (j + 1) (zat z m) m (T.eraseIdx (fm T)) := by
  have hf := fm_lt h0
  have hm : at_ T (fm T) ∈ T := List.mem_of_getElem? (at_get hf)
  obtain ⟨m, h1, h2, h3⟩ := h.mem _ hm
  have hnum := h.num
  have hne : ∀ y ∈ T.eraseIdx (fm T), ∃ i, i < T.length ∧ i ≠ fm T ∧ y = at_ T i := by
    intro y hy
    obtain ⟨i, hi, hne, e⟩ := List.mem_eraseIdx_iff_getElem.1 hy
    refine ⟨i, hi, hne, ?_⟩
    have := at_get hi
    rw [List.getElem?_eq_getElem hi] at this
    exact e.symm.trans (Option.some.inj this)
  have hlt : ∀ y ∈ T.eraseIdx (fm T), ltB (at_ T (fm T)) y = true := by
    intro y hy
    obtain ⟨i, hi, hn, rfl⟩ := hne y hy
    exact fm_min hnum hi hn
  have hsub : ∀ y ∈ T.eraseIdx (fm T), y ∈ T := fun y hy => (List.eraseIdx_sublist ..).mem hy
  refine ⟨m, h1, h2, h3, fun hj => ?_, ⟨?_, by rw [List.length_set]; exact h.sl, num_erase hnum _, fun y hy => ?_, fun _ y hy => ?_⟩⟩
  · have := h.ge hj _ hm
    rw [h2] at this
    exact this
  · have := h.len
    rw [List.length_eraseIdx, if_pos hf]
    omega
  · obtain ⟨m', a1, a2, a3⟩ := h.mem y (hsub y hy)
    refine ⟨m', a1, a2, ?_⟩
    have := hlt y hy
    rw [h2, a2, ltB_iff] at this
    have hne' : m ≠ m' := fun e => by subst e; simp at this
    unfold bat
    rw [List.getD_eq_getElem?_getD, List.getElem?_set_ne hne', ← List.getD_eq_getElem?_getD]
    exact a3
  · obtain ⟨m', a1, a2, a3⟩ := h.mem y (hsub y hy)
    have := hlt y hy
    rw [h2, a2, ltB_iff] at this
    rw [a2]
    exact this
end Go.Proofs.Ytaiefhdnjmiafaa
