/- A queue of given items, as the laws use it: one word for its memory, one contract for each call. -/
import Derived.Test.YtaiefhdnjmiafaaP
namespace Go.Proofs.Ytaiefhdnjmiafaa
open Go.RowKit Go.Shelf
set_option linter.unusedVariables false

/-- behind ⟨q, 0⟩ lies a created queue of the items S (in the order of their insertion), of capacity cap; p: the next number -/
def PQ (w : World) (base q : Nat) (S : List PI) (cap p : Nat) : Prop :=
  ∃ A c hs, QAt w base q A c hs cap p ∧ hs.Perm S ∧ Num S ∧ IsHeap hs ∧ ∀ x ∈ S, x.2.1 < (p : Int)
section
variable {w w' : World} {base q cap p : Nat} {S : List PI}
theorem PQ.below (h : PQ w base q S cap p) (hb : Below w.heap.size w w') : PQ w' base q S cap p := by
  obtain ⟨A, c, hs, h1, h2⟩ := h
  exact ⟨A, c, hs, h1.below hb, h2⟩
theorem PQ.lt (h : PQ w base q S cap p) : q < w.heap.size := by obtain ⟨A, c, hs, h1, h2⟩ := h; exact h1.2.1.lt
theorem PQ.base_le (h : PQ w base q S cap p) : base ≤ q := by obtain ⟨A, c, hs, h1, h2⟩ := h; exact h1.1
theorem PQ.cell0 (h : PQ w base q S cap p) : ∃ A c, w.cell? ⟨q, 0, none⟩ = some (.slice A S.length c) := by
  obtain ⟨A, c, hs, h1, h2, _⟩ := h
  exact ⟨A, c, by have := h1.2.1.cell 0; rw [← h2.length_eq]; exact this⟩
theorem PQ.cell1 (h : PQ w base q S cap p) : w.cell? ⟨q, 1, none⟩ = some (.int .i64 cap) := by obtain ⟨A, c, hs, h1, h2⟩ := h; exact h1.2.1.cell 1
theorem PQ.cell3 (h : PQ w base q S cap p) : w.cell? ⟨q, 3, none⟩ = some (.bool true) := by obtain ⟨A, c, hs, h1, h2⟩ := h; exact h1.2.1.cell 3
theorem PQ.ql (h : PQ w base q S cap p) (hl : S.length ≤ 4096) : QL w (some ⟨q, 0, none⟩) S := by
  obtain ⟨A, c, hs, h1, h2, h3, h4, _⟩ := h
  rcases Nat.eq_zero_or_pos S.length with hz | hz
  · obtain rfl := List.eq_nil_of_length_eq_zero hz
    obtain rfl := List.eq_nil_of_length_eq_zero (by have := h2.length_eq; simpa using this)
    exact .inl ⟨rfl, .inr ⟨q, A, c, h1.2.1.lt, rfl, h1.2.1.cell 0⟩⟩
  · obtain ⟨g, rfl, _, _⟩ := h1.2.2.addr (by have := h2.length_eq; omega)
    exact .inr ⟨hz, hl, base, q, g, c, hs, cap, p, rfl, h1, h2, h3, h4⟩
theorem num_snoc {S : List PI} {x : PI} (h : Num S) (hx : ∀ y ∈ S, y.2.1 < x.2.1) : Num (S ++ [x]) :=
  List.pairwise_append.2 ⟨h, List.pairwise_singleton _ _, fun a ha b hb => by rw [List.mem_singleton.1 hb]; exact hx a ha⟩
end
theorem New_pq (c : Nat) (w : World) (h : c ≤ 4096) :
    Calls Try.prog 8 #[.int .i64 c] w fun e w' => e = .returned (.tuple #[.pointer (some ⟨w.heap.size, 0, none⟩), .int .i64 0]) ∧ PQ w' w.heap.size w.heap.size [] c 0 ∧ Below w.heap.size w w' :=
  (New_any c w h).mono fun e w' ⟨h1, h2⟩ => ⟨h1, by
    subst h2
    exact ⟨⟨none, 0, [], ⟨Nat.le_refl _, Blk.new _ _ _, Own.none_ _ _ _ _⟩, List.Perm.refl _, List.Pairwise.nil, fun i h0 hi => absurd hi (by simp), fun x hx => absurd hx (by simp)⟩, (Below.refl _ w).alloc (Nat.le_refl _) _⟩⟩
theorem Len_pq (base q : Nat) (S : List PI) (cap p : Nat) (w : World) (h : PQ w base q S cap p) :
    Calls Try.prog 19 #[.pointer (some ⟨q, 0, none⟩)] w fun e w' => e = .returned (.int .i64 S.length) ∧ w = w' := by
  obtain ⟨A, c, hc⟩ := h.cell0
  exact Len_any q A S.length c w hc
theorem Push_pq (base q : Nat) (S : List PI) (cap p : Nat) (key x : Int) (w : World) (h : PQ w base q S cap p) (hlen : S.length < cap) (hcap : cap ≤ 4096) (hp : p ≤ 1000000) :
    Calls Try.prog 11 #[.pointer (some ⟨q, 0, none⟩), .int .i64 key, .int .i64 x] w fun e w' => e = .returned (.int .i64 0) ∧ PQ w' base q (S ++ [(key, (p : Int), x)]) cap (p + 1) ∧ Below base w w' := by
  obtain ⟨A, c, hs, h1, h2, h3, h4, h5⟩ := h
  refine (Push_any base q A c hs cap p key x w h1 (by rw [h2.length_eq]; exact hlen) hcap hp h4).mono ?_
  rintro e w' ⟨he, A', c', l', hQ, hP, hH, hb⟩
  refine ⟨he, ⟨A', c', l', hQ, hP.trans (h2.append_right _), num_snoc h3 h5, hH, fun y hy => ?_⟩, hb⟩
  rcases List.mem_append.1 hy with hy | hy
  · have := h5 y hy; push_cast; omega
  · rw [List.mem_singleton.1 hy]; push_cast; omega
set_option maxRecDepth 100000 in
theorem Push_full (base q : Nat) (S : List PI) (cap p : Nat) (key x : Int) (w : World) (h : PQ w base q S cap p) (hlen : cap ≤ S.length) :
    Calls Try.prog 11 #[.pointer (some ⟨q, 0, none⟩), .int .i64 key, .int .i64 x] w fun e w' => e = .returned (.int .i64 13) ∧ ∃ n, w' = w.drewN n := by
  obtain ⟨A, c, hc0⟩ := h.cell0
  have hc1 := h.cell1
  have hc3 := h.cell3
  have hdl : decide (cap ≤ S.length) = true := by simp; omega
  clear h
  go_enter Try.func11, Try.ntmps11
  go_wp2_with fail
  go_quiet (fail)
  go_wp2_with fail
  go_ret
  exact ⟨rfl, _, rfl⟩
set_option maxRecDepth 100000 in
theorem Push_none (key x : Int) (w : World) :
    Calls Try.prog 11 #[.pointer none, .int .i64 key, .int .i64 x] w fun e w' => e = .returned (.int .i64 1) ∧ w = w' := by
  go_enter Try.func11, Try.ntmps11
  go_wp2_with fail
  go_ret
  exact ⟨rfl, rfl⟩
set_option maxRecDepth 100000 in
theorem Push_zero (q : Nat) (key x : Int) (w : World) (hc3 : w.cell? ⟨q, 3, none⟩ = some (.bool false)) :
    Calls Try.prog 11 #[.pointer (some ⟨q, 0, none⟩), .int .i64 key, .int .i64 x] w fun e w' => e = .returned (.int .i64 1) ∧ w = w' := by
  go_enter Try.func11, Try.ntmps11
  go_wp2_with fail
  go_ret
  exact ⟨rfl, rfl⟩
set_option maxRecDepth 100000 in
theorem Pop_none (w : World) :
    Calls Try.prog 13 #[.pointer none] w fun e w' => e = .returned (.tuple #[.int .i64 0, .int .i64 0, .bool false]) ∧ w = w' := by
  go_enter Try.func13, Try.ntmps13
  go_wp2_with fail
  refine (Peek_nil w).mono ?_
  rintro e w' ⟨rfl, h⟩
  subst h
  go_wp2_with fail
  go_ret3
  exact ⟨rfl, rfl⟩
theorem Pop_pq (base q : Nat) (S : List PI) (cap p : Nat) (w : World) (h : PQ w base q S cap p) (hl0 : 0 < S.length) (hl1 : S.length ≤ 4096) :
    Calls Try.prog 13 #[.pointer (some ⟨q, 0, none⟩)] w fun e w' => e = .returned (.tuple #[.int .i64 (at_ S (fm S)).1, .int .i64 (at_ S (fm S)).2.2, .bool true]) ∧ PQ w' base q (S.eraseIdx (fm S)) cap p ∧ Below base w w' := by
  obtain ⟨A, c, hs, h1, h2, h3, h4, h5⟩ := h
  have e := h2.length_eq
  refine (Pop_any base q A c hs cap p w h1 (by omega) (by omega) h4).mono ?_
  rintro e' w' ⟨he, A', c', l', hQ, hP, hH, hb⟩
  rw [root_fm h4 h2 h3 (by omega)] at he
  exact ⟨he, ⟨A', c', l', hQ, popped_of h4 h2 h3 (by omega) hP, num_erase h3 _, hH, fun y hy => h5 y ((List.eraseIdx_sublist ..).mem hy)⟩, hb⟩
theorem Pop_pq0 (base q : Nat) (S : List PI) (cap p : Nat) (w : World) (h : PQ w base q S cap p) (hz : S.length = 0) :
    Calls Try.prog 13 #[.pointer (some ⟨q, 0, none⟩)] w fun e w' => e = .returned (.tuple #[.int .i64 0, .int .i64 0, .bool false]) ∧ w' = w := by
  obtain ⟨A, c, hc⟩ := h.cell0
  rw [hz] at hc
  exact Pop_empty q A c w hc
theorem Peek_pq0 (base q : Nat) (S : List PI) (cap p : Nat) (w : World) (h : PQ w base q S cap p) (hz : S.length = 0) :
    Calls Try.prog 15 #[.pointer (some ⟨q, 0, none⟩)] w fun e w' => e = .returned (.tuple #[.int .i64 0, .int .i64 0, .bool false]) ∧ w = w' := by
  obtain ⟨A, c, hc⟩ := h.cell0
  rw [hz] at hc
  exact Peek_empty q A c w hc
theorem Peek_pq (base q : Nat) (S : List PI) (cap p : Nat) (w : World) (h : PQ w base q S cap p) (hl0 : 0 < S.length) :
    Calls Try.prog 15 #[.pointer (some ⟨q, 0, none⟩)] w fun e w' => e = .returned (.tuple #[.int .i64 (at_ S (fm S)).1, .int .i64 (at_ S (fm S)).2.2, .bool true]) ∧ ∃ m, w' = w.drewN m := by
  obtain ⟨A, c, hs, h1, h2, h3, h4, h5⟩ := h
  have e := h2.length_eq
  obtain ⟨g, rfl, _, _⟩ := h1.2.2.addr (by omega)
  obtain ⟨r1, _, r3⟩ := h1.2.2.cell (k := 0) (by omega)
  rw [← root_fm h4 h2 h3 (by omega)]
  exact Peek_any q g hs.length c _ _ w (h1.2.1.cell 0) (by omega) (by simpa using r1) (by simpa using r3)
theorem list_pq (base q : Nat) (S : List PI) (cap p : Nat) (most : Nat) (w : World) (h : PQ w base q S cap p) (hl : S.length ≤ 4096) (hm : most ≤ 100000) :
    Calls Try.prog 16 #[.pointer (some ⟨q, 0, none⟩), .int .i64 most] w fun e w' => ∃ A c, e = .returned (.tuple #[.slice A ((ord S.length S).take most).length c, .bool true]) ∧ OwnI w' w.heap.size A c ((ord S.length S).take most) ∧ Below w.heap.size w w' :=
  list_any _ S most w (h.ql hl) hm
end Go.Proofs.Ytaiefhdnjmiafaa
