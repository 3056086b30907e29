/- Contracts of the small functions of package pqueue. -/
import Derived.Test.YtaiefhdnjmiafaaReg
import Derived.Test.YtaiefhdnjmiafaaM
import Derived.LaidEqlPtr
namespace Go.Proofs.Ytaiefhdnjmiafaa
open Go.RowKit
set_option linter.unusedVariables false

def itV (x : PI) : Value := .agg #[.int .i64 x.1, .int .u64 x.2.1, .int .i64 x.2.2]
def itCells (x : PI) : List Value := [.int .i64 x.1, .int .u64 x.2.1, .int .i64 x.2.2]
def rowCells : List PI → List Value
  | [] => []
  | x :: l => itCells x ++ rowCells l
theorem row_len (l : List PI) : (rowCells l).length = l.length * 3 := by induction l with | nil => rfl | cons x l ih => simp only [rowCells, List.length_append, ih, List.length_cons, itCells, List.length_nil]; omega
theorem row_app (l r : List PI) : rowCells (l ++ r) = rowCells l ++ rowCells r := by induction l with | nil => rfl | cons x l ih => simp only [List.cons_append, rowCells, ih, List.append_assoc]
theorem row_get (l : List PI) (k : Nat) (hk : k < l.length) : (rowCells l)[k * 3]? = some (.int .i64 (at_ l k).1) ∧ (rowCells l)[k * 3 + 1]? = some (.int .u64 (at_ l k).2.1) ∧ (rowCells l)[k * 3 + 2]? = some (.int .i64 (at_ l k).2.2) := by
  induction l generalizing k with
  | nil => simp at hk
  | cons x l ih =>
    cases k with
    | zero => exact ⟨rfl, rfl, rfl⟩
    | succ k =>
      have := ih k (by simpa using hk)
      rw [show (k + 1) * 3 = (itCells x).length + k * 3 by simp [itCells]; omega]
      simp only [rowCells, Nat.add_assoc]
      rw [List.getElem?_append_right (by omega), List.getElem?_append_right (by omega), List.getElem?_append_right (by omega)]
      simp only [Nat.add_sub_cancel_left]
      exact this
theorem row_set (l : List PI) (k : Nat) (x : PI) (hk : k < l.length) : rowCells (l.set k x) = (((rowCells l).set (k * 3) (.int .i64 x.1)).set (k * 3 + 1) (.int .u64 x.2.1)).set (k * 3 + 2) (.int .i64 x.2.2) := by
  induction l generalizing k with
  | nil => simp at hk
  | cons y l ih =>
    cases k with
    | zero => rfl
    | succ k =>
      have := ih k (by simpa using hk)
      simp only [List.set_cons_succ, rowCells, this]
      rw [show (k + 1) * 3 = (itCells y).length + k * 3 by simp [itCells]; omega]
      simp only [Nat.add_assoc]
      rw [List.set_append_right _ _ (by omega), List.set_append_right _ _ (by omega), List.set_append_right _ _ (by omega)]
      simp only [Nat.add_sub_cancel_left]
theorem row_take (l : List PI) (k : Nat) : rowCells (l.take k) = (rowCells l).take (k * 3) := by
  induction l generalizing k with
  | nil => simp [rowCells]
  | cons x l ih =>
    cases k with
    | zero => simp [rowCells]
    | succ k =>
      simp only [List.take_succ_cons, rowCells, ih]
      rw [show (k + 1) * 3 = (itCells x).length + k * 3 by simp [itCells]; omega, List.take_length_add_append]
theorem row_one (l : List PI) : ∀ u ∈ rowCells l, u.oneCell' = true := by
  induction l with
  | nil => intro u hu; cases hu
  | cons x l ih =>
    intro u hu
    simp only [rowCells, itCells, List.mem_append, List.mem_cons, List.not_mem_nil, or_false] at hu
    rcases hu with (rfl | rfl | rfl) | hu
    · rfl
    · rfl
    · rfl
    · exact ih u hu

/-- the heap's slice: the call's own row of items -/
def OwnH (w : World) (base : Nat) (A : Option Addr) (c : Nat) (l : List PI) : Prop := Own w base 60 3 A l.length c (rowCells l)
/-- a queue lies behind ⟨q, 0⟩: its heap, its capacity, the number of the next item -/
def QAt (w : World) (base q : Nat) (A : Option Addr) (c : Nat) (l : List PI) (cap : Nat) (p : Nat) : Prop :=
  base ≤ q ∧ Blk w q 57 #[.slice A l.length c, .int .i64 cap, .int .u64 p, .bool true] ∧ OwnH w base A c l

theorem before_any (x y : PI) (w : World) :
    Calls Try.prog 20 #[itV x, itV y] w fun e w' => e = .returned (.bool (ltB x y)) ∧ Below w.heap.size w w' := by
  obtain ⟨k1, n1, v1⟩ := x
  obtain ⟨k2, n2, v2⟩ := y
  unfold itV
  obtain ⟨q1, h1⟩ : ∃ q, decide (k1 < k2) = q := ⟨_, rfl⟩
  obtain ⟨q2, h2⟩ : ∃ q, (k1 == k2) = q := ⟨_, rfl⟩
  obtain ⟨q3, h3⟩ : ∃ q, decide (n1 < n2) = q := ⟨_, rfl⟩
  have HL : Hid (ltB (k1, n1, v1) (k2, n2, v2) = (q1 || (q2 && q3))) := by unfold Hid ltB; simp only [h1, h2, h3]
  cases q1
  case true =>
    go_enter Try.func20, Try.ntmps20
    go_wp2
    go_ret
    exact ⟨by rw [HL.out]; rfl, ((Below.refl _ _).alloc (Nat.le_refl _) _).alloc (by simp) _⟩
  case false =>
    cases q2
    case false =>
      go_enter Try.func20, Try.ntmps20
      go_wp2
      go_ret
      exact ⟨by rw [HL.out]; rfl, ((Below.refl _ _).alloc (Nat.le_refl _) _).alloc (by simp) _⟩
    case true =>
      cases q3
      all_goals
        go_enter Try.func20, Try.ntmps20
        go_wp2
        go_ret
        exact ⟨by rw [HL.out]; rfl, ((Below.refl _ _).alloc (Nat.le_refl _) _).alloc (by simp) _⟩

theorem Len_nil (w : World) : Calls Try.prog 19 #[.pointer none] w fun e w' => e = .returned (.int .i64 0) ∧ w = w' := by
  go_enter Try.func19, Try.ntmps19
  go_wp2
  go_ret
  exact ⟨rfl, rfl⟩
theorem Len_any (q : Nat) (A : Option Addr) (n c : Nat) (w : World) (hc : w.cell? ⟨q, 0, none⟩ = some (.slice A n c)) :
    Calls Try.prog 19 #[.pointer (some ⟨q, 0, none⟩)] w fun e w' => e = .returned (.int .i64 n) ∧ w = w' := by
  go_enter Try.func19, Try.ntmps19
  go_wp2
  go_ret
  exact ⟨rfl, rfl⟩
theorem Peek_nil (w : World) : Calls Try.prog 15 #[.pointer none] w fun e w' => e = .returned (.tuple #[.int .i64 0, .int .i64 0, .bool false]) ∧ w = w' := by
  go_enter Try.func15, Try.ntmps15
  go_wp2_with (go_at_call 19; refine (Len_nil _).mono ?_; rintro e w' ⟨rfl, rfl⟩)
  go_ret3
  exact ⟨rfl, rfl⟩
theorem Peek_empty (q : Nat) (A : Option Addr) (c : Nat) (w : World) (hc : w.cell? ⟨q, 0, none⟩ = some (.slice A 0 c)) :
    Calls Try.prog 15 #[.pointer (some ⟨q, 0, none⟩)] w fun e w' => e = .returned (.tuple #[.int .i64 0, .int .i64 0, .bool false]) ∧ w = w' := by
  go_enter Try.func15, Try.ntmps15
  go_wp2_with (go_at_call 19; refine (Len_any _ _ _ _ _ hc).mono ?_; rintro e w' ⟨rfl, rfl⟩)
  go_ret3
  exact ⟨rfl, rfl⟩
theorem Peek_any (q g : Nat) (n c : Nat) (k v : Int) (w : World) (hc : w.cell? ⟨q, 0, none⟩ = some (.slice (some ⟨g, 0, none⟩) n c)) (hn : 0 < n) (h0 : w.cell? ⟨g, 0, none⟩ = some (.int .i64 k)) (h2 : w.cell? ⟨g, 2, none⟩ = some (.int .i64 v)) :
    Calls Try.prog 15 #[.pointer (some ⟨q, 0, none⟩)] w fun e w' => e = .returned (.tuple #[.int .i64 k, .int .i64 v, .bool true]) ∧ ∃ m, w' = w.drewN m := by
  have hb : ((n : Int) == 0) = false := by simp; omega
  have hp : (0 : Int) < n := by omega
  go_enter Try.func15, Try.ntmps15
  go_wp2_with (go_at_call 19; refine (Len_any _ _ _ _ _ hc).mono ?_; rintro e w' ⟨rfl, rfl⟩)
  go_quiet (fail)
  go_wp2
  go_ret3
  exact ⟨rfl, _, rfl⟩
theorem New_bad (c : Int) (w : World) (h : c < 0 ∨ 4096 < c) :
    Calls Try.prog 8 #[.int .i64 c] w fun e w' => e = .returned (.tuple #[.pointer none, .int .i64 9]) ∧ w = w' := by
  by_cases h0 : c < 0
  · clear h
    go_enter Try.func8, Try.ntmps8
    go_wp2
    go_ret2
    exact ⟨rfl, rfl⟩
  · have h1 : 4096 < c := by omega
    have hq : decide (c < 0) = false := by simpa using h0
    clear h h0
    go_enter Try.func8, Try.ntmps8
    go_wp2
    go_ret2
    exact ⟨rfl, rfl⟩
theorem New_any (c : Nat) (w : World) (h : c ≤ 4096) :
    Calls Try.prog 8 #[.int .i64 c] w fun e w' => e = .returned (.tuple #[.pointer (some ⟨w.heap.size, 0, none⟩), .int .i64 0]) ∧ w.alloc (.cells #[.slice none 0 0, .int .i64 c, .int .u64 0, .bool true] 57) = w' := by
  have hq : decide ((c : Int) < 0) = false := by simp
  have hq2 : decide ((4096 : Int) < c) = false := by simp; omega
  go_enter Try.func8, Try.ntmps8
  go_wp2
  go_ret2
  exact ⟨rfl, rfl⟩
end Go.Proofs.Ytaiefhdnjmiafaa
