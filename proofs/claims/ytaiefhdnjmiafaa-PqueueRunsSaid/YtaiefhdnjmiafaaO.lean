/- The law's list: the items that All yields, at most so many. -/
import Derived.Test.YtaiefhdnjmiafaaN
namespace Go.Proofs.Ytaiefhdnjmiafaa
open Go.RowKit Go.Shelf
set_option linter.unusedVariables false
attribute [local go_sem] Oper.semAt_some

/-- the pointer p is a queue of the items S (nil and uninitialized queues: no item) -/
def QL (W : World) (p : Option Addr) (S : List PI) : Prop :=
  (S = [] ∧ (p = none ∨ ∃ q A c, q < W.heap.size ∧ p = some ⟨q, 0, none⟩ ∧ W.cell? ⟨q, 0, none⟩ = some (.slice A 0 c))) ∨
  (0 < S.length ∧ S.length ≤ 4096 ∧ ∃ base q g c hs cap pn, p = some ⟨q, 0, none⟩ ∧ QAt W base q (some ⟨g, 0, none⟩) c hs cap pn ∧ hs.Perm S ∧ Num S ∧ IsHeap hs)
theorem QL.below {W W' : World} {p : Option Addr} {S : List PI} (h : QL W p S) (hb : Below W.heap.size W W') : QL W' p S := by
  rcases h with ⟨h, h' | ⟨q, A, c, h1, h2, h3⟩⟩ | ⟨h1, h2, base, q, g, c, hs, cap, pn, h3, h4, h5⟩
  · exact .inl ⟨h, .inl h'⟩
  · exact .inl ⟨h, .inr ⟨q, A, c, by have := hb.size; omega, h2, (hb.cell (p := ⟨q, 0, none⟩) h1).trans h3⟩⟩
  · exact .inr ⟨h1, h2, base, q, g, c, hs, cap, pn, h3, h4.below hb, h5⟩
theorem all1_nil (n l bq : Nat) (J : World → Prop) (W : World) (hJ : ∀ U U', J U → It W.heap.size U U' → J U')
    (hc : W.cell? ⟨bq, 0, none⟩ = some (.pointer none)) (h0 : J W) :
    CallsIn Fence.wide n Try.prog 23 #[.func (.yield l) #[] #[], .pointer (some ⟨bq, 0, none⟩)] W fun e U => (∃ v, e = .returned v) ∧ J U := by
  have hbq : bq < W.heap.size := by
    rcases Nat.lt_or_ge bq W.heap.size with h | h
    · exact h
    · unfold World.cell? at hc; simp [h] at hc
  have HJ := Lib.hid (hJ _ _ h0 (It.of ((Below.refl _ W).alloc (Nat.le_refl _) (.cells #[.func (.yield l) #[] #[]] 58)) (Nat.le_refl _)))
  clear hJ
  refine callsIn_of_wp_marks Try.func23 rfl trivial (wpIn_wide.2 ?_) rfl
  simp only [Try.ntmps23, List.size_toArray, List.length_cons, List.length_nil, Nat.reduceAdd, Nat.reduceSub, Array.replicate_succ, Array.replicate_zero, List.push_toArray, List.append_toArray, List.nil_append, List.cons_append]
  go_wp2_with fail
  refine (Len_nil _).mono ?_
  rintro e w1 ⟨rfl, hw1⟩
  subst hw1
  go_wp2_with fail
  exact ⟨_, results_none rfl _ _ _, ⟨_, rfl⟩, HJ.out⟩
theorem all1_zero (n l bq q c : Nat) (A : Option Addr) (J : World → Prop) (W : World) (hJ : ∀ U U', J U → It W.heap.size U U' → J U')
    (hc : W.cell? ⟨bq, 0, none⟩ = some (.pointer (some ⟨q, 0, none⟩))) (hq : q < W.heap.size) (hz : W.cell? ⟨q, 0, none⟩ = some (.slice A 0 c)) (h0 : J W) :
    CallsIn Fence.wide n Try.prog 23 #[.func (.yield l) #[] #[], .pointer (some ⟨bq, 0, none⟩)] W fun e U => (∃ v, e = .returned v) ∧ J U := by
  have hbq : bq < W.heap.size := by
    rcases Nat.lt_or_ge bq W.heap.size with h | h
    · exact h
    · unfold World.cell? at hc; simp [h] at hc
  have hb : Below W.heap.size W (W.alloc (.cells #[.func (.yield l) #[] #[]] 58)) := (Below.refl _ W).alloc (Nat.le_refl _) _
  have HJ := Lib.hid (hJ _ _ h0 (It.of hb (Nat.le_refl _)))
  have HZ := Lib.hid ((hb.cell (p := ⟨q, 0, none⟩) hq).trans hz)
  clear hJ hb
  refine callsIn_of_wp_marks Try.func23 rfl trivial (wpIn_wide.2 ?_) rfl
  simp only [Try.ntmps23, List.size_toArray, List.length_cons, List.length_nil, Nat.reduceAdd, Nat.reduceSub, Array.replicate_succ, Array.replicate_zero, List.push_toArray, List.append_toArray, List.nil_append, List.cons_append]
  go_wp2_with fail
  refine (Len_any q A 0 c _ HZ.out).mono ?_
  rintro e w1 ⟨rfl, hw1⟩
  subst hw1
  go_wp2_with fail
  exact ⟨_, results_none rfl _ _ _, ⟨_, rfl⟩, HJ.out⟩
theorem all1_any (n l bq : Nat) (p : Option Addr) (S : List PI) (J Jx : List PI → World → Prop) (W : World)
    (hJ : ∀ pre U U', J pre U → It W.heap.size U U' → J pre U') (hJx : ∀ pre U U', Jx pre U → It W.heap.size U U' → Jx pre U')
    (hY : ∀ m pre x U, J pre U → pre.length < (ord S.length S).length → YieldAt Fence.wide m Try.prog l #[.int .i64 x.1, .int .i64 x.2.2] U fun e U' =>
      (e = .returned (.bool true) ∧ J (pre ++ [x]) U' ∧ Kr W.heap.size U U') ∨ (e = .returned (.bool false) ∧ Jx (pre ++ [x]) U' ∧ Kr W.heap.size U U'))
    (hc : W.cell? ⟨bq, 0, none⟩ = some (.pointer p)) (hQ : QL W p S) (h0 : J [] W) :
    CallsIn Fence.wide n Try.prog 23 #[.func (.yield l) #[] #[], .pointer (some ⟨bq, 0, none⟩)] W fun e U => (∃ v, e = .returned v) ∧
      (J (ord S.length S) U ∨ ∃ pre, pre <+: ord S.length S ∧ Jx pre U) := by
  rcases hQ with ⟨rfl, rfl | ⟨q, A, c, h1, rfl, h3⟩⟩ | ⟨h1, h2, base, q, g, c, hs, cap, pn, rfl, h4, h5, h6, h7⟩
  · exact (all1_nil n l bq (J []) W (hJ []) hc h0).mono fun e U h => ⟨h.1, .inl h.2⟩
  · exact (all1_zero n l bq q c A (J []) W (hJ []) hc h1 h3 h0).mono fun e U h => ⟨h.1, .inl h.2⟩
  · exact all1_in n l 0 bq q base g c cap pn S hs J Jx W hJ hJx hY hc h4 h5 h6 h7 h1 h2 h0
end Go.Proofs.Ytaiefhdnjmiafaa
