/- The walk of the law on nil and uninitialized queues. -/
import Derived.Test.YtaiefhdnjmiafaaT
namespace Go.Proofs.Ytaiefhdnjmiafaa
open Go.RowKit Go.Shelf
set_option linter.unusedVariables false

theorem list_zero (p : Option Addr) (W : World) (hQ : QL W p []) :
    Calls Try.prog 16 #[.pointer p, .int .i64 1] W fun e w' => ∃ A c, e = .returned (.tuple #[.slice A 0 c, .bool true]) ∧ Below W.heap.size W w' :=
  (list_any p [] 1 W hQ (by omega)).mono fun e w' ⟨A, c, h1, _, h3⟩ => ⟨A, c, h1, h3⟩
set_option maxRecDepth 100000 in
set_option maxHeartbeats 1000000 in
theorem nil_walk (key x : Int) (w : World) :
    Calls Try.prog 6 #[.int .i64 key, .int .i64 x] w fun e w' => e = .returned (.bool true) ∧ Below w.heap.size w w' := by
  obtain ⟨n, hn⟩ : ∃ n, n = w.heap.size := ⟨_, rfl⟩
  have HN := Lib.hid hn
  clear hn
  go_enter Try.func6, Try.ntmps6
  go_wp2_with fail
  rw [← HN.out]
  obtain ⟨W0, hW0⟩ : ∃ U, U = w.alloc (.cells #[.slice none 0 0, .int .i64 0, .int .u64 0, .bool false] 57) := ⟨_, rfl⟩
  rw [← hW0]
  have hb0 : Blk W0 n 57 #[.slice none 0 0, .int .i64 0, .int .u64 0, .bool false] := by rw [hW0, HN.out]; exact Blk.new _ _ _
  have HB0 := Lib.hid (show Below n w W0 by rw [hW0, HN.out]; exact (Below.refl _ w).alloc (Nat.le_refl _) _)
  have hs0 : n < W0.heap.size := hb0.lt
  have HK0 := Lib.hid hb0
  clear hW0 hb0
  refine (list_zero none W0 (.inl ⟨rfl, .inl rfl⟩)).mono ?_
  rintro e w1 ⟨A1, c1, rfl, hb1⟩
  have HK1 := Lib.hid (HK0.out.below hb1 hs0)
  have HB1 := Lib.hid (HB0.out.trans (hb1.mono (by omega)))
  have hs1 : n < w1.heap.size := by have := hb1.size; omega
  clear hb1 HK0 HB0 hs0
  go_wp2_with fail
  refine (list_zero (some ⟨n, 0, none⟩) w1 (.inl ⟨rfl, .inr ⟨n, none, 0, hs1, rfl, HK1.out.cell 0⟩⟩)).mono ?_
  rintro e w2 ⟨A2, c2, rfl, hb2⟩
  have HK2 := Lib.hid (HK1.out.below hb2 hs1)
  have HB2 := Lib.hid (HB1.out.trans (hb2.mono (by omega)))
  clear hb2 HK1 HB1 hs1
  go_wp2_with fail
  refine (Pop_none w2).mono ?_
  rintro e w' ⟨rfl, h⟩
  subst h
  go_wp2_with fail
  refine (Pop_empty n none 0 w2 (HK2.out.cell 0)).mono ?_
  rintro e w' ⟨rfl, h⟩
  subst h
  go_wp2_with fail
  refine (Peek_nil w').mono ?_
  rintro e w' ⟨rfl, h⟩
  subst h
  go_wp2_with fail
  refine (Peek_empty n none 0 _ (HK2.out.cell 0)).mono ?_
  rintro e w' ⟨rfl, h⟩
  subst h
  go_wp2_with fail
  refine (Push_none key x _).mono ?_
  rintro e w' ⟨rfl, h⟩
  subst h
  go_wp2_with fail
  refine (Push_zero n key x _ (HK2.out.cell 3)).mono ?_
  rintro e w' ⟨rfl, h⟩
  subst h
  go_wp2_with fail
  refine (Len_nil _).mono ?_
  rintro e w' ⟨rfl, h⟩
  subst h
  go_wp2_with fail
  refine (Len_any n none 0 0 _ (HK2.out.cell 0)).mono ?_
  rintro e w' ⟨rfl, h⟩
  subst h
  go_wp2_with fail
  refine (awake_any _).mono ?_
  rintro e w3 ⟨rfl, hb3⟩
  have HB3 := Lib.hid (HB2.out.trans (hb3.mono (by have := HB2.out.size; have := HN.out; omega)))
  clear hb3
  go_wp2_with fail
  go_ret
  rw [← HN.out]
  exact ⟨rfl, HB3.out⟩
end Go.Proofs.Ytaiefhdnjmiafaa
