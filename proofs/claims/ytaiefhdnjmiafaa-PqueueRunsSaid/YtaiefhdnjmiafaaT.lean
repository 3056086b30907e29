/- The law's fixed results. -/
import Derived.Test.YtaiefhdnjmiafaaS
namespace Go.Proofs.Ytaiefhdnjmiafaa
open Go.RowKit Go.Shelf
set_option linter.unusedVariables false

theorem Push_pz (z : Nat) (zs : Array Value) (base q : Nat) (S : List PI) (cap p : Nat) (key x : Int) (w : World) (h : PQ w base q S cap p) (hlen : S.length < cap) (hcap : cap ≤ 4096) (hp : p ≤ 1000000) (hz : z ≠ q) (hzb : Blk w z 57 zs) :
    Calls Try.prog 11 #[.pointer (some ⟨q, 0, none⟩), .int .i64 key, .int .i64 x] w fun e w' => e = .returned (.int .i64 0) ∧ PQ w' base q (S ++ [(key, (p : Int), x)]) cap (p + 1) ∧ BZ base q z zs w w' := by
  obtain ⟨A, c, hs, h1, h2, h3, h4, h5⟩ := h
  refine (Push_z z zs base q A c hs cap p key x w h1 (by rw [h2.length_eq]; exact hlen) hcap hp h4 hz hzb).mono ?_
  rintro e w' ⟨he, A', c', l', hQ, hP, hH, hb⟩
  refine ⟨he, ⟨A', c', l', hQ, hP.trans (h2.append_right _), num_snoc h3 h5, hH, fun y hy => ?_⟩, hb⟩
  rcases List.mem_append.1 hy with hy | hy
  · have := h5 y hy; push_cast; omega
  · rw [List.mem_singleton.1 hy]; push_cast; omega
def ex4 : List PI := [(5, 0, 10), (3, 1, 11), (5, 2, 12), (3, 3, 13)]
def ex4o : List PI := [(3, 1, 11), (3, 3, 13), (5, 0, 10), (5, 2, 12)]
theorem ex4_ord : ord ex4.length ex4 = ex4o := by decide
theorem ex4_fm : fm ex4 = 1 := by decide
def zcells : Array Value := #[.slice none 0 0, .int .i64 0, .int .u64 0, .bool true]
theorem zpq {w : World} {z : Nat} (h : Blk w z 57 zcells) : PQ w z z [] 0 0 :=
  ⟨none, 0, [], ⟨Nat.le_refl _, h, Own.none_ _ _ _ _⟩, List.Perm.refl _, List.Pairwise.nil, fun i h0 hi => absurd hi (by simp), fun x hx => absurd hx (by simp)⟩
theorem Pop_pqi (base q : Nat) (S : List PI) (cap p : Nat) (w : World) (h : PQ w base q S cap p) (hl0 : 0 < S.length) (hl1 : S.length ≤ 4096) :
    Calls Try.prog 13 #[.pointer (some ⟨q, 0, none⟩)] w fun e w' => e = .returned (.tuple #[.int .i64 (at_ S (fm S)).1, .int .i64 (at_ S (fm S)).2.2, .bool true]) ∧ PQ w' base q (S.eraseIdx (fm S)) cap p ∧ It base w w' := by
  obtain ⟨A, c, hs, h1, h2, h3, h4, h5⟩ := h
  have e := h2.length_eq
  obtain ⟨g, rfl, _, _⟩ := h1.2.2.addr (by omega)
  refine (Pop_fr base q g c hs cap p w h1 (by omega) (by omega) h4).mono ?_
  rintro e' w' ⟨he, l', hQ, hP, hH, hb⟩
  rw [root_fm h4 h2 h3 (by omega)] at he
  exact ⟨he, ⟨_, c, l', hQ, popped_of h4 h2 h3 (by omega) hP, num_erase h3 _, hH, fun y hy => h5 y ((List.eraseIdx_sublist ..).mem hy)⟩, It.of_fr hb (Nat.le_refl _) (ni_of h1)⟩
theorem It.below {B : Nat} {U U' : World} (h : It B U U') : Below B U U' := ⟨h.env.os, h.env.tape, h.env.output, h.size, h.old⟩
theorem rd_lit4 (w : World) (a b c d : PI) : Rd (w.alloc (.cells #[.int .i64 a.1, .int .i64 a.2.2, .int .i64 b.1, .int .i64 b.2.2, .int .i64 c.1, .int .i64 c.2.2, .int .i64 d.1, .int .i64 d.2.2] 52)) (w.heap.size + 1) (some ⟨w.heap.size, 0, none⟩) [a, b, c, d] :=
  ⟨rfl, fun _ => ⟨_, rfl, by simp, fun j v hv => by
    rw [show ((⟨w.heap.size, 0, none⟩ : Addr).add j) = ⟨w.heap.size, j, none⟩ from by unfold Addr.add; split <;> simp_all, (Blk.new w _ _).cell j]
    simpa [imRow, imCells] using hv⟩⟩
set_option maxRecDepth 100000 in
set_option maxHeartbeats 1000000 in
theorem awake_any (w : World) :
    Calls Try.prog 7 #[] w fun e w' => e = .returned (.bool true) ∧ Below w.heap.size w w' := by
  obtain ⟨n, hn⟩ : ∃ n, n = w.heap.size := ⟨_, rfl⟩
  have HN := Lib.hid hn
  clear hn
  go_enter Try.func7, Try.ntmps7
  go_wp2_with fail
  refine (New_any 4 w (by omega)).mono ?_
  rintro e w1 ⟨rfl, hw1⟩
  rw [← HN.out]
  have HW1 := Lib.hid hw1
  have HS1 := Lib.hid (show w1.heap.size = n + 1 by rw [← hw1, HN.out]; simp)
  clear hw1
  go_wp2_with fail
  refine (New_any 0 w1 (by omega)).mono ?_
  rintro e w2 ⟨rfl, hw2⟩
  rw [HS1.out]
  have HB2 := Lib.hid (show Below n w w2 by rw [← hw2, ← HW1.out, HN.out]; exact ((Below.refl _ w).alloc (Nat.le_refl _) _).alloc (by simp) _)
  have HZ := Lib.hid (show Blk w2 (n + 1) 57 zcells by rw [← hw2, ← HS1.out]; exact Blk.new _ _ _)
  have HQ := Lib.hid (show PQ w2 n n [] 4 0 from ⟨none, 0, [], ⟨Nat.le_refl _, by
    rw [← hw2, ← HW1.out, HN.out]; exact (Blk.new w _ _).below ((Below.refl _ _).alloc (Nat.le_refl _) _) (by simp), Own.none_ _ _ _ _⟩, List.Perm.refl _, List.Pairwise.nil, fun i h0 hi => absurd hi (by simp), fun x hx => absurd hx (by simp)⟩)
  clear hw2 HW1 HS1
  go_wp2_with fail
  refine (Push_pz (n + 1) zcells n n [] 4 0 5 10 w2 HQ.out (by simp) (by omega) (by omega) (by omega) HZ.out).mono ?_
  rintro e w3 ⟨rfl, hq3, hb3⟩
  have HQ3 := Lib.hid hq3
  have HB3 := Lib.hid hb3
  clear hq3 hb3
  go_wp2_with fail
  refine (Push_pz (n + 1) zcells n n _ 4 _ 3 11 w3 HQ3.out (by simp) (by omega) (by omega) (by omega) HB3.out.blk).mono ?_
  rintro e w4 ⟨rfl, hq4, hb4⟩
  have HQ4 := Lib.hid hq4
  have HB4 := Lib.hid (HB3.out.trans hb4)
  clear hq4 hb4
  go_wp2_with fail
  refine (Push_pz (n + 1) zcells n n _ 4 _ 5 12 w4 HQ4.out (by simp) (by omega) (by omega) (by omega) HB4.out.blk).mono ?_
  rintro e w5 ⟨rfl, hq5, hb5⟩
  have HQ5 := Lib.hid hq5
  have HB5 := Lib.hid (HB4.out.trans hb5)
  clear hq5 hb5
  go_wp2_with fail
  refine (Push_pz (n + 1) zcells n n _ 4 _ 3 13 w5 HQ5.out (by simp) (by omega) (by omega) (by omega) HB5.out.blk).mono ?_
  rintro e w6 ⟨rfl, hq6, hb6⟩
  have HQ6 := Lib.hid (show PQ w6 n n ex4 4 4 from hq6)
  have HB6 := Lib.hid (HB5.out.trans hb6)
  clear hq6 hb6 HQ3 HQ4 HQ5 HB3 HB4 HB5 HQ HZ
  go_wp2_with fail
  refine (Push_full n n ex4 4 4 1 14 w6 HQ6.out (by decide)).mono ?_
  rintro e w7 ⟨rfl, k7, hw7⟩
  have HB7 := Lib.hid (show BZ n n (n + 1) zcells w2 w7 by rw [hw7]; exact HB6.out.drewN _)
  have HQ7 := Lib.hid (show PQ w7 n n ex4 4 4 by rw [hw7]; exact HQ6.out)
  clear hw7 HQ6 HB6
  go_wp2_with fail
  refine (Push_full (n + 1) (n + 1) [] 0 0 1 1 w7 (zpq HB7.out.blk) (by simp)).mono ?_
  rintro e w8 ⟨rfl, k8, hw8⟩
  have HB8 := Lib.hid (show Below n w w8 by rw [hw8]; exact drew_below (HB2.out.trans HB7.out.below) _)
  have HQ8 := Lib.hid (show PQ w8 n n ex4 4 4 by rw [hw8]; exact HQ7.out)
  clear hw8 HQ7 HB7 HB2
  go_wp2_with fail
  refine (list_pq n n ex4 4 4 9 w8 HQ8.out (by decide) (by omega)).mono ?_
  rintro e w9 ⟨A, c, rfl, hO, hb9⟩
  rw [show (ord ex4.length ex4).take 9 = ex4o from by decide] at hO ⊢
  have HO := Lib.hid hO
  have HB9 := Lib.hid hb9
  have HQ9 := Lib.hid (HQ8.out.below hb9)
  clear hO hb9
  go_wp2_with fail
  refine (Pop_pqi n n ex4 4 4 w9 HQ9.out (by decide) (by decide)).mono ?_
  rintro e w10 ⟨rfl, hq, hi⟩
  rw [show (at_ ex4 (fm ex4)).1 = 3 from by decide, show (at_ ex4 (fm ex4)).2.2 = 11 from by decide]
  have HO10 := Lib.hid (OwnI.it HO.out (B := n) hi)
  have HB10 := Lib.hid ((HB8.out.trans (HB9.out.mono (by have := HB8.out.size; have := HN.out; omega))).trans hi.below)
  have HQ10 := Lib.hid hq
  have e3 : (ex4.eraseIdx (fm ex4)).length = 3 := by decide
  have HE3 := Lib.hid e3
  clear hq hi HO HB9 HQ9 HB8 HQ8 e3
  go_wp2_with fail
  have hb : Below w10.heap.size w10 (w10.alloc (.cells #[.int .i64 3, .int .i64 11, .int .i64 3, .int .i64 13, .int .i64 5, .int .i64 10, .int .i64 5, .int .i64 12] 52)) := (Below.refl _ _).alloc (Nat.le_refl _) _
  refine (equal_any c 4 A _ ex4o ex4o _ (HO10.out.below hb).rd ((rd_lit4 w10 (3, 1, 11) (3, 3, 13) (5, 0, 10) (5, 2, 12)).more (by simp)) (by decide) (by decide)).mono ?_
  rintro e w11 ⟨rfl, k11, hw11⟩
  have HB11 := Lib.hid (show Below n w w11 by rw [hw11]; exact drew_below (HB10.out.trans (hb.mono (by have := HB10.out.size; have := HN.out; omega))) _)
  have HQ11 := Lib.hid (show PQ w11 n n (ex4.eraseIdx (fm ex4)) 4 4 by rw [hw11]; exact HQ10.out.below (drew_below hb _))
  rw [show decide (ex4o.map kv = ex4o.map kv) = true from by decide]
  clear hw11 hb HQ10 HB10 HO10
  go_wp2_with fail
  refine (Len_pq n n _ 4 4 w11 HQ11.out).mono ?_
  rintro e w12 ⟨rfl, hw12⟩
  subst hw12
  rw [HE3.out]
  go_wp2_with fail
  go_ret
  rw [← HN.out]
  exact ⟨rfl, HB11.out⟩
end Go.Proofs.Ytaiefhdnjmiafaa
