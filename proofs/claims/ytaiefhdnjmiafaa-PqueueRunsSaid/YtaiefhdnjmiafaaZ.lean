/- The walk of the law on sequences of calls. -/
import Derived.Test.YtaiefhdnjmiafaaX
import Derived.Test.YtaiefhdnjmiafaaY
namespace Go.Proofs.Ytaiefhdnjmiafaa
open Go.RowKit Go.Shelf
set_option linter.unusedVariables false

/-- the calls: kind, key, value -/
def OpsAt (w : World) (A : Option Addr) (n : Nat) (o : Nat → Int × Int × Int) : Prop :=
  ∀ k, k < n → ∃ b off, A = some ⟨b, off, none⟩ ∧ b < w.heap.size ∧ w.cell? ⟨b, off + k * 3, none⟩ = some (.int .i64 (o k).1) ∧ w.cell? ⟨b, off + k * 3 + 1, none⟩ = some (.int .i64 (o k).2.1) ∧ w.cell? ⟨b, off + k * 3 + 2, none⟩ = some (.int .i64 (o k).2.2)
/-- the queue and the list of items that it is held against -/
structure RN (w : World) (N mb cap : Nat) (S : List PI) (p : Nat) (A : Option Addr) (c : Nat) (wr : World) : Prop where
  pq : PQ wr N N S cap p
  ob : Blk wr mb 30 #[.int .i64 cap, .slice A S.length c]
  own : OwnI wr N A c S
  lc : S.length ≤ cap
  mbN : N ≤ mb
  below : Below N w wr
theorem OwnI.qk {base B c : Nat} {A : Option Addr} {S : List PI} {U U' : World} (h : OwnI U base A c S) (hi : QK B U U') : OwnI U' base A c S := by
  refine ⟨h.1, ?_⟩
  rcases h.2 with h' | ⟨g, cap, cur, h', hb, hg, r⟩
  · exact .inl h'
  · exact .inr ⟨g, cap, cur, h', hb, hi.oth g _ hg rfl, r⟩
section
variable {w wr w' : World} {N mb cap p c : Nat} {S S' : List PI} {A A' : Option Addr}
/-- memory was made, nothing was changed -/
theorem RN.later (h : RN w N mb cap S p A c wr) (hb : Below wr.heap.size wr w') : RN w N mb cap S p A c w' :=
  ⟨h.pq.below hb, h.ob.below hb h.ob.lt, h.own.below hb, h.lc, h.mbN, h.below.trans (hb.mono (by have := h.mbN; have := h.ob.lt; omega))⟩
theorem RN.drewN (h : RN w N mb cap S p A c wr) (n : Nat) : RN w N mb cap S p A c (wr.drewN n) := h.later (drew_below (Below.refl _ _) n)
end
/-- the new model in a block of its own -/
structure RW (wr u : World) (B g cap : Nat) (A : Option Addr) (c : Nat) (S : List PI) : Prop where
  below : Below wr.heap.size wr u
  blk : Blk u g 30 #[.int .i64 cap, .slice A S.length c]
  own : OwnI u B A c S
theorem rw_behind {wr w3 : World} {cap c B : Nat} {A : Option Addr} {S : List PI} (hb : Below wr.heap.size wr w3) (hO : OwnI w3 B A c S) : RW wr (w3.alloc (.cells #[.int .i64 cap, .slice A S.length c] 30)) B w3.heap.size cap A c S :=
  ⟨hb.alloc hb.size _, Blk.new _ _ _, hO.below ((Below.refl _ _).alloc (Nat.le_refl _) _)⟩
theorem own_ne_ob {u : World} {mb base c : Nat} {A : Option Addr} {S : List PI} {cs : Array Value} (h : Blk u mb 30 cs) (hO : OwnI u base A c S) : ownB A ≠ some mb := by
  intro e
  obtain ⟨o, h1, h2⟩ := OwnI.isIt hO e
  unfold Blk at h
  rw [h] at h1
  rw [← Option.some.inj h1] at h2
  exact absurd h2 (by simp [isIt])
theorem rw_ahead {wr u w3 : World} {cap c B : Nat} {A : Option Addr} {S : List PI} (hu : Below wr.heap.size wr u) (hk : Blk u wr.heap.size 30 #[.int .i64 0, .slice none 0 0])
    (hb : Below u.heap.size u w3) (hO : OwnI w3 B A c S) : RW wr ((w3.setCell ⟨wr.heap.size, 0, none⟩ (.int .i64 cap)).setCell ⟨wr.heap.size, 1, none⟩ (.slice A S.length c)) B wr.heap.size cap A c S := by
  have hlt := hk.lt
  have hk3 := hk.below hb hlt
  have hB : Below wr.heap.size wr w3 := hu.trans (hb.mono hu.size)
  exact ⟨(hB.setCell (p := ⟨wr.heap.size, 0, none⟩) (Nat.le_refl _) _).setCell (p := ⟨wr.heap.size, 1, none⟩) (Nat.le_refl _) _, (hk3.set_ 0 _).set_ 1 _,
    Own.grown hO (grown_setCell (grown_setCell (grown_refl w3 (some wr.heap.size)) 0 _) 1 _) (.inr (own_ne_ob hk3 hO))⟩
/-- the model alone -/
structure MO (w : World) (N mb cap : Nat) (S : List PI) (A : Option Addr) (c : Nat) (wr : World) : Prop where
  ob : Blk wr mb 30 #[.int .i64 cap, .slice A S.length c]
  own : OwnI wr N A c S
  lc : S.length ≤ cap
  mbN : N ≤ mb
  below : Below N w wr
theorem MO.rn {w wr : World} {N mb cap p c : Nat} {S : List PI} {A : Option Addr} (h : MO w N mb cap S A c wr) (hq : PQ wr N N S cap p) : RN w N mb cap S p A c wr := ⟨hq, h.ob, h.own, h.lc, h.mbN, h.below⟩
theorem mo_store {w w5 : World} {N mb cap c : Nat} {S : List PI} {A : Option Addr} {a b : Value} (hb : Blk w5 mb 30 #[a, b]) (hO : OwnI w5 N A c S) (hlc : S.length ≤ cap) (hmb : N ≤ mb) (hB : Below N w w5) :
    MO w N mb cap S A c ((w5.setCell ⟨mb, 0, none⟩ (.int .i64 cap)).setCell ⟨mb, 1, none⟩ (.slice A S.length c)) ∧ ∀ S0 cap0 p0, PQ w5 N N S0 cap0 p0 → PQ ((w5.setCell ⟨mb, 0, none⟩ (.int .i64 cap)).setCell ⟨mb, 1, none⟩ (.slice A S.length c)) N N S0 cap0 p0 := by
  have hg := grown_setCell (grown_setCell (grown_refl w5 (some mb)) 0 (.int .i64 cap)) 1 (.slice A S.length c)
  exact ⟨⟨(hb.set_ 0 _).set_ 1 _, Own.grown hO hg (.inr (own_ne_ob hb hO)), hlc, hmb, (hB.setCell (p := ⟨mb, 0, none⟩) hmb _).setCell (p := ⟨mb, 1, none⟩) hmb _⟩, fun S0 cap0 p0 hq => hq.other hg ⟨_, hb, rfl⟩⟩
theorem Push_pk (base q : Nat) (S : List PI) (cap p : Nat) (key x : Int) (w : World) (h : PQ w base q S cap p) (hlen : S.length < cap) (hcap : cap ≤ 4096) (hp : p ≤ 1000000) :
    Calls Try.prog 11 #[.pointer (some ⟨q, 0, none⟩), .int .i64 key, .int .i64 x] w fun e w' => e = .returned (.int .i64 0) ∧ PQ w' base q (S ++ [(key, (p : Int), x)]) cap (p + 1) ∧ QK base w w' := by
  obtain ⟨A, c, hs, h1, h2, h3, h4, h5⟩ := h
  refine (Push_k base q A c hs cap p key x w h1 (by rw [h2.length_eq]; exact hlen) hcap hp h4).mono ?_
  rintro e w' ⟨he, A', c', l', hQ, hP, hH, hb⟩
  refine ⟨he, ⟨A', c', l', hQ, hP.trans (h2.append_right _), num_snoc h3 h5, hH, fun y hy => ?_⟩, hb⟩
  rcases List.mem_append.1 hy with hy | hy
  · have := h5 y hy; push_cast; omega
  · rw [List.mem_singleton.1 hy]; push_cast; omega
theorem Len_q (base q : Nat) (S : List PI) (cap p : Nat) (w : World) (h : PQ w base q S cap p) :
    Calls Try.prog 19 #[.pointer (some ⟨q, 0, none⟩)] w fun e w' => e = .returned (.int .i64 S.length) ∧ w' = w :=
  (Len_pq base q S cap p w h).mono fun e w' h => ⟨h.1, h.2.symm⟩
theorem Blk.qk {B g : Nat} {U U' : World} {t : TypeId} {cs : Array Value} (h : Blk U g t cs) (hq : QK B U U') (hi : isQ (.cells cs t (0, 0)) = false) : Blk U' g t cs := hq.oth g _ h hi
theorem keep_alloc {W : World} {ob : Obj} {b i : Nat} {v : Value} (hb : b < W.heap.size) (h : W.cell? ⟨b, i, none⟩ = some v) : (W.alloc ob).cell? ⟨b, i, none⟩ = some v :=
  (((Below.refl _ W).alloc (Nat.le_refl _) ob).cell (p := ⟨b, i, none⟩) hb).trans h
theorem keep_set2 {W : World} {b g i : Nat} {v x y : Value} (hb : g ≠ b) (h : W.cell? ⟨b, i, none⟩ = some v) : ((W.setCell ⟨g, 0, none⟩ x).setCell ⟨g, 1, none⟩ y).cell? ⟨b, i, none⟩ = some v :=
  (World.cell?_of_block ((Below.heap_setCell _ ⟨g, 1, none⟩ _ _ (Ne.symm hb)).trans (Below.heap_setCell _ ⟨g, 0, none⟩ _ _ (Ne.symm hb)))).trans h
/-- where the ways of a round meet -/
def Meet (w : World) (N mb cap j : Nat) (k x ok y z is : Value) (wx : World) : Prop :=
  ∃ (x1 x2 : Int) (x3 : Bool) (p c : Nat) (S : List PI) (A : Option Addr), k = .int .i64 x1 ∧ x = .int .i64 x2 ∧ ok = .bool x3 ∧ y = .int .i64 x1 ∧ z = .int .i64 x2 ∧ is = .bool x3 ∧ p ≤ j + 1 ∧ S.length ≤ j + 1 ∧ RN w N mb cap S p A c wx
theorem QK.undrew {base : Nat} {w w' : World} (h : QK base w.drew w') : QK base w w' := ⟨Go.Proofs.Ytaiefhdnjmiafaa.undrew h.below, h.oth⟩
theorem MO.qk {w wr w' : World} {N mb cap c : Nat} {S : List PI} {A : Option Addr} (h : MO w N mb cap S A c wr) (hk : QK N wr w') : MO w N mb cap S A c w' :=
  ⟨h.ob.qk hk rfl, OwnI.qk h.own hk, h.lc, h.mbN, h.below.trans hk.below⟩
theorem RN.mo {w wr : World} {N mb cap p c : Nat} {S : List PI} {A : Option Addr} (h : RN w N mb cap S p A c wr) : MO w N mb cap S A c wr := ⟨h.ob, h.own, h.lc, h.mbN, h.below⟩
theorem below_reads {W W1 : World} (hb : Below W.heap.size W W1) : (∀ b i, b < W.heap.size → W1.cell? ⟨b, i, none⟩ = W.cell? ⟨b, i, none⟩) ∧ (∀ b i, b < W.heap.size → W1.frozen? ⟨b, i, none⟩ = W.frozen? ⟨b, i, none⟩) :=
  ⟨fun b i h => hb.cell (p := ⟨b, i, none⟩) h, fun b i h => hb.frozen (p := ⟨b, i, none⟩) h⟩
set_option maxRecDepth 100000 in
set_option maxHeartbeats 2000000 in
theorem runs_bad (capacity : Int) (A : Option Addr) (n cp : Nat) (w : World) (hc : capacity < 0 ∨ 4096 < capacity) (hn : n ≤ 300) :
    Calls Try.prog 3 #[.int .i64 capacity, .slice A n cp] w fun e w' => e = .returned (.bool true) ∧ Below w.heap.size w w' := by
  obtain ⟨N, hN⟩ : ∃ N, N = w.heap.size := ⟨_, rfl⟩
  have HN := Lib.hid hN
  have HC := Lib.hid hc
  rw [← hN]
  have hd : decide ((300 : Int) < n) = false := by simp; omega
  clear hN hc
  go_enter Try.func3, Try.ntmps3
  go_wp2_with fail
  refine (New_bad capacity w HC.out).mono ?_
  rintro e w1 ⟨rfl, h1⟩
  subst h1
  go_wp2_with fail
  refine (RNew_bad capacity w HC.out).mono ?_
  rintro e w2 ⟨rfl, hb2⟩
  have HB2 := Lib.hid hb2
  clear hb2
  go_wp2_with fail
  refine (awake_any _).mono ?_
  rintro e w3 ⟨rfl, hb3⟩
  have HB3 := Lib.hid hb3
  clear hb3
  go_wp2_with fail
  go_ret
  refine ⟨rfl, ?_⟩
  have h0 : w.heap.size ≤ w2.heap.size := HB2.out.size
  rw [HN.out]
  refine Below.trans ?_ (HB3.out.mono ?_)
  · repeat (first | exact HB2.out | refine Below.setCell ?_ (by simpa using h0) _ | refine Below.alloc ?_ (by first | exact h0 | (simp; omega)) _)
  · simp; omega
set_option maxRecDepth 100000 in
theorem runs_long (capacity : Int) (A : Option Addr) (n cp : Nat) (w : World) (hn : 300 < n) :
    Calls Try.prog 3 #[.int .i64 capacity, .slice A n cp] w fun e w' => e = .returned (.bool true) ∧ Below w.heap.size w w' := by
  go_enter Try.func3, Try.ntmps3
  go_wp2_with fail
  refine (awake_any w).mono ?_
  rintro e w1 ⟨rfl, hb⟩
  have HB := Lib.hid hb
  clear hb
  go_wp2_with fail
  go_ret
  exact ⟨rfl, HB.out⟩
set_option maxRecDepth 100000 in
set_option maxHeartbeats 2000000 in
theorem runs_walk (cap : Nat) (A : Option Addr) (n cp : Nat) (o : Nat → Int × Int × Int) (w : World) (hcap : cap ≤ 4096) (hn : n ≤ 300) (hR : OpsAt w A n o) :
    Calls Try.prog 3 #[.int .i64 cap, .slice A n cp] w fun e w' => e = .returned (.bool true) ∧ Below w.heap.size w w' := by
  obtain ⟨N, hN⟩ : ∃ N, N = w.heap.size := ⟨_, rfl⟩
  have HN := Lib.hid hN
  have HR := Lib.hid hR
  rw [← hN]
  have hd : decide ((300 : Int) < n) = false := by simp; omega
  clear hN hR
  go_enter Try.func3, Try.ntmps3
  go_wp2_with fail
  refine (New_pq cap w (by omega)).mono ?_
  rintro e w1 ⟨rfl, hq1, hb1⟩
  rw [← HN.out] at hq1 hb1 ⊢
  have HQ1 := Lib.hid hq1
  have HB1 := Lib.hid hb1
  clear hq1 hb1
  go_wp2_with fail
  refine (RNew_any cap w1 (by omega)).mono ?_
  rintro e w2 ⟨rfl, hb2⟩
  have HQ2 := Lib.hid (HQ1.out.below hb2)
  have HB2 := Lib.hid (HB1.out.trans (hb2.mono (by have := HB1.out.size; have := HN.out; omega)))
  clear hb2 HQ1 HB1
  go_wp2_with fail
  obtain ⟨mb, hmb⟩ : ∃ mb, mb = w2.heap.size := ⟨_, rfl⟩
  obtain ⟨W0, hW0⟩ : ∃ U, U = w2.alloc (.cells #[.int .i64 cap, .slice none 0 0] 30) := ⟨_, rfl⟩
  rw [← hmb, ← hW0]
  have HRN := Lib.hid (show RN w N mb cap [] 0 none 0 W0 by
    rw [hW0, hmb]
    have hb := (Below.refl w2.heap.size w2).alloc (Nat.le_refl _) (.cells #[.int .i64 cap, .slice none 0 0] 30)
    exact ⟨HQ2.out.below hb, Blk.new _ _ _, OwnI.none_ _ _, Nat.zero_le _, by have := HB2.out.size; have := HN.out; omega, HB2.out.trans (hb.mono (by have := HB2.out.size; have := HN.out; omega))⟩)
  clear hmb hW0 HQ2 HB2
  go_loopw [9] (fun i wr => ∃ (j p c : Nat) (S : List PI) (A' : Option Addr), j ≤ n ∧ p ≤ j ∧ S.length ≤ j ∧ i = .int .i64 j ∧ RN w N mb cap S p A' c wr) (fun i _ => n - (intOf i).toNat)
  case atStart => exact ⟨0, 0, 0, [], none, Nat.zero_le _, Nat.le_refl _, Nat.le_refl _, rfl, HRN.out⟩
  case round =>
    obtain ⟨j, p, c, S, A', hj, hp, hSj, rfl, hrn⟩ := hrel
    have HRN' := Lib.hid hrn
    clear hrn HRN
    by_cases hlt : j < n
    · obtain ⟨b, off, hA, hbb, o0, o1, o2⟩ := HR.out j hlt
      have hbN : b < N := by rw [HN.out]; exact hbb
      obtain ⟨kd, hkd⟩ : ∃ x, (o j).1 = x := ⟨_, rfl⟩
      obtain ⟨ky, hky⟩ : ∃ x, (o j).2.1 = x := ⟨_, rfl⟩
      obtain ⟨vl, hvl⟩ : ∃ x, (o j).2.2 = x := ⟨_, rfl⟩
      rw [hkd] at o0
      rw [hky] at o1
      rw [hvl] at o2
      have c0 : wr.cell? ⟨b, off + j * 3, none⟩ = some (.int .i64 kd) := (HRN'.out.below.cell (p := ⟨b, off + j * 3, none⟩) hbN).trans o0
      have c1 : wr.cell? ⟨b, off + j * 3 + 1, none⟩ = some (.int .i64 ky) := (HRN'.out.below.cell (p := ⟨b, off + j * 3 + 1, none⟩) hbN).trans o1
      have c2 : wr.cell? ⟨b, off + j * 3 + 2, none⟩ = some (.int .i64 vl) := (HRN'.out.below.cell (p := ⟨b, off + j * 3 + 2, none⟩) hbN).trans o2
      subst hA
      have hjn : (j : Int) < n := by omega
      have hbr : b < wr.heap.size := by have := HRN'.out.below.size; have := HN.out; omega
      have hmr : mb < wr.heap.size := HRN'.out.ob.lt
      have m0 : wr.cell? ⟨mb, 0, none⟩ = some (.int .i64 cap) := HRN'.out.ob.cell 0
      have m1 : wr.cell? ⟨mb, 1, none⟩ = some (.slice A' S.length c) := HRN'.out.ob.cell 1
      clear hkd hky hvl o0 o1 o2 hbb HR
      go_upto_block 2 with (fail)
      go_cut [10, 11, 12, 13, 14, 15] (fun k x ok y z is wx => Meet w N mb cap j k x ok y z is wx)
      case first =>
        rcases Classical.em (kd = 0) with rfl | hk0
        · rcases Nat.lt_or_ge S.length cap with hfull | hfull
          · skip
            -- BEGIN pushok
            go_upto_region 19 with (fail)
            have n1 := World.new_ne wr _ m0
            have n2 := World.new_ne wr _ m1
            have n3 := World.new_ne wr _ c1
            have n4 := World.new_ne wr _ c2
            go_cut [16, 17] (fun s16 s17 wx => s17 = .int .i64 0 ∧ ∃ g A3 c3, s16 = .pointer (some ⟨g, 0, none⟩) ∧ RW wr wx wr.heap.size g cap A3 c3 (S ++ [(ky, (p : Int), vl)]))
            case first =>
              go_region_held3 (fun u => u.cell? ⟨mb, 0, none⟩ = some (.int .i64 cap) ∧ u.cell? ⟨mb, 1, none⟩ = some (.slice A' S.length c) ∧ u.cell? ⟨b, off + j * 3 + 1, none⟩ = some (.int .i64 ky) ∧ u.cell? ⟨b, off + j * 3 + 2, none⟩ = some (.int .i64 vl)) (first | go_keep | ((try dsimp only) <;> (repeat' apply And.intro) <;> (first | go_keep | ((try refine keep_set2 (by omega) ?_); (try refine keep_alloc (by have hz := hb3.size; simp at hz; omega) ?_); rw [hc3 _ _ (by first | exact hmr | exact hbr | (simp; omega))]; first | exact m0 | exact m1 | exact c1 | exact c2 | go_keep))))
                (first | (go_at_call 10; refine (RPush_any cap c A' S ky vl p _ hfull hcap ?_).mono ?_; (first | exact HRN'.out.own.rd | exact (HRN'.out.own.below ((Below.refl _ _).alloc (Nat.le_refl _) _)).rd); (rintro e w3 ⟨A3, c3, rfl, hO3, hb3⟩; obtain ⟨hc3, hf3⟩ := below_reads hb3; have hz3 := hb3.size)))
              · go_wp2_with fail
                go_meet
                exact ⟨rfl, w3.heap.size, A3, c3, rfl, by have := rw_behind (wr := wr) (cap := cap) (undrew hb3) hO3; simpa using this⟩
              · go_wp2_with fail
                go_meet
                exact ⟨rfl, wr.heap.size, A3, c3, rfl, by have := rw_ahead (wr := wr) (cap := cap) ((Below.refl _ wr).alloc (Nat.le_refl _) (.cells #[.int .i64 0, .slice none 0 0] 30)) (Blk.new _ _ _) (undrew hb3) (OwnI.less (b' := wr.heap.size) hO3 (by simp)); simpa using this⟩
            case rest =>
              clear n1 n2 n3 n4
              obtain ⟨rfl, g, A3, c3, rfl, hw⟩ := hcut
              have HW := Lib.hid hw
              have HLen := Lib.hid (show (S ++ [(ky, (p : Int), vl)]).length = S.length + 1 by simp)
              have HRu := Lib.hid (HRN'.out.later hw.below)
              have a1 : wc.cell? ⟨b, off + j * 3 + 1, none⟩ = some (.int .i64 ky) := (hw.below.cell (p := ⟨b, off + j * 3 + 1, none⟩) hbr).trans c1
              have a2 : wc.cell? ⟨b, off + j * 3 + 2, none⟩ = some (.int .i64 vl) := (hw.below.cell (p := ⟨b, off + j * 3 + 2, none⟩) hbr).trans c2
              clear m0 m1 c0 c1 c2 hbr hmr hw
              go_wp2_with fail
              go_region_held3 (fun v => v.cell? ⟨b, off + j * 3 + 1, none⟩ = some (.int .i64 ky) ∧ v.cell? ⟨b, off + j * 3 + 2, none⟩ = some (.int .i64 vl)) (first | go_keep | (exact ⟨(hk5.below.cell (p := ⟨b, off + j * 3 + 1, none⟩) hbN).trans a1, (hk5.below.cell (p := ⟨b, off + j * 3 + 2, none⟩) hbN).trans a2⟩))
                (first | (go_at_call 11; refine (Push_pk N N S cap p ky vl _ ?_ hfull hcap (by omega)).mono ?_; (first | exact HRu.out.pq | exact (HRu.out.drewN _).pq); (rintro e w5 ⟨rfl, hq5, hk5⟩)))
              have hk6 := QK.undrew hk5
              have HQ5 := Lib.hid hq5
              have HB5 := Lib.hid (HRu.out.below.trans hk6.below)
              have HG := Lib.hid (HW.out.blk.qk hk6 rfl)
              have HM := Lib.hid (HRu.out.ob.qk hk6 rfl)
              have HO5 := Lib.hid (OwnI.qk HW.out.own hk6)
              have g0 : w5.cell? ⟨g, 0, none⟩ = some (.int .i64 cap) := HG.out.cell 0
              have g1 : w5.cell? ⟨g, 1, none⟩ = some (.slice A3 (S.length + 1) c3) := by rw [← HLen.out]; exact HG.out.cell 1
              have f0 := HM.out.frozen 0
              have f1 := HM.out.frozen 1
              have m0 : w5.cell? ⟨mb, 0, none⟩ = some (.int .i64 cap) := HM.out.cell 0
              have m1 : w5.cell? ⟨mb, 1, none⟩ = some (.slice A' S.length c) := HM.out.cell 1
              clear hq5 hk5 hk6 a1 a2
              go_wp2_with fail
              go_meet
              refine ⟨0, 0, false, p + 1, c3, S ++ [(ky, (p : Int), vl)], A3, rfl, rfl, rfl, rfl, rfl, rfl, by omega, by rw [HLen.out]; omega, ?_⟩
              have := mo_store (cap := cap) HM.out (OwnI.less HO5.out (by have := HRN'.out.mbN; have := HRN'.out.ob.lt; omega)) (by rw [HLen.out]; exact hfull) HRN'.out.mbN HB5.out
              rw [HLen.out] at this
              exact this.1.rn (this.2 _ _ _ HQ5.out)
            -- END pushok
          · skip
            -- BEGIN pushfull
            go_upto_region 19 with (fail)
            have n1 := World.new_ne wr _ m0
            have n2 := World.new_ne wr _ m1
            have n3 := World.new_ne wr _ c1
            have n4 := World.new_ne wr _ c2
            go_cut [16, 17] (fun s16 s17 wx => s17 = .int .i64 13 ∧ ∃ g, s16 = .pointer (some ⟨g, 0, none⟩) ∧ RW wr wx N g cap A' c S)
            case first =>
              go_region_held3 (fun u => u.cell? ⟨mb, 0, none⟩ = some (.int .i64 cap) ∧ u.cell? ⟨mb, 1, none⟩ = some (.slice A' S.length c) ∧ u.cell? ⟨b, off + j * 3 + 1, none⟩ = some (.int .i64 ky) ∧ u.cell? ⟨b, off + j * 3 + 2, none⟩ = some (.int .i64 vl)) (first | go_keep | ((try dsimp only) <;> (repeat' apply And.intro) <;> (first | go_keep | ((try refine keep_set2 (by omega) ?_); (try refine keep_alloc (by have hz := hb3.size; simp at hz; omega) ?_); rw [hc3 _ _ (by first | exact hmr | exact hbr | (simp; omega))]; first | exact m0 | exact m1 | exact c1 | exact c2 | go_keep))))
                (first | (go_at_call 10; refine (RPush_full cap c A' S ky vl _ hfull).mono ?_; (rintro e w3 ⟨rfl, hb3⟩; obtain ⟨hc3, hf3⟩ := below_reads hb3; have hz3 := hb3.size)))
              · go_wp2_with fail
                go_meet
                exact ⟨rfl, w3.heap.size, rfl, rw_behind (wr := wr) (cap := cap) (undrew hb3) (HRN'.out.own.below (undrew hb3))⟩
              · go_wp2_with fail
                go_meet
                exact ⟨rfl, wr.heap.size, rfl, rw_ahead (wr := wr) (cap := cap) ((Below.refl _ wr).alloc (Nat.le_refl _) (.cells #[.int .i64 0, .slice none 0 0] 30)) (Blk.new _ _ _) (undrew hb3) ((HRN'.out.own.below ((Below.refl _ wr).alloc (Nat.le_refl _) (.cells #[.int .i64 0, .slice none 0 0] 30))).below (undrew hb3))⟩
            case rest =>
              clear n1 n2 n3 n4
              obtain ⟨rfl, g, rfl, hw⟩ := hcut
              have HW := Lib.hid hw
              have HRu := Lib.hid (HRN'.out.later hw.below)
              have a1 : wc.cell? ⟨b, off + j * 3 + 1, none⟩ = some (.int .i64 ky) := (hw.below.cell (p := ⟨b, off + j * 3 + 1, none⟩) hbr).trans c1
              have a2 : wc.cell? ⟨b, off + j * 3 + 2, none⟩ = some (.int .i64 vl) := (hw.below.cell (p := ⟨b, off + j * 3 + 2, none⟩) hbr).trans c2
              clear m0 m1 c0 c1 c2 hbr hmr hw
              go_wp2_with fail
              go_region_held3 (fun v => v.cell? ⟨b, off + j * 3 + 1, none⟩ = some (.int .i64 ky) ∧ v.cell? ⟨b, off + j * 3 + 2, none⟩ = some (.int .i64 vl)) (first | go_keep | (exact ⟨(by rw [hw5]; exact a1), (by rw [hw5]; exact a2)⟩))
                (first | (go_at_call 11; refine (Push_full N N S cap p ky vl _ ?_ hfull).mono ?_; (first | exact HRu.out.pq | exact (HRu.out.drewN _).pq); (rintro e w5 ⟨rfl, k5, hw5⟩)))
              have g0 : wc.cell? ⟨g, 0, none⟩ = some (.int .i64 cap) := HW.out.blk.cell 0
              have g1 : wc.cell? ⟨g, 1, none⟩ = some (.slice A' S.length c) := HW.out.blk.cell 1
              have f0 := HRu.out.ob.frozen 0
              have f1 := HRu.out.ob.frozen 1
              have m0 : wc.cell? ⟨mb, 0, none⟩ = some (.int .i64 cap) := HRu.out.ob.cell 0
              have m1 : wc.cell? ⟨mb, 1, none⟩ = some (.slice A' S.length c) := HRu.out.ob.cell 1
              clear hw5 a1 a2
              go_wp2_with fail
              go_meet
              have := mo_store (w := w) (cap := cap) HRu.out.ob HRu.out.own HRu.out.lc HRu.out.mbN HRu.out.below
              exact ⟨0, 0, false, p, c, S, A', rfl, rfl, rfl, rfl, rfl, rfl, by omega, by omega, (this.1.rn (this.2 _ _ _ HRu.out.pq)).drewN _⟩
            -- END pushfull
        · rcases Classical.em (kd = 1) with rfl | hk1
          · rcases Nat.eq_zero_or_pos S.length with hz | hz
            · obtain rfl := List.eq_nil_of_length_eq_zero hz
              simp only [List.length_nil] at m1
              clear hz hSj c1 c2 hk0
              -- BEGIN popempty
              go_wp2_with fail
              refine (RPop_empty cap c A' wr).mono ?_
              rintro e w3 ⟨rfl, hb3⟩
              have HR3 := Lib.hid (HRN'.out.later hb3)
              clear hb3 c0 m0 m1
              go_upto_region 26 with (fail)
              obtain ⟨u, hu⟩ : ∃ u, u = w3.alloc (.cells #[.int .i64 cap, .slice A' 0 c] 30) := ⟨_, rfl⟩
              obtain ⟨g, hg⟩ : ∃ g, g = w3.heap.size := ⟨_, rfl⟩
              have hbu : Below w3.heap.size w3 u := by rw [hu]; exact (Below.refl _ _).alloc (Nat.le_refl _) _
              have HG := Lib.hid (show Blk u g 30 #[.int .i64 cap, .slice A' 0 c] by rw [hu, hg]; exact Blk.new _ _ _)
              have HRu := Lib.hid (HR3.out.later hbu)
              rw [← hu, ← hg]
              have m0 : u.cell? ⟨mb, 0, none⟩ = some (.int .i64 cap) := HRu.out.ob.cell 0
              have m1 : u.cell? ⟨mb, 1, none⟩ = some (.slice A' 0 c) := HRu.out.ob.cell 1
              have f0 := HRu.out.ob.frozen 0
              have f1 := HRu.out.ob.frozen 1
              have g0 : u.cell? ⟨g, 0, none⟩ = some (.int .i64 cap) := HG.out.cell 0
              have g1 : u.cell? ⟨g, 1, none⟩ = some (.slice A' 0 c) := HG.out.cell 1
              have HMo := Lib.hid (mo_store (w := w) (cap := cap) HRu.out.ob HRu.out.own HRu.out.lc HRu.out.mbN HRu.out.below)
              simp only [List.length_nil] at HMo
              clear hu hg hbu HR3
              go_upto_region 27 with (fail)
              generalize (u.setCell _ _).setCell _ _ = v at HMo ⊢
              go_wp2_with fail
              refine (Pop_pq0 N N [] cap p v (HMo.out.2 _ _ _ HRu.out.pq) rfl).mono ?_
              rintro e w4 ⟨rfl, h4⟩
              subst h4
              have HR4 := Lib.hid (HMo.out.1.rn (HMo.out.2 _ _ _ HRu.out.pq))
              clear m0 m1 f0 f1 g0 g1
              go_wp2_with fail
              go_meet
              exact ⟨0, 0, false, p, c, [], A', rfl, rfl, rfl, rfl, rfl, rfl, by omega, by simp, HR4.out⟩
              -- END popempty
            · skip
              -- BEGIN pop
              clear c1 c2 hk0
              go_wp2_with fail
              refine (RPop_any cap c A' S wr HRN'.out.own.rd hz (by omega) HRN'.out.own.len_cap).mono ?_
              rintro e w3 ⟨A3, c3, rfl, hO3, hb3⟩
              have hlen : (S.eraseIdx (fm S)).length + 1 = S.length := by rw [List.length_eraseIdx, if_pos (fm_lt hz)]; omega
              obtain ⟨T, hT⟩ : ∃ T, T = S.eraseIdx (fm S) := ⟨_, rfl⟩
              obtain ⟨x, hx⟩ : ∃ x, x = at_ S (fm S) := ⟨_, rfl⟩
              rw [← hT, ← hx]
              rw [← hT] at hO3 hlen
              have HT := Lib.hid hT
              have HX := Lib.hid hx
              have HR3 := Lib.hid (HRN'.out.later hb3)
              have HO3 := Lib.hid (OwnI.less (b' := N) hO3 (by have := HRN'.out.mbN; have := HRN'.out.ob.lt; omega))
              have m0 : w3.cell? ⟨mb, 0, none⟩ = some (.int .i64 cap) := HR3.out.ob.cell 0
              have m1 : w3.cell? ⟨mb, 1, none⟩ = some (.slice A' S.length c) := HR3.out.ob.cell 1
              have f0 := HR3.out.ob.frozen 0
              have f1 := HR3.out.ob.frozen 1
              clear hO3 hb3 hT hx c0
              go_upto_region 26 with (fail)
              obtain ⟨u, hu⟩ : ∃ u, u = w3.alloc (.cells #[.int .i64 cap, .slice A3 T.length c3] 30) := ⟨_, rfl⟩
              obtain ⟨g, hg⟩ : ∃ g, g = w3.heap.size := ⟨_, rfl⟩
              have hbu : Below w3.heap.size w3 u := by rw [hu]; exact (Below.refl _ _).alloc (Nat.le_refl _) _
              have HG := Lib.hid (show Blk u g 30 #[.int .i64 cap, .slice A3 T.length c3] by rw [hu, hg]; exact Blk.new _ _ _)
              have HRu := Lib.hid (HR3.out.later hbu)
              have HOu := Lib.hid (HO3.out.below hbu)
              rw [← hu, ← hg]
              have m0 : u.cell? ⟨mb, 0, none⟩ = some (.int .i64 cap) := HRu.out.ob.cell 0
              have m1 : u.cell? ⟨mb, 1, none⟩ = some (.slice A' S.length c) := HRu.out.ob.cell 1
              have f0 := HRu.out.ob.frozen 0
              have f1 := HRu.out.ob.frozen 1
              have g0 : u.cell? ⟨g, 0, none⟩ = some (.int .i64 cap) := HG.out.cell 0
              have g1 : u.cell? ⟨g, 1, none⟩ = some (.slice A3 T.length c3) := HG.out.cell 1
              have HMo := Lib.hid (mo_store (w := w) (cap := cap) HRu.out.ob HOu.out (by have := HRN'.out.lc; omega) HRu.out.mbN HRu.out.below)
              clear hu hg hbu HR3 HO3
              go_upto_region 27 with (fail)
              generalize (u.setCell _ _).setCell _ _ = v at HMo ⊢
              go_wp2_with fail
              refine (Pop_pqk N N S cap p v (HMo.out.2 _ _ _ HRu.out.pq) hz (by omega)).mono ?_
              rintro e w4 ⟨rfl, hq4, hk4⟩
              rw [← HX.out]
              rw [← HT.out] at hq4
              have HR4 := Lib.hid ((HMo.out.1.qk hk4).rn hq4)
              clear hq4 hk4 m0 m1 f0 f1 g0 g1
              go_wp2_with fail
              go_meet
              exact ⟨x.1, x.2.2, true, p, c3, T, A3, rfl, rfl, rfl, rfl, rfl, rfl, by omega, by omega, HR4.out⟩
              -- END pop
          · rcases Classical.em (kd = 2) with rfl | hk2
            · rcases Nat.eq_zero_or_pos S.length with hz | hz
              · obtain rfl := List.eq_nil_of_length_eq_zero hz
                simp only [List.length_nil] at m1
                clear hz hSj c1 c2 hk0 hk1
                -- BEGIN peekempty
                go_wp2_with fail
                refine (RPeek_empty cap c A' wr).mono ?_
                rintro e w3 ⟨rfl, hb3⟩
                have HR3 := Lib.hid (HRN'.out.later hb3)
                clear hb3 c0 m0 m1
                go_wp2_with fail
                refine (Peek_pq0 N N [] cap p w3 HR3.out.pq rfl).mono ?_
                rintro e w4 ⟨rfl, h4⟩
                subst h4
                go_wp2_with fail
                go_meet
                exact ⟨0, 0, false, p, c, [], A', rfl, rfl, rfl, rfl, rfl, rfl, by omega, by simp, HR3.out⟩
                -- END peekempty
              · clear c1 c2 hk0 hk1
                -- BEGIN peek
                go_wp2_with fail
                refine (RPeek_any cap c A' S wr HRN'.out.own.rd hz (by omega)).mono ?_
                rintro e w3 ⟨rfl, hb3⟩
                have HR3 := Lib.hid (HRN'.out.later hb3)
                obtain ⟨x, hx⟩ : ∃ x, x = at_ S (fm S) := ⟨_, rfl⟩
                rw [← hx]
                have HX := Lib.hid hx
                clear hb3 c0 m0 m1 hx
                go_wp2_with fail
                refine (Peek_pq N N S cap p w3 HR3.out.pq hz).mono ?_
                rintro e w4 ⟨rfl, k4, h4⟩
                rw [← HX.out]
                have HR4 := Lib.hid (show RN w N mb cap S p A' c w4 by rw [h4]; exact HR3.out.drewN _)
                clear h4
                go_wp2_with fail
                go_meet
                exact ⟨x.1, x.2.2, true, p, c, S, A', rfl, rfl, rfl, rfl, rfl, rfl, by omega, by omega, HR4.out⟩
                -- END peek
            · have b0 : (kd == 0) = false := by simpa using hk0
              have b1 : (kd == 1) = false := by simpa using hk1
              have b2 : (kd == 2) = false := by simpa using hk2
              clear c1 c2 hk0 hk1 hk2
              -- BEGIN all
              go_wp2_with fail
              refine (list_pqi N N S cap p (S.length + 1) _ wr HRN'.out.pq (by omega) (by omega) (by omega)).mono ?_
              rintro e w3 ⟨A3, c3, rfl, hO3, hb3⟩
              obtain ⟨O, hO⟩ : ∃ O, O = ord S.length S := ⟨_, rfl⟩
              have hol : O.length = S.length := by rw [hO, ord_len]
              rw [← hO, List.take_of_length_le (l := O) (by omega)] at hO3 ⊢
              have HO := Lib.hid hO
              have HOl := Lib.hid hol
              rw [hol]
              have HR3 := Lib.hid (HRN'.out.later hb3)
              have HO3 := Lib.hid hO3
              have m0 : w3.cell? ⟨mb, 0, none⟩ = some (.int .i64 cap) := HR3.out.ob.cell 0
              have m1 : w3.cell? ⟨mb, 1, none⟩ = some (.slice A' S.length c) := HR3.out.ob.cell 1
              clear hO hol hO3 hb3 c0
              go_wp2_with fail
              refine (RAll_any cap c A' S w3 HR3.out.own.rd (by omega) HR3.out.own.len_cap).mono ?_
              rintro e w4 ⟨A4, c4, rfl, hO4, hb4⟩
              rw [← HO.out] at hO4 ⊢
              rw [HOl.out]
              have HR4 := Lib.hid (HR3.out.later hb4)
              have HO3' := Lib.hid (HO3.out.below hb4)
              have HO4 := Lib.hid hO4
              clear hO4 hb4 m0 m1
              go_wp2_with fail
              have hE := equal_any c3 c4 A3 A4 O O w4 HO3'.out.rd HO4.out.rd (by have := HOl.out; omega) (by have := HOl.out; omega)
              rw [HOl.out, show decide (O.map kv = O.map kv) = true from by simp] at hE
              refine hE.mono ?_
              rintro e w5 ⟨rfl, k5, hw5⟩
              have HR5 := Lib.hid (show RN w N mb cap S p A' c w5 by rw [hw5]; exact HR4.out.drewN _)
              clear hE hw5
              go_wp2_with fail
              go_meet
              exact ⟨0, 0, false, p, c, S, A', rfl, rfl, rfl, rfl, rfl, rfl, by omega, by omega, HR5.out⟩
              -- END all
      case rest =>
        obtain ⟨x1, x2, x3, p', c', S', A2, rfl, rfl, rfl, rfl, rfl, rfl, hp', hS', hr⟩ := hcut
        have HR2 := Lib.hid hr
        have e1 : wc.cell? ⟨mb, 1, none⟩ = some (.slice A2 S'.length c') := hr.ob.cell 1
        clear hr
        go_wp2_with fail
        go_quiet ((go_at_call 19; exact Calls.quiet_of_same (Len_q N N S' cap p' _ (by first | exact HR2.out.pq | exact (HR2.out.drewN _).pq))))
        go_wp2_with fail
        exact ⟨⟨j + 1, p', c', S', A2, by omega, hp', hS', by go_num, HR2.out.drewN _⟩, by simp [intOf]; omega⟩
    · obtain rfl : j = n := by omega
      clear hlt hj
      go_wp2_with fail
      refine (awake_any _).mono ?_
      rintro e w8 ⟨rfl, hb8⟩
      have HB8 := Lib.hid (HRN'.out.below.trans (hb8.mono (by have := HRN'.out.mbN; have := HRN'.out.ob.lt; omega)))
      clear hb8
      go_wp2_with fail
      go_ret
      exact ⟨rfl, HB8.out⟩
end Go.Proofs.Ytaiefhdnjmiafaa
