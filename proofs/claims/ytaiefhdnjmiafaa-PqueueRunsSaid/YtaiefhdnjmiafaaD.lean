/- Contract of Pop. -/
import Derived.Test.YtaiefhdnjmiafaaC
namespace Go.Proofs.Ytaiefhdnjmiafaa
open Go.RowKit
set_option linter.unusedVariables false

theorem OwnH.take {w : World} {base c g : Nat} {l : List PI} (h : OwnH w base (some ⟨g, 0, none⟩) c l) (k : Nat) (hk : k ≤ l.length) : OwnH w base (some ⟨g, 0, none⟩) c (l.take k) := by
  have hl : (l.take k).length = k := by rw [List.length_take]; omega
  unfold OwnH Own
  rw [hl, row_take]
  refine ⟨by rw [List.length_take, row_len]; omega, ?_⟩
  rcases h.2 with ⟨h', _⟩ | ⟨g', cap', cur, h', hb, hg, hc, hm, hs, ht⟩
  · simp at h'
  · simp only [Value.slice.injEq, Option.some.injEq, Addr.mk.injEq, and_true, true_and] at h'
    obtain ⟨rfl, rfl⟩ := h'
    refine .inr ⟨g, c, cur, rfl, hb, hg, by omega, hm, hs, ?_⟩
    rw [← ht, List.take_take, Nat.min_eq_left (by omega)]
theorem QAt.cut {u : World} {base q c cap p g m : Nat} {l : List PI} (h : QAt u base q (some ⟨g, 0, none⟩) c l cap p) (hm : m ≤ l.length) : QAt (u.setCell ⟨q, 0, none⟩ (.slice (some ⟨g, 0, none⟩) m c)) base q (some ⟨g, 0, none⟩) c (l.take m) cap p := by
  have hl : (l.take m).length = m := by rw [List.length_take]; omega
  have hne := blk_own_ne h.2.1 h.2.2
  refine ⟨h.1, ?_, Own.grown (h.2.2.take m hm) (grown_setCell (grown_refl _ _) 0 _) (.inr hne)⟩
  rw [hl]
  exact h.2.1.set_ 0 _
/-- the frame of Pop: what lies below base, and every block that is neither the queue's nor its row's, lies as it lay -/
structure Fr (base q g : Nat) (w w' : World) : Prop where
  below : Below base w w'
  rest : ∀ b, b < w.heap.size → b ≠ q → b ≠ g → w'.heap[b]? = w.heap[b]?
theorem Fr.refl (base q g : Nat) (w : World) : Fr base q g w w := ⟨Below.refl _ _, fun _ _ _ _ => rfl⟩
section
variable {base q g : Nat} {w w' w'' : World}
theorem Fr.drew (h : Fr base q g w w') : Fr base q g w w'.drew := ⟨h.below.drew, h.rest⟩
theorem fr_drewN (h : Fr base q g w w') (n : Nat) : Fr base q g w (w'.drewN n) := ⟨drew_below h.below n, h.rest⟩
theorem Fr.trans (h : Fr base q g w w') (h' : Fr base q g w' w'') : Fr base q g w w'' :=
  ⟨h.below.trans h'.below, fun b hb h1 h2 => (h'.rest b (by have := h.below.size; omega) h1 h2).trans (h.rest b hb h1 h2)⟩
theorem Fr.of (h : Below w.heap.size w w') (hb : base ≤ w.heap.size) : Fr base q g w w' := ⟨h.mono hb, fun b hb _ _ => h.block b hb⟩
theorem put3_fr (h : Fr base q g w w') (hg : base ≤ g) (k : Nat) (x : PI) : Fr base q g w (put3 w' g k x) :=
  ⟨put3_below h.below hg k x, fun b hb h1 h2 => (put3_other w' g k b x h2).trans (h.rest b hb h1 h2)⟩
theorem Fr.setq (h : Fr base q g w w') (hq : base ≤ q) (i : Nat) (u : Value) : Fr base q g w (w'.setCell ⟨q, i, none⟩ u) :=
  ⟨h.below.setCell (p := ⟨q, i, none⟩) hq u, fun b hb h1 h2 => by
    rw [← h.rest b hb h1 h2]
    exact (grown_setCell (grown_refl w' (some q)) i u).block b (by have := h.below.size; omega) (fun e => h1 (Option.some.inj e))⟩
end
def SwapF (W1 : World) (base q g c : Nat) (l : List PI) (cap p i j : Nat) : Nat → World → Prop
  | 0, u => QAt u base q (some ⟨g, 0, none⟩) c l cap p ∧ Fr base q g W1 u
  | 1, u => QAt u base q (some ⟨g, 0, none⟩) c (l.set i (at_ l j)) cap p ∧ Fr base q g W1 u
  | _, u => QAt u base q (some ⟨g, 0, none⟩) c (swp l i j) cap p ∧ Fr base q g W1 u
def PopS (W0 : World) (base q g c : Nat) (l : List PI) (cap p : Nat) : Nat → World → Prop
  | 0, u => QAt u base q (some ⟨g, 0, none⟩) c l cap p ∧ Fr base q g W0 u
  | _, u => QAt u base q (some ⟨g, 0, none⟩) c (l.set 0 (at_ l (l.length - 1))) cap p ∧ Fr base q g W0 u
/-- the smaller of an item and a child of it, if there is one -/
def pick (l : List PI) (f c : Nat) : Nat := if c < l.length ∧ ltB (at_ l c) (at_ l f) = true then c else f
theorem pick_no {l : List PI} {f c : Nat} (h : ¬ c < l.length) : pick l f c = f := by unfold pick; rw [if_neg (fun e => h e.1)]
theorem pick_of {l : List PI} {f c : Nat} {b : Bool} (h : c < l.length) (hb : ltB (at_ l c) (at_ l f) = b) : pick l f c = if b then c else f := by unfold pick; rw [hb]; cases b <;> simp [h]
theorem pick_lt {l : List PI} {f c : Nat} (h : f < l.length) : pick l f c < l.length := by
  unfold pick
  split
  · rename_i h'; exact h'.1
  · exact h
theorem pick_same {l : List PI} {i : Nat} (h : pick l (pick l i (2 * i + 1)) (2 * i + 2) = i) :
    (2 * i + 1 < l.length → ltB (at_ l (2 * i + 1)) (at_ l i) = false) ∧ (2 * i + 2 < l.length → ltB (at_ l (2 * i + 2)) (at_ l i) = false) := by
  have h1 : pick l i (2 * i + 1) = i := by
    have hc : pick l i (2 * i + 1) = 2 * i + 1 ∨ pick l i (2 * i + 1) = i := by unfold pick; split <;> simp
    rcases hc with hc | hc
    · rw [hc] at h
      have hc2 : pick l (2 * i + 1) (2 * i + 2) = 2 * i + 2 ∨ pick l (2 * i + 1) (2 * i + 2) = 2 * i + 1 := by unfold pick; split <;> simp
      omega
    · exact hc
  rw [h1] at h
  refine ⟨fun hl => ?_, fun hl => ?_⟩
  · cases hb : ltB (at_ l (2 * i + 1)) (at_ l i) with
    | false => rfl
    | true => rw [pick_of hl hb] at h1; simp only [if_true] at h1; omega
  · cases hb : ltB (at_ l (2 * i + 2)) (at_ l i) with
    | false => rfl
    | true => rw [pick_of hl hb] at h; simp only [if_true] at h; omega
theorem pick_step {l : List PI} {i f : Nat} (hi : i < l.length) (hf : pick l (pick l i (2 * i + 1)) (2 * i + 2) = f) (hne : f ≠ i) (h : HeapDown l i) : HeapDown (swp l i f) f ∧ f < l.length ∧ i < f := by
  have hfl : f < l.length := by rw [← hf]; exact pick_lt (pick_lt hi)
  have key : (f - 1) / 2 = i ∧ 0 < f ∧ ltB (at_ l f) (at_ l i) = true ∧ (2 * i + 1 < l.length → ltB (at_ l (2 * i + 1)) (at_ l f) = false) ∧ (2 * i + 2 < l.length → ltB (at_ l (2 * i + 2)) (at_ l f) = false) := by
    by_cases c1 : 2 * i + 1 < l.length
    · cases hb1 : ltB (at_ l (2 * i + 1)) (at_ l i) with
      | true =>
        rw [pick_of c1 hb1] at hf
        simp only [if_true] at hf
        by_cases c2 : 2 * i + 2 < l.length
        · cases hb2 : ltB (at_ l (2 * i + 2)) (at_ l (2 * i + 1)) with
          | true =>
            rw [pick_of c2 hb2] at hf
            simp only [if_true] at hf
            subst hf
            refine ⟨by omega, by omega, ?_, fun _ => le_of_lt hb2, fun _ => le_refl_ _⟩
            rw [ltB_iff] at *; omega
          | false =>
            rw [pick_of c2 hb2] at hf
            simp only [Bool.false_eq_true, if_false] at hf
            subst hf
            exact ⟨by omega, by omega, hb1, fun _ => le_refl_ _, fun _ => hb2⟩
        · rw [pick_no c2] at hf
          subst hf
          exact ⟨by omega, by omega, hb1, fun _ => le_refl_ _, fun h => absurd h c2⟩
      | false =>
        rw [pick_of c1 hb1] at hf
        simp only [Bool.false_eq_true, if_false] at hf
        by_cases c2 : 2 * i + 2 < l.length
        · cases hb2 : ltB (at_ l (2 * i + 2)) (at_ l i) with
          | true =>
            rw [pick_of c2 hb2] at hf
            simp only [if_true] at hf
            subst hf
            refine ⟨by omega, by omega, hb2, fun _ => ?_, fun _ => le_refl_ _⟩
            exact le_trans_ (le_of_lt hb2) hb1
          | false =>
            rw [pick_of c2 hb2] at hf
            simp only [Bool.false_eq_true, if_false] at hf
            omega
        · rw [pick_no c2] at hf; omega
    · rw [pick_no c1] at hf
      rw [pick_no (by omega)] at hf
      omega
  exact ⟨down_step hi hfl h key.1 key.2.1 key.2.2.1 key.2.2.2.1 key.2.2.2.2, hfl, by omega⟩

set_option maxRecDepth 100000 in
set_option maxHeartbeats 1000000 in
theorem Pop_fr (base q g : Nat) (c : Nat) (l : List PI) (cap p : Nat) (w : World) (hQ : QAt w base q (some ⟨g, 0, none⟩) c l cap p) (hl0 : 0 < l.length) (hl1 : l.length ≤ 4096) (hh : IsHeap l) :
    Calls Try.prog 13 #[.pointer (some ⟨q, 0, none⟩)] w fun e w' => e = .returned (.tuple #[.int .i64 (at_ l 0).1, .int .i64 (at_ l 0).2.2, .bool true]) ∧ ∃ l', QAt w' base q (some ⟨g, 0, none⟩) c l' cap p ∧ l'.Perm (popped l) ∧ IsHeap l' ∧ Fr base q g w w' := by
  obtain ⟨g', hg', hg0, hg1⟩ := hQ.2.2.addr hl0
  obtain ⟨rfl, _⟩ := addr_inj hg'
  clear hg'
  obtain ⟨d0, d1, d2⟩ := hQ.2.2.cell hl0
  have hc0 : w.cell? ⟨q, 0, none⟩ = some (.slice (some ⟨g, 0, none⟩) l.length c) := hQ.2.1.cell 0
  obtain ⟨m, hm⟩ : ∃ m, l.length = m + 1 := ⟨l.length - 1, by omega⟩
  have hmi : ((l.length : Nat) : Int) - 1 = (m : Int) := by omega
  have HM := Lib.hid hm
  have HQ := Lib.hid hQ
  have hml : m < l.length := by omega
  have hml2 : m ≤ 4096 := by omega
  clear hQ hm
  simp only [Nat.zero_mul, Nat.zero_add] at d0 d1 d2
  go_enter Try.func13, Try.ntmps13
  go_wp2_with fail
  refine (Peek_any q g l.length c (at_ l 0).1 (at_ l 0).2.2 w hc0 hl0 d0 d2).mono ?_
  rintro e w' ⟨rfl, nq, rfl⟩
  obtain ⟨W0, hW0⟩ : ∃ W, W = w.drewN nq := ⟨_, rfl⟩
  rw [← hW0]
  have HQ0 := Lib.hid (show QAt W0 base q (some ⟨g, 0, none⟩) c l cap p by rw [hW0]; exact HQ.out)
  have HB0 := Lib.hid (show Fr base q g w W0 by rw [hW0]; exact fr_drewN (Fr.refl _ _ _ _) _)
  clear hW0 hc0 d0 d1 d2
  have hc0 : W0.cell? ⟨q, 0, none⟩ = some (.slice (some ⟨g, 0, none⟩) l.length c) := HQ0.out.2.1.cell 0
  go_wp2_with fail
  have hmi2 : (m : Int) < l.length := by omega
  have hl0i : (0 : Int) < l.length := by omega
  clear hc0 hmi
  refine wp_region_rel ⟨[12], [(0, 0), (0, 0), (0, 0), (0, 0), (0, 0), (0, 0), (0, 0), (0, 0), (0, 0), (0, 0), (0, 0), (0, 0), (0, 0)]⟩ (fromAt (S := PopS W0 base q g c l cap p) (St := fun _ _ _ => True) [eqv (.pointer (some ⟨q, 0, none⟩)), eqv (.pointer (some ⟨q, 0, none⟩)), eqv (.pointer (some ⟨q, 0, none⟩)), eqv (.slice (some ⟨g, 0, none⟩) l.length c), eqv (.pointer (some ⟨q, 0, none⟩)), eqv (.pointer (some ⟨q, 0, none⟩)), eqv (.pointer (some ⟨q, 0, none⟩)), eqv (.slice (some ⟨g, 0, none⟩) l.length c), eqv (.int .i64 (m : Int)), eqv (.pointer (some ⟨g, m * 3, none⟩)), eqv (.agg #[.int .i64 (at_ l m).1, .int .u64 (at_ l m).2.1, .int .i64 (at_ l m).2.2]), eqv (.pointer (some ⟨g, 0, none⟩)), anyv]) (PopS W0 base q g c l cap p) (fun _ _ _ => True) (factAt (S := PopS W0 base q g c l cap p) (St := fun _ _ _ => True) [eqv (.pointer (some ⟨q, 0, none⟩)), eqv (.pointer (some ⟨q, 0, none⟩)), eqv (.pointer (some ⟨q, 0, none⟩)), eqv (.slice (some ⟨g, 0, none⟩) l.length c), eqv (.pointer (some ⟨q, 0, none⟩)), eqv (.pointer (some ⟨q, 0, none⟩)), eqv (.pointer (some ⟨q, 0, none⟩)), eqv (.slice (some ⟨g, 0, none⟩) l.length c), eqv (.int .i64 (m : Int)), eqv (.pointer (some ⟨g, m * 3, none⟩)), eqv (.agg #[.int .i64 (at_ l m).1, .int .u64 (at_ l m).2.1, .int .i64 (at_ l m).2.2]), eqv (.pointer (some ⟨g, 0, none⟩)), anyv]) (by kernel_rfl) (by kernel_rfl) (by kernel_rfl) (by kernel_rfl) ?_ (fun i v j u u' => factAt_st _ i v j u u') ?_ ?_
  · exact ⟨HQ0.out, (Fr.refl _ _ _ _).drew⟩
  · show Looks _ _ _ _ _ _ _ 0 _
    refine ⟨?_, ?_, ?_, ?_, ?_, ?_, ?_, ?_, ?_, ?_, ?_, ?_, ?_, trivial⟩
    · intro j hj ρ y u hS hc hf hg hfree hdep
      obtain rfl : j = 0 := by have := hj _ rfl; dsimp only at this; omega
      have e0 : ρ (.tmp 0) = .pointer (some ⟨q, 0, none⟩) := hfree 0 rfl
      refine ⟨fun _ => ?_, wanted_plain rfl⟩
      clear hdep hfree hj
      have c0 : u.cell? ⟨q, 0, none⟩ = some (.slice (some ⟨g, 0, none⟩) l.length c) := hS.1.2.1.cell 0
      go_simp
      exact ⟨rfl, keepS (by rfl) hS, trivial⟩
    · intro j hj ρ y u hS hc hf hg hfree hdep
      obtain rfl : j = 0 := by have := hj _ rfl; dsimp only at this; omega
      have e29 : ρ (.tmp 29) = .pointer (some ⟨q, 0, none⟩) := (hdep 0 _ 29 rfl rfl rfl).1
      refine ⟨fun _ => ?_, wanted_plain rfl⟩
      clear hdep hfree hj
      have c0 : u.cell? ⟨q, 0, none⟩ = some (.slice (some ⟨g, 0, none⟩) l.length c) := hS.1.2.1.cell 0
      go_simp
      exact ⟨rfl, keepS (by rfl) hS, trivial⟩
    · intro j hj ρ y u hS hc hf hg hfree hdep
      obtain rfl : j = 0 := by have := hj _ rfl; dsimp only at this; omega
      have e30 : ρ (.tmp 30) = .pointer (some ⟨q, 0, none⟩) := (hdep 1 _ 30 rfl rfl rfl).1
      refine ⟨fun _ => ?_, wanted_plain rfl⟩
      clear hdep hfree hj
      have c0 : u.cell? ⟨q, 0, none⟩ = some (.slice (some ⟨g, 0, none⟩) l.length c) := hS.1.2.1.cell 0
      go_simp
      exact ⟨rfl, keepS (by rfl) hS, trivial⟩
    · intro j hj ρ y u hS hc hf hg hfree hdep
      obtain rfl : j = 0 := by have := hj _ rfl; dsimp only at this; omega
      have e31 : ρ (.tmp 31) = .pointer (some ⟨q, 0, none⟩) := (hdep 2 _ 31 rfl rfl rfl).1
      refine ⟨fun _ => ?_, wanted_plain rfl⟩
      clear hdep hfree hj
      have c0 : u.cell? ⟨q, 0, none⟩ = some (.slice (some ⟨g, 0, none⟩) l.length c) := hS.1.2.1.cell 0
      go_simp
      exact ⟨rfl, keepS (by rfl) hS, trivial⟩
    · intro j hj ρ y u hS hc hf hg hfree hdep
      obtain rfl : j = 0 := by have := hj _ rfl; dsimp only at this; omega
      have e0 : ρ (.tmp 0) = .pointer (some ⟨q, 0, none⟩) := hfree 0 rfl
      refine ⟨fun _ => ?_, wanted_plain rfl⟩
      clear hdep hfree hj
      have c0 : u.cell? ⟨q, 0, none⟩ = some (.slice (some ⟨g, 0, none⟩) l.length c) := hS.1.2.1.cell 0
      go_simp
      exact ⟨rfl, keepS (by rfl) hS, trivial⟩
    · intro j hj ρ y u hS hc hf hg hfree hdep
      obtain rfl : j = 0 := by have := hj _ rfl; dsimp only at this; omega
      have e33 : ρ (.tmp 33) = .pointer (some ⟨q, 0, none⟩) := (hdep 4 _ 33 rfl rfl rfl).1
      refine ⟨fun _ => ?_, wanted_plain rfl⟩
      clear hdep hfree hj
      have c0 : u.cell? ⟨q, 0, none⟩ = some (.slice (some ⟨g, 0, none⟩) l.length c) := hS.1.2.1.cell 0
      go_simp
      exact ⟨rfl, keepS (by rfl) hS, trivial⟩
    · intro j hj ρ y u hS hc hf hg hfree hdep
      obtain rfl : j = 0 := by have := hj _ rfl; dsimp only at this; omega
      have e34 : ρ (.tmp 34) = .pointer (some ⟨q, 0, none⟩) := (hdep 5 _ 34 rfl rfl rfl).1
      refine ⟨fun _ => ?_, wanted_plain rfl⟩
      clear hdep hfree hj
      have c0 : u.cell? ⟨q, 0, none⟩ = some (.slice (some ⟨g, 0, none⟩) l.length c) := hS.1.2.1.cell 0
      go_simp
      exact ⟨rfl, keepS (by rfl) hS, trivial⟩
    · intro j hj ρ y u hS hc hf hg hfree hdep
      obtain rfl : j = 0 := by have := hj _ rfl; dsimp only at this; omega
      have e35 : ρ (.tmp 35) = .pointer (some ⟨q, 0, none⟩) := (hdep 6 _ 35 rfl rfl rfl).1
      refine ⟨fun _ => ?_, wanted_plain rfl⟩
      clear hdep hfree hj
      have c0 : u.cell? ⟨q, 0, none⟩ = some (.slice (some ⟨g, 0, none⟩) l.length c) := hS.1.2.1.cell 0
      go_simp
      exact ⟨rfl, keepS (by rfl) hS, trivial⟩
    · intro j hj ρ y u hS hc hf hg hfree hdep
      obtain rfl : j = 0 := by have := hj _ rfl; dsimp only at this; omega
      have e8 : ρ (.tmp 8) = .int .i64 (m : Int) := hfree 8 rfl
      refine ⟨fun _ => ?_, wanted_plain rfl⟩
      clear hdep hfree hj
      have c0 : u.cell? ⟨q, 0, none⟩ = some (.slice (some ⟨g, 0, none⟩) l.length c) := hS.1.2.1.cell 0
      go_simp
      exact ⟨rfl, keepS (by rfl) hS, trivial⟩
    · intro j hj ρ y u hS hc hf hg hfree hdep
      obtain rfl : j = 0 := by have := hj _ rfl; dsimp only at this; omega
      have e36 : ρ (.tmp 36) = .slice (some ⟨g, 0, none⟩) l.length c := (hdep 7 _ 36 rfl rfl rfl).1
      have e37 : ρ (.tmp 37) = .int .i64 (m : Int) := (hdep 8 _ 37 rfl rfl rfl).1
      refine ⟨fun _ => ?_, wanted_plain rfl⟩
      clear hdep hfree hj
      have c0 : u.cell? ⟨q, 0, none⟩ = some (.slice (some ⟨g, 0, none⟩) l.length c) := hS.1.2.1.cell 0
      go_simp
      exact ⟨rfl, keepS (by rfl) hS, trivial⟩
    · intro j hj ρ y u hS hc hf hg hfree hdep
      obtain rfl : j = 0 := by have := hj _ rfl; dsimp only at this; omega
      have e38 : ρ (.tmp 38) = .pointer (some ⟨g, m * 3, none⟩) := (hdep 9 _ 38 rfl rfl rfl).1
      refine ⟨fun _ => ?_, wanted_plain rfl⟩
      clear hdep hfree hj
      have c0 : u.cell? ⟨q, 0, none⟩ = some (.slice (some ⟨g, 0, none⟩) l.length c) := hS.1.2.1.cell 0
      obtain ⟨d0, d1, d2⟩ := hS.1.2.2.cell hml
      go_simp
      exact ⟨rfl, keepS (by rfl) hS, trivial⟩
    · intro j hj ρ y u hS hc hf hg hfree hdep
      obtain rfl : j = 0 := by have := hj _ rfl; dsimp only at this; omega
      have e32 : ρ (.tmp 32) = .slice (some ⟨g, 0, none⟩) l.length c := (hdep 3 _ 32 rfl rfl rfl).1
      refine ⟨fun _ => ?_, wanted_plain rfl⟩
      clear hdep hfree hj
      have c0 : u.cell? ⟨q, 0, none⟩ = some (.slice (some ⟨g, 0, none⟩) l.length c) := hS.1.2.1.cell 0
      go_simp
      exact ⟨rfl, keepS (by rfl) hS, trivial⟩
    · intro j hj ρ y u hS hc hf hg hfree hdep
      obtain rfl : j = 0 := by have := hj _ rfl; dsimp only at this; omega
      have e39 : ρ (.tmp 39) = .agg #[.int .i64 (at_ l m).1, .int .u64 (at_ l m).2.1, .int .i64 (at_ l m).2.2] := (hdep 10 _ 39 rfl rfl rfl).1
      have e40 : ρ (.tmp 40) = .pointer (some ⟨g, 0, none⟩) := (hdep 11 _ 40 rfl rfl rfl).1
      refine ⟨fun _ => ?_, wanted_plain rfl⟩
      clear hdep hfree hj
      have c0 : u.cell? ⟨q, 0, none⟩ = some (.slice (some ⟨g, 0, none⟩) l.length c) := hS.1.2.1.cell 0
      obtain ⟨d0, d1, d2⟩ := hS.1.2.2.cell hl0
      simp only [Nat.zero_mul, Nat.zero_add] at d0 d1 d2
      have f0 := hS.1.2.2.frozen 0
      have f1 := hS.1.2.2.frozen 1
      have f2 := hS.1.2.2.frozen 2
      go_simp
      refine ⟨trivial, ⟨?_, put3_fr hS.2 hg0 0 (at_ l m)⟩, trivial⟩
      rw [show l.length - 1 = m by have := HM.out; omega]
      exact hS.1.put hl0 (at_ l m)
  intro u1 hS
  rintro _ rfl _ rfl _ rfl _ rfl _ rfl _ rfl _ rfl _ rfl _ rfl _ rfl _ rfl _ rfl
  simp only [RegEnd, Act.put, List.setIfInBounds_toArray, List.set_cons_zero, List.set_cons_succ]
  have hS : QAt u1 base q (some ⟨g, 0, none⟩) c (l.set 0 (at_ l (l.length - 1))) cap p ∧ Fr base q g W0 u1 := hS
  rw [show l.length - 1 = m by have := HM.out; omega] at hS
  have HQ1 := Lib.hid hS.1
  have HB1 := Lib.hid (HB0.out.trans hS.2)
  have hsl : (l.set 0 (at_ l m)).length = l.length := List.length_set
  have hc0 : u1.cell? ⟨q, 0, none⟩ = some (.slice (some ⟨g, 0, none⟩) l.length c) := by have := HQ1.out.2.1.cell 0; rwa [hsl] at this
  obtain ⟨d0, d1, d2⟩ := HQ1.out.2.2.cell (show m < (l.set 0 (at_ l m)).length by rw [hsl]; exact hml)
  have f0 := HQ1.out.2.2.frozen (m * 3)
  have f1 := HQ1.out.2.2.frozen (m * 3 + 1)
  have f2 := HQ1.out.2.2.frozen (m * 3 + 2)
  clear hS hsl
  go_upto_region 7 with (fail)
  obtain ⟨W2, hW2⟩ : ∃ W, W = put3 u1 g m (0, 0, 0) := ⟨_, rfl⟩
  have HQ2 := Lib.hid (show QAt W2 base q (some ⟨g, 0, none⟩) c ((l.set 0 (at_ l m)).set m (0, 0, 0)) cap p by rw [hW2]; exact HQ1.out.put (by rw [List.length_set]; exact hml) _)
  have HB2 := Lib.hid (show Fr base q g w W2 by rw [hW2]; exact put3_fr HB1.out hg0 m _)
  have hW2' : ((u1.setCell ⟨g, m * 3, none⟩ (.int .i64 0)).setCell ⟨g, m * 3 + 1, none⟩ (.int .u64 0)).setCell ⟨g, m * 3 + 2, none⟩ (.int .i64 0) = W2 := hW2.symm
  rw [hW2']
  clear hW2 hW2' hc0 d0 d1 d2 f0 f1 f2 hS
  have hsl : ((l.set 0 (at_ l m)).set m (0, 0, 0)).length = l.length := by rw [List.length_set, List.length_set]
  have hc0 : W2.cell? ⟨q, 0, none⟩ = some (.slice (some ⟨g, 0, none⟩) l.length c) := by have := HQ2.out.2.1.cell 0; rwa [hsl] at this
  have f0 : W2.frozen? ⟨q, 0, none⟩ = false := HQ2.out.2.1.frozen 0
  have hmc : (m : Int) ≤ c := by have := HQ2.out.2.2.len_cap; rw [hsl] at this; omega
  obtain ⟨P, hP⟩ : ∃ P, P = popped l := ⟨_, rfl⟩
  have hPe : ((l.set 0 (at_ l m)).set m (0, 0, 0)).take m = P := by
    rw [List.take_set_of_le (Nat.le_refl _), hP]; unfold popped; rw [show l.length - 1 = m by have := HM.out; omega]
  have HPl := Lib.hid (show P.length = m by rw [hP, popped_len]; have := HM.out; omega)
  have HDn := Lib.hid (show HeapDown P 0 by rw [hP]; exact down_start hh)
  have HP := Lib.hid hP
  have HQ3 := Lib.hid (HQ2.out.cut (show m ≤ ((l.set 0 (at_ l m)).set m (0, 0, 0)).length by rw [hsl]; omega))
  rw [hPe] at HQ3
  have HB3 := Lib.hid (HB2.out.setq HQ2.out.1 0 (.slice (some ⟨g, 0, none⟩) m c))
  clear hsl hP hPe
  go_upto_region 8 with (fail)
  obtain ⟨W3, hW3⟩ : ∃ W, W = W2.setCell ⟨q, 0, none⟩ (.slice (some ⟨g, 0, none⟩) m c) := ⟨_, rfl⟩
  rw [← hW3] at HQ3 HB3 ⊢
  clear hW3 hc0 f0 hmc HQ2 HB2 HQ1 HB1 HQ0 HB0
  go_wp2_with fail
  go_loopw [9, 10] (fun v _ wr => ∃ (l' : List PI) (i : Nat), v = .int .i64 i ∧ QAt wr base q (some ⟨g, 0, none⟩) c l' cap p ∧ l'.Perm P ∧ l'.length = m ∧ HeapDown l' i ∧ (i < m ∨ i = 0) ∧ Fr base q g W3 wr) (fun v _ _ => m - (intOf v).toNat)
  case atStart => exact ⟨P, 0, rfl, HQ3.out, List.Perm.refl _, HPl.out, HDn.out, .inr rfl, Fr.refl _ _ _ _⟩
  case round =>
    obtain ⟨l', i, rfl, hQ4, hperm, hlen4, hdn, him, hB4⟩ := hrel
    have HB4 := Lib.hid hB4
    have HLen := Lib.hid hlen4
    have HPm := Lib.hid hperm
    have HD := Lib.hid hdn
    have HI := Lib.hid him
    have HQ4 := Lib.hid hQ4
    have hi4 : i ≤ 4096 := by omega
    clear hB4 hlen4 hperm hdn him hQ4
    obtain ⟨ch1, hch1⟩ : ∃ ch : Nat, ch = 2 * i + 1 := ⟨_, rfl⟩
    obtain ⟨ch2, hch2⟩ : ∃ ch : Nat, ch = 2 * i + 2 := ⟨_, rfl⟩
    have e1 : 2 * (i : Int) + 1 = (ch1 : Int) := by omega
    have e2 : 2 * (i : Int) + 2 = (ch2 : Int) := by omega
    have HC1 := Lib.hid hch1
    have HC2 := Lib.hid hch2
    clear hch1 hch2
    have i0 : ∀ w, (Instr.index 63 (.agg #[.int .i64 ch1, .int .i64 ch2]) (.int .i64 0)).run Try.prog w = .ok (.int .i64 ch1) w := fun _ => by kernel_rfl
    have i1 : ∀ w, (Instr.index 63 (.agg #[.int .i64 ch1, .int .i64 ch2]) (.int .i64 1)).run Try.prog w = .ok (.int .i64 ch2) w := fun _ => by kernel_rfl
    obtain ⟨wo, hwo⟩ : ∃ wo : World, wo = wr := ⟨_, rfl⟩
    subst hwo
    go_wp2_with fail
    go_loopw [10, 65] (fun f k wi => ∃ fi : Nat, fi ≤ 10000 ∧ (i < m → fi < m) ∧ Below wo.heap.size wo wi ∧ ((k = .int .i64 0 ∧ f = .int .i64 fi ∧ fi = i) ∨ (k = .int .i64 1 ∧ f = .int .i64 fi ∧ fi = pick l' i ch1) ∨ (k = .int .i64 2 ∧ f = .int .i64 fi ∧ fi = pick l' (pick l' i ch1) ch2))) (fun _ k _ => 2 - (intOf k).toNat)
    case atStart => exact ⟨i, by omega, fun h => h, Below.refl _ _, .inl ⟨rfl, rfl, rfl⟩⟩
    case round =>
    obtain ⟨fi, hfb, him2, hBi, hk⟩ := hrel
    have HIM := Lib.hid him2
    clear him2
    obtain ⟨wi, hwi⟩ : ∃ wi : World, wi = wr := ⟨_, rfl⟩
    subst hwi
    have HBi := Lib.hid hBi
    have HQi := Lib.hid (HQ4.out.below hBi)
    clear hBi
    rcases hk with ⟨rfl, rfl, hfi0⟩ | ⟨rfl, rfl, hfi0⟩ | ⟨rfl, rfl, hfi0⟩
    all_goals have HF0 := Lib.hid hfi0; clear hfi0
    · -- child ch1
      by_cases hcl : ch1 < m
      · have hfil : fi < l'.length := by have := HLen.out; have := HIM.out (by have := HC1.out; omega); omega
        have hchl : ch1 < l'.length := by have := HLen.out; omega
        have hfi : (fi : Int) < l'.length := by omega
        have hch : (ch1 : Int) < l'.length := by omega
        have hd : decide (ch1 < m) = true := by simpa using hcl
        have hd2 : decide ((ch1 : Int) < m) = true := by simpa using hcl
        obtain ⟨b, hb⟩ : ∃ b, ltB (at_ l' ch1) (at_ l' fi) = b := ⟨_, rfl⟩
        have HBb := Lib.hid hb
        have HPk := Lib.hid (pick_of hchl hb)
        clear hb
        go_upto_region 13 with (fail)
        refine wp_region_rel ⟨[], [(0, 0), (0, 0), (0, 0), (0, 0), (0, 0), (0, 0), (0, 0), (0, 0), (0, 0), (0, 0), (0, 0), (0, 0), (0, 0), (0, 0), (0, 0), (0, 0), (0, 0), (0, 0), (0, 0), (0, 0)]⟩ (fromAt (S := fun _ u => Below wi.heap.size wi u) (St := fun _ => Gone) [eqv (.int .i64 (ch1 : Int)), eqv (.int .i64 (m : Int)), eqv (.bool true), eqv (.bool true), eqv (.pointer (some ⟨q, 0, none⟩)), eqv (.pointer (some ⟨q, 0, none⟩)), eqv (.pointer (some ⟨q, 0, none⟩)), eqv (.slice (some ⟨g, 0, none⟩) l'.length c), eqv (.int .i64 (ch1 : Int)), eqv (.pointer (some ⟨g, ch1 * 3, none⟩)), eqv (.agg #[.int .i64 (at_ l' ch1).1, .int .u64 (at_ l' ch1).2.1, .int .i64 (at_ l' ch1).2.2]), eqv (.pointer (some ⟨q, 0, none⟩)), eqv (.pointer (some ⟨q, 0, none⟩)), eqv (.pointer (some ⟨q, 0, none⟩)), eqv (.slice (some ⟨g, 0, none⟩) l'.length c), eqv (.int .i64 (fi : Int)), eqv (.pointer (some ⟨g, fi * 3, none⟩)), eqv (.agg #[.int .i64 (at_ l' fi).1, .int .u64 (at_ l' fi).2.1, .int .i64 (at_ l' fi).2.2]), eqv (.bool b), eqv (.bool b)]) (fun _ u => Below wi.heap.size wi u) (fun _ => Gone) (factAt (S := fun _ u => Below wi.heap.size wi u) (St := fun _ => Gone) [eqv (.int .i64 (ch1 : Int)), eqv (.int .i64 (m : Int)), eqv (.bool true), eqv (.bool true), eqv (.pointer (some ⟨q, 0, none⟩)), eqv (.pointer (some ⟨q, 0, none⟩)), eqv (.pointer (some ⟨q, 0, none⟩)), eqv (.slice (some ⟨g, 0, none⟩) l'.length c), eqv (.int .i64 (ch1 : Int)), eqv (.pointer (some ⟨g, ch1 * 3, none⟩)), eqv (.agg #[.int .i64 (at_ l' ch1).1, .int .u64 (at_ l' ch1).2.1, .int .i64 (at_ l' ch1).2.2]), eqv (.pointer (some ⟨q, 0, none⟩)), eqv (.pointer (some ⟨q, 0, none⟩)), eqv (.pointer (some ⟨q, 0, none⟩)), eqv (.slice (some ⟨g, 0, none⟩) l'.length c), eqv (.int .i64 (fi : Int)), eqv (.pointer (some ⟨g, fi * 3, none⟩)), eqv (.agg #[.int .i64 (at_ l' fi).1, .int .u64 (at_ l' fi).2.1, .int .i64 (at_ l' fi).2.2]), eqv (.bool b), eqv (.bool b)]) (by kernel_rfl) (by kernel_rfl) (by kernel_rfl) (by kernel_rfl) ?_ (fun i v j u u' => factAt_st _ i v j u u') ?_ ?_
        · exact (Below.refl _ _).drew
        · show Looks _ _ _ _ _ _ _ 0 _
          refine ⟨?_, ?_, ?_, ?_, ?_, ?_, ?_, ?_, ?_, ?_, ?_, ?_, ?_, ?_, ?_, ?_, ?_, ?_, ?_, ?_, trivial⟩
          · intro j hj ρ y u hS hc hf hg hfree hdep
            have e12 : ρ (.tmp 12) = .int .i64 (ch1 : Int) := hfree 12 rfl
            refine ⟨fun _ => ?_, wanted_plain rfl⟩
            clear hdep hfree hj
            go_simp
            exact ⟨rfl, hS, Below.refl _ _⟩
          · intro j hj ρ y u hS hc hf hg hfree hdep
            have e8 : ρ (.tmp 8) = .int .i64 (m : Int) := hfree 8 rfl
            refine ⟨fun _ => ?_, wanted_plain rfl⟩
            clear hdep hfree hj
            go_simp
            exact ⟨rfl, hS, Below.refl _ _⟩
          · intro j hj ρ y u hS hc hf hg hfree hdep
            have e68 : ρ (.tmp 68) = .int .i64 (ch1 : Int) := (hdep 0 _ 68 rfl rfl rfl).1
            have e69 : ρ (.tmp 69) = .int .i64 (m : Int) := (hdep 1 _ 69 rfl rfl rfl).1
            refine ⟨fun _ => ?_, wanted_plain rfl⟩
            clear hdep hfree hj
            go_simp
            exact ⟨rfl, hS, Below.refl _ _⟩
          · intro j hj ρ y u hS hc hf hg hfree hdep
            have e70 : ρ (.tmp 70) = .bool true := (hdep 2 _ 70 rfl rfl rfl).1
            refine ⟨fun _ => ?_, wanted_plain rfl⟩
            clear hdep hfree hj
            go_simp
            exact ⟨rfl, hS, Below.refl _ _⟩
          · intro j hj ρ y u hS hc hf hg hfree hdep
            have e0 : ρ (.tmp 0) = .pointer (some ⟨q, 0, none⟩) := hfree 0 rfl
            have hy := (hdep 3 _ 71 rfl rfl rfl).2
            rw [show ρ (.tmp 71) = .bool true from (hdep 3 _ 71 rfl rfl rfl).1] at hy
            refine ⟨fun _ => ?_, not_wanted rfl hy⟩
            clear hy hdep hfree hj
            go_simp
            exact ⟨rfl, hS, Below.refl _ _⟩
          · intro j hj ρ y u hS hc hf hg hfree hdep
            have e72 : ρ (.tmp 72) = .pointer (some ⟨q, 0, none⟩) := (hdep 4 _ 72 rfl rfl rfl).1
            have hy := (hdep 3 _ 71 rfl rfl rfl).2
            rw [show ρ (.tmp 71) = .bool true from (hdep 3 _ 71 rfl rfl rfl).1] at hy
            refine ⟨fun _ => ?_, not_wanted rfl hy⟩
            clear hy hdep hfree hj
            go_simp
            exact ⟨rfl, hS, Below.refl _ _⟩
          · intro j hj ρ y u hS hc hf hg hfree hdep
            have e73 : ρ (.tmp 73) = .pointer (some ⟨q, 0, none⟩) := (hdep 5 _ 73 rfl rfl rfl).1
            have hy := (hdep 3 _ 71 rfl rfl rfl).2
            rw [show ρ (.tmp 71) = .bool true from (hdep 3 _ 71 rfl rfl rfl).1] at hy
            refine ⟨fun _ => ?_, not_wanted rfl hy⟩
            clear hy hdep hfree hj
            go_simp
            exact ⟨rfl, hS, Below.refl _ _⟩
          · intro j hj ρ y u hS hc hf hg hfree hdep
            have e74 : ρ (.tmp 74) = .pointer (some ⟨q, 0, none⟩) := (hdep 6 _ 74 rfl rfl rfl).1
            have hy := (hdep 3 _ 71 rfl rfl rfl).2
            rw [show ρ (.tmp 71) = .bool true from (hdep 3 _ 71 rfl rfl rfl).1] at hy
            refine ⟨fun _ => ?_, not_wanted rfl hy⟩
            clear hy hdep hfree hj
            have c0 : u.cell? ⟨q, 0, none⟩ = some (.slice (some ⟨g, 0, none⟩) l'.length c) := (HQi.out.below hS).2.1.cell 0
            go_simp
            exact ⟨rfl, hS, Below.refl _ _⟩
          · intro j hj ρ y u hS hc hf hg hfree hdep
            have e12 : ρ (.tmp 12) = .int .i64 (ch1 : Int) := hfree 12 rfl
            have hy := (hdep 3 _ 71 rfl rfl rfl).2
            rw [show ρ (.tmp 71) = .bool true from (hdep 3 _ 71 rfl rfl rfl).1] at hy
            refine ⟨fun _ => ?_, not_wanted rfl hy⟩
            clear hy hdep hfree hj
            go_simp
            exact ⟨rfl, hS, Below.refl _ _⟩
          · intro j hj ρ y u hS hc hf hg hfree hdep
            have e75 : ρ (.tmp 75) = .slice (some ⟨g, 0, none⟩) l'.length c := (hdep 7 _ 75 rfl rfl rfl).1
            have e76 : ρ (.tmp 76) = .int .i64 (ch1 : Int) := (hdep 8 _ 76 rfl rfl rfl).1
            have hy := (hdep 3 _ 71 rfl rfl rfl).2
            rw [show ρ (.tmp 71) = .bool true from (hdep 3 _ 71 rfl rfl rfl).1] at hy
            refine ⟨fun _ => ?_, not_wanted rfl hy⟩
            clear hy hdep hfree hj
            go_simp
            exact ⟨rfl, hS, Below.refl _ _⟩
          · intro j hj ρ y u hS hc hf hg hfree hdep
            have e77 : ρ (.tmp 77) = .pointer (some ⟨g, ch1 * 3, none⟩) := (hdep 9 _ 77 rfl rfl rfl).1
            have hy := (hdep 3 _ 71 rfl rfl rfl).2
            rw [show ρ (.tmp 71) = .bool true from (hdep 3 _ 71 rfl rfl rfl).1] at hy
            refine ⟨fun _ => ?_, not_wanted rfl hy⟩
            clear hy hdep hfree hj
            obtain ⟨d0, d1, d2⟩ := (HQi.out.below hS).2.2.cell hchl
            go_simp
            exact ⟨rfl, hS, Below.refl _ _⟩
          · intro j hj ρ y u hS hc hf hg hfree hdep
            have e0 : ρ (.tmp 0) = .pointer (some ⟨q, 0, none⟩) := hfree 0 rfl
            have hy := (hdep 3 _ 71 rfl rfl rfl).2
            rw [show ρ (.tmp 71) = .bool true from (hdep 3 _ 71 rfl rfl rfl).1] at hy
            refine ⟨fun _ => ?_, not_wanted rfl hy⟩
            clear hy hdep hfree hj
            go_simp
            exact ⟨rfl, hS, Below.refl _ _⟩
          · intro j hj ρ y u hS hc hf hg hfree hdep
            have e79 : ρ (.tmp 79) = .pointer (some ⟨q, 0, none⟩) := (hdep 11 _ 79 rfl rfl rfl).1
            have hy := (hdep 3 _ 71 rfl rfl rfl).2
            rw [show ρ (.tmp 71) = .bool true from (hdep 3 _ 71 rfl rfl rfl).1] at hy
            refine ⟨fun _ => ?_, not_wanted rfl hy⟩
            clear hy hdep hfree hj
            go_simp
            exact ⟨rfl, hS, Below.refl _ _⟩
          · intro j hj ρ y u hS hc hf hg hfree hdep
            have e80 : ρ (.tmp 80) = .pointer (some ⟨q, 0, none⟩) := (hdep 12 _ 80 rfl rfl rfl).1
            have hy := (hdep 3 _ 71 rfl rfl rfl).2
            rw [show ρ (.tmp 71) = .bool true from (hdep 3 _ 71 rfl rfl rfl).1] at hy
            refine ⟨fun _ => ?_, not_wanted rfl hy⟩
            clear hy hdep hfree hj
            go_simp
            exact ⟨rfl, hS, Below.refl _ _⟩
          · intro j hj ρ y u hS hc hf hg hfree hdep
            have e81 : ρ (.tmp 81) = .pointer (some ⟨q, 0, none⟩) := (hdep 13 _ 81 rfl rfl rfl).1
            have hy := (hdep 3 _ 71 rfl rfl rfl).2
            rw [show ρ (.tmp 71) = .bool true from (hdep 3 _ 71 rfl rfl rfl).1] at hy
            refine ⟨fun _ => ?_, not_wanted rfl hy⟩
            clear hy hdep hfree hj
            have c0 : u.cell? ⟨q, 0, none⟩ = some (.slice (some ⟨g, 0, none⟩) l'.length c) := (HQi.out.below hS).2.1.cell 0
            go_simp
            exact ⟨rfl, hS, Below.refl _ _⟩
          · intro j hj ρ y u hS hc hf hg hfree hdep
            have e10 : ρ (.tmp 10) = .int .i64 (fi : Int) := hfree 10 rfl
            have hy := (hdep 3 _ 71 rfl rfl rfl).2
            rw [show ρ (.tmp 71) = .bool true from (hdep 3 _ 71 rfl rfl rfl).1] at hy
            refine ⟨fun _ => ?_, not_wanted rfl hy⟩
            clear hy hdep hfree hj
            go_simp
            exact ⟨rfl, hS, Below.refl _ _⟩
          · intro j hj ρ y u hS hc hf hg hfree hdep
            have e82 : ρ (.tmp 82) = .slice (some ⟨g, 0, none⟩) l'.length c := (hdep 14 _ 82 rfl rfl rfl).1
            have e83 : ρ (.tmp 83) = .int .i64 (fi : Int) := (hdep 15 _ 83 rfl rfl rfl).1
            have hy := (hdep 3 _ 71 rfl rfl rfl).2
            rw [show ρ (.tmp 71) = .bool true from (hdep 3 _ 71 rfl rfl rfl).1] at hy
            refine ⟨fun _ => ?_, not_wanted rfl hy⟩
            clear hy hdep hfree hj
            go_simp
            exact ⟨rfl, hS, Below.refl _ _⟩
          · intro j hj ρ y u hS hc hf hg hfree hdep
            have e84 : ρ (.tmp 84) = .pointer (some ⟨g, fi * 3, none⟩) := (hdep 16 _ 84 rfl rfl rfl).1
            have hy := (hdep 3 _ 71 rfl rfl rfl).2
            rw [show ρ (.tmp 71) = .bool true from (hdep 3 _ 71 rfl rfl rfl).1] at hy
            refine ⟨fun _ => ?_, not_wanted rfl hy⟩
            clear hy hdep hfree hj
            obtain ⟨d0, d1, d2⟩ := (HQi.out.below hS).2.2.cell hfil
            go_simp
            exact ⟨rfl, hS, Below.refl _ _⟩
          · intro j hj ρ y u hS hc hf hg hfree hdep
            have e78 : ρ (.tmp 78) = .agg #[.int .i64 (at_ l' ch1).1, .int .u64 (at_ l' ch1).2.1, .int .i64 (at_ l' ch1).2.2] := (hdep 10 _ 78 rfl rfl rfl).1
            have e85 : ρ (.tmp 85) = .agg #[.int .i64 (at_ l' fi).1, .int .u64 (at_ l' fi).2.1, .int .i64 (at_ l' fi).2.2] := (hdep 17 _ 85 rfl rfl rfl).1
            have hy := (hdep 3 _ 71 rfl rfl rfl).2
            rw [show ρ (.tmp 71) = .bool true from (hdep 3 _ 71 rfl rfl rfl).1] at hy
            refine ⟨fun _ => ?_, not_wanted rfl hy⟩
            clear hy hdep hfree hj
            go_simp
            refine (before_any (at_ l' ch1) (at_ l' fi) u).mono ?_
            rintro e u' ⟨rfl, hb⟩
            exact ⟨_, rfl, by rw [HBb.out]; rfl, hS.trans (hb.mono hS.size), hb⟩
          · intro j hj ρ y u hS hc hf hg hfree hdep
            have e71 : ρ (.tmp 71) = .bool true := (hdep 3 _ 71 rfl rfl rfl).1
            have e86 : ρ (.tmp 86) = .bool b := (hdep 18 _ 86 rfl rfl rfl).1
            refine ⟨fun _ => ?_, wanted_plain rfl⟩
            clear hdep hfree hj
            go_simp
            exact ⟨by first | rfl | (cases b <;> rfl), hS, Below.refl _ _⟩
        intro u5 hS
        rintro _ rfl _ rfl _ rfl _ rfl _ rfl _ rfl _ rfl _ rfl _ rfl _ rfl _ rfl _ rfl _ rfl _ rfl _ rfl _ rfl _ rfl _ rfl _ rfl _ rfl
        simp only [RegEnd, Act.put, List.setIfInBounds_toArray, List.set_cons_zero, List.set_cons_succ]
        have HS5 := Lib.hid hS
        clear hS
        cases b
        all_goals
          go_wp2_with fail
          go_roundw
          case rel => exact ⟨_, by first | exact hfb | (have := HC1.out; omega), (fun h => by first | exact hcl | exact HIM.out h), HBi.out.trans (HS5.out.mono HBi.out.size), .inr (.inl ⟨rfl, rfl, by have h1 := HPk.out; have h2 := HF0.out; subst h2; rw [h1]; rfl⟩)⟩
          case measure => simp [intOf]
      · have hd : decide (ch1 < m) = false := by simpa using hcl
        have hd2 : decide ((ch1 : Int) < m) = false := by simp; omega
        have HPk := Lib.hid (pick_no (l := l') (f := fi) (show ¬ ch1 < l'.length by have := HLen.out; omega))
        clear hcl
        go_upto_region 13 with (fail)
        go_quiet (fail)
        go_wp2_with fail
        go_roundw
        case rel => exact ⟨fi, hfb, HIM.out, drew_below HBi.out _, .inr (.inl ⟨rfl, rfl, by have h1 := HPk.out; have h2 := HF0.out; subst h2; rw [h1]⟩)⟩
        case measure => simp [intOf]
    · -- child ch2
      by_cases hcl : ch2 < m
      · have hfil : fi < l'.length := by have := HLen.out; have := HIM.out (by have := HC2.out; omega); omega
        have hchl : ch2 < l'.length := by have := HLen.out; omega
        have hfi : (fi : Int) < l'.length := by omega
        have hch : (ch2 : Int) < l'.length := by omega
        have hd : decide (ch2 < m) = true := by simpa using hcl
        have hd2 : decide ((ch2 : Int) < m) = true := by simpa using hcl
        obtain ⟨b, hb⟩ : ∃ b, ltB (at_ l' ch2) (at_ l' fi) = b := ⟨_, rfl⟩
        have HBb := Lib.hid hb
        have HPk := Lib.hid (pick_of hchl hb)
        clear hb
        go_upto_region 13 with (fail)
        refine wp_region_rel ⟨[], [(0, 0), (0, 0), (0, 0), (0, 0), (0, 0), (0, 0), (0, 0), (0, 0), (0, 0), (0, 0), (0, 0), (0, 0), (0, 0), (0, 0), (0, 0), (0, 0), (0, 0), (0, 0), (0, 0), (0, 0)]⟩ (fromAt (S := fun _ u => Below wi.heap.size wi u) (St := fun _ => Gone) [eqv (.int .i64 (ch2 : Int)), eqv (.int .i64 (m : Int)), eqv (.bool true), eqv (.bool true), eqv (.pointer (some ⟨q, 0, none⟩)), eqv (.pointer (some ⟨q, 0, none⟩)), eqv (.pointer (some ⟨q, 0, none⟩)), eqv (.slice (some ⟨g, 0, none⟩) l'.length c), eqv (.int .i64 (ch2 : Int)), eqv (.pointer (some ⟨g, ch2 * 3, none⟩)), eqv (.agg #[.int .i64 (at_ l' ch2).1, .int .u64 (at_ l' ch2).2.1, .int .i64 (at_ l' ch2).2.2]), eqv (.pointer (some ⟨q, 0, none⟩)), eqv (.pointer (some ⟨q, 0, none⟩)), eqv (.pointer (some ⟨q, 0, none⟩)), eqv (.slice (some ⟨g, 0, none⟩) l'.length c), eqv (.int .i64 (fi : Int)), eqv (.pointer (some ⟨g, fi * 3, none⟩)), eqv (.agg #[.int .i64 (at_ l' fi).1, .int .u64 (at_ l' fi).2.1, .int .i64 (at_ l' fi).2.2]), eqv (.bool b), eqv (.bool b)]) (fun _ u => Below wi.heap.size wi u) (fun _ => Gone) (factAt (S := fun _ u => Below wi.heap.size wi u) (St := fun _ => Gone) [eqv (.int .i64 (ch2 : Int)), eqv (.int .i64 (m : Int)), eqv (.bool true), eqv (.bool true), eqv (.pointer (some ⟨q, 0, none⟩)), eqv (.pointer (some ⟨q, 0, none⟩)), eqv (.pointer (some ⟨q, 0, none⟩)), eqv (.slice (some ⟨g, 0, none⟩) l'.length c), eqv (.int .i64 (ch2 : Int)), eqv (.pointer (some ⟨g, ch2 * 3, none⟩)), eqv (.agg #[.int .i64 (at_ l' ch2).1, .int .u64 (at_ l' ch2).2.1, .int .i64 (at_ l' ch2).2.2]), eqv (.pointer (some ⟨q, 0, none⟩)), eqv (.pointer (some ⟨q, 0, none⟩)), eqv (.pointer (some ⟨q, 0, none⟩)), eqv (.slice (some ⟨g, 0, none⟩) l'.length c), eqv (.int .i64 (fi : Int)), eqv (.pointer (some ⟨g, fi * 3, none⟩)), eqv (.agg #[.int .i64 (at_ l' fi).1, .int .u64 (at_ l' fi).2.1, .int .i64 (at_ l' fi).2.2]), eqv (.bool b), eqv (.bool b)]) (by kernel_rfl) (by kernel_rfl) (by kernel_rfl) (by kernel_rfl) ?_ (fun i v j u u' => factAt_st _ i v j u u') ?_ ?_
        · exact (Below.refl _ _).drew
        · show Looks _ _ _ _ _ _ _ 0 _
          refine ⟨?_, ?_, ?_, ?_, ?_, ?_, ?_, ?_, ?_, ?_, ?_, ?_, ?_, ?_, ?_, ?_, ?_, ?_, ?_, ?_, trivial⟩
          · intro j hj ρ y u hS hc hf hg hfree hdep
            have e12 : ρ (.tmp 12) = .int .i64 (ch2 : Int) := hfree 12 rfl
            refine ⟨fun _ => ?_, wanted_plain rfl⟩
            clear hdep hfree hj
            go_simp
            exact ⟨rfl, hS, Below.refl _ _⟩
          · intro j hj ρ y u hS hc hf hg hfree hdep
            have e8 : ρ (.tmp 8) = .int .i64 (m : Int) := hfree 8 rfl
            refine ⟨fun _ => ?_, wanted_plain rfl⟩
            clear hdep hfree hj
            go_simp
            exact ⟨rfl, hS, Below.refl _ _⟩
          · intro j hj ρ y u hS hc hf hg hfree hdep
            have e68 : ρ (.tmp 68) = .int .i64 (ch2 : Int) := (hdep 0 _ 68 rfl rfl rfl).1
            have e69 : ρ (.tmp 69) = .int .i64 (m : Int) := (hdep 1 _ 69 rfl rfl rfl).1
            refine ⟨fun _ => ?_, wanted_plain rfl⟩
            clear hdep hfree hj
            go_simp
            exact ⟨rfl, hS, Below.refl _ _⟩
          · intro j hj ρ y u hS hc hf hg hfree hdep
            have e70 : ρ (.tmp 70) = .bool true := (hdep 2 _ 70 rfl rfl rfl).1
            refine ⟨fun _ => ?_, wanted_plain rfl⟩
            clear hdep hfree hj
            go_simp
            exact ⟨rfl, hS, Below.refl _ _⟩
          · intro j hj ρ y u hS hc hf hg hfree hdep
            have e0 : ρ (.tmp 0) = .pointer (some ⟨q, 0, none⟩) := hfree 0 rfl
            have hy := (hdep 3 _ 71 rfl rfl rfl).2
            rw [show ρ (.tmp 71) = .bool true from (hdep 3 _ 71 rfl rfl rfl).1] at hy
            refine ⟨fun _ => ?_, not_wanted rfl hy⟩
            clear hy hdep hfree hj
            go_simp
            exact ⟨rfl, hS, Below.refl _ _⟩
          · intro j hj ρ y u hS hc hf hg hfree hdep
            have e72 : ρ (.tmp 72) = .pointer (some ⟨q, 0, none⟩) := (hdep 4 _ 72 rfl rfl rfl).1
            have hy := (hdep 3 _ 71 rfl rfl rfl).2
            rw [show ρ (.tmp 71) = .bool true from (hdep 3 _ 71 rfl rfl rfl).1] at hy
            refine ⟨fun _ => ?_, not_wanted rfl hy⟩
            clear hy hdep hfree hj
            go_simp
            exact ⟨rfl, hS, Below.refl _ _⟩
          · intro j hj ρ y u hS hc hf hg hfree hdep
            have e73 : ρ (.tmp 73) = .pointer (some ⟨q, 0, none⟩) := (hdep 5 _ 73 rfl rfl rfl).1
            have hy := (hdep 3 _ 71 rfl rfl rfl).2
            rw [show ρ (.tmp 71) = .bool true from (hdep 3 _ 71 rfl rfl rfl).1] at hy
            refine ⟨fun _ => ?_, not_wanted rfl hy⟩
            clear hy hdep hfree hj
            go_simp
            exact ⟨rfl, hS, Below.refl _ _⟩
          · intro j hj ρ y u hS hc hf hg hfree hdep
            have e74 : ρ (.tmp 74) = .pointer (some ⟨q, 0, none⟩) := (hdep 6 _ 74 rfl rfl rfl).1
            have hy := (hdep 3 _ 71 rfl rfl rfl).2
            rw [show ρ (.tmp 71) = .bool true from (hdep 3 _ 71 rfl rfl rfl).1] at hy
            refine ⟨fun _ => ?_, not_wanted rfl hy⟩
            clear hy hdep hfree hj
            have c0 : u.cell? ⟨q, 0, none⟩ = some (.slice (some ⟨g, 0, none⟩) l'.length c) := (HQi.out.below hS).2.1.cell 0
            go_simp
            exact ⟨rfl, hS, Below.refl _ _⟩
          · intro j hj ρ y u hS hc hf hg hfree hdep
            have e12 : ρ (.tmp 12) = .int .i64 (ch2 : Int) := hfree 12 rfl
            have hy := (hdep 3 _ 71 rfl rfl rfl).2
            rw [show ρ (.tmp 71) = .bool true from (hdep 3 _ 71 rfl rfl rfl).1] at hy
            refine ⟨fun _ => ?_, not_wanted rfl hy⟩
            clear hy hdep hfree hj
            go_simp
            exact ⟨rfl, hS, Below.refl _ _⟩
          · intro j hj ρ y u hS hc hf hg hfree hdep
            have e75 : ρ (.tmp 75) = .slice (some ⟨g, 0, none⟩) l'.length c := (hdep 7 _ 75 rfl rfl rfl).1
            have e76 : ρ (.tmp 76) = .int .i64 (ch2 : Int) := (hdep 8 _ 76 rfl rfl rfl).1
            have hy := (hdep 3 _ 71 rfl rfl rfl).2
            rw [show ρ (.tmp 71) = .bool true from (hdep 3 _ 71 rfl rfl rfl).1] at hy
            refine ⟨fun _ => ?_, not_wanted rfl hy⟩
            clear hy hdep hfree hj
            go_simp
            exact ⟨rfl, hS, Below.refl _ _⟩
          · intro j hj ρ y u hS hc hf hg hfree hdep
            have e77 : ρ (.tmp 77) = .pointer (some ⟨g, ch2 * 3, none⟩) := (hdep 9 _ 77 rfl rfl rfl).1
            have hy := (hdep 3 _ 71 rfl rfl rfl).2
            rw [show ρ (.tmp 71) = .bool true from (hdep 3 _ 71 rfl rfl rfl).1] at hy
            refine ⟨fun _ => ?_, not_wanted rfl hy⟩
            clear hy hdep hfree hj
            obtain ⟨d0, d1, d2⟩ := (HQi.out.below hS).2.2.cell hchl
            go_simp
            exact ⟨rfl, hS, Below.refl _ _⟩
          · intro j hj ρ y u hS hc hf hg hfree hdep
            have e0 : ρ (.tmp 0) = .pointer (some ⟨q, 0, none⟩) := hfree 0 rfl
            have hy := (hdep 3 _ 71 rfl rfl rfl).2
            rw [show ρ (.tmp 71) = .bool true from (hdep 3 _ 71 rfl rfl rfl).1] at hy
            refine ⟨fun _ => ?_, not_wanted rfl hy⟩
            clear hy hdep hfree hj
            go_simp
            exact ⟨rfl, hS, Below.refl _ _⟩
          · intro j hj ρ y u hS hc hf hg hfree hdep
            have e79 : ρ (.tmp 79) = .pointer (some ⟨q, 0, none⟩) := (hdep 11 _ 79 rfl rfl rfl).1
            have hy := (hdep 3 _ 71 rfl rfl rfl).2
            rw [show ρ (.tmp 71) = .bool true from (hdep 3 _ 71 rfl rfl rfl).1] at hy
            refine ⟨fun _ => ?_, not_wanted rfl hy⟩
            clear hy hdep hfree hj
            go_simp
            exact ⟨rfl, hS, Below.refl _ _⟩
          · intro j hj ρ y u hS hc hf hg hfree hdep
            have e80 : ρ (.tmp 80) = .pointer (some ⟨q, 0, none⟩) := (hdep 12 _ 80 rfl rfl rfl).1
            have hy := (hdep 3 _ 71 rfl rfl rfl).2
            rw [show ρ (.tmp 71) = .bool true from (hdep 3 _ 71 rfl rfl rfl).1] at hy
            refine ⟨fun _ => ?_, not_wanted rfl hy⟩
            clear hy hdep hfree hj
            go_simp
            exact ⟨rfl, hS, Below.refl _ _⟩
          · intro j hj ρ y u hS hc hf hg hfree hdep
            have e81 : ρ (.tmp 81) = .pointer (some ⟨q, 0, none⟩) := (hdep 13 _ 81 rfl rfl rfl).1
            have hy := (hdep 3 _ 71 rfl rfl rfl).2
            rw [show ρ (.tmp 71) = .bool true from (hdep 3 _ 71 rfl rfl rfl).1] at hy
            refine ⟨fun _ => ?_, not_wanted rfl hy⟩
            clear hy hdep hfree hj
            have c0 : u.cell? ⟨q, 0, none⟩ = some (.slice (some ⟨g, 0, none⟩) l'.length c) := (HQi.out.below hS).2.1.cell 0
            go_simp
            exact ⟨rfl, hS, Below.refl _ _⟩
          · intro j hj ρ y u hS hc hf hg hfree hdep
            have e10 : ρ (.tmp 10) = .int .i64 (fi : Int) := hfree 10 rfl
            have hy := (hdep 3 _ 71 rfl rfl rfl).2
            rw [show ρ (.tmp 71) = .bool true from (hdep 3 _ 71 rfl rfl rfl).1] at hy
            refine ⟨fun _ => ?_, not_wanted rfl hy⟩
            clear hy hdep hfree hj
            go_simp
            exact ⟨rfl, hS, Below.refl _ _⟩
          · intro j hj ρ y u hS hc hf hg hfree hdep
            have e82 : ρ (.tmp 82) = .slice (some ⟨g, 0, none⟩) l'.length c := (hdep 14 _ 82 rfl rfl rfl).1
            have e83 : ρ (.tmp 83) = .int .i64 (fi : Int) := (hdep 15 _ 83 rfl rfl rfl).1
            have hy := (hdep 3 _ 71 rfl rfl rfl).2
            rw [show ρ (.tmp 71) = .bool true from (hdep 3 _ 71 rfl rfl rfl).1] at hy
            refine ⟨fun _ => ?_, not_wanted rfl hy⟩
            clear hy hdep hfree hj
            go_simp
            exact ⟨rfl, hS, Below.refl _ _⟩
          · intro j hj ρ y u hS hc hf hg hfree hdep
            have e84 : ρ (.tmp 84) = .pointer (some ⟨g, fi * 3, none⟩) := (hdep 16 _ 84 rfl rfl rfl).1
            have hy := (hdep 3 _ 71 rfl rfl rfl).2
            rw [show ρ (.tmp 71) = .bool true from (hdep 3 _ 71 rfl rfl rfl).1] at hy
            refine ⟨fun _ => ?_, not_wanted rfl hy⟩
            clear hy hdep hfree hj
            obtain ⟨d0, d1, d2⟩ := (HQi.out.below hS).2.2.cell hfil
            go_simp
            exact ⟨rfl, hS, Below.refl _ _⟩
          · intro j hj ρ y u hS hc hf hg hfree hdep
            have e78 : ρ (.tmp 78) = .agg #[.int .i64 (at_ l' ch2).1, .int .u64 (at_ l' ch2).2.1, .int .i64 (at_ l' ch2).2.2] := (hdep 10 _ 78 rfl rfl rfl).1
            have e85 : ρ (.tmp 85) = .agg #[.int .i64 (at_ l' fi).1, .int .u64 (at_ l' fi).2.1, .int .i64 (at_ l' fi).2.2] := (hdep 17 _ 85 rfl rfl rfl).1
            have hy := (hdep 3 _ 71 rfl rfl rfl).2
            rw [show ρ (.tmp 71) = .bool true from (hdep 3 _ 71 rfl rfl rfl).1] at hy
            refine ⟨fun _ => ?_, not_wanted rfl hy⟩
            clear hy hdep hfree hj
            go_simp
            refine (before_any (at_ l' ch2) (at_ l' fi) u).mono ?_
            rintro e u' ⟨rfl, hb⟩
            exact ⟨_, rfl, by rw [HBb.out]; rfl, hS.trans (hb.mono hS.size), hb⟩
          · intro j hj ρ y u hS hc hf hg hfree hdep
            have e71 : ρ (.tmp 71) = .bool true := (hdep 3 _ 71 rfl rfl rfl).1
            have e86 : ρ (.tmp 86) = .bool b := (hdep 18 _ 86 rfl rfl rfl).1
            refine ⟨fun _ => ?_, wanted_plain rfl⟩
            clear hdep hfree hj
            go_simp
            exact ⟨by first | rfl | (cases b <;> rfl), hS, Below.refl _ _⟩
        intro u5 hS
        rintro _ rfl _ rfl _ rfl _ rfl _ rfl _ rfl _ rfl _ rfl _ rfl _ rfl _ rfl _ rfl _ rfl _ rfl _ rfl _ rfl _ rfl _ rfl _ rfl _ rfl
        simp only [RegEnd, Act.put, List.setIfInBounds_toArray, List.set_cons_zero, List.set_cons_succ]
        have HS5 := Lib.hid hS
        clear hS
        cases b
        all_goals
          go_wp2_with fail
          go_roundw
          case rel => exact ⟨_, by first | exact hfb | (have := HC2.out; omega), (fun h => by first | exact hcl | exact HIM.out h), HBi.out.trans (HS5.out.mono HBi.out.size), .inr (.inr ⟨rfl, rfl, by have h1 := HPk.out; have h2 := HF0.out; rw [← h2, h1]; rfl⟩)⟩
          case measure => simp [intOf]
      · have hd : decide (ch2 < m) = false := by simpa using hcl
        have hd2 : decide ((ch2 : Int) < m) = false := by simp; omega
        have HPk := Lib.hid (pick_no (l := l') (f := fi) (show ¬ ch2 < l'.length by have := HLen.out; omega))
        clear hcl
        go_upto_region 13 with (fail)
        go_quiet (fail)
        go_wp2_with fail
        go_roundw
        case rel => exact ⟨fi, hfb, HIM.out, drew_below HBi.out _, .inr (.inr ⟨rfl, rfl, by have h1 := HPk.out; have h2 := HF0.out; rw [← h2, h1]⟩)⟩
        case measure => simp [intOf]
    · -- both children seen
      by_cases hfi : fi = i
      · have hq : ((fi : Int) == (i : Int)) = true := by simp; omega
        have hpk : pick l' (pick l' i (2 * i + 1)) (2 * i + 2) = i := by rw [← HC1.out, ← HC2.out, ← HF0.out]; exact hfi
        have HPK := Lib.hid (pick_same hpk)
        clear hfi hpk
        go_wp2_with fail
        go_ret3
        exact ⟨rfl, l', HQi.out, by rw [← HP.out]; exact HPm.out, down_stop HD.out HPK.out.1 HPK.out.2, HB3.out.trans (HB4.out.trans (Fr.of HBi.out (by have := HQ4.out.1; have := HQ4.out.2.1.lt; omega)))⟩
      · have hq : ((fi : Int) == (i : Int)) = false := by simp; omega
        have hil : i < l'.length := by
          rcases HI.out with h | h
          · have := HLen.out; omega
          · rcases Nat.eq_zero_or_pos l'.length with h0 | h0
            · exfalso; apply hfi; rw [HF0.out, pick_no (by omega), pick_no (by omega)]
            · omega
        have HST := Lib.hid (pick_step hil (show pick l' (pick l' i (2 * i + 1)) (2 * i + 2) = fi by rw [← HC1.out, ← HC2.out, ← HF0.out]) hfi HD.out)
        have hfil : fi < l'.length := HST.out.2.1
        have hif : i < fi := HST.out.2.2
        have hii : (i : Int) < l'.length := by omega
        have hff : (fi : Int) < l'.length := by omega
        have HBw := Lib.hid (show Fr base q g W3 wi from HB4.out.trans (Fr.of HBi.out (by have := HQ4.out.1; have := HQ4.out.2.1.lt; omega)))
        clear hfi
        go_wp2_with fail
        refine wp_region_rel ⟨[25, 27], [(0, 0), (0, 0), (0, 0), (0, 0), (0, 0), (0, 0), (0, 0), (0, 0), (0, 0), (0, 1), (0, 0), (0, 0), (0, 0), (0, 0), (0, 0), (0, 0), (0, 0), (0, 0), (0, 0), (0, 0), (0, 0), (0, 0), (0, 0), (0, 0), (0, 0), (0, 0), (0, 1), (1, 1)]⟩ (fromAt (S := SwapF W3 base q g c l' cap p i fi) (St := fun _ _ _ => True) [eqv (.pointer (some ⟨q, 0, none⟩)), eqv (.pointer (some ⟨q, 0, none⟩)), eqv (.pointer (some ⟨q, 0, none⟩)), eqv (.slice (some ⟨g, 0, none⟩) l'.length c), eqv (.int .i64 (i : Int)), eqv (.pointer (some ⟨q, 0, none⟩)), eqv (.pointer (some ⟨q, 0, none⟩)), eqv (.pointer (some ⟨q, 0, none⟩)), eqv (.slice (some ⟨g, 0, none⟩) l'.length c), eqv (.int .i64 (fi : Int)), eqv (.pointer (some ⟨q, 0, none⟩)), eqv (.pointer (some ⟨q, 0, none⟩)), eqv (.pointer (some ⟨q, 0, none⟩)), eqv (.slice (some ⟨g, 0, none⟩) l'.length c), eqv (.int .i64 (fi : Int)), eqv (.pointer (some ⟨g, fi * 3, none⟩)), eqv (.agg #[.int .i64 (at_ l' fi).1, .int .u64 (at_ l' fi).2.1, .int .i64 (at_ l' fi).2.2]), eqv (.pointer (some ⟨q, 0, none⟩)), eqv (.pointer (some ⟨q, 0, none⟩)), eqv (.pointer (some ⟨q, 0, none⟩)), eqv (.slice (some ⟨g, 0, none⟩) l'.length c), eqv (.int .i64 (i : Int)), eqv (.pointer (some ⟨g, i * 3, none⟩)), eqv (.agg #[.int .i64 (at_ l' i).1, .int .u64 (at_ l' i).2.1, .int .i64 (at_ l' i).2.2]), eqv (.pointer (some ⟨g, i * 3, none⟩)), anyv, eqv (.pointer (some ⟨g, fi * 3, none⟩)), anyv]) (SwapF W3 base q g c l' cap p i fi) (fun _ _ _ => True) (factAt (S := SwapF W3 base q g c l' cap p i fi) (St := fun _ _ _ => True) [eqv (.pointer (some ⟨q, 0, none⟩)), eqv (.pointer (some ⟨q, 0, none⟩)), eqv (.pointer (some ⟨q, 0, none⟩)), eqv (.slice (some ⟨g, 0, none⟩) l'.length c), eqv (.int .i64 (i : Int)), eqv (.pointer (some ⟨q, 0, none⟩)), eqv (.pointer (some ⟨q, 0, none⟩)), eqv (.pointer (some ⟨q, 0, none⟩)), eqv (.slice (some ⟨g, 0, none⟩) l'.length c), eqv (.int .i64 (fi : Int)), eqv (.pointer (some ⟨q, 0, none⟩)), eqv (.pointer (some ⟨q, 0, none⟩)), eqv (.pointer (some ⟨q, 0, none⟩)), eqv (.slice (some ⟨g, 0, none⟩) l'.length c), eqv (.int .i64 (fi : Int)), eqv (.pointer (some ⟨g, fi * 3, none⟩)), eqv (.agg #[.int .i64 (at_ l' fi).1, .int .u64 (at_ l' fi).2.1, .int .i64 (at_ l' fi).2.2]), eqv (.pointer (some ⟨q, 0, none⟩)), eqv (.pointer (some ⟨q, 0, none⟩)), eqv (.pointer (some ⟨q, 0, none⟩)), eqv (.slice (some ⟨g, 0, none⟩) l'.length c), eqv (.int .i64 (i : Int)), eqv (.pointer (some ⟨g, i * 3, none⟩)), eqv (.agg #[.int .i64 (at_ l' i).1, .int .u64 (at_ l' i).2.1, .int .i64 (at_ l' i).2.2]), eqv (.pointer (some ⟨g, i * 3, none⟩)), anyv, eqv (.pointer (some ⟨g, fi * 3, none⟩)), anyv]) (by kernel_rfl) (by kernel_rfl) (by kernel_rfl) (by kernel_rfl) ?_ (fun i v j u u' => factAt_st _ i v j u u') ?_ ?_
        · exact ⟨HQi.out, HBw.out.drew⟩
        · show Looks _ _ _ _ _ _ _ 0 _
          refine ⟨?_, ?_, ?_, ?_, ?_, ?_, ?_, ?_, ?_, ?_, ?_, ?_, ?_, ?_, ?_, ?_, ?_, ?_, ?_, ?_, ?_, ?_, ?_, ?_, ?_, ?_, ?_, ?_, trivial⟩
          · intro j hj ρ y u hS hc hf hg hfree hdep
            obtain rfl : j = 0 := by have := hj _ rfl; dsimp only at this; omega
            have e0 : ρ (.tmp 0) = .pointer (some ⟨q, 0, none⟩) := hfree 0 rfl
            refine ⟨fun _ => ?_, wanted_plain rfl⟩
            clear hdep hfree hj
            have c0 : u.cell? ⟨q, 0, none⟩ = some (.slice (some ⟨g, 0, none⟩) l'.length c) := hS.1.2.1.cell 0
            go_simp
            exact ⟨rfl, keepS (by rfl) hS, trivial⟩
          · intro j hj ρ y u hS hc hf hg hfree hdep
            obtain rfl : j = 0 := by have := hj _ rfl; dsimp only at this; omega
            have e95 : ρ (.tmp 95) = .pointer (some ⟨q, 0, none⟩) := (hdep 0 _ 95 rfl rfl rfl).1
            refine ⟨fun _ => ?_, wanted_plain rfl⟩
            clear hdep hfree hj
            have c0 : u.cell? ⟨q, 0, none⟩ = some (.slice (some ⟨g, 0, none⟩) l'.length c) := hS.1.2.1.cell 0
            go_simp
            exact ⟨rfl, keepS (by rfl) hS, trivial⟩
          · intro j hj ρ y u hS hc hf hg hfree hdep
            obtain rfl : j = 0 := by have := hj _ rfl; dsimp only at this; omega
            have e96 : ρ (.tmp 96) = .pointer (some ⟨q, 0, none⟩) := (hdep 1 _ 96 rfl rfl rfl).1
            refine ⟨fun _ => ?_, wanted_plain rfl⟩
            clear hdep hfree hj
            have c0 : u.cell? ⟨q, 0, none⟩ = some (.slice (some ⟨g, 0, none⟩) l'.length c) := hS.1.2.1.cell 0
            go_simp
            exact ⟨rfl, keepS (by rfl) hS, trivial⟩
          · intro j hj ρ y u hS hc hf hg hfree hdep
            obtain rfl : j = 0 := by have := hj _ rfl; dsimp only at this; omega
            have e97 : ρ (.tmp 97) = .pointer (some ⟨q, 0, none⟩) := (hdep 2 _ 97 rfl rfl rfl).1
            refine ⟨fun _ => ?_, wanted_plain rfl⟩
            clear hdep hfree hj
            have c0 : u.cell? ⟨q, 0, none⟩ = some (.slice (some ⟨g, 0, none⟩) l'.length c) := hS.1.2.1.cell 0
            go_simp
            exact ⟨rfl, keepS (by rfl) hS, trivial⟩
          · intro j hj ρ y u hS hc hf hg hfree hdep
            obtain rfl : j = 0 := by have := hj _ rfl; dsimp only at this; omega
            have e9 : ρ (.tmp 9) = .int .i64 (i : Int) := hfree 9 rfl
            refine ⟨fun _ => ?_, wanted_plain rfl⟩
            clear hdep hfree hj
            have c0 : u.cell? ⟨q, 0, none⟩ = some (.slice (some ⟨g, 0, none⟩) l'.length c) := hS.1.2.1.cell 0
            go_simp
            exact ⟨rfl, keepS (by rfl) hS, trivial⟩
          · intro j hj ρ y u hS hc hf hg hfree hdep
            obtain rfl : j = 0 := by have := hj _ rfl; dsimp only at this; omega
            have e0 : ρ (.tmp 0) = .pointer (some ⟨q, 0, none⟩) := hfree 0 rfl
            refine ⟨fun _ => ?_, wanted_plain rfl⟩
            clear hdep hfree hj
            have c0 : u.cell? ⟨q, 0, none⟩ = some (.slice (some ⟨g, 0, none⟩) l'.length c) := hS.1.2.1.cell 0
            go_simp
            exact ⟨rfl, keepS (by rfl) hS, trivial⟩
          · intro j hj ρ y u hS hc hf hg hfree hdep
            obtain rfl : j = 0 := by have := hj _ rfl; dsimp only at this; omega
            have e100 : ρ (.tmp 100) = .pointer (some ⟨q, 0, none⟩) := (hdep 5 _ 100 rfl rfl rfl).1
            refine ⟨fun _ => ?_, wanted_plain rfl⟩
            clear hdep hfree hj
            have c0 : u.cell? ⟨q, 0, none⟩ = some (.slice (some ⟨g, 0, none⟩) l'.length c) := hS.1.2.1.cell 0
            go_simp
            exact ⟨rfl, keepS (by rfl) hS, trivial⟩
          · intro j hj ρ y u hS hc hf hg hfree hdep
            obtain rfl : j = 0 := by have := hj _ rfl; dsimp only at this; omega
            have e101 : ρ (.tmp 101) = .pointer (some ⟨q, 0, none⟩) := (hdep 6 _ 101 rfl rfl rfl).1
            refine ⟨fun _ => ?_, wanted_plain rfl⟩
            clear hdep hfree hj
            have c0 : u.cell? ⟨q, 0, none⟩ = some (.slice (some ⟨g, 0, none⟩) l'.length c) := hS.1.2.1.cell 0
            go_simp
            exact ⟨rfl, keepS (by rfl) hS, trivial⟩
          · intro j hj ρ y u hS hc hf hg hfree hdep
            obtain rfl : j = 0 := by have := hj _ rfl; dsimp only at this; omega
            have e102 : ρ (.tmp 102) = .pointer (some ⟨q, 0, none⟩) := (hdep 7 _ 102 rfl rfl rfl).1
            refine ⟨fun _ => ?_, wanted_plain rfl⟩
            clear hdep hfree hj
            have c0 : u.cell? ⟨q, 0, none⟩ = some (.slice (some ⟨g, 0, none⟩) l'.length c) := hS.1.2.1.cell 0
            go_simp
            exact ⟨rfl, keepS (by rfl) hS, trivial⟩
          · intro j hj ρ y u hS hc hf hg hfree hdep
            obtain ⟨hj0, hj1⟩ := hj _ rfl
            have e10 : ρ (.tmp 10) = .int .i64 (fi : Int) := hfree 10 rfl
            refine ⟨fun _ => ?_, wanted_plain rfl⟩
            clear hdep hfree hj
            go_simp
            exact ⟨rfl, keepS (by rfl) hS, trivial⟩
          · intro j hj ρ y u hS hc hf hg hfree hdep
            obtain rfl : j = 0 := by have := hj _ rfl; dsimp only at this; omega
            have e0 : ρ (.tmp 0) = .pointer (some ⟨q, 0, none⟩) := hfree 0 rfl
            refine ⟨fun _ => ?_, wanted_plain rfl⟩
            clear hdep hfree hj
            have c0 : u.cell? ⟨q, 0, none⟩ = some (.slice (some ⟨g, 0, none⟩) l'.length c) := hS.1.2.1.cell 0
            go_simp
            exact ⟨rfl, keepS (by rfl) hS, trivial⟩
          · intro j hj ρ y u hS hc hf hg hfree hdep
            obtain rfl : j = 0 := by have := hj _ rfl; dsimp only at this; omega
            have e105 : ρ (.tmp 105) = .pointer (some ⟨q, 0, none⟩) := (hdep 10 _ 105 rfl rfl rfl).1
            refine ⟨fun _ => ?_, wanted_plain rfl⟩
            clear hdep hfree hj
            have c0 : u.cell? ⟨q, 0, none⟩ = some (.slice (some ⟨g, 0, none⟩) l'.length c) := hS.1.2.1.cell 0
            go_simp
            exact ⟨rfl, keepS (by rfl) hS, trivial⟩
          · intro j hj ρ y u hS hc hf hg hfree hdep
            obtain rfl : j = 0 := by have := hj _ rfl; dsimp only at this; omega
            have e106 : ρ (.tmp 106) = .pointer (some ⟨q, 0, none⟩) := (hdep 11 _ 106 rfl rfl rfl).1
            refine ⟨fun _ => ?_, wanted_plain rfl⟩
            clear hdep hfree hj
            have c0 : u.cell? ⟨q, 0, none⟩ = some (.slice (some ⟨g, 0, none⟩) l'.length c) := hS.1.2.1.cell 0
            go_simp
            exact ⟨rfl, keepS (by rfl) hS, trivial⟩
          · intro j hj ρ y u hS hc hf hg hfree hdep
            obtain rfl : j = 0 := by have := hj _ rfl; dsimp only at this; omega
            have e107 : ρ (.tmp 107) = .pointer (some ⟨q, 0, none⟩) := (hdep 12 _ 107 rfl rfl rfl).1
            refine ⟨fun _ => ?_, wanted_plain rfl⟩
            clear hdep hfree hj
            have c0 : u.cell? ⟨q, 0, none⟩ = some (.slice (some ⟨g, 0, none⟩) l'.length c) := hS.1.2.1.cell 0
            go_simp
            exact ⟨rfl, keepS (by rfl) hS, trivial⟩
          · intro j hj ρ y u hS hc hf hg hfree hdep
            obtain rfl : j = 0 := by have := hj _ rfl; dsimp only at this; omega
            have e10 : ρ (.tmp 10) = .int .i64 (fi : Int) := hfree 10 rfl
            refine ⟨fun _ => ?_, wanted_plain rfl⟩
            clear hdep hfree hj
            have c0 : u.cell? ⟨q, 0, none⟩ = some (.slice (some ⟨g, 0, none⟩) l'.length c) := hS.1.2.1.cell 0
            go_simp
            exact ⟨rfl, keepS (by rfl) hS, trivial⟩
          · intro j hj ρ y u hS hc hf hg hfree hdep
            obtain rfl : j = 0 := by have := hj _ rfl; dsimp only at this; omega
            have e108 : ρ (.tmp 108) = .slice (some ⟨g, 0, none⟩) l'.length c := (hdep 13 _ 108 rfl rfl rfl).1
            have e109 : ρ (.tmp 109) = .int .i64 (fi : Int) := (hdep 14 _ 109 rfl rfl rfl).1
            refine ⟨fun _ => ?_, wanted_plain rfl⟩
            clear hdep hfree hj
            have c0 : u.cell? ⟨q, 0, none⟩ = some (.slice (some ⟨g, 0, none⟩) l'.length c) := hS.1.2.1.cell 0
            go_simp
            exact ⟨rfl, keepS (by rfl) hS, trivial⟩
          · intro j hj ρ y u hS hc hf hg hfree hdep
            obtain rfl : j = 0 := by have := hj _ rfl; dsimp only at this; omega
            have e110 : ρ (.tmp 110) = .pointer (some ⟨g, fi * 3, none⟩) := (hdep 15 _ 110 rfl rfl rfl).1
            refine ⟨fun _ => ?_, wanted_plain rfl⟩
            clear hdep hfree hj
            have c0 : u.cell? ⟨q, 0, none⟩ = some (.slice (some ⟨g, 0, none⟩) l'.length c) := hS.1.2.1.cell 0
            obtain ⟨d0, d1, d2⟩ := hS.1.2.2.cell hfil
            go_simp
            exact ⟨rfl, keepS (by rfl) hS, trivial⟩
          · intro j hj ρ y u hS hc hf hg hfree hdep
            obtain rfl : j = 0 := by have := hj _ rfl; dsimp only at this; omega
            have e0 : ρ (.tmp 0) = .pointer (some ⟨q, 0, none⟩) := hfree 0 rfl
            refine ⟨fun _ => ?_, wanted_plain rfl⟩
            clear hdep hfree hj
            have c0 : u.cell? ⟨q, 0, none⟩ = some (.slice (some ⟨g, 0, none⟩) l'.length c) := hS.1.2.1.cell 0
            go_simp
            exact ⟨rfl, keepS (by rfl) hS, trivial⟩
          · intro j hj ρ y u hS hc hf hg hfree hdep
            obtain rfl : j = 0 := by have := hj _ rfl; dsimp only at this; omega
            have e112 : ρ (.tmp 112) = .pointer (some ⟨q, 0, none⟩) := (hdep 17 _ 112 rfl rfl rfl).1
            refine ⟨fun _ => ?_, wanted_plain rfl⟩
            clear hdep hfree hj
            have c0 : u.cell? ⟨q, 0, none⟩ = some (.slice (some ⟨g, 0, none⟩) l'.length c) := hS.1.2.1.cell 0
            go_simp
            exact ⟨rfl, keepS (by rfl) hS, trivial⟩
          · intro j hj ρ y u hS hc hf hg hfree hdep
            obtain rfl : j = 0 := by have := hj _ rfl; dsimp only at this; omega
            have e113 : ρ (.tmp 113) = .pointer (some ⟨q, 0, none⟩) := (hdep 18 _ 113 rfl rfl rfl).1
            refine ⟨fun _ => ?_, wanted_plain rfl⟩
            clear hdep hfree hj
            have c0 : u.cell? ⟨q, 0, none⟩ = some (.slice (some ⟨g, 0, none⟩) l'.length c) := hS.1.2.1.cell 0
            go_simp
            exact ⟨rfl, keepS (by rfl) hS, trivial⟩
          · intro j hj ρ y u hS hc hf hg hfree hdep
            obtain rfl : j = 0 := by have := hj _ rfl; dsimp only at this; omega
            have e114 : ρ (.tmp 114) = .pointer (some ⟨q, 0, none⟩) := (hdep 19 _ 114 rfl rfl rfl).1
            refine ⟨fun _ => ?_, wanted_plain rfl⟩
            clear hdep hfree hj
            have c0 : u.cell? ⟨q, 0, none⟩ = some (.slice (some ⟨g, 0, none⟩) l'.length c) := hS.1.2.1.cell 0
            go_simp
            exact ⟨rfl, keepS (by rfl) hS, trivial⟩
          · intro j hj ρ y u hS hc hf hg hfree hdep
            obtain rfl : j = 0 := by have := hj _ rfl; dsimp only at this; omega
            have e9 : ρ (.tmp 9) = .int .i64 (i : Int) := hfree 9 rfl
            refine ⟨fun _ => ?_, wanted_plain rfl⟩
            clear hdep hfree hj
            have c0 : u.cell? ⟨q, 0, none⟩ = some (.slice (some ⟨g, 0, none⟩) l'.length c) := hS.1.2.1.cell 0
            go_simp
            exact ⟨rfl, keepS (by rfl) hS, trivial⟩
          · intro j hj ρ y u hS hc hf hg hfree hdep
            obtain rfl : j = 0 := by have := hj _ rfl; dsimp only at this; omega
            have e115 : ρ (.tmp 115) = .slice (some ⟨g, 0, none⟩) l'.length c := (hdep 20 _ 115 rfl rfl rfl).1
            have e116 : ρ (.tmp 116) = .int .i64 (i : Int) := (hdep 21 _ 116 rfl rfl rfl).1
            refine ⟨fun _ => ?_, wanted_plain rfl⟩
            clear hdep hfree hj
            have c0 : u.cell? ⟨q, 0, none⟩ = some (.slice (some ⟨g, 0, none⟩) l'.length c) := hS.1.2.1.cell 0
            go_simp
            exact ⟨rfl, keepS (by rfl) hS, trivial⟩
          · intro j hj ρ y u hS hc hf hg hfree hdep
            obtain rfl : j = 0 := by have := hj _ rfl; dsimp only at this; omega
            have e117 : ρ (.tmp 117) = .pointer (some ⟨g, i * 3, none⟩) := (hdep 22 _ 117 rfl rfl rfl).1
            refine ⟨fun _ => ?_, wanted_plain rfl⟩
            clear hdep hfree hj
            have c0 : u.cell? ⟨q, 0, none⟩ = some (.slice (some ⟨g, 0, none⟩) l'.length c) := hS.1.2.1.cell 0
            obtain ⟨d0, d1, d2⟩ := hS.1.2.2.cell hil
            go_simp
            exact ⟨rfl, keepS (by rfl) hS, trivial⟩
          · intro j hj ρ y u hS hc hf hg hfree hdep
            obtain rfl : j = 0 := by have := hj _ rfl; dsimp only at this; omega
            have e98 : ρ (.tmp 98) = .slice (some ⟨g, 0, none⟩) l'.length c := (hdep 3 _ 98 rfl rfl rfl).1
            have e99 : ρ (.tmp 99) = .int .i64 (i : Int) := (hdep 4 _ 99 rfl rfl rfl).1
            refine ⟨fun _ => ?_, wanted_plain rfl⟩
            clear hdep hfree hj
            have c0 : u.cell? ⟨q, 0, none⟩ = some (.slice (some ⟨g, 0, none⟩) l'.length c) := hS.1.2.1.cell 0
            go_simp
            exact ⟨rfl, keepS (by rfl) hS, trivial⟩
          · intro j hj ρ y u hS hc hf hg hfree hdep
            obtain rfl : j = 0 := by have := hj _ rfl; dsimp only at this; omega
            have e111 : ρ (.tmp 111) = .agg #[.int .i64 (at_ l' fi).1, .int .u64 (at_ l' fi).2.1, .int .i64 (at_ l' fi).2.2] := (hdep 16 _ 111 rfl rfl rfl).1
            have e119 : ρ (.tmp 119) = .pointer (some ⟨g, i * 3, none⟩) := (hdep 24 _ 119 rfl rfl rfl).1
            refine ⟨fun _ => ?_, wanted_plain rfl⟩
            clear hdep hfree hj
            have c0 : u.cell? ⟨q, 0, none⟩ = some (.slice (some ⟨g, 0, none⟩) l'.length c) := hS.1.2.1.cell 0
            obtain ⟨d0, d1, d2⟩ := hS.1.2.2.cell hil
            have f0 := hS.1.2.2.frozen (i * 3)
            have f1 := hS.1.2.2.frozen (i * 3 + 1)
            have f2 := hS.1.2.2.frozen (i * 3 + 2)
            go_simp
            exact ⟨trivial, ⟨hS.1.put hil (at_ l' fi), put3_fr hS.2 hg0 i (at_ l' fi)⟩, trivial⟩
          · intro j hj ρ y u hS hc hf hg hfree hdep
            obtain ⟨hj0, hj1⟩ := hj _ rfl
            have e103 : ρ (.tmp 103) = .slice (some ⟨g, 0, none⟩) l'.length c := (hdep 8 _ 103 rfl rfl rfl).1
            have e104 : ρ (.tmp 104) = .int .i64 (fi : Int) := (hdep 9 _ 104 rfl rfl rfl).1
            refine ⟨fun _ => ?_, wanted_plain rfl⟩
            clear hdep hfree hj
            go_simp
            exact ⟨rfl, keepS (by rfl) hS, trivial⟩
          · intro j hj ρ y u hS hc hf hg hfree hdep
            obtain rfl : j = 1 := by have := hj _ rfl; dsimp only at this; omega
            have e118 : ρ (.tmp 118) = .agg #[.int .i64 (at_ l' i).1, .int .u64 (at_ l' i).2.1, .int .i64 (at_ l' i).2.2] := (hdep 23 _ 118 rfl rfl rfl).1
            have e120 : ρ (.tmp 120) = .pointer (some ⟨g, fi * 3, none⟩) := (hdep 26 _ 120 rfl rfl rfl).1
            refine ⟨fun _ => ?_, wanted_plain rfl⟩
            clear hdep hfree hj
            have hlen : fi < (l'.set i (at_ l' fi)).length := by rw [List.length_set]; exact hfil
            obtain ⟨d0, d1, d2⟩ := hS.1.2.2.cell hlen
            have f0 := hS.1.2.2.frozen (fi * 3)
            have f1 := hS.1.2.2.frozen (fi * 3 + 1)
            have f2 := hS.1.2.2.frozen (fi * 3 + 2)
            go_simp
            exact ⟨trivial, ⟨hS.1.put hlen (at_ l' i), put3_fr hS.2 hg0 fi (at_ l' i)⟩, trivial⟩
        intro u6 hS
        rintro _ rfl _ rfl _ rfl _ rfl _ rfl _ rfl _ rfl _ rfl _ rfl _ rfl _ rfl _ rfl _ rfl _ rfl _ rfl _ rfl _ rfl _ rfl _ rfl _ rfl _ rfl _ rfl _ rfl _ rfl _ rfl _ rfl
        simp only [RegEnd, Act.put, List.setIfInBounds_toArray, List.set_cons_zero, List.set_cons_succ]
        have HS6 := Lib.hid hS
        clear hS
        go_wp2_with fail
        go_roundw
        case rel => exact ⟨swp l' i fi, fi, rfl, HS6.out.1, (swp_perm l' i fi hil hfil).trans HPm.out, by rw [swp_len]; exact HLen.out, HST.out.1, .inl (by have := HLen.out; omega), HS6.out.2⟩
        case measure => have := HLen.out; simp [intOf]; omega
theorem Pop_any (base q : Nat) (A : Option Addr) (c : Nat) (l : List PI) (cap p : Nat) (w : World) (hQ : QAt w base q A c l cap p) (hl0 : 0 < l.length) (hl1 : l.length ≤ 4096) (hh : IsHeap l) :
    Calls Try.prog 13 #[.pointer (some ⟨q, 0, none⟩)] w fun e w' => e = .returned (.tuple #[.int .i64 (at_ l 0).1, .int .i64 (at_ l 0).2.2, .bool true]) ∧ ∃ A' c' l', QAt w' base q A' c' l' cap p ∧ l'.Perm (popped l) ∧ IsHeap l' ∧ Below base w w' := by
  obtain ⟨g, rfl, hg0, hg1⟩ := hQ.2.2.addr hl0
  refine (Pop_fr base q g c l cap p w hQ hl0 hl1 hh).mono ?_
  rintro e w' ⟨h1, l', h2, h3, h4, h5⟩
  exact ⟨h1, _, _, l', h2, h3, h4, h5.below⟩
end Go.Proofs.Ytaiefhdnjmiafaa
