/- Laws: Cancels, Commutes, Detects. -/
import Derived.Test.YtfomcphbclojpaaL
namespace Go.Proofs.Ytfomcphbclojpaa
open Go.RowKit
set_option linter.unusedVariables false

theorem OwnB.addr {w : World} {base n c : Nat} {A : Option Addr} {l : List UInt8} (h : OwnB w base A n c l) (hn : 0 < n) : ∃ g, A = some ⟨g, 0, none⟩ ∧ base ≤ g ∧ g < w.heap.size := by
  rcases h.2.2 with ⟨_, h0⟩ | ⟨g, cap, cur, hv, hb, hh, _⟩
  · omega
  · exact ⟨g, by injection hv, hb, (Array.getElem?_eq_some_iff.1 hh).1⟩
theorem OwnB.cellAt {w : World} {base n c g : Nat} {l : List UInt8} (h : OwnB w base (some ⟨g, 0, none⟩) n c l) {k : Nat} {x : UInt8} (hx : l[k]? = some x) : w.cell? ⟨g, k, none⟩ = some (.int .u8 (x.toNat : Int)) := by
  have hk : k < n := by rw [← h.1]; exact (List.getElem?_eq_some_iff.1 hx).1
  have := World.ownsRow.cellAt h.2 k (by omega)
  rw [this, List.getElem?_map, hx]; rfl
theorem OwnB.frozenAt {w : World} {base n c g : Nat} {l : List UInt8} (h : OwnB w base (some ⟨g, 0, none⟩) n c l) (k : Nat) : w.frozen? ⟨g, k, none⟩ = false := by
  rcases h.2.2 with ⟨h', _⟩ | ⟨g', cap', cur, h', hb, hg, _⟩
  · simp at h'
  · simp only [Value.slice.injEq, Option.some.injEq, Addr.mk.injEq, and_true, true_and] at h'
    obtain ⟨rfl, rfl⟩ := h'
    simp [World.frozen?, hg]
theorem OwnB.stored {w : World} {base n c g : Nat} {l : List UInt8} (h : OwnB w base (some ⟨g, 0, none⟩) n c l) (k : Nat) (x : UInt8) : OwnB (w.setCell ⟨g, k, none⟩ (.int .u8 (x.toNat : Int))) base (some ⟨g, 0, none⟩) n c (l.set k x) :=
  ⟨by rw [List.length_set]; exact h.1, by rw [List.map_set]; exact (World.ownsRow.stored h.2 k (bv x)).1⟩
theorem Bytes.far {w : World} {B n g k : Nat} {A : Option Addr} {l : List UInt8} (h : Bytes w B A n l) (hg : B ≤ g) (v : Value) : Bytes (w.setCell ⟨g, k, none⟩ v) B A n l :=
  h.below ((Below.refl _ _).setCell hg v)

set_option maxRecDepth 100000 in
theorem cancels_walk (A : Option Addr) (n cap : Nat) (l : List UInt8) (w : World) (hl : Bytes w w.heap.size A n l) :
    Calls Try.prog 7 #[.slice A n cap] w (LawPost w) := by
  by_cases h : 4000 < n
  · go_enter Try.func7, Try.ntmps7
    go_wp2_with (go_at_call 9; refine (awake_any _).mono ?_; rintro e w1 ⟨rfl, hb1⟩)
    go_ret
    exact ⟨rfl, hb1⟩
  · have hq : decide ((4000 : Int) < n) = false := by simp; omega
    by_cases h2 : n % 2 = 1
    · have hq2 : (((n : Int) % 2) == 1) = true := by simp; omega
      clear h2
      go_enter Try.func7, Try.ntmps7
      go_wp2_with (go_at_call 9; refine (awake_any _).mono ?_; rintro e w1 ⟨rfl, hb1⟩)
      go_ret
      exact ⟨rfl, hb1⟩
    · have hq2 : (((n : Int) % 2) == 1) = false := by simp; omega
      have hbd := inet_bd l
      have hb0 := hbd.1
      have hb1 := hbd.2
      have HC := Lib.hid (inet_cancel l (by rw [hl.1]; omega) (byteOf (inet l / 256)) (byteOf (inet l)) (by rw [byteOf_nat, byteOf_nat]; omega))
      have HL := Lib.hid hl
      have HV := Lib.hid (show (([byteOf (inet l / 256), byteOf (inet l)]).map bv).toArray = #[Value.int IntKind.u8 (inet l / 256), Value.int IntKind.u8 (inet l % 256)] by
        simp only [List.map_cons, List.map_nil, bv_byteOf]; rw [show inet l / 256 % 256 = inet l / 256 by omega])
      have hdv : IntKind.u16.wrap ((inet l).tdiv 256) % 256 = inet l / 256 := by rw [IntKind.wrap_u16, Int.tdiv_eq_ediv_of_nonneg hb0]; omega
      clear h2 hl hbd
      go_enter Try.func7, Try.ntmps7
      go_wp2_with fail
      refine (Internet_any _ _ _ l _ _ HL.out (by omega)).mono ?_
      rintro e w1 ⟨rfl, rfl⟩
      go_wp2_with fail
      have HN := Lib.hid (bytes_lit w [byteOf (inet l / 256), byteOf (inet l)] (by show 2 ≤ _; omega))
      rw [HV.out] at HN
      have HL2 := Lib.hid (HL.out.alloc (Nat.le_refl _) (.cells #[Value.int IntKind.u8 (inet l / 256), Value.int IntKind.u8 (inet l % 256)] 5))
      refine (join_any _ _ _ l _ _ _ [byteOf (inet l / 256), byteOf (inet l)] _ (HL2.out.more (by simp)) HN.out (by omega) (by show 2 ≤ _; omega)).mono ?_
      rintro e w2 ⟨A4, c4, rfl, hO4, hb4⟩
      have HO4 := Lib.hid hO4
      have HB4 := Lib.hid (((Below.refl w.heap.size w).alloc (Nat.le_refl _) _).trans (hb4.mono (by simp)))
      clear hO4 hb4
      go_wp2_with fail
      refine (Internet_any _ _ _ _ _ _ HO4.out.bytes (by show n + 2 ≤ _; omega)).mono ?_
      rintro e w5 ⟨rfl, rfl⟩
      rw [HC.out]
      go_wp2_with fail
      refine (awake_any _).mono ?_
      rintro e w6 ⟨rfl, hb6⟩
      have HB6 := Lib.hid (HB4.out.trans (hb6.mono HB4.out.size))
      go_wp2_with fail
      go_ret
      exact ⟨rfl, HB6.out⟩

set_option maxRecDepth 100000 in
theorem commutes_walk (A : Option Addr) (n cap : Nat) (l : List UInt8) (i j : Int) (w : World) (hl : Bytes w w.heap.size A n l) (hi0 : -9223372036854775808 ≤ i) (hi1 : i ≤ 9223372036854775807) (hj0 : -9223372036854775808 ≤ j) (hj1 : j ≤ 9223372036854775807) :
    Calls Try.prog 8 #[.slice A n cap, .int .i64 i, .int .i64 j] w (LawPost w) := by
  obtain ⟨q1, h1⟩ : ∃ q, decide ((4000 : Int) < n) = q := ⟨_, rfl⟩
  obtain ⟨q2, h2⟩ : ∃ q, decide (i < 0) = q := ⟨_, rfl⟩
  obtain ⟨q3, h3⟩ : ∃ q, decide (j < 0) = q := ⟨_, rfl⟩
  obtain ⟨q4, h4⟩ : ∃ q, decide (((n : Int) / 2) ≤ i) = q := ⟨_, rfl⟩
  obtain ⟨q5, h5⟩ : ∃ q, decide (((n : Int) / 2) ≤ j) = q := ⟨_, rfl⟩
  by_cases hall : q1 = false ∧ q2 = false ∧ q3 = false ∧ q4 = false ∧ q5 = false
  · obtain ⟨rfl, rfl, rfl, rfl, rfl⟩ := hall
    have g1 := of_decide_eq_false h1
    have g2 := of_decide_eq_false h2
    have g3 := of_decide_eq_false h3
    have g4 := of_decide_eq_false h4
    have g5 := of_decide_eq_false h5
    obtain ⟨p, rfl⟩ : ∃ p : Nat, i = p := ⟨i.toNat, by omega⟩
    obtain ⟨r, rfl⟩ : ∃ r : Nat, j = r := ⟨j.toNat, by omega⟩
    have hp : 2 * p + 1 < n := by omega
    have hr : 2 * r + 1 < n := by omega
    have hn : n ≤ 4000 := by omega
    clear g1 g2 g3 g4 g5 hi0 hi1 hj0 hj1
    have HL := Lib.hid hl
    obtain ⟨b, off, a, rfl, hbb, ha, hca⟩ := hl.at_ (show 2 * p < n by omega)
    obtain ⟨b1, off1, a1, e1, hbb1, ha1, hca1⟩ := hl.at_ hp
    obtain ⟨b2, off2, a2, e2, hbb2, ha2, hca2⟩ := hl.at_ (show 2 * r < n by omega)
    obtain ⟨b3, off3, a3, e3, hbb3, ha3, hca3⟩ := hl.at_ hr
    obtain ⟨rfl, rfl⟩ := addr_inj e1
    obtain ⟨rfl, rfl⟩ := addr_inj e2
    obtain ⟨rfl, rfl⟩ := addr_inj e3
    have HI := Lib.hid (inet_swapped l p r a a1 a2 a3 ha ha1 ha2 ha3)
    have hr1 : 2 * (p : Int) + 1 < n := by omega
    have hr2 : 2 * (r : Int) + 1 < n := by omega
    have t1 : (2 * (p : Int)).toNat = 2 * p := by omega
    have t2 : (2 * (p : Int) + 1).toNat = 2 * p + 1 := by omega
    have t3 : (2 * (r : Int)).toNat = 2 * r := by omega
    have t4 : (2 * (r : Int) + 1).toNat = 2 * r + 1 := by omega
    have HA := Lib.hid (And.intro ha (And.intro ha1 (And.intro ha2 ha3)))
    have HCA := Lib.hid (And.intro hca (And.intro hca1 (And.intro hca2 hca3)))
    clear hl e1 e2 e3 ha ha1 ha2 ha3 hca hca1 hca2 hca3 hbb1 hbb2 hbb3
    go_enter Try.func8, Try.ntmps8
    go_wp2_with fail
    refine (join_any _ _ _ l _ _ _ [] _ HL.out (Bytes.none_ _ _) (by omega) (by omega)).mono ?_
    rintro e w2 ⟨A4, c4, rfl, hO4, hb4⟩
    rw [List.append_nil] at hO4
    obtain ⟨g, rfl, hg0, hg1⟩ := hO4.addr (by omega)
    have k1 := hO4.stored (2 * p) a2
    have k2 := k1.stored (2 * p + 1) a3
    have k3 := k2.stored (2 * r) a
    have k4 := k3.stored (2 * r + 1) a1
    have hcb : ∀ (k : Nat) (v : Value), w.cell? ⟨b, off + k, none⟩ = some v → w2.cell? ⟨b, off + k, none⟩ = some v := fun k v h => (hb4.cell (p := ⟨b, off + k, none⟩) hbb).trans h
    obtain ⟨ha, ha1, ha2, ha3⟩ := HA.out
    have hfar : ∀ (W : World) (k : Nat) (v u : Value) (m : Nat), W.cell? ⟨b, off + k, none⟩ = some v → (W.setCell ⟨g, m, none⟩ u).cell? ⟨b, off + k, none⟩ = some v := fun W k v u m h => by
      rw [World.cell?_setCell_other W ⟨g, m, none⟩ ⟨b, off + k, none⟩ u (fun e => by injection e with e; omega)]; exact h
    have v2 := hcb _ _ HCA.out.2.2.1
    have v3 := hfar _ _ _ (.int .u8 (a2.toNat : Int)) (2 * p) (hcb _ _ HCA.out.2.2.2)
    have v0 := hfar _ _ _ (.int .u8 (a3.toNat : Int)) (2 * p + 1) (hfar _ _ _ (.int .u8 (a2.toNat : Int)) (2 * p) (hcb _ _ HCA.out.1))
    have v1 := hfar _ _ _ (.int .u8 (a.toNat : Int)) (2 * r) (hfar _ _ _ (.int .u8 (a3.toNat : Int)) (2 * p + 1) (hfar _ _ _ (.int .u8 (a2.toNat : Int)) (2 * p) (hcb _ _ HCA.out.2.1)))
    have z0 := hO4.frozenAt (2 * p)
    have z1 := k1.frozenAt (2 * p + 1)
    have z2 := k2.frozenAt (2 * r)
    have z3 := k3.frozenAt (2 * r + 1)
    have hex : ∀ {W : World} {L : List UInt8} (h : OwnB W w.heap.size (some ⟨g, 0, none⟩) (n + 0) c4 L) (k : Nat), k < n → ∃ x : UInt8, W.cell? ⟨g, k, none⟩ = some (.int .u8 (x.toNat : Int)) := fun {W L} h k hk =>
      ⟨_, h.cellAt (List.getElem?_eq_getElem (show k < L.length by rw [h.1]; omega))⟩
    obtain ⟨x0, o0⟩ := hex hO4 (2 * p) (by omega)
    obtain ⟨x1, o1⟩ := hex k1 (2 * p + 1) (by omega)
    obtain ⟨x2, o2⟩ := hex k2 (2 * r) (by omega)
    obtain ⟨x3, o3⟩ := hex k3 (2 * r + 1) (by omega)
    have HBel := Lib.hid ((((hb4.setCell (p := ⟨g, 2 * p, none⟩) hg0 (.int .u8 (a2.toNat : Int))).setCell (p := ⟨g, 2 * p + 1, none⟩) hg0 (.int .u8 (a3.toNat : Int))).setCell (p := ⟨g, 2 * r, none⟩) hg0 (.int .u8 (a.toNat : Int))).setCell (p := ⟨g, 2 * r + 1, none⟩) hg0 (.int .u8 (a1.toNat : Int)))
    have HK := Lib.hid k4
    clear hfar hex hcb ha ha1 ha2 ha3 hb4 k1 k2 k3 k4 hO4
    obtain ⟨W1, hW1⟩ : ∃ W, W = w2.setCell ⟨g, 2 * p, none⟩ (.int .u8 (a2.toNat : Int)) := ⟨_, rfl⟩
    rw [← hW1] at v3 v0 v1 z1 z2 z3 o1 o2 o3 HBel HK
    obtain ⟨W2, hW2⟩ : ∃ W, W = W1.setCell ⟨g, 2 * p + 1, none⟩ (.int .u8 (a3.toNat : Int)) := ⟨_, rfl⟩
    rw [← hW2] at v0 v1 z2 z3 o2 o3 HBel HK
    obtain ⟨W3, hW3⟩ : ∃ W, W = W2.setCell ⟨g, 2 * r, none⟩ (.int .u8 (a.toNat : Int)) := ⟨_, rfl⟩
    rw [← hW3] at v1 z3 o3 HBel HK
    obtain ⟨W4, hW4⟩ : ∃ W, W = W3.setCell ⟨g, 2 * r + 1, none⟩ (.int .u8 (a1.toNat : Int)) := ⟨_, rfl⟩
    rw [← hW4] at HBel HK
    have HW1 := Lib.hid hW1
    have HW2 := Lib.hid hW2
    have HW3 := Lib.hid hW3
    have HW4 := Lib.hid hW4
    clear hW1 hW2 hW3 hW4
    rw [Nat.add_zero] at HK ⊢
    go_upto_region 5 with (fail)
    rw [← HW1.out]
    go_upto_region 6 with (fail)
    rw [← HW2.out]
    go_upto_region 7 with (fail)
    rw [← HW3.out]
    go_upto_region 8 with (fail)
    rw [← HW4.out]
    go_wp2_with fail
    have HI2 := HI.out
    unfold swapped at HI2
    refine (Internet_any _ _ _ _ _ _ HK.out.bytes (by omega)).mono ?_
    rintro e w5 ⟨rfl, rfl⟩
    rw [HI2]
    go_wp2_with fail
    refine (Internet_any _ _ _ l _ _ (HL.out.below HBel.out) (by omega)).mono ?_
    rintro e w5 ⟨rfl, rfl⟩
    go_wp2_with fail
    refine (awake_any _).mono ?_
    rintro e w6 ⟨rfl, hb6⟩
    have HB6 := Lib.hid (HBel.out.trans (hb6.mono HBel.out.size))
    go_wp2_with fail
    go_ret
    exact ⟨rfl, HB6.out⟩
  · have hcase : q1 = true ∨ (q1 = false ∧ q2 = true) ∨ (q1 = false ∧ q2 = false ∧ q3 = true) ∨ (q1 = false ∧ q2 = false ∧ q3 = false ∧ q4 = true) ∨ (q1 = false ∧ q2 = false ∧ q3 = false ∧ q4 = false ∧ q5 = true) := by
      revert hall; revert q1 q2 q3 q4 q5; intro q1 _ q2 _ q3 _ q4 _ q5 _; cases q1 <;> cases q2 <;> cases q3 <;> cases q4 <;> cases q5 <;> simp
    clear hall
    rcases hcase with rfl | ⟨rfl, rfl⟩ | ⟨rfl, rfl, rfl⟩ | ⟨rfl, rfl, rfl, rfl⟩ | ⟨rfl, rfl, rfl, rfl, rfl⟩
    all_goals
      try have hn : n ≤ 4000 := by have := of_decide_eq_false h1; omega
      go_enter Try.func8, Try.ntmps8
      go_wp2_with (go_at_call 9; refine (awake_any _).mono ?_; rintro e w1 ⟨rfl, hb1⟩)
      go_ret
      exact ⟨rfl, hb1⟩
end Go.Proofs.Ytfomcphbclojpaa
