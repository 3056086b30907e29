/- Law: Detects. -/
import Derived.Test.YtfomcphbclojpaaN
namespace Go.Proofs.Ytfomcphbclojpaa
open Go.RowKit
set_option linter.unusedVariables false

set_option maxRecDepth 100000 in
theorem detects_walk (A : Option Addr) (n cap : Nat) (l : List UInt8) (at_ : Int) (by_ : UInt8) (w : World) (hl : Bytes w w.heap.size A n l) (hi0 : -9223372036854775808 ≤ at_) (hi1 : at_ ≤ 9223372036854775807) :
    Calls Try.prog 6 #[.slice A n cap, .int .i64 at_, .int .u8 (by_.toNat : Int)] w (LawPost w) := by
  obtain ⟨q1, h1⟩ : ∃ q, decide ((4000 : Int) < n) = q := ⟨_, rfl⟩
  cases q1
  case true =>
    go_enter Try.func6, Try.ntmps6
    go_wp2_with (go_at_call 9; refine (awake_any _).mono ?_; rintro e w1 ⟨rfl, hb1⟩)
    go_ret
    exact ⟨rfl, hb1⟩
  have hn : n ≤ 4000 := by have := of_decide_eq_false h1; omega
  have HL := Lib.hid hl
  clear hl
  obtain ⟨q2, h2⟩ : ∃ q, decide (at_ < 4) = q := ⟨_, rfl⟩
  obtain ⟨q3, h3⟩ : ∃ q, decide ((n : Int) + 8 ≤ at_) = q := ⟨_, rfl⟩
  obtain ⟨q4, h4⟩ : ∃ q, ((by_.toNat : Int) == 0) = q := ⟨_, rfl⟩
  have hneq : (((n : Int) + 8) != (n : Int) + 8) = false := by simp
  by_cases hall : q2 = false ∧ q3 = false ∧ q4 = false
  · obtain ⟨rfl, rfl, rfl⟩ := hall
    have g2 := of_decide_eq_false h2
    have g3 := of_decide_eq_false h3
    obtain ⟨p, rfl⟩ : ∃ p : Nat, at_ = p := ⟨at_.toNat, by omega⟩
    have hp4 : 4 ≤ p := by omega
    have hpn : p < n + 8 := by omega
    have hby : by_ ≠ 0 := by rintro rfl; simp at h4
    have hfl : (frameL l).length = n + 8 := by rw [frame_len, HL.out.1]
    obtain ⟨c, hc⟩ : ∃ c, (frameL l)[p]? = some c := ⟨_, List.getElem?_eq_getElem (by omega)⟩
    have hcl := u8_lt c
    have hbl := u8_lt by_
    have hx : bits BinOp.xor IntKind.u8 (c.toNat : Int) (by_.toNat : Int) = ((c ^^^ by_).toNat : Int) := by
      rw [u8_xor _ _ (by omega) (by omega) (by omega) (by omega), UInt8.toNat_xor]; rfl
    have hne : c ^^^ by_ ≠ c := by
      intro h
      apply hby
      have := congrArg (fun z => c ^^^ z) h
      simpa [← UInt8.xor_assoc] using this
    have HU := Lib.hid (unf_changed l (by rw [HL.out.1]; omega) p c (c ^^^ by_) hp4 hc hne)
    have HC := Lib.hid hc
    clear g2 g3 hi0 hi1 hby hfl hc hne
    have hpn2 : (p : Int) < n + 8 := by omega
    go_enter Try.func6, Try.ntmps6
    go_wp2_with fail
    refine (Frame_any _ _ _ l _ HL.out (by omega)).mono ?_
    rintro e w1 ⟨A3, c3, rfl, hO3, hb3⟩
    have HO3 := Lib.hid hO3
    have HB3 := Lib.hid hb3
    clear hO3 hb3
    go_wp2_with fail
    refine (join_any _ _ _ (frameL l) _ _ _ [] _ HO3.out.bytes (Bytes.none_ _ _) (by omega) (by omega)).mono ?_
    rintro e w2 ⟨A4, c4, rfl, hO4, hb4⟩
    rw [List.append_nil, Nat.add_zero] at hO4
    rw [Nat.add_zero]
    obtain ⟨g, rfl, hg0, hg1⟩ := hO4.addr (by omega)
    have hcell := hO4.cellAt HC.out
    have hfz := hO4.frozenAt p
    have HO4 := Lib.hid (hO4.stored p (c ^^^ by_))
    have HB4 := Lib.hid ((HB3.out.trans (hb4.mono HB3.out.size)).setCell (p := ⟨g, p, none⟩) (by have := HB3.out.size; show w.heap.size ≤ g; omega) (.int .u8 ((c ^^^ by_).toNat : Int)))
    clear hO4 hb4
    go_wp2_with fail
    refine (Unframe_any _ _ _ _ _ HO4.out.bytes HO4.out.cap (by omega)).mono ?_
    rintro e w5 ⟨A5, c5, rfl, hO5, hb5⟩
    have HB5 := Lib.hid (HB4.out.trans (hb5.mono HB4.out.size))
    clear hO5 hb5
    rw [HU.out]
    go_wp2_with fail
    refine (awake_any _).mono ?_
    rintro e w6 ⟨rfl, hb6⟩
    have HB6 := Lib.hid (HB5.out.trans (hb6.mono HB5.out.size))
    go_wp2_with fail
    go_ret
    exact ⟨rfl, HB6.out⟩
  · have hcase : q2 = true ∨ (q2 = false ∧ q3 = true) ∨ (q2 = false ∧ q3 = false ∧ q4 = true) := by
      revert hall; clear h2 h3 h4; cases q2 <;> cases q3 <;> cases q4 <;> simp
    clear hall
    rcases hcase with rfl | ⟨rfl, rfl⟩ | ⟨rfl, rfl, rfl⟩
    all_goals
      go_enter Try.func6, Try.ntmps6
      go_wp2_with fail
      refine (Frame_any _ _ _ l _ HL.out (by omega)).mono ?_
      rintro e w1 ⟨A3, c3, rfl, hO3, hb3⟩
      have HO3 := Lib.hid hO3
      have HB3 := Lib.hid hb3
      clear hO3 hb3
      go_wp2_with fail
      refine (join_any _ _ _ (frameL l) _ _ _ [] _ HO3.out.bytes (Bytes.none_ _ _) (by omega) (by omega)).mono ?_
      rintro e w2 ⟨A4, c4, rfl, hO4, hb4⟩
      have HB4 := Lib.hid (HB3.out.trans (hb4.mono HB3.out.size))
      clear hO4 hb4
      rw [Nat.add_zero]
      go_wp2_with (go_at_call 9; refine (awake_any _).mono ?_; rintro e w6 ⟨rfl, hb6⟩; have HB6 := Lib.hid (HB4.out.trans (hb6.mono HB4.out.size)); clear hb6)
      go_ret
      exact ⟨rfl, HB6.out⟩

end Go.Proofs.Ytfomcphbclojpaa
