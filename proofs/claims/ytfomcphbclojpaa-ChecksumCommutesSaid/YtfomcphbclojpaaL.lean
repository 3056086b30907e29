/- Laws: Recovers, Cancels. -/
import Derived.Test.YtfomcphbclojpaaG
namespace Go.Proofs.Ytfomcphbclojpaa
open Go.RowKit
set_option linter.unusedVariables false

def LawPost (w : World) (e : Ending) (w' : World) : Prop := e = .returned (.bool true) ∧ Below w.heap.size w w'

set_option maxRecDepth 100000 in
theorem recovers_walk (A : Option Addr) (n cap : Nat) (l : List UInt8) (A2 : Option Addr) (n2 cap2 : Nat) (l2 : List UInt8) (w : World) (hl : Bytes w w.heap.size A n l) (hl2 : Bytes w w.heap.size A2 n2 l2) :
    Calls Try.prog 4 #[.slice A n cap, .slice A2 n2 cap2] w (LawPost w) := by
  by_cases h : 4000 < n ∨ 4000 < n2
  · rcases Nat.lt_or_ge 4000 n with h1 | h1
    · clear h
      go_enter Try.func4, Try.ntmps4
      go_wp2_with (go_at_call 9; refine (awake_any _).mono ?_; rintro e w1 ⟨rfl, hb1⟩)
      go_ret
      exact ⟨rfl, hb1⟩
    · have h2 : 4000 < n2 := by omega
      have hq : decide ((4000 : Int) < n) = false := by simp; omega
      clear h
      go_enter Try.func4, Try.ntmps4
      go_wp2_with (go_at_call 9; refine (awake_any _).mono ?_; rintro e w1 ⟨rfl, hb1⟩)
      go_ret
      exact ⟨rfl, hb1⟩
  · have h1 : n ≤ 4000 := by omega
    have h2 : n2 ≤ 4000 := by omega
    have hq : decide ((4000 : Int) < n) = false := by simp; omega
    have hq2 : decide ((4000 : Int) < n2) = false := by simp; omega
    have HL := Lib.hid hl
    have HL2 := Lib.hid hl2
    clear h hl hl2
    have HU := Lib.hid (unf_frame l l2 (by rw [HL.out.1]; omega))
    go_enter Try.func4, Try.ntmps4
    go_wp2_with fail
    refine (Frame_any _ _ _ l _ HL.out (by omega)).mono ?_
    rintro e w1 ⟨A3, c3, rfl, hO3, hb3⟩
    have HO3 := Lib.hid hO3
    have HB3 := Lib.hid hb3
    have HL3 := Lib.hid (HL2.out.below hb3)
    clear hO3 hb3
    go_wp2_with fail
    refine (join_any _ _ _ (frameL l) _ _ _ l2 _ HO3.out.bytes (HL3.out.more HB3.out.size) (by omega) (by omega)).mono ?_
    rintro e w2 ⟨A4, c4, rfl, hO4, hb4⟩
    have HO4 := Lib.hid hO4
    have HB4 := Lib.hid (HB3.out.trans (hb4.mono HB3.out.size))
    clear hO4 hb4
    go_wp2_with fail
    refine (Unframe_any _ _ _ (frameL l ++ l2) _ HO4.out.bytes HO4.out.cap (by omega)).mono ?_
    rintro e w5 ⟨A5, c5, rfl, hO5, hb5⟩
    have HB5 := Lib.hid (HB4.out.trans (hb5.mono HB4.out.size))
    rw [HU.out] at hO5 ⊢
    have hlen : l.length = n := HL.out.1
    have hcv1 := conv_bytes c5 hO5.bytes
    have hcv2 := conv_bytes cap (HL.out.below HB5.out)
    simp only [hlen] at hcv1 ⊢
    have HN := Lib.hid hlen
    clear hO5 hb5 hlen
    have heq := str_eq l l
    rw [decide_eq_true rfl] at heq
    go_wp2_with fail
    refine (awake_any _).mono ?_
    rintro e w6 ⟨rfl, hb6⟩
    have HB6 := Lib.hid (HB5.out.trans (hb6.mono HB5.out.size))
    go_wp2_with fail
    go_ret
    exact ⟨rfl, HB6.out⟩
end Go.Proofs.Ytfomcphbclojpaa
