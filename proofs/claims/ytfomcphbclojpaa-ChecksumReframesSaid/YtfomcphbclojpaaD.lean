/- Contracts of Unframe. -/
import Derived.Test.YtfomcphbclojpaaC
namespace Go.Proofs.Ytfomcphbclojpaa
open Go.RowKit
set_option linter.unusedVariables false

def UnfPost (w : World) (l : List UInt8) (e : Ending) (w' : World) : Prop :=
  ∃ A' c', e = .returned (.tuple #[.slice A' (unf l).1.length c', .int .i64 (unf l).2.1, .int .i64 (unf l).2.2]) ∧ OwnB w' w.heap.size A' (unf l).1.length c' (unf l).1 ∧ Below w.heap.size w w'
theorem UnfPost.none_ {w w' : World} {l : List UInt8} {k : Int} (h : unf l = ([], 0, k)) (hb : Below w.heap.size w w') : UnfPost w l (.returned (.tuple #[.slice none 0 0, .int .i64 0, .int .i64 k])) w' := by
  unfold UnfPost
  rw [h]
  exact ⟨none, 0, rfl, OwnB.none_ _ _, hb⟩

theorem UnfPost.some_ {w w' : World} {l b : List UInt8} {k m : Nat} {A' : Option Addr} {c' : Nat} (h : unf l = (b, k, 0)) (hm : b.length = m) (hO : OwnB w' w.heap.size A' m c' b) (hb : Below w.heap.size w w') : UnfPost w l (.returned (.tuple #[.slice A' m c', .int .i64 k, .int .i64 0])) w' := by
  unfold UnfPost
  rw [h]
  subst hm
  exact ⟨A', c', rfl, hO, hb⟩

set_option maxRecDepth 100000 in
theorem Unframe_short (A : Option Addr) (n cap : Nat) (l : List UInt8) (w : World) (hl : Bytes w w.heap.size A n l) (hn : n < 8) :
    Calls Try.prog 10 #[.slice A n cap] w (UnfPost w l) := by
  have HU := Lib.hid (show unf l = ([], 0, 3) by unfold unf; rw [if_pos (by rw [hl.1]; omega)])
  go_enter Try.func10, Try.ntmps10
  go_wp2_with fail
  go_ret3
  exact UnfPost.none_ HU.out (Below.refl _ _)

set_option maxRecDepth 100000 in
theorem Unframe_short2 (A : Option Addr) (n cap : Nat) (l : List UInt8) (w : World) (hl : Bytes w w.heap.size A n l) (hn : ¬ n < 8) (hnc : n ≤ cap) (hm : n ≤ 100000) (hs : (n : Int) - 8 < num4 l) :
    Calls Try.prog 10 #[.slice A n cap] w (UnfPost w l) := by
  have HU := Lib.hid (show unf l = ([], 0, 3) by unfold unf; rw [if_neg (by rw [hl.1]; omega), if_pos (by rw [hl.1]; omega)])
  obtain ⟨hb0, hb1⟩ := num4_bd l
  have HL := Lib.hid hl
  clear hl
  go_enter Try.func10, Try.ntmps10
  go_wp2_with (go_at_call 19; refine (number_any _ _ _ l _ _ HL.out (by omega) hnc (by omega)).mono ?_; rintro e w' ⟨rfl, rfl⟩)
  go_ret3
  exact UnfPost.none_ HU.out (Below.refl _ _)

set_option maxRecDepth 100000 in
theorem Unframe_rest (A : Option Addr) (n cap : Nat) (l : List UInt8) (w : World) (hl : Bytes w w.heap.size A n l) (hn : ¬ n < 8) (hnc : n ≤ cap) (hm : n ≤ 100000) (hs : ¬ (n : Int) - 8 < num4 l) :
    Calls Try.prog 10 #[.slice A n cap] w (UnfPost w l) := by
  obtain ⟨hb0, hb1⟩ := num4_bd l
  obtain ⟨b, off, rfl, hbb⟩ := hl.addr (by omega)
  obtain ⟨k, hk⟩ : ∃ k : Nat, num4 l = k := ⟨(num4 l).toNat, by omega⟩
  have HU := Lib.hid (show unf l = if fnvFrom 2166136261 (l.take (4 + k)) = num4 (l.drop (4 + k)) then ((l.drop 4).take k, 4 + k + 4, 0) else ([], 0, 24) by unfold unf; rw [if_neg (by rw [hl.1]; omega), if_neg (by rw [hl.1]; omega), hk]; rfl)
  have HK := Lib.hid hk
  rw [hk] at hs hb0 hb1
  have hkn : k + 8 ≤ n := by omega
  clear hs hb0 hb1
  have HL := Lib.hid hl
  have HT := Lib.hid (hl.take (show 4 + k ≤ n by omega))
  have HD := Lib.hid (hl.drop (show 4 + k ≤ n by omega))
  have HX := Lib.hid ((hl.drop (show 4 ≤ n by omega)).take (show k ≤ n - 4 by omega))
  clear hl hk
  obtain ⟨q, hq⟩ : ∃ q, (fnvFrom 2166136261 (l.take (4 + k)) != num4 (l.drop (4 + k))) = q := ⟨_, rfl⟩
  have HU2 : Hid (unf l = if q then ([], 0, 24) else ((l.drop 4).take k, 4 + k + 4, 0)) := by
    unfold Hid
    rw [HU.out, ← hq]
    by_cases h : fnvFrom 2166136261 (l.take (4 + k)) = num4 (l.drop (4 + k))
    · rw [if_pos h, if_neg (by simp [h])]
    · rw [if_neg h, if_pos (by simpa using h)]
  clear HU
  have hlo : (0 : Int) ≤ 4 + k := by omega
  have hhi : (4 + k : Int) ≤ cap := by omega
  have hhi2 : (4 + k : Int) ≤ n := by omega
  have ht : ((4 : Int) + k).toNat = 4 + k := by omega
  cases q
  all_goals
    go_enter Try.func10, Try.ntmps10
    go_wp2_with fail
    refine (number_any _ _ _ l _ _ HL.out (by omega) hnc (by omega)).mono ?_; rintro e w' ⟨rfl, rfl⟩
    rw [HK.out]
    clear HK
    go_wp2_with fail
    go_region_with (first
      | (go_at_call 12; refine (FNV1a_any _ _ _ (l.take (4 + k)) _ (show Bytes (World.drew w) _ _ _ _ from HT.out) (by omega)).mono ?_; rintro e w2 ⟨rfl, hb2⟩; have HB2 := Lib.hid (undrew hb2); clear hb2)
      | (go_at_call 19; refine (number_any _ _ _ (l.drop (4 + k)) w.heap.size _ (by first | exact HD.out | exact HD.out.below HB2.out) (by omega) (by omega) (by omega)).mono ?_; rintro e w' ⟨rfl, rfl⟩))
    all_goals go_wp2_with (go_at_call 20; refine (Clone_any b (off + 4) k _ ((l.drop 4).take k) _ ((HX.out.below HB2.out).more HB2.out.size) (by omega)).mono ?_; rintro e w3 ⟨A3, c3, rfl, hO3, hb3⟩; have HO3 := Lib.hid hO3; have HB3 := Lib.hid hb3; clear hO3 hb3)
    all_goals first
      | (go_ret3; exact UnfPost.none_ HU2.out HB2.out)
      | (go_ret3; exact UnfPost.some_ HU2.out HX.out.1 ⟨HO3.out.1, HO3.out.2.rebase HB2.out.size⟩ (HB2.out.trans (HB3.out.mono HB2.out.size)))
end Go.Proofs.Ytfomcphbclojpaa
