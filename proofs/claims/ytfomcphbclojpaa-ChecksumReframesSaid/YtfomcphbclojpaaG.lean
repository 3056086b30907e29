/- The fixed results, and the laws' walks. -/
import Derived.Test.YtfomcphbclojpaaF
namespace Go.Proofs.Ytfomcphbclojpaa
open Go.RowKit
set_option linter.unusedVariables false

theorem Unframe_any (A : Option Addr) (n cap : Nat) (l : List UInt8) (w : World) (hl : Bytes w w.heap.size A n l) (hnc : n ≤ cap) (hm : n ≤ 100000) :
    Calls Try.prog 10 #[.slice A n cap] w (UnfPost w l) := by
  by_cases hn : n < 8
  · exact Unframe_short A n cap l w hl hn
  · by_cases hs : (n : Int) - 8 < num4 l
    · exact Unframe_short2 A n cap l w hl hn hnc hm hs
    · exact Unframe_rest A n cap l w hl hn hnc hm hs
theorem UnfRef_any (A : Option Addr) (n cap : Nat) (l : List UInt8) (w : World) (hl : Bytes w w.heap.size A n l) (hnc : n ≤ cap) (hm : n ≤ 100000) :
    Calls Try.prog 11 #[.slice A n cap] w (UnfPost w l) := by
  by_cases hn : n < 8
  · exact UnfRef_short A n cap l w hl hn
  · by_cases hs : (n : Int) - 8 < num4 l
    · exact UnfRef_short2 A n cap l w hl hn hnc hm hs
    · exact UnfRef_rest A n cap l w hl hn hnc hm hs
theorem u_frame : unf (frameL []) = ([], 8, 0) := by kernel_rfl
theorem u_short : unf [0, 0, 0, 9, 0, 0, 0, 0] = ([], 0, 3) := by kernel_rfl
theorem fnv_97 : fnvFrom 2166136261 [97] = 3826002220 := by kernel_rfl
theorem inet_123 : inet [1, 2, 3] = 64509 := by kernel_rfl
theorem inet_0 : inet [] = 65535 := by kernel_rfl
theorem Bytes.none_ (w : World) (B : Nat) : Bytes w B none 0 [] := ⟨rfl, Reads.none_⟩
theorem bytes_lit (W : World) (l : List UInt8) (hl : l.length ≤ 10000) : Bytes (W.alloc (.cells (l.map bv).toArray 5)) (W.alloc (.cells (l.map bv).toArray 5)).heap.size (some ⟨W.heap.size, 0, none⟩) l.length l :=
  (OwnB.new (base := 0) W l (Nat.zero_le _) (by unfold maxLen; omega)).bytes

set_option maxRecDepth 100000 in
theorem awake_any (w : World) : Calls Try.prog 9 #[] w fun e w' => e = .returned (.bool true) ∧ Below w.heap.size w w' := by
  go_enter Try.func9, Try.ntmps9
  go_wp2_with fail
  refine (Frame_any _ _ _ [] _ (Bytes.none_ _ _) (by omega)).mono ?_
  rintro e w1 ⟨A1, c1, rfl, hO1, hb1⟩
  have HO1 := Lib.hid hO1
  have HB1 := Lib.hid hb1
  clear hO1 hb1
  go_wp2_with fail
  refine (Unframe_any _ _ _ _ _ HO1.out.bytes HO1.out.cap (by omega)).mono ?_
  rintro e w2 ⟨A2, c2, rfl, hO2, hb2⟩
  have HO2 := Lib.hid hO2
  have HB2 := Lib.hid (HB1.out.trans (hb2.mono HB1.out.size))
  clear hO2 hb2 HB1
  rw [u_frame] at HO2 ⊢
  go_wp2_with fail
  refine (Unframe_any _ _ _ [0, 0, 0, 9, 0, 0, 0, 0] _ (by exact bytes_lit w2 [0, 0, 0, 9, 0, 0, 0, 0] (by decide)) (Nat.le_refl _) (by omega)).mono ?_
  rintro e w3 ⟨A3, c3, rfl, hO3, hb3⟩
  have HB3 := Lib.hid (((HB2.out.alloc HB2.out.size _).trans (hb3.mono (by have := HB2.out.size; simp; omega))))
  clear hO3 hb3 HB2
  rw [u_short]
  go_wp2_with fail
  refine (FNV1a_any _ _ _ [] _ (Bytes.none_ _ _) (by omega)).mono ?_
  rintro e w4 ⟨rfl, hb4⟩
  have HB4 := Lib.hid (HB3.out.trans (hb4.mono HB3.out.size))
  clear hb4 HB3
  rw [show fnvFrom 2166136261 [] = 2166136261 from rfl]
  go_wp2_with fail
  refine (FNV1a_any _ _ _ [97] _ (by exact bytes_lit w4 [97] (by decide)) (by omega)).mono ?_
  rintro e w5 ⟨rfl, hb5⟩
  have HB5 := Lib.hid (((HB4.out.alloc HB4.out.size _).trans (hb5.mono (by have := HB4.out.size; simp; omega))))
  clear hb5 HB4
  rw [fnv_97]
  go_wp2_with fail
  refine (Internet_any _ _ _ [1, 2, 3] _ _ (by exact bytes_lit w5 [1, 2, 3] (by decide)) (by omega)).mono ?_
  rintro e w6 ⟨rfl, rfl⟩
  have HB6 := Lib.hid (HB5.out.alloc HB5.out.size (Obj.cells #[Value.int IntKind.u8 1, Value.int IntKind.u8 2, Value.int IntKind.u8 3] 5))
  rw [inet_123]
  go_wp2_with fail
  refine (Internet_any _ _ _ [] _ _ (Bytes.none_ _ 0) (by omega)).mono ?_
  rintro e w7 ⟨rfl, rfl⟩
  rw [inet_0]
  go_wp2_with fail
  go_ret
  exact ⟨rfl, HB6.out⟩
end Go.Proofs.Ytfomcphbclojpaa
