/- Law: Matches. -/
import Derived.Test.YtfomcphbclojpaaN
import Derived.Test.YtfomcphbclojpaaReg
namespace Go.Proofs.Ytfomcphbclojpaa
open Go.RowKit
set_option linter.unusedVariables false

/-- a slice of the call's own that holds the record of l: a fact that outlasts every step -/
def frameFact (w0 : World) (n : Nat) (l : List UInt8) : SFact (fun u => Below w0.heap.size w0 u) Gone :=
  ⟨fun v u => ∃ A c, v = .slice A (n + 8) c ∧ Bytes u u.heap.size A (n + 8) (frameL l), fun v w w' ⟨A, c, h1, h2⟩ hS hs => ⟨A, c, h1, (h2.below hs).more hs.size⟩⟩

set_option maxRecDepth 100000 in
set_option maxHeartbeats 400000 in
theorem matches_walk (A : Option Addr) (n cap : Nat) (l : List UInt8) (w : World) (hl : Bytes w w.heap.size A n l) (hnc : n ≤ cap) :
    Calls Try.prog 3 #[.slice A n cap] w (LawPost w) := by
  by_cases h : 4000 < n
  · go_enter Try.func3, Try.ntmps3
    go_wp2_with (go_at_call 9; refine (awake_any _).mono ?_; rintro e w1 ⟨rfl, hb1⟩)
    go_ret
    exact ⟨rfl, hb1⟩
  have HL0 := Lib.hid hl
  clear hl
  obtain ⟨u, hu⟩ : ∃ u, unf l = u := ⟨_, rfl⟩
  obtain ⟨x, m, k⟩ := u
  have HU := Lib.hid hu
  clear hu
  go_enter Try.func3, Try.ntmps3
  go_wp2_with fail
  refine (Unframe_any _ _ _ l _ HL0.out hnc (by omega)).mono ?_
  rintro e w1 ⟨A1, c1, rfl, hO1, hb1⟩
  rw [HU.out] at hO1 ⊢
  have HO1 := Lib.hid hO1
  have HB1 := Lib.hid hb1
  clear hO1 hb1
  go_wp2_with fail
  refine (UnfRef_any _ _ _ l _ ((HL0.out.below HB1.out).more HB1.out.size) hnc (by omega)).mono ?_
  rintro e w2 ⟨A2, c2, rfl, hO2, hb2⟩
  rw [HU.out] at hO2 ⊢
  have HY := Lib.hid hO2.bytes
  have HX := Lib.hid ((HO1.out.bytes.below hb2).more hb2.size)
  have HB2 := Lib.hid (HB1.out.trans (hb2.mono HB1.out.size))
  have HL := Lib.hid (((HL0.out.below HB1.out).below (hb2.mono HB1.out.size)).more HB2.out.size)
  clear hO2 hb2 HO1 HB1 HL0
  go_wp2_with fail
  refine wp_region_rel (fun u => Below w2.heap.size w2 u) Gone (factAt [eqv (.slice A n cap), eqv (.int .u32 (fnvFrom 2166136261 l)), eqv (.slice A n cap), eqv (.int .u32 (fnvFrom 2166136261 l)), eqv (.bool true), eqv (.bool true), eqv (.slice A n cap), eqv (.int .u16 (inet l)), eqv (.slice A n cap), eqv (.int .u16 (inet l)), eqv (.bool true), eqv (.bool true), eqv (.bool true), eqv (.slice A n cap), frameFact w2 n l, eqv (.string (str (frameL l))), eqv (.slice A n cap), frameFact w2 n l, eqv (.string (str (frameL l))), eqv (.bool true), eqv (.bool true), eqv (.bool true), eqv (.slice A1 x.length c1), eqv (.string (str x)), eqv (.slice A2 x.length c2), eqv (.string (str x)), eqv (.bool true), eqv (.bool true), eqv (.bool true), eqv (.int .i64 (m : Int)), eqv (.int .i64 (m : Int)), eqv (.bool true), eqv (.bool true), eqv (.bool true), eqv (.int .i64 k), eqv (.int .i64 k), eqv (.bool true), eqv (.bool true), eqv (.bool true), eqv (.bool true), eqv (.bool true), eqv (.bool true)]) (by kernel_rfl) (by kernel_rfl) ((Below.refl _ _).drew) (fun i v u u' => factAt_st _ i v u u') ?_ ?_
  · show Looks _ _ _ _ _ _ 0 _
    refine ⟨?_, ?_, ?_, ?_, ?_, ?_, ?_, ?_, ?_, ?_, ?_, ?_, ?_, ?_, ?_, ?_, ?_, ?_, ?_, ?_, ?_, ?_, ?_, ?_, ?_, ?_, ?_, ?_, ?_, ?_, ?_, ?_, ?_, ?_, ?_, ?_, ?_, ?_, ?_, ?_, ?_, ?_, trivial⟩
    · intro ρ y u hS hc hf hg hfree hdep
      have e0 : ρ (.tmp 0) = .slice A n cap := hfree 0 rfl
      refine ⟨fun _ => ?_, wanted_plain rfl⟩
      clear hdep hfree
      go_simp
      exact ⟨rfl, hS, Below.refl _ _⟩
    · intro ρ y u hS hc hf hg hfree hdep
      have e25 : ρ (.tmp 25) = .slice A n cap := (hdep 0 _ 25 rfl rfl rfl).1
      refine ⟨fun _ => ?_, wanted_plain rfl⟩
      clear hdep hfree
      go_simp
      refine (FNV1a_any _ _ _ l _ ((HL.out.below hS).more hS.size) (by omega)).mono ?_
      rintro e u' ⟨rfl, hb⟩
      exact ⟨_, rfl, rfl, hS.trans (hb.mono hS.size), hb⟩
    · intro ρ y u hS hc hf hg hfree hdep
      have e0 : ρ (.tmp 0) = .slice A n cap := hfree 0 rfl
      refine ⟨fun _ => ?_, wanted_plain rfl⟩
      clear hdep hfree
      go_simp
      exact ⟨rfl, hS, Below.refl _ _⟩
    · intro ρ y u hS hc hf hg hfree hdep
      have e27 : ρ (.tmp 27) = .slice A n cap := (hdep 2 _ 27 rfl rfl rfl).1
      refine ⟨fun _ => ?_, wanted_plain rfl⟩
      clear hdep hfree
      go_simp
      refine (FNV1a_ref _ _ _ l _ _ (HL.out.below hS) (by omega)).mono ?_
      rintro e u' ⟨rfl, rfl⟩
      exact ⟨_, rfl, rfl, hS, Below.refl _ _⟩
    · intro ρ y u hS hc hf hg hfree hdep
      have e26 : ρ (.tmp 26) = .int .u32 (fnvFrom 2166136261 l) := (hdep 1 _ 26 rfl rfl rfl).1
      have e28 : ρ (.tmp 28) = .int .u32 (fnvFrom 2166136261 l) := (hdep 3 _ 28 rfl rfl rfl).1
      refine ⟨fun _ => ?_, wanted_plain rfl⟩
      clear hdep hfree
      go_simp
      exact ⟨rfl, hS, Below.refl _ _⟩
    · intro ρ y u hS hc hf hg hfree hdep
      have e29 : ρ (.tmp 29) = .bool true := (hdep 4 _ 29 rfl rfl rfl).1
      refine ⟨fun _ => ?_, wanted_plain rfl⟩
      clear hdep hfree
      go_simp
      exact ⟨rfl, hS, Below.refl _ _⟩
    · intro ρ y u hS hc hf hg hfree hdep
      have e0 : ρ (.tmp 0) = .slice A n cap := hfree 0 rfl
      have hy := (hdep 5 _ 30 rfl rfl rfl).2
      rw [show ρ (.tmp 30) = .bool true from (hdep 5 _ 30 rfl rfl rfl).1] at hy
      refine ⟨fun _ => ?_, not_wanted rfl hy⟩
      clear hy hdep hfree
      go_simp
      exact ⟨rfl, hS, Below.refl _ _⟩
    · intro ρ y u hS hc hf hg hfree hdep
      have e31 : ρ (.tmp 31) = .slice A n cap := (hdep 6 _ 31 rfl rfl rfl).1
      have hy := (hdep 5 _ 30 rfl rfl rfl).2
      rw [show ρ (.tmp 30) = .bool true from (hdep 5 _ 30 rfl rfl rfl).1] at hy
      refine ⟨fun _ => ?_, not_wanted rfl hy⟩
      clear hy hdep hfree
      go_simp
      refine (Internet_any _ _ _ l _ _ (HL.out.below hS) (by omega)).mono ?_
      rintro e u' ⟨rfl, rfl⟩
      exact ⟨_, rfl, rfl, hS, Below.refl _ _⟩
    · intro ρ y u hS hc hf hg hfree hdep
      have e0 : ρ (.tmp 0) = .slice A n cap := hfree 0 rfl
      have hy := (hdep 5 _ 30 rfl rfl rfl).2
      rw [show ρ (.tmp 30) = .bool true from (hdep 5 _ 30 rfl rfl rfl).1] at hy
      refine ⟨fun _ => ?_, not_wanted rfl hy⟩
      clear hy hdep hfree
      go_simp
      exact ⟨rfl, hS, Below.refl _ _⟩
    · intro ρ y u hS hc hf hg hfree hdep
      have e33 : ρ (.tmp 33) = .slice A n cap := (hdep 8 _ 33 rfl rfl rfl).1
      have hy := (hdep 5 _ 30 rfl rfl rfl).2
      rw [show ρ (.tmp 30) = .bool true from (hdep 5 _ 30 rfl rfl rfl).1] at hy
      refine ⟨fun _ => ?_, not_wanted rfl hy⟩
      clear hy hdep hfree
      go_simp
      refine (Internet_ref _ _ _ l _ _ (HL.out.below hS) (by omega)).mono ?_
      rintro e u' ⟨rfl, rfl⟩
      exact ⟨_, rfl, rfl, hS, Below.refl _ _⟩
    · intro ρ y u hS hc hf hg hfree hdep
      have e32 : ρ (.tmp 32) = .int .u16 (inet l) := (hdep 7 _ 32 rfl rfl rfl).1
      have e34 : ρ (.tmp 34) = .int .u16 (inet l) := (hdep 9 _ 34 rfl rfl rfl).1
      have hy := (hdep 5 _ 30 rfl rfl rfl).2
      rw [show ρ (.tmp 30) = .bool true from (hdep 5 _ 30 rfl rfl rfl).1] at hy
      refine ⟨fun _ => ?_, not_wanted rfl hy⟩
      clear hy hdep hfree
      go_simp
      exact ⟨rfl, hS, Below.refl _ _⟩
    · intro ρ y u hS hc hf hg hfree hdep
      have e30 : ρ (.tmp 30) = .bool true := (hdep 5 _ 30 rfl rfl rfl).1
      have e35 : ρ (.tmp 35) = .bool true := (hdep 10 _ 35 rfl rfl rfl).1
      refine ⟨fun _ => ?_, wanted_plain rfl⟩
      clear hdep hfree
      go_simp
      exact ⟨rfl, hS, Below.refl _ _⟩
    · intro ρ y u hS hc hf hg hfree hdep
      have e36 : ρ (.tmp 36) = .bool true := (hdep 11 _ 36 rfl rfl rfl).1
      refine ⟨fun _ => ?_, wanted_plain rfl⟩
      clear hdep hfree
      go_simp
      exact ⟨rfl, hS, Below.refl _ _⟩
    · intro ρ y u hS hc hf hg hfree hdep
      have e0 : ρ (.tmp 0) = .slice A n cap := hfree 0 rfl
      have hy := (hdep 12 _ 37 rfl rfl rfl).2
      rw [show ρ (.tmp 37) = .bool true from (hdep 12 _ 37 rfl rfl rfl).1] at hy
      refine ⟨fun _ => ?_, not_wanted rfl hy⟩
      clear hy hdep hfree
      go_simp
      exact ⟨rfl, hS, Below.refl _ _⟩
    · intro ρ y u hS hc hf hg hfree hdep
      have e38 : ρ (.tmp 38) = .slice A n cap := (hdep 13 _ 38 rfl rfl rfl).1
      have hy := (hdep 12 _ 37 rfl rfl rfl).2
      rw [show ρ (.tmp 37) = .bool true from (hdep 12 _ 37 rfl rfl rfl).1] at hy
      refine ⟨fun _ => ?_, not_wanted rfl hy⟩
      clear hy hdep hfree
      go_simp
      refine (Frame_any _ _ _ l _ ((HL.out.below hS).more hS.size) (by omega)).mono ?_
      rintro e u' ⟨A', c', rfl, hO, hb⟩
      exact ⟨_, rfl, ⟨A', c', rfl, hO.bytes⟩, hS.trans (hb.mono hS.size), hb⟩
    · intro ρ y u hS hc hf hg hfree hdep
      have r39 := (hdep 14 _ 39 rfl rfl rfl).1
      have hy := (hdep 12 _ 37 rfl rfl rfl).2
      rw [show ρ (.tmp 37) = .bool true from (hdep 12 _ 37 rfl rfl rfl).1] at hy
      refine ⟨fun _ => ?_, not_wanted rfl hy⟩
      clear hy hdep hfree
      obtain ⟨A', c', e39, hB⟩ := r39
      have hcv := conv_bytes c' hB
      go_simp
      exact ⟨rfl, hS, Below.refl _ _⟩
    · intro ρ y u hS hc hf hg hfree hdep
      have e0 : ρ (.tmp 0) = .slice A n cap := hfree 0 rfl
      have hy := (hdep 12 _ 37 rfl rfl rfl).2
      rw [show ρ (.tmp 37) = .bool true from (hdep 12 _ 37 rfl rfl rfl).1] at hy
      refine ⟨fun _ => ?_, not_wanted rfl hy⟩
      clear hy hdep hfree
      go_simp
      exact ⟨rfl, hS, Below.refl _ _⟩
    · intro ρ y u hS hc hf hg hfree hdep
      have e41 : ρ (.tmp 41) = .slice A n cap := (hdep 16 _ 41 rfl rfl rfl).1
      have hy := (hdep 12 _ 37 rfl rfl rfl).2
      rw [show ρ (.tmp 37) = .bool true from (hdep 12 _ 37 rfl rfl rfl).1] at hy
      refine ⟨fun _ => ?_, not_wanted rfl hy⟩
      clear hy hdep hfree
      go_simp
      refine (Frame_ref _ _ _ l _ ((HL.out.below hS).more hS.size) (by omega)).mono ?_
      rintro e u' ⟨A', c', rfl, hO, hb⟩
      exact ⟨_, rfl, ⟨A', c', rfl, hO.bytes⟩, hS.trans (hb.mono hS.size), hb⟩
    · intro ρ y u hS hc hf hg hfree hdep
      have r42 := (hdep 17 _ 42 rfl rfl rfl).1
      have hy := (hdep 12 _ 37 rfl rfl rfl).2
      rw [show ρ (.tmp 37) = .bool true from (hdep 12 _ 37 rfl rfl rfl).1] at hy
      refine ⟨fun _ => ?_, not_wanted rfl hy⟩
      clear hy hdep hfree
      obtain ⟨A', c', e42, hB⟩ := r42
      have hcv := conv_bytes c' hB
      go_simp
      exact ⟨rfl, hS, Below.refl _ _⟩
    · intro ρ y u hS hc hf hg hfree hdep
      have e40 : ρ (.tmp 40) = .string (str (frameL l)) := (hdep 15 _ 40 rfl rfl rfl).1
      have e43 : ρ (.tmp 43) = .string (str (frameL l)) := (hdep 18 _ 43 rfl rfl rfl).1
      have hy := (hdep 12 _ 37 rfl rfl rfl).2
      rw [show ρ (.tmp 37) = .bool true from (hdep 12 _ 37 rfl rfl rfl).1] at hy
      refine ⟨fun _ => ?_, not_wanted rfl hy⟩
      clear hy hdep hfree
      go_simp
      exact ⟨rfl, hS, Below.refl _ _⟩
    · intro ρ y u hS hc hf hg hfree hdep
      have e37 : ρ (.tmp 37) = .bool true := (hdep 12 _ 37 rfl rfl rfl).1
      have e44 : ρ (.tmp 44) = .bool true := (hdep 19 _ 44 rfl rfl rfl).1
      refine ⟨fun _ => ?_, wanted_plain rfl⟩
      clear hdep hfree
      go_simp
      exact ⟨rfl, hS, Below.refl _ _⟩
    · intro ρ y u hS hc hf hg hfree hdep
      have e45 : ρ (.tmp 45) = .bool true := (hdep 20 _ 45 rfl rfl rfl).1
      refine ⟨fun _ => ?_, wanted_plain rfl⟩
      clear hdep hfree
      go_simp
      exact ⟨rfl, hS, Below.refl _ _⟩
    · intro ρ y u hS hc hf hg hfree hdep
      have e3 : ρ (.tmp 3) = .slice A1 x.length c1 := hfree 3 rfl
      have hy := (hdep 21 _ 46 rfl rfl rfl).2
      rw [show ρ (.tmp 46) = .bool true from (hdep 21 _ 46 rfl rfl rfl).1] at hy
      refine ⟨fun _ => ?_, not_wanted rfl hy⟩
      clear hy hdep hfree
      go_simp
      exact ⟨rfl, hS, Below.refl _ _⟩
    · intro ρ y u hS hc hf hg hfree hdep
      have e47 : ρ (.tmp 47) = .slice A1 x.length c1 := (hdep 22 _ 47 rfl rfl rfl).1
      have hy := (hdep 21 _ 46 rfl rfl rfl).2
      rw [show ρ (.tmp 46) = .bool true from (hdep 21 _ 46 rfl rfl rfl).1] at hy
      refine ⟨fun _ => ?_, not_wanted rfl hy⟩
      clear hy hdep hfree
      have hcv := conv_bytes c1 (HX.out.below hS)
      go_simp
      exact ⟨rfl, hS, Below.refl _ _⟩
    · intro ρ y u hS hc hf hg hfree hdep
      have e6 : ρ (.tmp 6) = .slice A2 x.length c2 := hfree 6 rfl
      have hy := (hdep 21 _ 46 rfl rfl rfl).2
      rw [show ρ (.tmp 46) = .bool true from (hdep 21 _ 46 rfl rfl rfl).1] at hy
      refine ⟨fun _ => ?_, not_wanted rfl hy⟩
      clear hy hdep hfree
      go_simp
      exact ⟨rfl, hS, Below.refl _ _⟩
    · intro ρ y u hS hc hf hg hfree hdep
      have e49 : ρ (.tmp 49) = .slice A2 x.length c2 := (hdep 24 _ 49 rfl rfl rfl).1
      have hy := (hdep 21 _ 46 rfl rfl rfl).2
      rw [show ρ (.tmp 46) = .bool true from (hdep 21 _ 46 rfl rfl rfl).1] at hy
      refine ⟨fun _ => ?_, not_wanted rfl hy⟩
      clear hy hdep hfree
      have hcv := conv_bytes c2 (HY.out.below hS)
      go_simp
      exact ⟨rfl, hS, Below.refl _ _⟩
    · intro ρ y u hS hc hf hg hfree hdep
      have e48 : ρ (.tmp 48) = .string (str x) := (hdep 23 _ 48 rfl rfl rfl).1
      have e50 : ρ (.tmp 50) = .string (str x) := (hdep 25 _ 50 rfl rfl rfl).1
      have hy := (hdep 21 _ 46 rfl rfl rfl).2
      rw [show ρ (.tmp 46) = .bool true from (hdep 21 _ 46 rfl rfl rfl).1] at hy
      refine ⟨fun _ => ?_, not_wanted rfl hy⟩
      clear hy hdep hfree
      go_simp
      exact ⟨rfl, hS, Below.refl _ _⟩
    · intro ρ y u hS hc hf hg hfree hdep
      have e46 : ρ (.tmp 46) = .bool true := (hdep 21 _ 46 rfl rfl rfl).1
      have e51 : ρ (.tmp 51) = .bool true := (hdep 26 _ 51 rfl rfl rfl).1
      refine ⟨fun _ => ?_, wanted_plain rfl⟩
      clear hdep hfree
      go_simp
      exact ⟨rfl, hS, Below.refl _ _⟩
    · intro ρ y u hS hc hf hg hfree hdep
      have e52 : ρ (.tmp 52) = .bool true := (hdep 27 _ 52 rfl rfl rfl).1
      refine ⟨fun _ => ?_, wanted_plain rfl⟩
      clear hdep hfree
      go_simp
      exact ⟨rfl, hS, Below.refl _ _⟩
    · intro ρ y u hS hc hf hg hfree hdep
      have e4 : ρ (.tmp 4) = .int .i64 (m : Int) := hfree 4 rfl
      have hy := (hdep 28 _ 53 rfl rfl rfl).2
      rw [show ρ (.tmp 53) = .bool true from (hdep 28 _ 53 rfl rfl rfl).1] at hy
      refine ⟨fun _ => ?_, not_wanted rfl hy⟩
      clear hy hdep hfree
      go_simp
      exact ⟨rfl, hS, Below.refl _ _⟩
    · intro ρ y u hS hc hf hg hfree hdep
      have e7 : ρ (.tmp 7) = .int .i64 (m : Int) := hfree 7 rfl
      have hy := (hdep 28 _ 53 rfl rfl rfl).2
      rw [show ρ (.tmp 53) = .bool true from (hdep 28 _ 53 rfl rfl rfl).1] at hy
      refine ⟨fun _ => ?_, not_wanted rfl hy⟩
      clear hy hdep hfree
      go_simp
      exact ⟨rfl, hS, Below.refl _ _⟩
    · intro ρ y u hS hc hf hg hfree hdep
      have e54 : ρ (.tmp 54) = .int .i64 (m : Int) := (hdep 29 _ 54 rfl rfl rfl).1
      have e55 : ρ (.tmp 55) = .int .i64 (m : Int) := (hdep 30 _ 55 rfl rfl rfl).1
      have hy := (hdep 28 _ 53 rfl rfl rfl).2
      rw [show ρ (.tmp 53) = .bool true from (hdep 28 _ 53 rfl rfl rfl).1] at hy
      refine ⟨fun _ => ?_, not_wanted rfl hy⟩
      clear hy hdep hfree
      go_simp
      exact ⟨rfl, hS, Below.refl _ _⟩
    · intro ρ y u hS hc hf hg hfree hdep
      have e53 : ρ (.tmp 53) = .bool true := (hdep 28 _ 53 rfl rfl rfl).1
      have e56 : ρ (.tmp 56) = .bool true := (hdep 31 _ 56 rfl rfl rfl).1
      refine ⟨fun _ => ?_, wanted_plain rfl⟩
      clear hdep hfree
      go_simp
      exact ⟨rfl, hS, Below.refl _ _⟩
    · intro ρ y u hS hc hf hg hfree hdep
      have e57 : ρ (.tmp 57) = .bool true := (hdep 32 _ 57 rfl rfl rfl).1
      refine ⟨fun _ => ?_, wanted_plain rfl⟩
      clear hdep hfree
      go_simp
      exact ⟨rfl, hS, Below.refl _ _⟩
    · intro ρ y u hS hc hf hg hfree hdep
      have e5 : ρ (.tmp 5) = .int .i64 k := hfree 5 rfl
      have hy := (hdep 33 _ 58 rfl rfl rfl).2
      rw [show ρ (.tmp 58) = .bool true from (hdep 33 _ 58 rfl rfl rfl).1] at hy
      refine ⟨fun _ => ?_, not_wanted rfl hy⟩
      clear hy hdep hfree
      go_simp
      exact ⟨rfl, hS, Below.refl _ _⟩
    · intro ρ y u hS hc hf hg hfree hdep
      have e8 : ρ (.tmp 8) = .int .i64 k := hfree 8 rfl
      have hy := (hdep 33 _ 58 rfl rfl rfl).2
      rw [show ρ (.tmp 58) = .bool true from (hdep 33 _ 58 rfl rfl rfl).1] at hy
      refine ⟨fun _ => ?_, not_wanted rfl hy⟩
      clear hy hdep hfree
      go_simp
      exact ⟨rfl, hS, Below.refl _ _⟩
    · intro ρ y u hS hc hf hg hfree hdep
      have e59 : ρ (.tmp 59) = .int .i64 k := (hdep 34 _ 59 rfl rfl rfl).1
      have e60 : ρ (.tmp 60) = .int .i64 k := (hdep 35 _ 60 rfl rfl rfl).1
      have hy := (hdep 33 _ 58 rfl rfl rfl).2
      rw [show ρ (.tmp 58) = .bool true from (hdep 33 _ 58 rfl rfl rfl).1] at hy
      refine ⟨fun _ => ?_, not_wanted rfl hy⟩
      clear hy hdep hfree
      go_simp
      exact ⟨rfl, hS, Below.refl _ _⟩
    · intro ρ y u hS hc hf hg hfree hdep
      have e58 : ρ (.tmp 58) = .bool true := (hdep 33 _ 58 rfl rfl rfl).1
      have e61 : ρ (.tmp 61) = .bool true := (hdep 36 _ 61 rfl rfl rfl).1
      refine ⟨fun _ => ?_, wanted_plain rfl⟩
      clear hdep hfree
      go_simp
      exact ⟨rfl, hS, Below.refl _ _⟩
    · intro ρ y u hS hc hf hg hfree hdep
      have e62 : ρ (.tmp 62) = .bool true := (hdep 37 _ 62 rfl rfl rfl).1
      refine ⟨fun _ => ?_, wanted_plain rfl⟩
      clear hdep hfree
      go_simp
      exact ⟨rfl, hS, Below.refl _ _⟩
    · intro ρ y u hS hc hf hg hfree hdep
      have hy := (hdep 38 _ 63 rfl rfl rfl).2
      rw [show ρ (.tmp 63) = .bool true from (hdep 38 _ 63 rfl rfl rfl).1] at hy
      refine ⟨fun _ => ?_, not_wanted rfl hy⟩
      clear hy hdep hfree
      go_simp
      refine (awake_any _).mono ?_
      rintro e u' ⟨rfl, hb⟩
      exact ⟨_, rfl, rfl, hS.trans (hb.mono hS.size), hb⟩
    · intro ρ y u hS hc hf hg hfree hdep
      have e63 : ρ (.tmp 63) = .bool true := (hdep 38 _ 63 rfl rfl rfl).1
      have e64 : ρ (.tmp 64) = .bool true := (hdep 39 _ 64 rfl rfl rfl).1
      refine ⟨fun _ => ?_, wanted_plain rfl⟩
      clear hdep hfree
      go_simp
      exact ⟨rfl, hS, Below.refl _ _⟩
    · intro ρ y u hS hc hf hg hfree hdep
      have e65 : ρ (.tmp 65) = .bool true := (hdep 40 _ 65 rfl rfl rfl).1
      refine ⟨fun _ => ?_, wanted_plain rfl⟩
      clear hdep hfree
      go_simp
      exact ⟨rfl, hS, Below.refl _ _⟩
  · intro b u hS hd hsz hold hnew
    obtain ⟨v, e2, f2⟩ := hnew 41 _ 2 rfl rfl
    have f2 : v = .bool true := f2
    subst f2
    obtain ⟨tmps, defers⟩ := b
    have hd : defers = [] := hd
    have e2 : tmps[2]? = some (Value.bool true) := e2
    subst hd
    go_wp2_with fail
    refine bodyPost_ret (v := .bool true) (by simp [results, Try.results3, go_sem, e2]) rfl ?_
    exact ⟨rfl, HB2.out.trans (hS.mono HB2.out.size)⟩
end Go.Proofs.Ytfomcphbclojpaa
