/- Law: Reframes. -/
import Derived.Test.YtfomcphbclojpaaQ
namespace Go.Proofs.Ytfomcphbclojpaa
open Go.RowKit
set_option linter.unusedVariables false

set_option maxRecDepth 100000 in
set_option maxHeartbeats 400000 in
theorem reframes_walk (A : Option Addr) (n cap : Nat) (l : List UInt8) (w : World) (hl : Bytes w w.heap.size A n l) (hnc : n ≤ cap) :
    Calls Try.prog 5 #[.slice A n cap] w (LawPost w) := by
  by_cases h : 4000 < n
  · go_enter Try.func5, Try.ntmps5
    go_wp2_with (go_at_call 9; refine (awake_any _).mono ?_; rintro e w1 ⟨rfl, hb1⟩)
    go_ret
    exact ⟨rfl, hb1⟩
  have HL := Lib.hid hl
  clear hl
  obtain ⟨u, hu⟩ : ∃ u, unf l = u := ⟨_, rfl⟩
  obtain ⟨x, m, k⟩ := u
  obtain ⟨q, hq⟩ : ∃ q, (k != 0) = q := ⟨_, rfl⟩
  cases q
  · have hk : k = 0 := by simpa using hq
    subst hk
    obtain ⟨f1, f2, f3⟩ := frame_unf l x m hu
    have hxl : x.length + 8 = m := by
      have := congrArg List.length f3
      rw [frame_len, List.length_take] at this
      omega
    rw [HL.out.1] at f2
    obtain ⟨bb, off, rfl, hbb⟩ := HL.out.addr (show 0 < n by omega)
    have hxl8 : x.length ≤ 4000 := by omega
    clear hxl
    have HU := Lib.hid hu
    have HF := Lib.hid f3
    have HT := Lib.hid (HL.out.take f2)
    clear hu f3
    have hg8 : decide (8 ≤ (m : Int)) = true := by simp; omega
    have hgn : decide ((m : Int) ≤ n) = true := by simp; omega
    have hgn2 : decide (m ≤ n) = true := by simp; omega
    have hgc : (m : Int) ≤ cap := by omega
    go_enter Try.func5, Try.ntmps5
    go_wp2_with fail
    refine (Unframe_any _ _ _ l _ HL.out hnc (by omega)).mono ?_
    rintro e w1 ⟨A1, c1, rfl, hO1, hb1⟩
    rw [HU.out] at hO1 ⊢
    have HO1 := Lib.hid hO1
    have HB1 := Lib.hid hb1
    have HT1 := Lib.hid (HT.out.below hb1)
    clear hO1 hb1
    go_wp2_with fail
    refine wp_region_rel (fun u => Below w1.heap.size w1 u) Gone (factAt [eqv (.int .i64 (m : Int)), eqv (.bool true), eqv (.bool true), eqv (.int .i64 (m : Int)), eqv (.slice (some ⟨bb, off, none⟩) n cap), eqv (.int .i64 (n : Int)), eqv (.bool true), eqv (.bool true), eqv (.bool true), eqv (.slice A1 x.length c1), frameFact w1 x.length x, eqv (.string (str (l.take m))), eqv (.slice (some ⟨bb, off, none⟩) n cap), eqv (.int .i64 (m : Int)), eqv (.slice (some ⟨bb, off, none⟩) m cap), eqv (.string (str (l.take m))), eqv (.bool true), eqv (.bool true), eqv (.bool true), eqv (.bool true), eqv (.bool true), eqv (.bool true)]) (by kernel_rfl) (by kernel_rfl) ((Below.refl _ _).drew) (fun i v u u' => factAt_st _ i v u u') ?_ ?_
    · show Looks _ _ _ _ _ _ 0 _
      refine ⟨?_, ?_, ?_, ?_, ?_, ?_, ?_, ?_, ?_, ?_, ?_, ?_, ?_, ?_, ?_, ?_, ?_, ?_, ?_, ?_, ?_, ?_, trivial⟩
      · intro ρ y u hS hc hf hg hfree hdep
        have e4 : ρ (.tmp 4) = .int .i64 (m : Int) := hfree 4 rfl
        refine ⟨fun _ => ?_, wanted_plain rfl⟩
        clear hdep hfree
        go_simp
        exact ⟨rfl, hS, Below.refl _ _⟩
      · intro ρ y u hS hc hf hg hfree hdep
        have e28 : ρ (.tmp 28) = .int .i64 (m : Int) := (hdep 0 _ 28 rfl rfl rfl).1
        refine ⟨fun _ => ?_, wanted_plain rfl⟩
        clear hdep hfree
        go_simp
        exact ⟨rfl, hS, Below.refl _ _⟩
      · intro ρ y u hS hc hf hg hfree hdep
        have e29 : ρ (.tmp 29) = .bool true := (hdep 1 _ 29 rfl rfl rfl).1
        refine ⟨fun _ => ?_, wanted_plain rfl⟩
        clear hdep hfree
        go_simp
        exact ⟨rfl, hS, Below.refl _ _⟩
      · intro ρ y u hS hc hf hg hfree hdep
        have e4 : ρ (.tmp 4) = .int .i64 (m : Int) := hfree 4 rfl
        have hy := (hdep 2 _ 30 rfl rfl rfl).2
        rw [show ρ (.tmp 30) = .bool true from (hdep 2 _ 30 rfl rfl rfl).1] at hy
        refine ⟨fun _ => ?_, not_wanted rfl hy⟩
        clear hy hdep hfree
        go_simp
        exact ⟨rfl, hS, Below.refl _ _⟩
      · intro ρ y u hS hc hf hg hfree hdep
        have e0 : ρ (.tmp 0) = .slice (some ⟨bb, off, none⟩) n cap := hfree 0 rfl
        have hy := (hdep 2 _ 30 rfl rfl rfl).2
        rw [show ρ (.tmp 30) = .bool true from (hdep 2 _ 30 rfl rfl rfl).1] at hy
        refine ⟨fun _ => ?_, not_wanted rfl hy⟩
        clear hy hdep hfree
        go_simp
        exact ⟨rfl, hS, Below.refl _ _⟩
      · intro ρ y u hS hc hf hg hfree hdep
        have e32 : ρ (.tmp 32) = .slice (some ⟨bb, off, none⟩) n cap := (hdep 4 _ 32 rfl rfl rfl).1
        have hy := (hdep 2 _ 30 rfl rfl rfl).2
        rw [show ρ (.tmp 30) = .bool true from (hdep 2 _ 30 rfl rfl rfl).1] at hy
        refine ⟨fun _ => ?_, not_wanted rfl hy⟩
        clear hy hdep hfree
        go_simp
        exact ⟨rfl, hS, Below.refl _ _⟩
      · intro ρ y u hS hc hf hg hfree hdep
        have e31 : ρ (.tmp 31) = .int .i64 (m : Int) := (hdep 3 _ 31 rfl rfl rfl).1
        have e33 : ρ (.tmp 33) = .int .i64 (n : Int) := (hdep 5 _ 33 rfl rfl rfl).1
        have hy := (hdep 2 _ 30 rfl rfl rfl).2
        rw [show ρ (.tmp 30) = .bool true from (hdep 2 _ 30 rfl rfl rfl).1] at hy
        refine ⟨fun _ => ?_, not_wanted rfl hy⟩
        clear hy hdep hfree
        go_simp
        exact ⟨rfl, hS, Below.refl _ _⟩
      · intro ρ y u hS hc hf hg hfree hdep
        have e30 : ρ (.tmp 30) = .bool true := (hdep 2 _ 30 rfl rfl rfl).1
        have e34 : ρ (.tmp 34) = .bool true := (hdep 6 _ 34 rfl rfl rfl).1
        refine ⟨fun _ => ?_, wanted_plain rfl⟩
        clear hdep hfree
        go_simp
        exact ⟨rfl, hS, Below.refl _ _⟩
      · intro ρ y u hS hc hf hg hfree hdep
        have e35 : ρ (.tmp 35) = .bool true := (hdep 7 _ 35 rfl rfl rfl).1
        refine ⟨fun _ => ?_, wanted_plain rfl⟩
        clear hdep hfree
        go_simp
        exact ⟨rfl, hS, Below.refl _ _⟩
      · intro ρ y u hS hc hf hg hfree hdep
        have e3 : ρ (.tmp 3) = .slice A1 x.length c1 := hfree 3 rfl
        have hy := (hdep 8 _ 36 rfl rfl rfl).2
        rw [show ρ (.tmp 36) = .bool true from (hdep 8 _ 36 rfl rfl rfl).1] at hy
        refine ⟨fun _ => ?_, not_wanted rfl hy⟩
        clear hy hdep hfree
        go_simp
        exact ⟨rfl, hS, Below.refl _ _⟩
      · intro ρ y u hS hc hf hg hfree hdep
        have e37 : ρ (.tmp 37) = .slice A1 x.length c1 := (hdep 9 _ 37 rfl rfl rfl).1
        have hy := (hdep 8 _ 36 rfl rfl rfl).2
        rw [show ρ (.tmp 36) = .bool true from (hdep 8 _ 36 rfl rfl rfl).1] at hy
        refine ⟨fun _ => ?_, not_wanted rfl hy⟩
        clear hy hdep hfree
        go_simp
        refine (Frame_any _ _ _ x _ ((HO1.out.bytes.below hS).more hS.size) (by omega)).mono ?_
        rintro e u' ⟨A', c', rfl, hO, hb⟩
        exact ⟨_, rfl, ⟨A', c', rfl, hO.bytes⟩, hS.trans (hb.mono hS.size), hb⟩
      · intro ρ y u hS hc hf hg hfree hdep
        have r38 := (hdep 10 _ 38 rfl rfl rfl).1
        have hy := (hdep 8 _ 36 rfl rfl rfl).2
        rw [show ρ (.tmp 36) = .bool true from (hdep 8 _ 36 rfl rfl rfl).1] at hy
        refine ⟨fun _ => ?_, not_wanted rfl hy⟩
        clear hy hdep hfree
        obtain ⟨A', c', e38, hB⟩ := r38
        rw [HF.out] at hB
        have hcv := conv_bytes c' hB
        go_simp
        exact ⟨rfl, hS, Below.refl _ _⟩
      · intro ρ y u hS hc hf hg hfree hdep
        have e0 : ρ (.tmp 0) = .slice (some ⟨bb, off, none⟩) n cap := hfree 0 rfl
        have hy := (hdep 8 _ 36 rfl rfl rfl).2
        rw [show ρ (.tmp 36) = .bool true from (hdep 8 _ 36 rfl rfl rfl).1] at hy
        refine ⟨fun _ => ?_, not_wanted rfl hy⟩
        clear hy hdep hfree
        go_simp
        exact ⟨rfl, hS, Below.refl _ _⟩
      · intro ρ y u hS hc hf hg hfree hdep
        have e4 : ρ (.tmp 4) = .int .i64 (m : Int) := hfree 4 rfl
        have hy := (hdep 8 _ 36 rfl rfl rfl).2
        rw [show ρ (.tmp 36) = .bool true from (hdep 8 _ 36 rfl rfl rfl).1] at hy
        refine ⟨fun _ => ?_, not_wanted rfl hy⟩
        clear hy hdep hfree
        go_simp
        exact ⟨rfl, hS, Below.refl _ _⟩
      · intro ρ y u hS hc hf hg hfree hdep
        have e40 : ρ (.tmp 40) = .slice (some ⟨bb, off, none⟩) n cap := (hdep 12 _ 40 rfl rfl rfl).1
        have e41 : ρ (.tmp 41) = .int .i64 (m : Int) := (hdep 13 _ 41 rfl rfl rfl).1
        have hy := (hdep 8 _ 36 rfl rfl rfl).2
        rw [show ρ (.tmp 36) = .bool true from (hdep 8 _ 36 rfl rfl rfl).1] at hy
        refine ⟨fun _ => ?_, not_wanted rfl hy⟩
        clear hy hdep hfree
        go_simp
        exact ⟨rfl, hS, Below.refl _ _⟩
      · intro ρ y u hS hc hf hg hfree hdep
        have e42 : ρ (.tmp 42) = .slice (some ⟨bb, off, none⟩) m cap := (hdep 14 _ 42 rfl rfl rfl).1
        have hy := (hdep 8 _ 36 rfl rfl rfl).2
        rw [show ρ (.tmp 36) = .bool true from (hdep 8 _ 36 rfl rfl rfl).1] at hy
        refine ⟨fun _ => ?_, not_wanted rfl hy⟩
        clear hy hdep hfree
        have hcv := conv_bytes cap (HT1.out.below (hS.mono HB1.out.size))
        go_simp
        exact ⟨rfl, hS, Below.refl _ _⟩
      · intro ρ y u hS hc hf hg hfree hdep
        have e39 : ρ (.tmp 39) = .string (str (l.take m)) := (hdep 11 _ 39 rfl rfl rfl).1
        have e43 : ρ (.tmp 43) = .string (str (l.take m)) := (hdep 15 _ 43 rfl rfl rfl).1
        have hy := (hdep 8 _ 36 rfl rfl rfl).2
        rw [show ρ (.tmp 36) = .bool true from (hdep 8 _ 36 rfl rfl rfl).1] at hy
        refine ⟨fun _ => ?_, not_wanted rfl hy⟩
        clear hy hdep hfree
        go_simp
        exact ⟨rfl, hS, Below.refl _ _⟩
      · intro ρ y u hS hc hf hg hfree hdep
        have e36 : ρ (.tmp 36) = .bool true := (hdep 8 _ 36 rfl rfl rfl).1
        have e44 : ρ (.tmp 44) = .bool true := (hdep 16 _ 44 rfl rfl rfl).1
        refine ⟨fun _ => ?_, wanted_plain rfl⟩
        clear hdep hfree
        go_simp
        exact ⟨rfl, hS, Below.refl _ _⟩
      · intro ρ y u hS hc hf hg hfree hdep
        have e45 : ρ (.tmp 45) = .bool true := (hdep 17 _ 45 rfl rfl rfl).1
        refine ⟨fun _ => ?_, wanted_plain rfl⟩
        clear hdep hfree
        go_simp
        exact ⟨rfl, hS, Below.refl _ _⟩
      · intro ρ y u hS hc hf hg hfree hdep
        have hy := (hdep 18 _ 46 rfl rfl rfl).2
        rw [show ρ (.tmp 46) = .bool true from (hdep 18 _ 46 rfl rfl rfl).1] at hy
        refine ⟨fun _ => ?_, not_wanted rfl hy⟩
        clear hy hdep hfree
        go_simp
        refine (awake_any _).mono ?_
        rintro e u' ⟨rfl, hb⟩
        exact ⟨_, rfl, rfl, hS.trans (hb.mono hS.size), hb⟩
      · intro ρ y u hS hc hf hg hfree hdep
        have e46 : ρ (.tmp 46) = .bool true := (hdep 18 _ 46 rfl rfl rfl).1
        have e47 : ρ (.tmp 47) = .bool true := (hdep 19 _ 47 rfl rfl rfl).1
        refine ⟨fun _ => ?_, wanted_plain rfl⟩
        clear hdep hfree
        go_simp
        exact ⟨rfl, hS, Below.refl _ _⟩
      · intro ρ y u hS hc hf hg hfree hdep
        have e48 : ρ (.tmp 48) = .bool true := (hdep 20 _ 48 rfl rfl rfl).1
        refine ⟨fun _ => ?_, wanted_plain rfl⟩
        clear hdep hfree
        go_simp
        exact ⟨rfl, hS, Below.refl _ _⟩
    · intro b u hS hd hsz hold hnew
      obtain ⟨v, e2, f2⟩ := hnew 21 _ 2 rfl rfl
      have f2 : v = .bool true := f2
      subst f2
      obtain ⟨tmps, defers⟩ := b
      have hd : defers = [] := hd
      have e2 : tmps[2]? = some (Value.bool true) := e2
      subst hd
      go_wp2_with fail
      refine bodyPost_ret (v := .bool true) (by simp [results, Try.results5, go_sem, e2]) rfl ?_
      exact ⟨rfl, HB1.out.trans (hS.mono HB1.out.size)⟩
  · have hb := unf_bad l (by rw [hu]; simpa using hq)
    rw [hu] at hb
    obtain ⟨rfl, rfl⟩ := hb
    have HU := Lib.hid hu
    clear hu
    go_enter Try.func5, Try.ntmps5
    go_wp2_with fail
    refine (Unframe_any _ _ _ l _ HL.out hnc (by omega)).mono ?_
    rintro e w1 ⟨A1, c1, rfl, hO1, hb1⟩
    rw [HU.out] at hO1 ⊢
    have HB1 := Lib.hid hb1
    clear hO1 hb1
    go_wp2_with (go_at_call 9; refine (awake_any _).mono ?_; rintro e w6 ⟨rfl, hb6⟩; have HB6 := Lib.hid (HB1.out.trans (hb6.mono HB1.out.size)); clear hb6)
    go_ret
    exact ⟨rfl, HB6.out⟩
end Go.Proofs.Ytfomcphbclojpaa
