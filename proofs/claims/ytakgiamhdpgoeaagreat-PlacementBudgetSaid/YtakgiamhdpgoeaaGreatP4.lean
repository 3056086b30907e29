/- Lemmas. -/
import Derived.Test.YtakgiamhdpgoeaaGreatP3
set_option linter.unusedSimpArgs false
namespace Go.Proofs.YtakgiamhdpgoeaaGreat
open Go.RowKit
set_option linter.unusedVariables false
abbrev actV (a : ActD) : Value := .agg #[.string a.name, .slice a.params.a a.params.l.length a.params.c, .slice a.body.a a.body.l.length a.body.c]
set_option maxRecDepth 100000 in
set_option maxHeartbeats 2000000 in
theorem decl_any (a : ActD) (w : World) (hR : ActD.ok w w.heap.size a) :
  Calls Tryz.prog 82 #[actV a] w fun e w' => e = .returned (.int .i64 (znc a)) ∧ Below w.heap.size w w' := by
 obtain ⟨N, hN⟩ : ∃ N, N = w.heap.size := ⟨_, rfl⟩
 have HN := Hd hN
 have HF := Hd hR.params
 have hnm := hR.nm
 have hblen := hR.body.len
 obtain ⟨nm, ⟨fa, fc, fl⟩, ⟨ba, bc, bl⟩⟩ := a
 have hlen := HF.out.len
 unfold actV
 simp only at HF hnm hlen hblen ⊢
 rw [← hN]
 have HNm := Hd hnm
 obtain ⟨q1, h1⟩ : ∃ q, ident nm = q := ⟨_, rfl⟩
 have H1 := Hd h1
 clear hR hN hnm h1
 go_enter Tryz.func82, Tryz.ntmps82
 go_wp2_with fail
 rw [← HN.out]
 obtain ⟨W1, hW1⟩ : ∃ U, U = w.alloc (.cells #[.string nm, .slice fa fl.length fc, .slice ba bl.length bc] 96) := ⟨_, rfl⟩
 rw [← hW1]
 have HB1 := Hd (show Below N w W1 by rw [hW1, HN.out]; exact (Below.refl _ _).alloc (Nat.le_refl _) _)
 have HK1 := Hd (show Blk W1 N 96 #[.string nm, .slice fa fl.length fc, .slice ba bl.length bc] by rw [hW1, HN.out]; exact Blk.new _ _ _)
 have HS1 := Hd (show W1.heap.size = N + 1 by rw [hW1, HN.out]; simp)
 have k0 : W1.cell? ⟨N, 0, none⟩ = some (.string nm) := HK1.out.cell 0
 have k1 : W1.cell? ⟨N, 1, none⟩ = some (.slice fa fl.length fc) := HK1.out.cell 1
 have k2 : W1.cell? ⟨N, 2, none⟩ = some (.slice ba bl.length bc) := HK1.out.cell 2
 clear hW1
 refine (zGa nm HNm.out W1).mono ?_
 rintro e w1 ⟨rfl, hw1⟩
 subst hw1
 rw [H1.out]
 cases q1
 ·go_wp2_with fail
  go_ret
  exact ⟨zfb (by unfold znc; simp only; rw [H1.out]; rfl), HB1.out⟩
 ·by_cases h4 : 4 < fl.length
  ·have b1 : decide ((4 : Int) < fl.length) = true := by simp; omega
   go_wp2_with fail
   go_ret
   exact ⟨zfb (by unfold znc; simp only; rw [H1.out, if_neg (by simp), if_pos (Or.inl h4)]), HB1.out⟩
  ·have b1 : decide ((4 : Int) < fl.length) = false := by simp; omega
   by_cases h12 : 12 < bl.length
   ·have b2 : decide ((12 : Int) < bl.length) = true := by simp; omega
    clear h4
    go_wp2_with fail
    go_ret
    exact ⟨zfb (by unfold znc; simp only; rw [H1.out, if_neg (by simp), if_pos (Or.inr h12)]), HB1.out⟩
   ·have b2 : decide ((12 : Int) < bl.length) = false := by simp; omega
    have hl4 : fl.length ≤ 4 := by omega
    have HL := Hd (show znc ⟨nm, ⟨fa, fc, fl⟩, ⟨ba, bc, bl⟩⟩ = (scan fl.length (zIa fl)).getD 0 by
     unfold znc; simp only; rw [H1.out, if_neg (by simp), if_neg (by omega)])
    clear h4 h12
    go_wp2_with fail
    go_loopw [24] (fun i wr => ∃ k : Nat, k ≤ fl.length ∧ i = .int .i64 k ∧ (∀ j, j < k → zIa fl j = none) ∧ Below (N + 1) W1 wr) (fun i _ => fl.length - (intOf i).toNat)
    case atStart => exact ⟨0, Nat.zero_le _, rfl, fun j hj => absurd hj (by omega), Below.refl _ _⟩
    case round =>
     obtain ⟨wo, rfl⟩ : ∃ wo : World, wo = wr := ⟨_, rfl⟩
     obtain ⟨k, hk, rfl, hall, hB⟩ := hrel
     have HA := Hd hall
     have HB := Hd hB
     have HKr := Hd (HK1.out.below hB (by omega))
     clear hall hB k0 k1 k2
     have k1 : wo.cell? ⟨N, 1, none⟩ = some (.slice fa fl.length fc) := HKr.out.cell 1
     have hsz : N + 1 ≤ wo.heap.size := by have := HB.out.size; have := HS1.out; omega
     by_cases hlt : k < fl.length
     ·obtain ⟨b, off, x, hA, hb, hx, ⟨hxn, hxw⟩, hc⟩ := HF.out.at_ zFb (by omega) hlt
      have hBw : Below N w wo := HB1.out.trans (HB.out.mono (by omega))
      have hbN : b < N := by rw [HN.out]; exact hb
      have c0 : wo.cell? ⟨b, off + k * 2, none⟩ = some (.string x.name) := by have := hc 0 _ rfl; exact (hBw.cell (p := ⟨b, off + k * 2, none⟩) hbN).trans (by simpa using this)
      have c1 : wo.cell? ⟨b, off + k * 2 + 1, none⟩ = some (.int .i64 x.width) := (hBw.cell (p := ⟨b, off + k * 2 + 1, none⟩) hbN).trans (hc 1 _ rfl)
      simp only at hA hx
      subst hA
      obtain ⟨p1, hp1⟩ : ∃ q, ident x.name = q := ⟨_, rfl⟩
      obtain ⟨p2, hp2⟩ : ∃ q, badW x.width = q := ⟨_, rfl⟩
      obtain ⟨p3, hp3⟩ : ∃ q, (fl.take k).any (fun g => sEq g.name x.name) = q := ⟨_, rfl⟩
      have HX := Hd hx
      have HXn := Hd hxn
      have HP1 := Hd hp1
      have HP2 := Hd hp2
      have HP3 := Hd hp3
      have HBw := Hd hBw
      have hkl : (k : Int) < fl.length := by omega
      obtain ⟨fb, hfb⟩ : ∃ fb, fb = wo.heap.size := ⟨_, rfl⟩
      have d2 : p2 = false → 1 ≤ x.width ∧ x.width ≤ 32 := fun h => (zSb _).1 (hp2.trans h)
      have d3 : p2 = true → x.width < 1 ∨ 32 < x.width := fun h => (zbf _).1 (hp2.trans h)
      have hkc : k ≤ fc := by have := HF.out.le; simp only at this; omega
      clear hp1 hp2 hp3 hc hxn hx hb hBw
      go_wp2_with fail
      obtain ⟨Wf, hWf⟩ : ∃ U, U = wo.alloc (.cells #[.string x.name, .int .i64 x.width] 88) := ⟨_, rfl⟩
      rw [← hWf, ← hfb]
      have HBf := Hd (show Below fb wo Wf by rw [hWf, hfb]; exact (Below.refl _ _).alloc (Nat.le_refl _) _)
      have HKf := Hd (show Blk Wf fb 88 #[.string x.name, .int .i64 x.width] by rw [hWf, hfb]; exact Blk.new _ _ _)
      have HSf := Hd (show Wf.heap.size = fb + 1 by rw [hWf, hfb]; simp)
      have hfN : N + 1 ≤ fb := by omega
      have f0 : Wf.cell? ⟨fb, 0, none⟩ = some (.string x.name) := HKf.out.cell 0
      have f1 : Wf.cell? ⟨fb, 1, none⟩ = some (.int .i64 x.width) := HKf.out.cell 1
      have HKh := Hd (HKr.out.below HBf.out (by omega))
      clear hWf hfb c0 c1 k1
      have k1 : Wf.cell? ⟨N, 1, none⟩ = some (.slice (some ⟨b, off, none⟩) fl.length fc) := HKh.out.cell 1
      have HBF := Hd (HBw.out.trans (HBf.out.mono (show N ≤ fb by omega)))
      refine (zGa x.name HXn.out Wf).mono ?_
      rintro e w3 ⟨rfl, hw3⟩
      subst hw3
      rw [HP1.out]
      cases p1
      ·go_wp2_with fail
       go_ret
       refine ⟨zfb ?_, HBF.out⟩
       rw [HL.out, zua hlt HA.out (show zIa fl k = some 6 by unfold zIa; rw [HX.out]; simp [HP1.out])]; rfl
      ·cases p2
       case true =>
        have h := d3 rfl
        have hS := Hd (show zIa fl k = some 10 by unfold zIa; rw [HX.out]; simp [HP1.out, HP2.out])
        clear d2 d3
        rcases h with h | h
        ·go_wp2_with fail
         go_ret
         refine ⟨zfb ?_, HBF.out⟩
         rw [HL.out, zua hlt HA.out hS.out]; rfl
        ·have h1 : decide (x.width < 1) = false := by simp; omega
         go_wp2_with fail
         go_ret
         refine ⟨zfb ?_, HBF.out⟩
         rw [HL.out, zua hlt HA.out hS.out]; rfl
       case false =>
        obtain ⟨h1, h2⟩ := d2 rfl
        clear d2 d3
        have HC := Hd (contains_any ⟨some ⟨b, off, none⟩, fc, fl.take k⟩ x.name fb Wf (((HF.out.take_ zFb k hk).below (by rw [← HN.out]; exact HBF.out)).more (by rw [← HN.out]; have := HSf.out; omega)) (by rw [HSf.out]; omega) f0)
        rw [HP3.out] at HC
        have HTL := Hd (show (fl.take k).length = k by simp; omega)
        simp only [HTL.out] at HC
        go_wp2_with fail
        refine HC.out.mono ?_
        rintro e w4 ⟨rfl, hb4⟩
        have HBz := Hd (HB.out.trans (((HBf.out.mono (show N + 1 ≤ fb by omega))).trans (hb4.mono (by have := HSf.out; omega))))
        have HBq := Hd (HBF.out.trans (hb4.mono (by have := HSf.out; omega)))
        clear hb4
        cases p3
        case true =>
         go_wp2_with fail
         go_ret
         refine ⟨zfb ?_, HBq.out⟩
         rw [HL.out, zua hlt HA.out (show zIa fl k = some 7 by unfold zIa; rw [HX.out]; simp only [HP1.out, HP2.out, HP3.out]; rfl)]; rfl
        case false =>
         go_wp2_with fail
         go_roundw
         case rel =>
          refine ⟨k + 1, by omega, by go_num, fun j hj => ?_, HBz.out⟩
          by_cases hjm : j < k
          ·exact HA.out j hjm
          ·obtain rfl : j = k := by omega
           unfold zIa
           rw [HX.out]
           simp only [HP1.out, HP2.out, HP3.out]
           rfl
         case measure => simp [intOf]; omega
     ·obtain rfl : k = fl.length := by omega
      clear hlt hk
      go_wp2_with fail
      go_ret
      refine ⟨zfb ?_, HB1.out.trans (HB.out.mono (by omega))⟩
      rw [HL.out, znb HA.out]; rfl
end Go.Proofs.YtakgiamhdpgoeaaGreat
