/- Lemmas. -/
import Derived.Test.YtakgiamhdpgoeaaGreatP30
set_option linter.unusedSimpArgs false
namespace Go.Proofs.YtakgiamhdpgoeaaGreat
open Go.RowKit
set_option linter.unusedVariables false
theorem zBb (W : World) (p : Addr) (v : Value) : (W.setCell p v).drew.heap.size = W.heap.size := by simp [World.setCell]
theorem rSt_ij {D : List (List Int)} {i j k : Nat} : rSt D i j k i j = rP D i j k := by unfold rSt; rw [if_neg (by omega), if_pos rfl]
theorem oSt_ij {D : List (List Int)} {i j k : Nat} : oSt D i j k i j = oP D i j k := by unfold oSt; rw [if_neg (by omega), if_pos rfl]
theorem rSt_ik {D : List (List Int)} {i j k q : Nat} (h : k < j) : rSt D i j q i k = reB D i k := by unfold rSt; rw [if_pos (.inr h)]
theorem oSt_ik {D : List (List Int)} {i j k q : Nat} (h : k < j) : oSt D i j q i k = zCb D i k := by unfold oSt; rw [if_pos (.inr h)]
set_option maxRecDepth 100000 in
set_option maxHeartbeats 8000000 in
theorem follows_any (d : SL (SL Int)) (w : World) (hS : MatR w w.heap.size d) (hn : d.l.length ≤ 1000) :
  Calls Tryz.prog 75 #[.slice d.a d.l.length d.c] w fun e w' => (∃ (g : Nat) (gs : Nat → Nat), e = .returned (.slice (some ⟨g, 0, none⟩) d.l.length d.l.length) ∧ Blk w' g 158 (headF d.l.length d.l.length d.l.length gs) ∧ Mat w' w.heap.size d.l.length d.l.length 4 gs (fun a b => .bool (zCb d.rows a b))) ∧ Below w.heap.size w w' := by
 obtain ⟨N, hN⟩ : ∃ N, w.heap.size = N := ⟨_, rfl⟩
 rw [hN] at hS ⊢
 have F0 := Fr.start w
 rw [hN] at F0
 have HF0 := Hd F0
 have HS := Hd hS
 obtain ⟨da, dc, dl⟩ := d
 simp only at hn ⊢
 have hdl : dl.length ≤ 9223372036854775807 := by omega
 clear hS F0
 have HDl := Hd (show (⟨da, dc, dl⟩ : SL (SL Int)).rows.length = dl.length by simp [SL.rows])
 obtain ⟨D, hD⟩ : ∃ D, (⟨da, dc, dl⟩ : SL (SL Int)).rows = D := ⟨_, rfl⟩
 have HD := Hd hD
 rw [hD] at HDl ⊢
 clear hD
 have HMr := Hd (fun w => make_rowsB dl.length (by omega) w)
 have HMk := Hd (fun w => make_bools dl.length (by omega) w)
 go_enter Tryz.func75, Tryz.ntmps75
 go_upto_region 2 with (fail)
 go_cut [4, 5] from 11 to 14 (fun s4 s5 wx => ∃ gr go lo : Nat, s4 = .slice (some ⟨gr, 0, none⟩) dl.length dl.length ∧ s5 = .slice (some ⟨go, 0, none⟩) dl.length dl.length ∧ Fol N w dl.length gr go lo 0 (fun _ => 0) (fun _ => 0) (fun _ _ => false) (fun _ _ => false) wx ∧ lo ≤ wx.heap.size)
 case first =>
  have hmk := HMr.out
  go_region
  all_goals (go_wp2_with fail)
  all_goals go_meet
  all_goals (obtain ⟨W0, hW0, h1, h2, h3, h4⟩ := two_heads hN dl.length 158)
  all_goals (rw [← hW0])
  all_goals (first | exact ⟨N + 1, N, N + 2, rfl, rfl, ⟨h2, h1, Mat.none_ _ _ _ _ _ _, Mat.none_ _ _ _ _ _ _, fun a b h => absurd h (by omega), h3, by omega, by omega, by omega, by omega, by omega⟩, h4⟩ | exact ⟨N, N + 1, N + 2, rfl, rfl, ⟨h1, h2, Mat.none_ _ _ _ _ _ _, Mat.none_ _ _ _ _ _ _, fun a b h => absurd h (by omega), h3, by omega, by omega, by omega, by omega, by omega⟩, h4⟩)
 case rest =>
  obtain ⟨gr, go, lo, rfl, rfl, hF, hlo⟩ := hcut
  have HF := Hd hF
  clear hF
  go_wp2_with fail
  go_loopw [16] (fun i' wr => ∃ (i : Nat) (g1 g2 : Nat → Nat), i ≤ dl.length ∧ i' = .int .i64 i ∧ Fol N w dl.length gr go lo i g1 g2 (fun a b => reB D a b) (fun a b => zCb D a b) wr ∧ lo ≤ wr.heap.size) (fun i' _ => dl.length - (intOf i').toNat)
  case atStart => exact ⟨0, _, _, Nat.zero_le _, rfl, HF.out.congr (fun a b ha => absurd ha (by omega)) (fun a b ha => absurd ha (by omega)), hlo⟩
  case round =>
   obtain ⟨i, g1, g2, hi, rfl, hF1, hlo1⟩ := hrel
   have HF1 := Hd hF1
   clear hF1
   by_cases hlt : i < dl.length
   ·have hi1 : (i : Int) < dl.length := by omega
    go_upto_region 6 with (fail)
    go_cut [] from 19 to 28 (fun wx => ∃ (h1 h2 : Nat → Nat), Fol N w dl.length gr go lo (i + 1) h1 h2 (fun a b => if a = i then false else reB D a b) (fun a b => if a = i then false else zCb D a b) wx ∧ lo ≤ wx.heap.size)
    case first =>
     have hmk := HMk.out
     have a0 := HF1.out.zr hlt
     have a1 := HF1.out.zo hlt
     have a2 := HF1.out.h1.frozen i
     have a3 := HF1.out.h2.frozen i
     have a4 := HF1.out.h1.lt
     have a5 := HF1.out.h2.lt
     have a6 := HF1.out.ro
     go_region
     all_goals (go_wp2_with fail)
     all_goals go_meet
     all_goals (obtain ⟨M, hM⟩ : ∃ z, wr.heap.size = z := ⟨_, rfl⟩)
     all_goals (rw [hM])
     all_goals (obtain ⟨Wn, hWn, hbn, n1, n2⟩ := two_news _ (rowB dl.length fun _ => false) 4 (show ((wr.setCell ⟨gr, i, none⟩ _).setCell ⟨go, i, none⟩ _).heap.size = M by simpa [World.setCell] using hM))
     all_goals (rw [← hWn])
     all_goals (first | exact ⟨_, _, HF1.out.rows (x := M) (y := M + 1) (by omega) (by omega) (by omega) (by rw [hM]; exact hbn) n1 n2 hlo1⟩ | exact ⟨_, _, HF1.out.rows (x := M + 1) (y := M) (by omega) (by omega) (by omega) (by rw [hM]; exact hbn) n2 n1 hlo1⟩)
    case rest =>
     obtain ⟨h1, h2, hF2, hlo2⟩ := hcut
     have HF2 := Hd hF2
     have e0 := HF2.out.hr (Nat.lt_succ_self i) hlt
     have e1 := HF2.out.m1.cell (Nat.lt_succ_self i) hlt
     have e2 := HF2.out.m1.frozen (Nat.lt_succ_self i) i
     have e3 := HF2.out.m1.lt (Nat.lt_succ_self i)
     have HF3 := Hd ((HF2.out.setR (Nat.lt_succ_self i) i true).congr (R' := fun a b => rSt D i 0 0 a b) (O' := fun a b => oSt D i 0 0 a b) (fun a b ha hb => by
      unfold rSt
      by_cases hai : a = i
      ·subst hai
       by_cases hba : b = a
       ·subst hba
        rw [if_pos ⟨rfl, rfl⟩, if_neg (by omega)]
        by_cases hb0 : b = 0
        ·rw [if_pos hb0, rP_zero, hb0]; simp
        ·rw [if_neg hb0]; simp
       ·rw [if_neg (by omega), if_pos rfl, if_neg (by omega)]
        by_cases hb0 : b = 0
        ·rw [if_pos hb0, rP_zero]; simp; omega
        ·rw [if_neg hb0]; simp; omega
      ·rw [if_neg (by omega), if_neg hai, if_pos (by omega)]) (fun a b ha hb => by
      unfold oSt
      by_cases hai : a = i
      ·subst hai
       rw [if_pos rfl, if_neg (by omega)]
       by_cases hb0 : b = 0
       ·rw [if_pos hb0, oP_zero]
       ·rw [if_neg hb0]
      ·rw [if_neg hai, if_pos (by omega)]))
     have hlo3 : lo ≤ (wc.setCell ⟨h1 i, i, none⟩ (.bool true)).heap.size := by simpa [World.setCell] using hlo2
     clear hF2 HF1
     go_upto_region 8 with (fail)
     refine zfa ?_
     intro W3 hW3
     rw [← hW3] at HF3 hlo3
     clear e0 e1 e2 e3 HF2 hW3
     go_wp2_with fail
     go_loopw [36] (fun i' wr2 => ∃ j : Nat, j ≤ dl.length ∧ i' = .int .i64 j ∧ Fol N w dl.length gr go lo (i + 1) h1 h2 (fun a b => rSt D i j 0 a b) (fun a b => oSt D i j 0 a b) wr2 ∧ lo ≤ wr2.heap.size) (fun i' _ => dl.length - (intOf i').toNat)
     case atStart => exact ⟨0, Nat.zero_le _, rfl, HF3.out, hlo3⟩
     case round =>
      obtain ⟨j, hj, rfl, hF4, hlo4⟩ := hrel
      have HF4 := Hd hF4
      clear hF4
      by_cases hlt2 : j < dl.length
      ·have hj1 : (j : Int) < dl.length := by omega
       go_wp2_with fail
       go_loopw [40] (fun i' wr3 => ∃ k : Nat, k ≤ j ∧ i' = .int .i64 k ∧ Fol N w dl.length gr go lo (i + 1) h1 h2 (fun a b => rSt D i j k a b) (fun a b => oSt D i j k a b) wr3 ∧ lo ≤ wr3.heap.size) (fun i' _ => j - (intOf i').toNat)
       case atStart => exact ⟨0, Nat.zero_le _, rfl, HF4.out, hlo4⟩
       case round =>
        obtain ⟨k, hk, rfl, hF5, hlo5⟩ := hrel
        have HF5 := Hd hF5
        clear hF5
        by_cases hlt3 : k < j
        ·have hk1 : (k : Int) < j := by omega
         have hk2 : (k : Int) < dl.length := by omega
         go_wp2_with fail
         refine Calls.named ?_
         intro W5 hW5
         rw [← hW5] at HF5 hlo5
         clear hW5
         with_reducible refine (kind_any ⟨da, dc, dl⟩ k j (by show k < dl.length; omega) W5 (HF5.out.ff.mat HS.out)).mono ?_
         rintro e w5 ⟨rfl, rfl⟩
         rw [HD.out]
         obtain ⟨q, hq⟩ : ∃ q, kindM D k j = q := ⟨_, rfl⟩
         have HQ := Hd hq
         obtain ⟨yr, hyr⟩ : ∃ y, reB D i k = y := ⟨_, rfl⟩
         obtain ⟨yo, hyo⟩ : ∃ y, zCb D i k = y := ⟨_, rfl⟩
         have HYr := Hd hyr
         have HYo := Hd hyo
         have HReB := HYr
         have HOuB := HYo
         rw [hq]
         clear hq hyr hyo
         by_cases k2 : q = 2
         ·subst k2
          go_wp2_with fail
          have e0 := HF5.out.hr (Nat.lt_succ_self i) hlt
          have e1 : W5.cell? ⟨h1 i, j, none⟩ = some (.bool (rP D i j k)) := by have := HF5.out.m1.cell (Nat.lt_succ_self i) hlt2; rwa [rSt_ij] at this
          have e2 : W5.cell? ⟨h1 i, k, none⟩ = some (.bool yr) := by have := HF5.out.m1.cell (Nat.lt_succ_self i) (show k < dl.length by omega); rwa [rSt_ik hlt3, HYr.out] at this
          have e3 := HF5.out.m1.frozen (Nat.lt_succ_self i) j
          have e4 := HF5.out.m1.lt (Nat.lt_succ_self i)
          have HStr := Hd (rP_succ (D := D) (i := i) (j := j) (k := k))
          obtain ⟨x, hx⟩ : ∃ x, rP D i j k = x := ⟨_, rfl⟩
          rw [hx] at e1 HStr
          clear hx
          cases x with
          | true =>
           have HF7 := Hd (((HF5.out.setR (Nat.lt_succ_self i) j true).congr (fun a b ha _ => zFf (by omega) (show rP D i j (k + 1) = true by rw [HStr.out, HQ.out]; simp [HReB.out, HOuB.out])) (fun a b _ _ => rfl)).below ((Below.refl _ _).drew))
           have hlo7 : lo ≤ (W5.setCell ⟨h1 i, j, none⟩ (.bool true)).drew.heap.size := by rw [zBb]; exact hlo5
           refine wp_region_still_tail 22 (by kernel_rfl) (by kernel_rfl) ?_
           simp only [List.take_succ_cons, List.take_zero, List.drop_succ_cons, List.drop_zero]
           iterate 22 ((with_reducible refine wpStill_step (fun K hK => ?_)); go_simp; refine hK _ ?_; clear hK K)
           with_reducible refine wpStill_nil ?_
           change wpList _ _ _ _ _ W5.drew
           go_upto_region 17 with (fail)
           refine zfa ?_
           intro W7 hW7
           rw [← hW7] at HF7 hlo7
           clear e0 e1 e2 e3 e4 hW7
           have e0 := HF7.out.ho (Nat.lt_succ_self i) hlt
           have e9 := HF7.out.hr (Nat.lt_succ_self i) hlt
           have e1 : W7.cell? ⟨h2 i, j, none⟩ = some (.bool (oP D i j k)) := by have := HF7.out.m2.cell (Nat.lt_succ_self i) hlt2; rwa [oSt_ij] at this
           have e2 : W7.cell? ⟨h1 i, k, none⟩ = some (.bool yr) := by have := HF7.out.m1.cell (Nat.lt_succ_self i) (show k < dl.length by omega); rwa [rSt_ik hlt3, HYr.out] at this
           have e3 := HF7.out.m2.frozen (Nat.lt_succ_self i) j
           have e4 := HF7.out.m2.lt (Nat.lt_succ_self i)
           have HSto := Hd (oP_succ (D := D) (i := i) (j := j) (k := k))
           obtain ⟨x, hx⟩ : ∃ x, oP D i j k = x := ⟨_, rfl⟩
           rw [hx] at e1 HSto
           clear hx
           cases x with
           | true =>
            have HF8 := Hd (((HF7.out.setO (Nat.lt_succ_self i) j true).congr (fun a b _ _ => rfl) (fun a b ha _ => zTc (by omega) (show oP D i j (k + 1) = true by rw [HSto.out, HQ.out]; simp [HReB.out, HOuB.out]))).below ((Below.refl _ _).drew))
            have hlo8 : lo ≤ (W7.setCell ⟨h2 i, j, none⟩ (.bool true)).drew.heap.size := by rw [zBb]; exact hlo7
            refine wp_region_still_tail 22 (by kernel_rfl) (by kernel_rfl) ?_
            simp only [List.take_succ_cons, List.take_zero, List.drop_succ_cons, List.drop_zero]
            iterate 22 ((with_reducible refine wpStill_step (fun K hK => ?_)); go_simp; refine hK _ ?_; clear hK K)
            with_reducible refine wpStill_nil ?_
            change wpList _ _ _ _ _ W7.drew
            go_wp2_with fail
            go_roundw
            case rel => exact ⟨k + 1, by omega, by go_num, HF8.out, hlo8⟩
            case measure => simp [intOf]; omega
           | false =>
            have HF8 := Hd (((HF7.out.setO (Nat.lt_succ_self i) j yr).congr (fun a b _ _ => rfl) (fun a b ha _ => zTc (by omega) (show oP D i j (k + 1) = yr by rw [HSto.out, HQ.out]; simp [HReB.out, HOuB.out]))).below ((Below.refl _ _).drew))
            have hlo8 : lo ≤ (W7.setCell ⟨h2 i, j, none⟩ (.bool yr)).drew.heap.size := by rw [zBb]; exact hlo7
            refine wp_region_still_tail 22 (by kernel_rfl) (by kernel_rfl) ?_
            simp only [List.take_succ_cons, List.take_zero, List.drop_succ_cons, List.drop_zero]
            iterate 22 ((with_reducible refine wpStill_step (fun K hK => ?_)); go_simp; refine hK _ ?_; clear hK K)
            with_reducible refine wpStill_nil ?_
            change wpList _ _ _ _ _ W7.drew
            go_wp2_with fail
            go_roundw
            case rel => exact ⟨k + 1, by omega, by go_num, HF8.out, hlo8⟩
            case measure => simp [intOf]; omega
          | false =>
           have HF7 := Hd (((HF5.out.setR (Nat.lt_succ_self i) j yr).congr (fun a b ha _ => zFf (by omega) (show rP D i j (k + 1) = yr by rw [HStr.out, HQ.out]; simp [HReB.out, HOuB.out])) (fun a b _ _ => rfl)).below ((Below.refl _ _).drew))
           have hlo7 : lo ≤ (W5.setCell ⟨h1 i, j, none⟩ (.bool yr)).drew.heap.size := by rw [zBb]; exact hlo5
           refine wp_region_still_tail 22 (by kernel_rfl) (by kernel_rfl) ?_
           simp only [List.take_succ_cons, List.take_zero, List.drop_succ_cons, List.drop_zero]
           iterate 22 ((with_reducible refine wpStill_step (fun K hK => ?_)); go_simp; refine hK _ ?_; clear hK K)
           with_reducible refine wpStill_nil ?_
           change wpList _ _ _ _ _ W5.drew
           go_upto_region 17 with (fail)
           refine zfa ?_
           intro W7 hW7
           rw [← hW7] at HF7 hlo7
           clear e0 e1 e2 e3 e4 hW7
           have e0 := HF7.out.ho (Nat.lt_succ_self i) hlt
           have e9 := HF7.out.hr (Nat.lt_succ_self i) hlt
           have e1 : W7.cell? ⟨h2 i, j, none⟩ = some (.bool (oP D i j k)) := by have := HF7.out.m2.cell (Nat.lt_succ_self i) hlt2; rwa [oSt_ij] at this
           have e2 : W7.cell? ⟨h1 i, k, none⟩ = some (.bool yr) := by have := HF7.out.m1.cell (Nat.lt_succ_self i) (show k < dl.length by omega); rwa [rSt_ik hlt3, HYr.out] at this
           have e3 := HF7.out.m2.frozen (Nat.lt_succ_self i) j
           have e4 := HF7.out.m2.lt (Nat.lt_succ_self i)
           have HSto := Hd (oP_succ (D := D) (i := i) (j := j) (k := k))
           obtain ⟨x, hx⟩ : ∃ x, oP D i j k = x := ⟨_, rfl⟩
           rw [hx] at e1 HSto
           clear hx
           cases x with
           | true =>
            have HF8 := Hd (((HF7.out.setO (Nat.lt_succ_self i) j true).congr (fun a b _ _ => rfl) (fun a b ha _ => zTc (by omega) (show oP D i j (k + 1) = true by rw [HSto.out, HQ.out]; simp [HReB.out, HOuB.out]))).below ((Below.refl _ _).drew))
            have hlo8 : lo ≤ (W7.setCell ⟨h2 i, j, none⟩ (.bool true)).drew.heap.size := by rw [zBb]; exact hlo7
            refine wp_region_still_tail 22 (by kernel_rfl) (by kernel_rfl) ?_
            simp only [List.take_succ_cons, List.take_zero, List.drop_succ_cons, List.drop_zero]
            iterate 22 ((with_reducible refine wpStill_step (fun K hK => ?_)); go_simp; refine hK _ ?_; clear hK K)
            with_reducible refine wpStill_nil ?_
            change wpList _ _ _ _ _ W7.drew
            go_wp2_with fail
            go_roundw
            case rel => exact ⟨k + 1, by omega, by go_num, HF8.out, hlo8⟩
            case measure => simp [intOf]; omega
           | false =>
            have HF8 := Hd (((HF7.out.setO (Nat.lt_succ_self i) j yr).congr (fun a b _ _ => rfl) (fun a b ha _ => zTc (by omega) (show oP D i j (k + 1) = yr by rw [HSto.out, HQ.out]; simp [HReB.out, HOuB.out]))).below ((Below.refl _ _).drew))
            have hlo8 : lo ≤ (W7.setCell ⟨h2 i, j, none⟩ (.bool yr)).drew.heap.size := by rw [zBb]; exact hlo7
            refine wp_region_still_tail 22 (by kernel_rfl) (by kernel_rfl) ?_
            simp only [List.take_succ_cons, List.take_zero, List.drop_succ_cons, List.drop_zero]
            iterate 22 ((with_reducible refine wpStill_step (fun K hK => ?_)); go_simp; refine hK _ ?_; clear hK K)
            with_reducible refine wpStill_nil ?_
            change wpList _ _ _ _ _ W7.drew
            go_wp2_with fail
            go_roundw
            case rel => exact ⟨k + 1, by omega, by go_num, HF8.out, hlo8⟩
            case measure => simp [intOf]; omega
         ·have k2' : (q == 2) = false := by simp [k2]
          by_cases k1 : q = 1
          ·subst k1
           go_wp2_with fail
           have e0 := HF5.out.hr (Nat.lt_succ_self i) hlt
           have e1 : W5.cell? ⟨h1 i, j, none⟩ = some (.bool (rP D i j k)) := by have := HF5.out.m1.cell (Nat.lt_succ_self i) hlt2; rwa [rSt_ij] at this
           have e2 : W5.cell? ⟨h1 i, k, none⟩ = some (.bool yr) := by have := HF5.out.m1.cell (Nat.lt_succ_self i) (show k < dl.length by omega); rwa [rSt_ik hlt3, HYr.out] at this
           have e3 := HF5.out.m1.frozen (Nat.lt_succ_self i) j
           have e4 := HF5.out.m1.lt (Nat.lt_succ_self i)
           have HStr := Hd (rP_succ (D := D) (i := i) (j := j) (k := k))
           obtain ⟨x, hx⟩ : ∃ x, rP D i j k = x := ⟨_, rfl⟩
           rw [hx] at e1 HStr
           clear hx
           cases x with
           | true =>
            have HF7 := Hd (((HF5.out.setR (Nat.lt_succ_self i) j true).congr (fun a b ha _ => zFf (by omega) (show rP D i j (k + 1) = true by rw [HStr.out, HQ.out]; simp [HReB.out, HOuB.out])) (fun a b _ _ => rfl)).below ((Below.refl _ _).drew))
            have hlo7 : lo ≤ (W5.setCell ⟨h1 i, j, none⟩ (.bool true)).drew.heap.size := by rw [zBb]; exact hlo5
            refine wp_region_still_tail 22 (by kernel_rfl) (by kernel_rfl) ?_
            simp only [List.take_succ_cons, List.take_zero, List.drop_succ_cons, List.drop_zero]
            iterate 22 ((with_reducible refine wpStill_step (fun K hK => ?_)); go_simp; refine hK _ ?_; clear hK K)
            with_reducible refine wpStill_nil ?_
            change wpList _ _ _ _ _ W5.drew
            go_upto_region 20 with (fail)
            refine zfa ?_
            intro W7 hW7
            rw [← hW7] at HF7 hlo7
            clear e0 e1 e2 e3 e4 hW7
            have e0 := HF7.out.ho (Nat.lt_succ_self i) hlt
            have e1 : W7.cell? ⟨h2 i, j, none⟩ = some (.bool (oP D i j k)) := by have := HF7.out.m2.cell (Nat.lt_succ_self i) hlt2; rwa [oSt_ij] at this
            have e2 : W7.cell? ⟨h2 i, k, none⟩ = some (.bool yo) := by have := HF7.out.m2.cell (Nat.lt_succ_self i) (show k < dl.length by omega); rwa [oSt_ik hlt3, HYo.out] at this
            have e3 := HF7.out.m2.frozen (Nat.lt_succ_self i) j
            have e4 := HF7.out.m2.lt (Nat.lt_succ_self i)
            have HSto := Hd (oP_succ (D := D) (i := i) (j := j) (k := k))
            obtain ⟨x, hx⟩ : ∃ x, oP D i j k = x := ⟨_, rfl⟩
            rw [hx] at e1 HSto
            clear hx
            cases x with
            | true =>
             have HF8 := Hd (((HF7.out.setO (Nat.lt_succ_self i) j true).congr (fun a b _ _ => rfl) (fun a b ha _ => zTc (by omega) (show oP D i j (k + 1) = true by rw [HSto.out, HQ.out]; simp [HReB.out, HOuB.out]))).below ((Below.refl _ _).drew))
             have hlo8 : lo ≤ (W7.setCell ⟨h2 i, j, none⟩ (.bool true)).drew.heap.size := by rw [zBb]; exact hlo7
             refine wp_region_still_tail 22 (by kernel_rfl) (by kernel_rfl) ?_
             simp only [List.take_succ_cons, List.take_zero, List.drop_succ_cons, List.drop_zero]
             iterate 22 ((with_reducible refine wpStill_step (fun K hK => ?_)); go_simp; refine hK _ ?_; clear hK K)
             with_reducible refine wpStill_nil ?_
             change wpList _ _ _ _ _ W7.drew
             go_wp2_with fail
             go_roundw
             case rel => exact ⟨k + 1, by omega, by go_num, HF8.out, hlo8⟩
             case measure => simp [intOf]; omega
            | false =>
             have HF8 := Hd (((HF7.out.setO (Nat.lt_succ_self i) j yo).congr (fun a b _ _ => rfl) (fun a b ha _ => zTc (by omega) (show oP D i j (k + 1) = yo by rw [HSto.out, HQ.out]; simp [HReB.out, HOuB.out]))).below ((Below.refl _ _).drew))
             have hlo8 : lo ≤ (W7.setCell ⟨h2 i, j, none⟩ (.bool yo)).drew.heap.size := by rw [zBb]; exact hlo7
             refine wp_region_still_tail 22 (by kernel_rfl) (by kernel_rfl) ?_
             simp only [List.take_succ_cons, List.take_zero, List.drop_succ_cons, List.drop_zero]
             iterate 22 ((with_reducible refine wpStill_step (fun K hK => ?_)); go_simp; refine hK _ ?_; clear hK K)
             with_reducible refine wpStill_nil ?_
             change wpList _ _ _ _ _ W7.drew
             go_wp2_with fail
             go_roundw
             case rel => exact ⟨k + 1, by omega, by go_num, HF8.out, hlo8⟩
             case measure => simp [intOf]; omega
           | false =>
            have HF7 := Hd (((HF5.out.setR (Nat.lt_succ_self i) j yr).congr (fun a b ha _ => zFf (by omega) (show rP D i j (k + 1) = yr by rw [HStr.out, HQ.out]; simp [HReB.out, HOuB.out])) (fun a b _ _ => rfl)).below ((Below.refl _ _).drew))
            have hlo7 : lo ≤ (W5.setCell ⟨h1 i, j, none⟩ (.bool yr)).drew.heap.size := by rw [zBb]; exact hlo5
            refine wp_region_still_tail 22 (by kernel_rfl) (by kernel_rfl) ?_
            simp only [List.take_succ_cons, List.take_zero, List.drop_succ_cons, List.drop_zero]
            iterate 22 ((with_reducible refine wpStill_step (fun K hK => ?_)); go_simp; refine hK _ ?_; clear hK K)
            with_reducible refine wpStill_nil ?_
            change wpList _ _ _ _ _ W5.drew
            go_upto_region 20 with (fail)
            refine zfa ?_
            intro W7 hW7
            rw [← hW7] at HF7 hlo7
            clear e0 e1 e2 e3 e4 hW7
            have e0 := HF7.out.ho (Nat.lt_succ_self i) hlt
            have e1 : W7.cell? ⟨h2 i, j, none⟩ = some (.bool (oP D i j k)) := by have := HF7.out.m2.cell (Nat.lt_succ_self i) hlt2; rwa [oSt_ij] at this
            have e2 : W7.cell? ⟨h2 i, k, none⟩ = some (.bool yo) := by have := HF7.out.m2.cell (Nat.lt_succ_self i) (show k < dl.length by omega); rwa [oSt_ik hlt3, HYo.out] at this
            have e3 := HF7.out.m2.frozen (Nat.lt_succ_self i) j
            have e4 := HF7.out.m2.lt (Nat.lt_succ_self i)
            have HSto := Hd (oP_succ (D := D) (i := i) (j := j) (k := k))
            obtain ⟨x, hx⟩ : ∃ x, oP D i j k = x := ⟨_, rfl⟩
            rw [hx] at e1 HSto
            clear hx
            cases x with
            | true =>
             have HF8 := Hd (((HF7.out.setO (Nat.lt_succ_self i) j true).congr (fun a b _ _ => rfl) (fun a b ha _ => zTc (by omega) (show oP D i j (k + 1) = true by rw [HSto.out, HQ.out]; simp [HReB.out, HOuB.out]))).below ((Below.refl _ _).drew))
             have hlo8 : lo ≤ (W7.setCell ⟨h2 i, j, none⟩ (.bool true)).drew.heap.size := by rw [zBb]; exact hlo7
             refine wp_region_still_tail 22 (by kernel_rfl) (by kernel_rfl) ?_
             simp only [List.take_succ_cons, List.take_zero, List.drop_succ_cons, List.drop_zero]
             iterate 22 ((with_reducible refine wpStill_step (fun K hK => ?_)); go_simp; refine hK _ ?_; clear hK K)
             with_reducible refine wpStill_nil ?_
             change wpList _ _ _ _ _ W7.drew
             go_wp2_with fail
             go_roundw
             case rel => exact ⟨k + 1, by omega, by go_num, HF8.out, hlo8⟩
             case measure => simp [intOf]; omega
            | false =>
             have HF8 := Hd (((HF7.out.setO (Nat.lt_succ_self i) j yo).congr (fun a b _ _ => rfl) (fun a b ha _ => zTc (by omega) (show oP D i j (k + 1) = yo by rw [HSto.out, HQ.out]; simp [HReB.out, HOuB.out]))).below ((Below.refl _ _).drew))
             have hlo8 : lo ≤ (W7.setCell ⟨h2 i, j, none⟩ (.bool yo)).drew.heap.size := by rw [zBb]; exact hlo7
             refine wp_region_still_tail 22 (by kernel_rfl) (by kernel_rfl) ?_
             simp only [List.take_succ_cons, List.take_zero, List.drop_succ_cons, List.drop_zero]
             iterate 22 ((with_reducible refine wpStill_step (fun K hK => ?_)); go_simp; refine hK _ ?_; clear hK K)
             with_reducible refine wpStill_nil ?_
             change wpList _ _ _ _ _ W7.drew
             go_wp2_with fail
             go_roundw
             case rel => exact ⟨k + 1, by omega, by go_num, HF8.out, hlo8⟩
             case measure => simp [intOf]; omega
          ·have k1' : (q == 1) = false := by simp [k1]
           have k0 : q = 0 := by
            have := HQ.out
            unfold kindM at this
            split at this
            ·exact this.symm
            ·split at this
             ·omega
             ·exact this.symm
           have HF8 := Hd (HF5.out.congr (R' := fun a b => rSt D i j (k + 1) a b) (O' := fun a b => oSt D i j (k + 1) a b) (fun a b ha _ => rSt_same (by omega) (by rw [rP_succ, HQ.out, k0]; simp)) (fun a b ha _ => oSt_same (by omega) (by rw [oP_succ, HQ.out, k0]; simp)))
           go_wp2_with fail
           go_roundw
           case rel => exact ⟨k + 1, by omega, by go_num, HF8.out, hlo5⟩
           case measure => simp [intOf]; omega
        ·obtain rfl : k = j := by omega
         clear hlt3
         have HF6 := Hd (HF5.out.congr (fun a b _ _ => rSt_next (by rw [HDl.out]; exact hlt2)) (fun a b _ _ => oSt_next (by rw [HDl.out]; exact hlt2)))
         go_wp2_with fail
         go_roundw
         case rel => exact ⟨k + 1, by omega, by go_num, HF6.out, hlo5⟩
         case measure => simp [intOf]; omega
      ·obtain rfl : j = dl.length := by omega
       clear hlt2
       have HF6 := Hd (HF4.out.congr (R' := fun a b => reB D a b) (O' := fun a b => zCb D a b) (fun a b _ hb => by unfold rSt; rw [if_pos (.inr hb)]) (fun a b _ hb => by unfold oSt; rw [if_pos (.inr hb)]))
       go_wp2_with fail
       go_roundw
       case rel => exact ⟨i + 1, h1, h2, by omega, by go_num, HF6.out, hlo4⟩
       case measure => simp [intOf]; omega
   ·obtain rfl : i = dl.length := by omega
    clear hlt
    go_wp2_with fail
    go_returns
    exact ⟨⟨go, g2, rfl, HF1.out.h2, ⟨fun k hk => by have := HF1.out.m2.lo k hk; have := HF1.out.no; have := HF1.out.ll; omega, HF1.out.m2.blk, HF1.out.m2.inj⟩⟩, HF1.out.ff.below⟩
open Go.RowKit
def szP (D : List (List Int)) (i j : Nat) : Int := (List.range j).foldl (fun x j => if zCb D i j then max x (szAt D j + 1) else x) 1
theorem szP_succ {D : List (List Int)} {i j : Nat} : szP D i (j + 1) = if zCb D i j then max (szP D i j) (szAt D j + 1) else szP D i j := by
 unfold szP
 rw [List.range_succ, List.foldl_append]
 rfl
theorem foldl_same {α β : Type} (f : β → α → β) : ∀ (l : List α) (b : β), (∀ x ∈ l, ∀ b, f b x = b) → l.foldl f b = b := by
 intro l
 induction l with
 | nil => intro b _; rfl
 | cons x l ih =>
  intro b h
  rw [List.foldl_cons, h x (List.mem_cons_self ..)]
  exact ih b fun y hy => h y (List.mem_cons_of_mem _ hy)
theorem szP_end {D : List (List Int)} {i : Nat} (h : i < D.length) : szP D i D.length = szAt D i := by
 unfold szP
 rw [szAt_eq h]
 conv => lhs; rw [show D.length = i + 1 + (D.length - 1 - i) by omega, List.range_add, List.foldl_append, List.foldl_map]
 rw [foldl_same _ (List.range (i + 1)) 1 fun k hk b => by
  have := List.mem_range.1 hk
  rw [if_neg]
  intro ha
  have := (afterB_lt ha).1
  omega]
theorem szAt_bd {D : List (List Int)} (i : Nat) : 0 ≤ szAt D i ∧ szAt D i ≤ D.length := by
 by_cases h : i < D.length
 ·have h1 := szAt_ge h
  have h2 := szAt_le D.length i h (by omega)
  omega
 ·unfold szAt
  rw [zBc (by rw [szTo_len]; omega)]
  omega
theorem szP_bd {D : List (List Int)} (i : Nat) : ∀ j, 1 ≤ szP D i j ∧ szP D i j ≤ D.length + 1 := by
 intro j
 induction j with
 | zero => unfold szP; simp; omega
 | succ j ih =>
  rw [szP_succ]
  have := szAt_bd (D := D) j
  split
  ·omega
  ·exact ih
theorem firstTo_bd {D : List (List Int)} : ∀ m, 0 < m → m ≤ D.length → D.length ≤ zdc D m + m ∧ zdc D m < D.length := by
 intro m
 induction m with
 | zero => intro h; omega
 | succ m ih =>
  intro _ h2
  rw [zdc]
  split
  ·omega
  ·rename_i hm
   have := ih (by omega) (by omega)
   omega
theorem find_range {p : Nat → Bool} {n j : Nat} (hj : j < n) (hp : p j = true) (h : ∀ k, k < j → p k = false) : (List.range n).find? p = some j := by
 rw [show n = j + (n - j) by omega, List.range_add, List.find?_append, List.find?_eq_none.2 fun k hk => by rw [h k (List.mem_range.1 hk)]; simp]
 rw [show n - j = (n - j - 1) + 1 by omega, List.range_succ_eq_map]
 simp [hp]
theorem zwe {D : List (List Int)} {i : Nat} (h : i < D.length) : zTb D (szAt D i).toNat i = (i : Int) :: (zTb D (szAt D i).toNat i).tail := by
 have h1 := szAt_ge h
 obtain ⟨f, hf⟩ : ∃ f, (szAt D i).toNat = f + 1 := ⟨(szAt D i).toNat - 1, by omega⟩
 rw [hf, zTb]
 rfl
theorem crit_stop {D : List (List Int)} {i : Nat} (h : i < D.length) (h1 : ¬ szAt D i > 1) : (zTb D (szAt D i).toNat i).tail = [] := by
 have h2 := szAt_ge h
 obtain ⟨f, hf⟩ : ∃ f, (szAt D i).toNat = f + 1 := ⟨(szAt D i).toNat - 1, by omega⟩
 rw [hf, zTb, if_neg h1]
 rfl
theorem crit_step {D : List (List Int)} {i j : Nat} (h : i < D.length) (hj : j < D.length) (h1 : szAt D i > 1) (ha : zCb D i j = true) (hz : szAt D j = szAt D i - 1) (hno : ∀ k, k < j → (zCb D i k && decide (szAt D k = szAt D i - 1)) = false) :
  (zTb D (szAt D i).toNat i).tail = (j : Int) :: (zTb D (szAt D j).toNat j).tail := by
 obtain ⟨f, hf⟩ : ∃ f, (szAt D i).toNat = f + 1 := ⟨(szAt D i).toNat - 1, by omega⟩
 rw [← zwe hj]
 rw [hf, zTb, if_pos h1, find_range hj (by rw [ha, decide_eq_true hz]; rfl) hno]
 show zTb D f j = _
 rw [show (szAt D j).toNat = f by omega]
structure Crt (N : Nat) (w : World) (D : List (List Int)) (n g gz : Nat) (gs : Nat → Nat) (f : Nat → Int) (W : World) : Prop where
 hd : Blk W g 158 (headF n n n gs)
 mm : Mat W N n n 4 gs (fun a b => .bool (zCb D a b))
 zz : Blk W gz 3 (rowZ n f)
 ff : Fr N w W []
 l1 : N ≤ gz
 l2 : g < gz
 l3 : ∀ k, k < n → gs k < gz
section
variable {N : Nat} {w W W' : World} {D : List (List Int)} {n g gz : Nat} {gs : Nat → Nat} {f f' : Nat → Int}
theorem Crt.below (h : Crt N w D n g gz gs f W) (hb : Below W.heap.size W W') : Crt N w D n g gz gs f W' :=
 ⟨h.hd.below hb h.hd.lt, h.mm.below hb, h.zz.below hb h.zz.lt, h.ff.call hb, h.l1, h.l2, h.l3⟩
theorem Crt.congr (h : Crt N w D n g gz gs f W) (he : ∀ k, k < n → f k = f' k) : Crt N w D n g gz gs f' W :=
 ⟨h.hd, h.mm, Eq.mp (congrArg (Blk _ _ _) (zDa fun k hk => by rw [he k hk])) h.zz, h.ff, h.l1, h.l2, h.l3⟩
theorem Crt.set_ (h : Crt N w D n g gz gs f W) (j : Nat) (v : Int) : Crt N w D n g gz gs (fun k => if k = j then v else f k) (W.setCell ⟨gz, j, none⟩ (.int .i64 v)) := by
 have hl2 := h.l2
 refine ⟨zka h.hd (by omega) _ _, h.mm.other (fun k hk => by have := h.l3 k hk; omega) _ _, ?_, h.ff.other h.l1 (fun x hx => absurd hx (by simp)) _ _, h.l1, h.l2, h.l3⟩
 have := h.zz.set_ j (.int .i64 v)
 rwa [rowZ_set] at this
theorem Crt.grown (h : Crt N w D n g gz gs f W) {B c : Nat} {A : Option Addr} {l : List Int} (ho : OwnZ W B A c l) (hB : gz < B) (hg : W.grownBy W' (ownB A)) : Crt N w D n g gz gs f W' := by
 have hne : ∀ k, k ≤ gz → some k ≠ ownB A := fun k hk e => by have := (Own.lt ho k e.symm).1; omega
 have hbl : ∀ {x : Nat} {t : TypeId} {cs : Array Value}, Blk W x t cs → x ≤ gz → Blk W' x t cs := fun hx hlt => (hg.block _ hx.lt (hne _ hlt)).trans hx
 have hl2 := h.l2; have hl1 := h.l1
 exact ⟨hbl h.hd (by omega), ⟨h.mm.lo, fun k hk => hbl (h.mm.blk k hk) (by have := h.l3 k hk; omega), h.mm.inj⟩, hbl h.zz (Nat.le_refl _), ⟨h.ff.base, ho.step h.ff.below hg (by omega) h.ff.le, fun x hx => absurd hx (by simp)⟩, h.l1, h.l2, h.l3⟩
theorem Crt.ha (h : Crt N w D n g gz gs f W) {i : Nat} (hi : i < n) : W.cell? ⟨g, i, none⟩ = some (.slice (some ⟨gs i, 0, none⟩) n n) := by
 rw [h.hd.cell i]; unfold headF; rw [zbb hi, if_pos hi]
theorem Crt.hz (h : Crt N w D n g gz gs f W) {i : Nat} (hi : i < n) : W.cell? ⟨gz, i, none⟩ = some (.int .i64 (f i)) := by
 rw [h.zz.cell i, zbb hi]
end
set_option maxRecDepth 100000 in
set_option maxHeartbeats 8000000 in
theorem critical_any (d : SL (SL Int)) (w : World) (hS : MatR w w.heap.size d) (hn : d.l.length ≤ 1000) :
  Calls Tryz.prog 38 #[.slice d.a d.l.length d.c] w fun e w' => (∃ A c, e = .returned (.slice A (zgc d.rows).length c) ∧ OwnZ w' w.heap.size A c (zgc d.rows)) ∧ Below w.heap.size w w' := by
 obtain ⟨N, hN⟩ : ∃ N, w.heap.size = N := ⟨_, rfl⟩
 have HFw := Hd (follows_any d w hS hn)
 rw [hN] at HFw ⊢
 clear hS
 obtain ⟨da, dc, dl⟩ := d
 simp only at hn ⊢
 have hdl : dl.length ≤ 9223372036854775807 := by omega
 have HDl := Hd (show (⟨da, dc, dl⟩ : SL (SL Int)).rows.length = dl.length by simp [SL.rows])
 obtain ⟨D, hD⟩ : ∃ D, (⟨da, dc, dl⟩ : SL (SL Int)).rows = D := ⟨_, rfl⟩
 rw [hD] at HDl HFw ⊢
 clear hD
 have F0 := Fr.start w
 rw [hN] at F0
 have HF0 := Hd F0
 clear F0
 go_enter Tryz.func38, Tryz.ntmps38
 go_wp2_with fail
 go_step3
 go_wp2_with fail
 with_reducible refine HFw.out.mono ?_
 rintro e w1 ⟨⟨g, gs, rfl, hg1, hg2⟩, hb1⟩
 have HF1 := Hd (HF0.out.call (by rw [hN]; exact hb1))
 have HG1 := Hd hg1
 have HG2 := Hd hg2
 clear hg1 hg2 hb1
 obtain ⟨gz, hgz⟩ : ∃ z, w1.heap.size = z := ⟨_, rfl⟩
 have hmk := zRe dl.length (by omega) w1
 rw [hgz] at hmk
 obtain ⟨W2, hW2⟩ : ∃ z, w1.alloc (.cells (rowZ dl.length fun _ => 0) 3) = z := ⟨_, rfl⟩
 rw [hW2] at hmk
 have hb2 : Below w1.heap.size w1 W2 := by rw [← hW2]; exact (Below.refl _ _).alloc (Nat.le_refl _) _
 have HC2 := Hd (show Crt N w D dl.length g gz gs (fun _ => 0) W2 from ⟨HG1.out.below hb2 HG1.out.lt, HG2.out.below hb2, by rw [← hW2, ← hgz]; exact Blk.new _ _ _, HF1.out.call hb2, by rw [← hgz]; exact HF1.out.le, by rw [← hgz]; exact HG1.out.lt, fun k hk => by rw [← hgz]; exact HG2.out.lt hk⟩)
 clear hW2 hb2 hgz HG1 HG2 HF1
 go_wp2_with fail
 go_loopw [6, 7] (fun f' i' wr => ∃ m : Nat, m ≤ dl.length ∧ i' = .int .i64 ((dl.length : Int) - 1 - m) ∧ f' = .int .i64 (zdc D m) ∧ Crt N w D dl.length g gz gs (fun k => if dl.length ≤ k + m then szAt D k else 0) wr) (fun _ i' _ => (intOf i' + 1).toNat)
 case atStart => exact ⟨0, Nat.zero_le _, by simp, rfl, HC2.out.congr fun k hk => by rw [if_neg (by omega)]⟩
 case round =>
  obtain ⟨m, hm, rfl, rfl, hC⟩ := hrel
  have HC := Hd hC
  clear hC
  by_cases hlt : m < dl.length
  ·obtain ⟨i, hi⟩ : ∃ i, dl.length = i + 1 + m := ⟨dl.length - 1 - m, by omega⟩
   have hil : i < dl.length := by omega
   have hie : (dl.length : Int) - 1 - m = (i : Int) := by omega
   have hi1 : (i : Int) < dl.length := by omega
   rw [hie]
   have HI := Hd hi
   clear hi hie
   have z0 : wr.cell? ⟨gz, i, none⟩ = some (.int .i64 0) := by have := HC.out.hz hil; rwa [if_neg (by have := HI.out; omega)] at this
   have z1 := HC.out.zz.frozen i
   have z2 := HC.out.zz.lt
   have HC3 := Hd ((HC.out.set_ i 1).congr (f' := fun k => if k = i then szP D i 0 else if dl.length ≤ k + m then szAt D k else 0) fun k _ => rfl)
   go_upto_region 9 with (fail)
   refine zfa ?_
   intro W3 hW3
   rw [← hW3] at HC3
   clear hW3 z0 z1 z2
   go_wp2_with fail
   go_loopw [28] (fun j' wr2 => ∃ j : Nat, j ≤ dl.length ∧ j' = .int .i64 j ∧ Crt N w D dl.length g gz gs (fun k => if k = i then szP D i j else if dl.length ≤ k + m then szAt D k else 0) wr2) (fun j' _ => dl.length - (intOf j').toNat)
   case atStart => exact ⟨0, Nat.zero_le _, rfl, HC3.out⟩
   case round =>
    obtain ⟨j, hj, rfl, hC4⟩ := hrel
    have HC4 := Hd hC4
    clear hC4
    by_cases hlt2 : j < dl.length
    ·have hj1 : (j : Int) < dl.length := by omega
     have a0 := HC4.out.ha hil
     have a1 := HC4.out.mm.cell hil hlt2
     have HSz := Hd (szP_succ (D := D) (i := i) (j := j))
     obtain ⟨q, hq⟩ : ∃ q, zCb D i j = q := ⟨_, rfl⟩
     have HQ := Hd hq
     rw [hq] at a1 HSz
     clear hq
     cases q with
     | true =>
      have hij := (afterB_lt HQ.out).1
      have z0 := HC4.out.hz hil
      rw [if_pos rfl] at z0
      have z3 := HC4.out.hz hlt2
      have hi9 := HI.out
      rw [if_neg (by omega), if_pos (by omega)] at z3
      clear hi9
      have z1 := HC4.out.zz.frozen i
      have z2 := HC4.out.zz.lt
      have hb1 := szP_bd (D := D) i j
      have hb2 := szAt_bd (D := D) j
      rw [HDl.out] at hb1 hb2
      obtain ⟨x, hx⟩ : ∃ x, szP D i j = x := ⟨_, rfl⟩
      obtain ⟨y, hy⟩ : ∃ y, szAt D j = y := ⟨_, rfl⟩
      rw [hx] at z0 hb1 HSz
      rw [hy] at z3 hb2 HSz
      obtain ⟨z, hz⟩ : ∃ z, (if x < y + 1 then y + 1 else x) = z := ⟨_, rfl⟩
      have HZ := Hd (show szP D i (j + 1) = z by rw [HSz.out, if_pos rfl, ← hz]; split <;> omega)
      have HC5 := Hd (((HC4.out.set_ i z).congr (f' := fun k => if k = i then szP D i (j + 1) else if dl.length ≤ k + m then szAt D k else 0) fun k _ => by
       by_cases hk : k = i
       ·simp only [hk, if_true]; rw [HZ.out]
       ·simp only [if_neg hk]).below ((Below.refl _ _).drew))
      clear hx hy
      go_wp2_with fail
      refine wp_region_still_tail 13 (by kernel_rfl) (by kernel_rfl) ?_
      simp only [List.take_succ_cons, List.take_zero, List.drop_succ_cons, List.drop_zero]
      iterate 13 ((with_reducible refine wpStill_step (fun K hK => ?_)); go_simp; refine hK _ ?_; clear hK K)
      with_reducible refine wpStill_nil ?_
      change wpList _ _ _ _ _ wr.drew
      go_wp2_with fail
      go_roundw
      case rel => exact ⟨j + 1, by omega, by go_num, HC5.out⟩
      case measure => simp [intOf]; omega
     | false =>
      have HC5 := Hd (HC4.out.congr (f' := fun k => if k = i then szP D i (j + 1) else if dl.length ≤ k + m then szAt D k else 0) fun k _ => by rw [HSz.out]; rfl)
      go_wp2_with fail
      go_roundw
      case rel => exact ⟨j + 1, by omega, by go_num, HC5.out⟩
      case measure => simp [intOf]; omega
    ·obtain rfl : j = dl.length := by omega
     clear hlt2
     have HC5 := Hd (HC4.out.congr (f' := fun k => if dl.length ≤ k + (m + 1) then szAt D k else 0) fun k hk => by
      have hi9 := HI.out
      by_cases hki : k = i
      ·rw [if_pos hki, if_pos (by omega), hki, ← HDl.out, szP_end (by rw [HDl.out]; exact hil)]
      ·rw [if_neg hki]
       by_cases h2 : dl.length ≤ k + m
       ·rw [if_pos h2, if_pos (by omega)]
       ·rw [if_neg h2, if_neg (by omega)])
     have z0 := HC5.out.hz hil
     rw [if_pos (by have := HI.out; omega)] at z0
     have HFs := Hd (show zdc D (m + 1) = if m = 0 ∨ szAt D (zdc D m) ≤ szAt D i then i else zdc D m by rw [zdc, HDl.out, show dl.length - 1 - m = i by have := HI.out; omega])
     obtain ⟨s, hs⟩ : ∃ s, szAt D i = s := ⟨_, rfl⟩
     rw [hs] at z0 HFs
     clear hs
     by_cases hm0 : m = 0
     ·have HF2 := Hd (HFs.out.trans (if_pos (.inl hm0)))
      have e0 : ((i : Int) == (dl.length : Int) - 1) = true := by have := HI.out; simp; omega
      go_wp2_with fail
      go_quiet (fail)
      go_wp2_with fail
      go_roundw
      case rel => exact ⟨m + 1, by omega, by have := HI.out; (first | go_num | (congr 1; omega)), by (first | rw [HF2.out] | go_num), HC5.out.below (zca (Below.refl _ _) _)⟩
      case measure => simp [intOf] <;> omega
     ·have hfb := firstTo_bd (D := D) m (by omega) (by rw [HDl.out]; omega)
      rw [HDl.out] at hfb
      have e0 : ((i : Int) == (dl.length : Int) - 1) = false := by have := HI.out; simp; omega
      have z3 := HC5.out.hz hfb.2
      rw [if_pos (by omega)] at z3
      obtain ⟨fm, hfm⟩ : ∃ fm, zdc D m = fm := ⟨_, rfl⟩
      rw [hfm] at z3 hfb HFs ⊢
      have hf1 : (fm : Int) < dl.length := by omega
      obtain ⟨t, ht⟩ : ∃ t, szAt D fm = t := ⟨_, rfl⟩
      rw [ht] at z3 HFs
      clear hfm ht
      by_cases hts : t ≤ s
      ·have HF2 := Hd (HFs.out.trans (if_pos (.inr hts)))
       go_wp2_with fail
       go_quiet (fail)
       go_wp2_with fail
       go_roundw
       case rel => exact ⟨m + 1, by omega, by have := HI.out; (first | go_num | (congr 1; omega)), by (first | rw [HF2.out] | go_num), HC5.out.below (zca (Below.refl _ _) _)⟩
       case measure => simp [intOf] <;> omega
      ·have HF2 := Hd (HFs.out.trans (if_neg (fun h => h.elim hm0 hts)))
       have hts' : decide (t ≤ s) = false := decide_eq_false hts
       go_wp2_with fail
       go_quiet (fail)
       go_wp2_with fail
       go_roundw
       case rel => exact ⟨m + 1, by omega, by have := HI.out; (first | go_num | (congr 1; omega)), by (first | rw [HF2.out] | go_num), HC5.out.below (zca (Below.refl _ _) _)⟩
       case measure => simp [intOf] <;> omega
  ·obtain rfl : m = dl.length := by omega
   clear hlt
   have HC5 := Hd (HC.out.congr (f' := fun k => szAt D k) fun k hk => by rw [if_pos (by omega)])
   have he : (dl.length : Int) - 1 - dl.length = -1 := by omega
   rw [he]
   clear he
   by_cases hn0 : dl.length = 0
   ·have HV := Hd (show zgc D = [] by unfold zgc; rw [if_pos (by rw [HDl.out]; exact hn0)])
    have hn0' : ((dl.length : Int) == 0) = true := by simp [hn0]
    go_wp2_with fail
    first | go_returns | (rw [Exit.noGoto_ret]; go_returns)
    exact ⟨⟨none, 0, by rw [HV.out]; rfl, by rw [HV.out]; exact OwnZ.none_ _ _⟩, HC5.out.ff.below⟩
   ·have hfb := (firstTo_bd (D := D) dl.length (by omega) (by rw [HDl.out]; omega)).2
    rw [HDl.out] at hfb
    have HV := Hd (show zgc D = zTb D (szAt D (zdc D dl.length)).toNat (zdc D dl.length) by unfold zgc; rw [if_neg (by rw [HDl.out]; exact hn0), HDl.out])
    obtain ⟨fm, hfm⟩ : ∃ fm, zdc D dl.length = fm := ⟨_, rfl⟩
    rw [hfm] at hfb HV ⊢
    have hn0' : ((dl.length : Int) == 0) = false := by simp [hn0]
    have hsb := szAt_bd (D := D) fm
    rw [HDl.out] at hsb
    have HH := Hd (zwe (D := D) (i := fm) (by rw [HDl.out]; exact hfb))
    clear hfm
    go_upto_region 20 with (fail)
    refine zfa ?_
    intro W6 hW6
    obtain ⟨g6, hg6⟩ : ∃ z, wr.heap.size = z := ⟨_, rfl⟩
    have hzg := HC5.out.zz.lt
    have hb6 : Below wr.heap.size wr W6 := by rw [hW6]; exact (Below.refl _ _).alloc (Nat.le_refl _) _
    have HC6 := Hd (HC5.out.below hb6)
    have HO6 := Hd (show OwnZ W6 (gz + 1) (some ⟨g6, 0, none⟩) 1 [(fm : Int)] by rw [hW6, ← hg6]; exact Own.new wr #[.int .i64 fm] 1 _ (by omega) (by simp [maxLen]) rfl)
    simp only [hg6]
    clear hW6 hb6 hg6 hzg
    go_wp2_with fail
    first | go_step3 | skip
    go_wp2_with fail
    go_loopw [9, 10] (fun o' a' wr => ∃ (i : Nat) (A : Option Addr) (c : Nat) (l : List Int), i < dl.length ∧ a' = .int .i64 i ∧ o' = .slice A l.length c ∧ OwnZ wr (gz + 1) A c l ∧ l ++ (zTb D (szAt D i).toNat i).tail = zgc D ∧ l.length + (szAt D i).toNat ≤ dl.length + 1 ∧ Crt N w D dl.length g gz gs (fun k => szAt D k) wr) (fun _ a' _ => (szAt D (intOf a').toNat).toNat)
    case atStart => exact ⟨fm, _, _, [(fm : Int)], hfb, rfl, rfl, HO6.out, by rw [HV.out, HH.out]; rfl, by simp; omega, HC6.out⟩
    case round =>
     obtain ⟨i, A, c, l, hil, rfl, rfl, hO, hcr, hll, hC⟩ := hrel
     have HO := Hd hO
     have HC := Hd hC
     have HCr := Hd hcr
     clear hO hC hcr
     have hi1 : (i : Int) < dl.length := by omega
     have z0 := HC.out.hz hil
     by_cases hs1 : szAt D i > 1
     ·have HNx := Hd (szAt_next (D := D) (by rw [HDl.out]; exact hil) hs1)
      obtain ⟨s, hs⟩ : ∃ s, szAt D i = s := ⟨_, rfl⟩
      have HS := Hd hs
      rw [hs] at z0 hs1 hll
      have hsb2 := szAt_bd (D := D) i
      rw [HDl.out, hs] at hsb2
      have hs1' : decide (s > 1) = true := decide_eq_true hs1
      clear hs
      go_wp2_with fail
      go_loopw [9, 10, 79] (fun o' a' j' wr2 => ∃ j : Nat, j ≤ dl.length ∧ o' = .slice A l.length c ∧ a' = .int .i64 i ∧ j' = .int .i64 j ∧ (∀ k, k < j → (zCb D i k && decide (szAt D k = s - 1)) = false) ∧ OwnZ wr2 (gz + 1) A c l ∧ Crt N w D dl.length g gz gs (fun k => szAt D k) wr2) (fun _ _ j' _ => dl.length - (intOf j').toNat)
      case atStart => exact ⟨0, Nat.zero_le _, rfl, rfl, rfl, fun k hk => absurd hk (by omega), HO.out, HC.out⟩
      case round =>
       obtain ⟨j, hj, rfl, rfl, rfl, hno, hO2, hC2⟩ := hrel
       have HNo := Hd hno
       have HO2 := Hd hO2
       have HC2 := Hd hC2
       clear hno hO2 hC2 z0
       by_cases hlt2 : j < dl.length
       ·have hj1 : (j : Int) < dl.length := by omega
        have a0 := HC2.out.ha hil
        have a1 := HC2.out.mm.cell hil hlt2
        have z0 := HC2.out.hz hil
        rw [HS.out] at z0
        have z3 := HC2.out.hz hlt2
        have hsb3 := szAt_bd (D := D) j
        rw [HDl.out] at hsb3
        obtain ⟨t, ht⟩ : ∃ t, szAt D j = t := ⟨_, rfl⟩
        have HT := Hd ht
        rw [ht] at z3 hsb3
        obtain ⟨q, hq⟩ : ∃ q, zCb D i j = q := ⟨_, rfl⟩
        have HQ := Hd hq
        rw [hq] at a1
        clear ht hq
        have HNxt := Hd (show (q && decide (t = s - 1)) = false → ∀ k, k < j + 1 → (zCb D i k && decide (szAt D k = s - 1)) = false from fun h k hk => by
         rcases Nat.lt_succ_iff_lt_or_eq.1 hk with h1 | h1
         ·exact HNo.out k h1
         ·rw [h1, HQ.out, HT.out]; exact h)
        cases q with
        | false =>
         go_wp2_with fail
         go_quiet (fail)
         go_wp2_with fail
         go_roundw
         case rel => exact ⟨j + 1, by omega, rfl, rfl, by go_num, HNxt.out rfl, HO2.out.below (zca (Below.refl _ _) _), HC2.out.below (zca (Below.refl _ _) _)⟩
         case measure => simp [intOf] <;> omega
        | true =>
         by_cases hts : t = s - 1
         ·have e0 : (t == s - 1) = true := by simp [hts]
          have HStep := Hd (crit_step (D := D) (i := i) (j := j) (by rw [HDl.out]; exact hil) (by rw [HDl.out]; exact hlt2) (by rw [HS.out]; exact hs1) HQ.out (by rw [HT.out, HS.out]; exact hts) (by rw [HS.out]; exact HNo.out))
          go_wp2_with fail
          go_quiet (fail)
          go_upto_region 26 with (fail)
          refine zfa ?_
          intro W8 hW8
          have hb8 : Below wr.heap.size wr W8 := by rw [hW8]; exact zca (Below.refl _ _) _
          have HO8 := Hd ((HO2.out.below hb8).below ((Below.refl _ W8).alloc (Nat.le_refl _) (.cells #[.int .i64 j] 3)))
          have HC8 := Hd ((HC2.out.below hb8).below ((Below.refl _ W8).alloc (Nat.le_refl _) (.cells #[.int .i64 j] 3)))
          have hz8 := (HC2.out.below hb8).zz.lt
          clear hW8 hb8 a0 a1 z0 z3
          go_wp2_with (at_builtin; refine zma rfl (.tmp 101) (.tmp 103) rfl (gz + 1) A l.length c l rfl rfl HO8.out _ _ 1 _ [(j : Int)] rfl rfl (zsb _ W8.heap.size rfl _) (by omega) (by simp; omega) ?_; intro A2 c2 w9 hO9 hG9 _; have HO9 := Hd hO9; have HC9 := Hd (HC8.out.grown HO8.out (by omega) hG9); clear hO9 hG9)
          go_roundw
          case rel => exact ⟨j, A2, c2, l ++ [(j : Int)], hlt2, rfl, by simp, HO9.out, by rw [← HCr.out, HStep.out, List.append_assoc]; rfl, by have := HT.out; simp; omega, HC9.out⟩
          case measure => have h1 := HT.out; have h2 := HS.out; simp [intOf, h1, h2] <;> omega
         ·have e0 : (t == s - 1) = false := by simp [hts]
          go_wp2_with fail
          go_quiet (fail)
          go_wp2_with fail
          go_roundw
          case rel => exact ⟨j + 1, by omega, rfl, rfl, by go_num, HNxt.out (by rw [decide_eq_false hts]; rfl), HO2.out.below (zca (Below.refl _ _) _), HC2.out.below (zca (Below.refl _ _) _)⟩
          case measure => simp [intOf] <;> omega
       ·exfalso
        obtain ⟨y, hy1, hy2, hy3⟩ := HNx.out
        rw [HDl.out] at hy1
        have := HNo.out y (by omega)
        rw [hy2, hy3, HS.out] at this
        simp at this
     ·have HV2 := Hd (show l = zgc D by have := HCr.out; rw [crit_stop (by rw [HDl.out]; exact hil) hs1, List.append_nil] at this; exact this)
      have hs1' : decide (szAt D i > 1) = false := decide_eq_false hs1
      go_wp2_with fail
      first | go_returns | (rw [Exit.noGoto_ret]; go_returns)
      exact ⟨⟨A, c, by rw [← HV2.out]; try rfl, by rw [← HV2.out]; exact Own.rebase HO.out (by have := HC.out.l1; omega)⟩, HC.out.ff.below⟩
end Go.Proofs.YtakgiamhdpgoeaaGreat
