/- Lemmas. -/
import Derived.Test.YtakgiamhdpgoeaaGreatP26
import Derived.Test.YtakgiamhdpgoeaaGreatP49
import Derived.Test.YtakgiamhdpgoeaaGreatP51
set_option linter.unusedSimpArgs false
namespace Go.Proofs.YtakgiamhdpgoeaaGreat
open Go.RowKit
set_option linter.unusedVariables false
theorem plcFieldOf (a b c e f : Value) (w : World) : (Instr.field 40 (.agg #[a, b, c, e, f]) 0).run Tryz.prog w = .ok a w := by kernel_rfl
theorem zub.inf_no {e : Int} {J : JobM} {crit : List Int} {b : Int} {r : PlcM} {st : List Int} (h : zub e J crit b r) (hb : 0 ≤ b) (hv : zRb e J st = true) : r.status ≠ 2 := by
 intro hs
 unfold zRb at hv
 simp only [Bool.and_eq_true, decide_eq_true_eq] at hv
 obtain ⟨⟨h1, h2⟩, h3⟩ := hv
 obtain ⟨v1, v2⟩ := JobM.valid_good h3
 have ho := obst_none (crit := crit) v1 v2
 unfold zub at h
 rw [if_neg (by omega), if_neg (by omega), if_neg (by omega), if_neg (by omega)] at h
 obtain ⟨x, hx, rfl⟩ := h
 have hf := hx.found
 cases x with
 | placed st k => simp [Res.plc] at hs
 | undecided k => simp [Res.plc] at hs
 | full k => exact hf.2 k rfl st v1 v2
set_option maxRecDepth 100000 in
set_option maxHeartbeats 8000000 in
theorem grows_any (d : PrgD) (c e : ChipD) (w : World) (hR : PrgR w w.heap.size d) :
  Calls Tryz.prog 5 #[PrgD.v d, chipV c, chipV e] w fun e' w' => e' = .returned (.bool true) ∧ Below w.heap.size w w' := by
 obtain ⟨N, hN⟩ : ∃ N, w.heap.size = N := ⟨_, rfl⟩
 rw [hN] at hR ⊢
 have F0 := Fr.start w
 rw [hN] at F0
 have HF0 := Hd F0
 have HR := Hd hR
 clear hR F0
 unfold PrgD.v PrgD.vs chipV
 go_enter Tryz.func5, Tryz.ntmps5
 go_wp2_with fail
 refine Calls.named ?_
 intro W1 hW1
 have F1 := (((HF0.out.alloc _ _).alloc _ _).alloc _ _).of_eq hW1
 simp only [World.size_alloc, hN, Nat.add_assoc, Nat.reduceAdd] at F1 ⊢
 have HF1 := Hd (show Fr N w W1 [(N + 2, 33, #[.int .i64 e.stages, .int .i64 e.tZ, .int .i64 e.gates, .int .i64 e.sram, .int .i64 e.tcam, .int .i64 e.c8, .int .i64 e.c16, .int .i64 e.c32]), (N + 1, 33, #[.int .i64 c.stages, .int .i64 c.tZ, .int .i64 c.gates, .int .i64 c.sram, .int .i64 c.tcam, .int .i64 c.c8, .int .i64 c.c16, .int .i64 c.c32]), (N, 31, d.vs)] from F1)
 clear F1 hW1
 have hcon := zse d W1 (HF1.out.prg HR.out)
 unfold PrgD.v PrgD.vs at hcon
 with_reducible refine hcon.mono ?_
 clear hcon
 rintro e' w4 ⟨⟨q, rfl, hq⟩, hb4⟩
 have HF4 := Hd (HF1.out.call hb4)
 have HQ := Hd hq
 clear hb4 hq
 have a0 : ∀ i, w4.cell? ⟨N, i, none⟩ = _ := fun i => HF4.out.cell (.tail _ (.tail _ (.head _))) i
 have a1 : ∀ i, w4.cell? ⟨N + 1, i, none⟩ = _ := fun i => HF4.out.cell (.tail _ (.head _)) i
 have a2 : ∀ i, w4.cell? ⟨N + 2, i, none⟩ = _ := fun i => HF4.out.cell (.head _) i
 cases q with
 | false =>
  go_wp2_with fail
  with_reducible refine (zLa _).mono ?_
  rintro e' wz ⟨rfl, hbz⟩
  have HFz := Hd (HF4.out.call hbz)
  clear hbz
  go_wp2_with fail
  go_returns
  exact ⟨rfl, HFz.out.below⟩
 | true =>
  have HSd := Hd (HQ.out rfl)
  clear HQ
  by_cases k_stages : e.stages < c.stages
  ·have k_stagesd : decide (e.stages < c.stages) = true := decide_eq_true k_stages
   go_wp2_with fail
   with_reducible refine (zLa _).mono ?_
   rintro e' wz ⟨rfl, hbz⟩
   have HFz := Hd (HF4.out.call hbz)
   clear hbz
   go_wp2_with fail
   go_returns
   exact ⟨rfl, HFz.out.below⟩
  ·have k_stagesd : decide (e.stages < c.stages) = false := decide_eq_false k_stages
   by_cases k_tables : e.tZ < c.tZ
   ·have k_tablesd : decide (e.tZ < c.tZ) = true := decide_eq_true k_tables
    go_wp2_with fail
    with_reducible refine (zLa _).mono ?_
    rintro e' wz ⟨rfl, hbz⟩
    have HFz := Hd (HF4.out.call hbz)
    clear hbz
    go_wp2_with fail
    go_returns
    exact ⟨rfl, HFz.out.below⟩
   ·have k_tablesd : decide (e.tZ < c.tZ) = false := decide_eq_false k_tables
    by_cases k_gates : e.gates < c.gates
    ·have k_gatesd : decide (e.gates < c.gates) = true := decide_eq_true k_gates
     go_wp2_with fail
     with_reducible refine (zLa _).mono ?_
     rintro e' wz ⟨rfl, hbz⟩
     have HFz := Hd (HF4.out.call hbz)
     clear hbz
     go_wp2_with fail
     go_returns
     exact ⟨rfl, HFz.out.below⟩
    ·have k_gatesd : decide (e.gates < c.gates) = false := decide_eq_false k_gates
     by_cases k_sram : e.sram < c.sram
     ·have k_sramd : decide (e.sram < c.sram) = true := decide_eq_true k_sram
      go_wp2_with fail
      with_reducible refine (zLa _).mono ?_
      rintro e' wz ⟨rfl, hbz⟩
      have HFz := Hd (HF4.out.call hbz)
      clear hbz
      go_wp2_with fail
      go_returns
      exact ⟨rfl, HFz.out.below⟩
     ·have k_sramd : decide (e.sram < c.sram) = false := decide_eq_false k_sram
      by_cases k_tcam : e.tcam < c.tcam
      ·have k_tcamd : decide (e.tcam < c.tcam) = true := decide_eq_true k_tcam
       go_wp2_with fail
       with_reducible refine (zLa _).mono ?_
       rintro e' wz ⟨rfl, hbz⟩
       have HFz := Hd (HF4.out.call hbz)
       clear hbz
       go_wp2_with fail
       go_returns
       exact ⟨rfl, HFz.out.below⟩
      ·have k_tcamd : decide (e.tcam < c.tcam) = false := decide_eq_false k_tcam
       obtain ⟨cc, hcc⟩ : ∃ z, zAa e = z := ⟨_, rfl⟩
       have hcon := zyc e w4
       rw [hcc] at hcon
       have HCon := Hd hcon
       have HCc := Hd hcc
       clear hcon hcc
       go_wp2_with fail
       with_reducible refine HCon.out.mono ?_
       rintro e' w5 ⟨rfl, hb5⟩
       have HF5 := Hd (HF4.out.call hb5)
       clear hb5 HCon a0 a1 a2
       by_cases hc0 : cc = 0
       ·subst hc0
        have HLe := Hd (show ChipLe c e from ⟨by omega, by omega, by omega, by omega, by omega⟩)
        have a0 : ∀ i, w5.cell? ⟨N, i, none⟩ = _ := fun i => HF5.out.cell (.tail _ (.tail _ (.head _))) i
        have a1 : ∀ i, w5.cell? ⟨N + 1, i, none⟩ = _ := fun i => HF5.out.cell (.tail _ (.head _)) i
        have a2 : ∀ i, w5.cell? ⟨N + 2, i, none⟩ = _ := fun i => HF5.out.cell (.head _) i
        have hcon := zDc d c 2000 w5 (HF5.out.prg HR.out) HSd.out (by unfold I64; omega)
        unfold PrgD.v PrgD.vs at hcon
        have HCon := Hd hcon
        clear hcon
        go_wp2_with fail
        with_reducible refine HCon.out.mono ?_
        rintro e' w6 ⟨⟨⟨r1, r2, r3, r4, r5⟩, A, cA, B, cB, rfl, hpm, hoa, hob⟩, hb6⟩
        have HF6 := Hd (HF5.out.call hb6)
        have HPm := Hd hpm
        have HOa := Hd hoa
        have HOb := Hd hob
        clear hpm hoa hob hb6 HCon a0 a1 a2
        go_upto_region 4 with (fail)
        refine zfa ?_
        intro W7 hW7
        obtain ⟨M, hM⟩ : ∃ z, w6.heap.size = z := ⟨_, rfl⟩
        have hb7 : Below w6.heap.size w6 W7 := by rw [hW7]; exact (Below.refl _ _).alloc (Nat.le_refl _) _
        have HF7 := Hd (HF6.out.call hb7)
        have HOa7 := Hd (HOa.out.below hb7)
        have HBx := Hd (show Blk W7 M 40 _ by rw [hW7, ← hM]; exact Blk.new _ _ _)
        simp only [hM]
        clear hW7 hb7 hM
        have m0 : ∀ i, W7.cell? ⟨M, i, none⟩ = _ := fun i => HBx.out.cell i
        have hMl := HBx.out.lt
        by_cases hr1 : r1 = 1
        ·subst hr1
         have HVc := Hd (zRb.grow (d := e) (HPm.out.placed rfl).1 HCc.out HLe.out)
         have HVe := Hd (show zRb (zra d).1 (jobOf d e) r2 = true from HVc.out)
         have a0 : ∀ i, W7.cell? ⟨N, i, none⟩ = _ := fun i => HF7.out.cell (.tail _ (.tail _ (.head _))) i
         have a2 : ∀ i, W7.cell? ⟨N + 2, i, none⟩ = _ := fun i => HF7.out.cell (.head _) i
         have hN2 : N + 2 < W7.heap.size := HF7.out.lt (.head _)
         have hcon := zDc d e 2000 W7 (HF7.out.prg HR.out) HSd.out (by unfold I64; omega)
         unfold PrgD.v PrgD.vs at hcon
         have HCon := Hd hcon
         clear hcon
         have hfd := plcFieldOf
         go_wp2_with fail
         with_reducible refine HCon.out.mono ?_
         rintro e' w8 ⟨⟨⟨s1, s2, s3, s4, s5⟩, A2, cA2, B2, cB2, rfl, hpm2, hoa2, hob2⟩, hb8⟩
         have HF8 := Hd (HF7.out.call hb8)
         have HBx8 := Hd (HBx.out.below hb8 HBx.out.lt)
         have HOa8 := Hd (HOa7.out.below hb8)
         have hs1 : s1 ≠ 2 := hpm2.inf_no (by omega) HVe.out
         have hs1' : (s1 != 2) = true := by simp [hs1]
         clear hpm2 hoa2 hob2 hb8 HCon a0 a2 hN2 m0 hMl
         have a0 : ∀ i, w8.cell? ⟨N, i, none⟩ = _ := fun i => HF8.out.cell (.tail _ (.tail _ (.head _))) i
         have a2 : ∀ i, w8.cell? ⟨N + 2, i, none⟩ = _ := fun i => HF8.out.cell (.head _) i
         have m0 : ∀ i, w8.cell? ⟨M, i, none⟩ = _ := fun i => HBx8.out.cell i
         have hMl := HBx8.out.lt
         have hcon := zud d e ⟨A, cA, r2⟩ w8 (HF8.out.prg HR.out) HSd.out (OwnZ.slr HOa8.out fun _ _ => trivial)
         simp only at hcon
         rw [HVe.out] at hcon
         unfold PrgD.v PrgD.vs at hcon
         have HCon := Hd hcon
         clear hcon
         go_wp2_with fail
         with_reducible refine HCon.out.mono ?_
         rintro e' w9 ⟨rfl, hb9⟩
         have HF9 := Hd (HF8.out.call hb9)
         clear hb9 HCon a0 a2 m0 hMl
         go_wp2_with fail
         with_reducible refine (zLa _).mono ?_
         rintro e' wz ⟨rfl, hbz⟩
         have HFz := Hd (HF9.out.call hbz)
         clear hbz
         go_wp2_with fail
         go_returns
         exact ⟨rfl, HFz.out.below⟩
        ·have hr1' : (r1 != 1) = true := by simp [hr1]
         go_wp2_with fail
         with_reducible refine (zLa _).mono ?_
         rintro e' wz ⟨rfl, hbz⟩
         have HFz := Hd (HF7.out.call hbz)
         clear hbz
         go_wp2_with fail
         go_returns
         exact ⟨rfl, HFz.out.below⟩
       ·have hc0' : (cc != 0) = true := by simp [hc0]
        go_wp2_with fail
        with_reducible refine (zLa _).mono ?_
        rintro e' wz ⟨rfl, hbz⟩
        have HFz := Hd (HF5.out.call hbz)
        clear hbz
        go_wp2_with fail
        go_returns
        exact ⟨rfl, HFz.out.below⟩
end Go.Proofs.YtakgiamhdpgoeaaGreat
