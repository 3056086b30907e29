/- Lemmas. -/
import Derived.Test.YtakgiamhdpgoeaaGreatP26
import Derived.Test.YtakgiamhdpgoeaaGreatP51
import Derived.Test.YtakgiamhdpgoeaaGreatP49
set_option linter.unusedSimpArgs false
namespace Go.Proofs.YtakgiamhdpgoeaaGreat
open Go.RowKit
set_option linter.unusedVariables false
theorem past_of {a b : List Int} {k : Nat} {x y : Int} (hp : ∀ j, j < k → a[j]? = b[j]?) (hx : a[k]? = some x) (hy : b[k]? = some y) (h : x < y) : Past b 0 a := by
 have hbl := (List.getElem?_eq_some_iff.1 hy).1
 refine ⟨k, x, y, ?_, by omega, hx, by rw [List.getElem?_append_left hbl]; exact hy, h⟩
 apply List.ext_getElem?
 intro j
 by_cases hj : j < k
 ·rw [List.getElem?_take, List.getElem?_take, if_pos hj, if_pos hj]; exact hp j hj
 ·rw [List.getElem?_take, List.getElem?_take, if_neg hj, if_neg hj]
set_option maxRecDepth 100000 in
set_option maxHeartbeats 8000000 in
theorem less_any (a b : SL Int) (w : World) (hA : SLR w w.heap.size 1 intE (fun _ => True) a) (hB : SLR w w.heap.size 1 intE (fun _ => True) b) :
  Calls Tryz.prog 10 #[.slice a.a a.l.length a.c, .slice b.a b.l.length b.c] w fun e w' => (∃ q, e = .returned (.bool q) ∧ (q = true → Past b.l 0 a.l)) ∧ Below w.heap.size w w' := by
 obtain ⟨N, hN⟩ : ∃ N, w.heap.size = N := ⟨_, rfl⟩
 rw [hN] at hA hB ⊢
 have F0 := Fr.start w
 rw [hN] at F0
 have HF0 := Hd F0
 have HA := Hd hA
 have HB := Hd hB
 have hal := hA.len
 have hbl := hB.len
 obtain ⟨aa, ac, al⟩ := a
 obtain ⟨ba, bc, bl⟩ := b
 simp only at hal hbl ⊢
 clear hA hB F0
 go_enter Tryz.func10, Tryz.ntmps10
 go_wp2_with fail
 go_loopw [5] (fun i' wv => ∃ k : Nat, k ≤ al.length ∧ i' = .int .i64 k ∧ (∀ j, j < k → al[j]? = bl[j]?) ∧ Fr N w wv []) (fun i' _ => al.length - (intOf i').toNat)
 case atStart => exact ⟨0, Nat.zero_le _, rfl, fun j hj => absurd hj (by omega), HF0.out⟩
 case round =>
  obtain ⟨k, hk, rfl, hall, hF⟩ := hrel
  have HF := Hd hF
  have HAll := Hd hall
  clear hF hall
  by_cases h1 : k < al.length
  ·have h1' : decide (k < al.length) = true := decide_eq_true h1
   have h1i : (k : Int) < al.length := by omega
   by_cases h2 : k < bl.length
   ·have h2' : decide (k < bl.length) = true := decide_eq_true h2
    have h2i : (k : Int) < bl.length := by omega
    obtain ⟨b2, off2, x, hA2, hb2, hx, _, hc2⟩ := HF.out.at_ HA.out zna (by omega) h1
    obtain ⟨b3, off3, y, hA3, hb3, hy, _, hc3⟩ := HF.out.at_ HB.out zna (by omega) h2
    have p0 := hc2 0 _ rfl
    have p1 := hc3 0 _ rfl
    simp only [Nat.add_zero, Nat.mul_one] at p0 p1
    simp only at hA2 hA3
    have HX := Hd hx
    have HY := Hd hy
    subst hA2 hA3
    clear hc2 hc3 hx hy
    by_cases hxy : x = y
    ·have hne : (x != y) = false := by simp [hxy]
     have HNx := Hd (show ∀ j, j < k + 1 → al[j]? = bl[j]? from fun j hj => by
      rcases Nat.lt_succ_iff_lt_or_eq.1 hj with h | h
      ·exact HAll.out j h
      ·rw [h, HX.out, HY.out, hxy])
     clear hxy
     go_wp2_with fail
     go_quiet (fail)
     go_wp2_with fail
     go_roundw
     case rel => exact ⟨k + 1, by omega, by go_num, HNx.out, HF.out.call (zca (Below.refl _ _) _)⟩
     case measure => simp [intOf] <;> omega
    ·have hne : (x != y) = true := by simp [hxy]
     have hb2' : b2 < wr.heap.size := Nat.lt_of_lt_of_le hb2 HF.out.le
     have hb3' : b3 < wr.heap.size := Nat.lt_of_lt_of_le hb3 HF.out.le
     have HP := Hd (show decide (x < y) = true → Past bl 0 al from fun h => past_of HAll.out HX.out HY.out (of_decide_eq_true h))
     clear hxy
     go_wp2_with fail
     go_quiet (fail)
     go_wp2_with fail
     go_quiet (fail)
     go_wp2_with fail
     go_returns
     exact ⟨⟨_, rfl, HP.out⟩, (HF.out.call (zca (zca (Below.refl _ _) _) _)).below⟩
   ·have h2' : decide (k < bl.length) = false := decide_eq_false h2
    go_wp2_with fail
    go_returns
    exact ⟨⟨false, rfl, fun h => by cases h⟩, HF.out.below⟩
  ·have h1' : decide (k < al.length) = false := decide_eq_false h1
   go_wp2_with fail
   go_returns
   exact ⟨⟨false, rfl, fun h => by cases h⟩, HF.out.below⟩
open Go.RowKit
set_option maxRecDepth 100000 in
set_option maxHeartbeats 8000000 in
theorem smallC_any (d : PrgD) (c : ChipD) (st : SL Int) (w : World) (hR : PrgR w w.heap.size d) (hT : SLR w w.heap.size 1 intE (fun _ => True) st) :
  Calls Tryz.prog 6 #[.agg #[.string d.name, .slice d.hZ.a d.hZ.l.length d.hZ.c, .slice d.mZ.a d.mZ.l.length d.mZ.c, .slice d.rZ.a d.rZ.l.length d.rZ.c, .slice d.aZ.a d.aZ.l.length d.aZ.c, .slice d.tZ.a d.tZ.l.length d.tZ.c, .slice d.sZ.a d.sZ.l.length d.sZ.c, .slice d.cZ.a d.cZ.l.length d.cZ.c, .slice d.dep.a d.dep.l.length d.dep.c, .int .i64 c.stages, .int .i64 c.tZ, .int .i64 c.gates, .int .i64 c.sram, .int .i64 c.tcam, .int .i64 c.c8, .int .i64 c.c16, .int .i64 c.c32, .slice st.a st.l.length st.c]] w fun e w' => SmQ (PrgS d ∧ st.l.length ≤ 100) e ∧ Below w.heap.size w w' := by
 obtain ⟨N, hN⟩ : ∃ N, w.heap.size = N := ⟨_, rfl⟩
 rw [hN] at hR hT ⊢
 have F0 := Fr.start w
 rw [hN] at F0
 have HF0 := Hd F0
 have HR := Hd hR
 have htl := hT.len
 obtain ⟨ta, tc, tl⟩ := st
 simp only at htl ⊢
 clear hR F0 hT
 go_enter Tryz.func6, Tryz.ntmps6
 go_wp2_with fail
 refine Calls.named ?_
 intro W1 hW1
 have F1 := (HF0.out.alloc _ _).of_eq hW1
 simp only [hN] at F1 ⊢
 have HF1 := Hd F1
 clear F1 hW1
 have hcon := zse d W1 (HF1.out.prg HR.out)
 unfold PrgD.v PrgD.vs at hcon
 with_reducible refine hcon.mono ?_
 clear hcon
 rintro e w3 ⟨⟨q, rfl, hq⟩, hb3⟩
 have HF3 := Hd (HF1.out.call hb3)
 have HQ := Hd hq
 clear hb3 hq
 have g0 : ∀ i, w3.cell? ⟨N, i, none⟩ = _ := fun i => HF3.out.cell (.head _) i
 have l0 : N < w3.heap.size := HF3.out.lt (.head _)
 cases q with
 | false =>
  go_wp2_with fail
  go_returns
  exact ⟨⟨false, rfl, fun h => by cases h⟩, HF3.out.below⟩
 | true =>
  have HQ2 := Hd (HQ.out rfl)
  by_cases hl : tl.length ≤ 100
  ·have hld : decide (tl.length ≤ 100) = true := decide_eq_true hl
   have hli : (tl.length : Int) ≤ 100 := by omega
   have hlj : decide ((tl.length : Int) ≤ 100) = true := decide_eq_true hli
   go_wp2_with fail
   go_returns
   exact ⟨⟨true, rfl, fun _ => ⟨HQ2.out, hl⟩⟩, HF3.out.below⟩
  ·have hld : decide (tl.length ≤ 100) = false := decide_eq_false hl
   have hli : ¬ (tl.length : Int) ≤ 100 := by omega
   have hlj : decide ((tl.length : Int) ≤ 100) = false := decide_eq_false hli
   go_wp2_with fail
   go_returns
   exact ⟨⟨false, rfl, fun h => by cases h⟩, HF3.out.below⟩
open Go.RowKit
set_option maxRecDepth 100000 in
set_option maxHeartbeats 8000000 in
theorem minimal_any (d : PrgD) (c : ChipD) (st : SL Int) (b : Int) (w : World) (hR : PrgR w w.heap.size d) (hT : SLR w w.heap.size 1 intE (fun _ => True) st) (hb : I64 b) :
  Calls Tryz.prog 3 #[.agg #[.string d.name, .slice d.hZ.a d.hZ.l.length d.hZ.c, .slice d.mZ.a d.mZ.l.length d.mZ.c, .slice d.rZ.a d.rZ.l.length d.rZ.c, .slice d.aZ.a d.aZ.l.length d.aZ.c, .slice d.tZ.a d.tZ.l.length d.tZ.c, .slice d.sZ.a d.sZ.l.length d.sZ.c, .slice d.cZ.a d.cZ.l.length d.cZ.c, .slice d.dep.a d.dep.l.length d.dep.c, .int .i64 c.stages, .int .i64 c.tZ, .int .i64 c.gates, .int .i64 c.sram, .int .i64 c.tcam, .int .i64 c.c8, .int .i64 c.c16, .int .i64 c.c32, .slice st.a st.l.length st.c], .int .i64 b] w fun e' w' => e' = .returned (.bool true) ∧ Below w.heap.size w w' := by
 obtain ⟨N, hN⟩ : ∃ N, w.heap.size = N := ⟨_, rfl⟩
 rw [hN] at hR hT ⊢
 have F0 := Fr.start w
 rw [hN] at F0
 have HF0 := Hd F0
 have HR := Hd hR
 have HT := Hd hT
 obtain ⟨hb0, hb1⟩ := hb
 obtain ⟨ta, tc, tl⟩ := st
 simp only
 clear hR F0 hT
 go_enter Tryz.func3, Tryz.ntmps3
 go_upto_region 1 with (fail)
 refine zfa ?_
 intro W1 hW1
 have F1 := (HF0.out.alloc _ _).of_eq hW1
 simp only [hN] at F1 ⊢
 have HF1 := Hd (show Fr N w W1 [(N, 35, #[.string d.name, .slice d.hZ.a d.hZ.l.length d.hZ.c, .slice d.mZ.a d.mZ.l.length d.mZ.c, .slice d.rZ.a d.rZ.l.length d.rZ.c, .slice d.aZ.a d.aZ.l.length d.aZ.c, .slice d.tZ.a d.tZ.l.length d.tZ.c, .slice d.sZ.a d.sZ.l.length d.sZ.c, .slice d.cZ.a d.cZ.l.length d.cZ.c, .slice d.dep.a d.dep.l.length d.dep.c, .int .i64 c.stages, .int .i64 c.tZ, .int .i64 c.gates, .int .i64 c.sram, .int .i64 c.tcam, .int .i64 c.c8, .int .i64 c.c16, .int .i64 c.c32, .slice ta tl.length tc])] from F1)
 clear F1 hW1
 have hblk : Blk W1 N 35 #[.string d.name, .slice d.hZ.a d.hZ.l.length d.hZ.c, .slice d.mZ.a d.mZ.l.length d.mZ.c, .slice d.rZ.a d.rZ.l.length d.rZ.c, .slice d.aZ.a d.aZ.l.length d.aZ.c, .slice d.tZ.a d.tZ.l.length d.tZ.c, .slice d.sZ.a d.sZ.l.length d.sZ.c, .slice d.cZ.a d.cZ.l.length d.cZ.c, .slice d.dep.a d.dep.l.length d.dep.c, .int .i64 c.stages, .int .i64 c.tZ, .int .i64 c.gates, .int .i64 c.sram, .int .i64 c.tcam, .int .i64 c.c8, .int .i64 c.c16, .int .i64 c.c32, .slice ta tl.length tc] := (HF1.out.blk _ (.head _)).2
 go_wp2_with (refine wpList_load_row rfl 35 (.tmp 2) rfl N rfl _ _ _ _ hblk Tryz.underlying35 rfl (by kernel_rfl) ?_; clear hblk)
 refine Calls.named ?_
 intro W1b hW1b
 have HF1 := Hd (HF1.out.of_eq hW1b)
 clear hW1b
 have hcon := smallC_any d c ⟨ta, tc, tl⟩ W1b (HF1.out.prg HR.out) (HF1.out.slr HT.out)
 simp only at hcon
 with_reducible refine hcon.mono ?_
 clear hcon
 rintro e' w4 ⟨⟨q, rfl, hq⟩, hb4⟩
 have HF4 := Hd (HF1.out.call hb4)
 have HQ := Hd hq
 clear hb4 hq
 cases q with
 | false =>
  go_wp2_with fail
  with_reducible refine (zLa _).mono ?_
  rintro e' wz ⟨rfl, hbz⟩
  have HFz := Hd (HF4.out.call hbz)
  clear hbz
  go_wp2_with fail
  go_returns
  exact ⟨rfl, HFz.out.below⟩
 | true =>
  have HSd := Hd (HQ.out rfl).1
  clear HQ
  have a0 : ∀ i, w4.cell? ⟨N, i, none⟩ = _ := fun i => HF4.out.cell (.head _) i
  have hNl : N < w4.heap.size := HF4.out.lt (.head _)
  obtain ⟨mb, hmb⟩ : ∃ mb, min b 2000 = mb := ⟨_, rfl⟩
  have hmI : I64 mb := by unfold I64; omega
  have hcon := zDc d c mb w4 (HF4.out.prg HR.out) HSd.out hmI
  unfold PrgD.v PrgD.vs at hcon
  rw [← hmb] at hcon
  have HCon := Hd hcon
  clear hcon hmb hmI
  go_wp2_with fail
  with_reducible refine HCon.out.mono ?_
  rintro e' w6 ⟨⟨⟨r1, r2, r3, r4, r5⟩, A, cA, B, cB, rfl, hpm, hoa, hob⟩, hb6⟩
  have HF6 := Hd (HF4.out.call hb6)
  have HPm := Hd hpm
  have HOa := Hd hoa
  clear hpm hoa hob hb6 HCon a0 hNl
  go_upto_region 4 with (fail)
  refine zfa ?_
  intro W7 hW7
  obtain ⟨M, hM⟩ : ∃ z, w6.heap.size = z := ⟨_, rfl⟩
  have hb7 : Below w6.heap.size w6 W7 := by rw [hW7]; exact (Below.refl _ _).alloc (Nat.le_refl _) _
  have HF7 := Hd (HF6.out.call hb7)
  have HOa7 := Hd (HOa.out.below hb7)
  have HBx := Hd (show Blk W7 M 40 _ by rw [hW7, ← hM]; exact Blk.new _ _ _)
  simp only [hM]
  clear hW7 hb7 hM
  have a0 : ∀ i, W7.cell? ⟨N, i, none⟩ = _ := fun i => HF7.out.cell (.head _) i
  have hNl : N < W7.heap.size := HF7.out.lt (.head _)
  have hcon := zud d c ⟨ta, tc, tl⟩ W7 (HF7.out.prg HR.out) HSd.out (HF7.out.slr HT.out)
  simp only at hcon
  obtain ⟨v, hv⟩ : ∃ v, zRb (zra d).1 (jobOf d c) tl = v := ⟨_, rfl⟩
  have HV := Hd hv
  rw [hv] at hcon
  unfold PrgD.v PrgD.vs at hcon
  have HCon := Hd hcon
  clear hcon hv
  go_wp2_with fail
  with_reducible refine HCon.out.mono ?_
  rintro e' w8 ⟨rfl, hb8⟩
  have HF8 := Hd (HF7.out.call hb8)
  have HBx8 := Hd (HBx.out.below hb8 HBx.out.lt)
  have HOa8 := Hd (HOa7.out.below hb8)
  clear hb8 HCon a0 hNl
  have m0 : ∀ i, w8.cell? ⟨M, i, none⟩ = _ := fun i => HBx8.out.cell i
  have hMl := HBx8.out.lt
  have a0 : ∀ i, w8.cell? ⟨N, i, none⟩ = _ := fun i => HF8.out.cell (.head _) i
  have hNl : N < w8.heap.size := HF8.out.lt (.head _)
  by_cases hr1 : r1 = 1
  ·subst hr1
   obtain ⟨pl1, pl2, pl3⟩ := HPm.out.placed rfl
   simp only at pl1 pl2 pl3
   subst pl2
   have HPa := Hd (show v = true → Past r2 0 tl → False from fun hvt hp => pl3 tl (by rw [HV.out]; exact hvt) hp)
   have hcon := zud d c ⟨A, cA, r2⟩ w8 (HF8.out.prg HR.out) HSd.out (OwnZ.slr HOa8.out fun _ _ => trivial)
   simp only at hcon
   rw [pl1] at hcon
   unfold PrgD.v PrgD.vs at hcon
   have HCon := Hd hcon
   clear hcon pl1 pl3
   go_wp2_with fail
   with_reducible refine HCon.out.mono ?_
   rintro e' w9 ⟨rfl, hb9⟩
   have HF9 := Hd (HF8.out.call hb9)
   have HBx9 := Hd (HBx8.out.below hb9 HBx8.out.lt)
   have HOa9 := Hd (HOa8.out.below hb9)
   clear hb9 HCon a0 hNl m0 hMl
   have m0 : ∀ i, w9.cell? ⟨M, i, none⟩ = _ := fun i => HBx9.out.cell i
   have hMl := HBx9.out.lt
   have a0 : ∀ i, w9.cell? ⟨N, i, none⟩ = _ := fun i => HF9.out.cell (.head _) i
   have hNl : N < w9.heap.size := HF9.out.lt (.head _)
   cases v with
   | false =>
    clear HPa
    go_wp2_with fail
    with_reducible refine (zLa _).mono ?_
    rintro e' wz ⟨rfl, hbz⟩
    have HFz := Hd (HF9.out.call hbz)
    clear hbz
    go_wp2_with fail
    go_returns
    exact ⟨rfl, HFz.out.below⟩
   | true =>
    have hcon := less_any ⟨ta, tc, tl⟩ ⟨A, cA, r2⟩ w9 (HF9.out.slr HT.out) (OwnZ.slr HOa9.out fun _ _ => trivial)
    simp only at hcon
    have HCon := Hd hcon
    have HPb := Hd (show Past r2 0 tl → False from HPa.out rfl)
    clear hcon HPa
    go_wp2_with fail
    with_reducible refine HCon.out.mono ?_
    rintro e' w10 ⟨⟨q, rfl, hq⟩, hb10⟩
    have HF10 := Hd (HF9.out.call hb10)
    have HBx10 := Hd (HBx9.out.below hb10 HBx9.out.lt)
    have hqf : q = false := by
     cases q with
     | false => rfl
     | true => exact absurd (hq rfl) HPb.out
    subst hqf
    clear hb10 HCon a0 hNl m0 hMl hq HPb
    have m0 : ∀ i, w10.cell? ⟨M, i, none⟩ = _ := fun i => HBx10.out.cell i
    have hMl := HBx10.out.lt
    go_wp2_with fail
    with_reducible refine (zLa _).mono ?_
    rintro e' wz ⟨rfl, hbz⟩
    have HFz := Hd (HF10.out.call hbz)
    clear hbz
    go_wp2_with fail
    go_returns
    exact ⟨rfl, HFz.out.below⟩
  ·have hr1' : (r1 == 1) = false := by simp [hr1]
   by_cases hr2 : r1 = 2
   ·subst hr2
    have HNo := Hd (show r4 = 2 ∨ v = false by
     by_cases h4 : r4 = 2
     ·exact .inl h4
     ·refine .inr ?_
      rw [← HV.out]
      by_cases hbn : 0 ≤ min b 2000
      ·exact HPm.out.none_ rfl h4 (.inr hbn)
      ·exact (HPm.out.neg (by omega) rfl).resolve_right h4)
    cases v with
    | false =>
     clear HNo
     go_wp2_with fail
     with_reducible refine (zLa _).mono ?_
     rintro e' wz ⟨rfl, hbz⟩
     have HFz := Hd (HF8.out.call hbz)
     clear hbz
     go_wp2_with fail
     go_returns
     exact ⟨rfl, HFz.out.below⟩
    | true =>
     have h4 : r4 = 2 := by
      rcases HNo.out with h | h
      ·exact h
      ·cases h
     subst h4
     clear HNo
     go_wp2_with fail
     with_reducible refine (zLa _).mono ?_
     rintro e' wz ⟨rfl, hbz⟩
     have HFz := Hd (HF8.out.call hbz)
     clear hbz
     go_wp2_with fail
     go_returns
     exact ⟨rfl, HFz.out.below⟩
   ·have hr2' : (r1 == 2) = false := by simp [hr2]
    obtain ⟨h3, hst⟩ : r1 = 3 ∧ r2 = [] := by
     rcases HPm.out.kinds with h | h | h
     ·exact absurd h hr1
     ·exact absurd h hr2
     ·exact h
    subst h3 hst
    go_wp2_with fail
    with_reducible refine (zLa _).mono ?_
    rintro e' wz ⟨rfl, hbz⟩
    have HFz := Hd (HF8.out.call hbz)
    clear hbz
    go_wp2_with fail
    go_returns
    exact ⟨rfl, HFz.out.below⟩
open Go.ChangeShapes Go.WideShapes Go.ChangeAt Go.RowKit Go.Deep
set_option maxRecDepth 100000 in
theorem len_18 {cs : List Value} (h : cs.length = 18) : ∃ c0 c1 c2 c3 c4 c5 c6 c7 c8 c9 c10 c11 c12 c13 c14 c15 c16 c17, cs = [c0, c1, c2, c3, c4, c5, c6, c7, c8, c9, c10, c11, c12, c13, c14, c15, c16, c17] := by
 match cs, h with
 | [c0, c1, c2, c3, c4, c5, c6, c7, c8, c9, c10, c11, c12, c13, c14, c15, c16, c17], _ => exact ⟨c0, c1, c2, c3, c4, c5, c6, c7, c8, c9, c10, c11, c12, c13, c14, c15, c16, c17, rfl⟩
section
variable {H : Type} {enc : TypeId × Value → H} {w : World} {base : Nat} {spare : Nat → Bool} {held : Bool}
set_option maxRecDepth 100000 in
theorem case_open {n : Nat} {cs : List Value} {x : DataW H × List MemPlace} (h : DataW.trod enc Tryz.prog w base spare held n 35 cs = some x) : ∃ (d : PrgD) (c : ChipD) (s : SL Int), cs = d.vs.toList ++ [.int .i64 c.stages, .int .i64 c.tZ, .int .i64 c.gates, .int .i64 c.sram, .int .i64 c.tcam, .int .i64 c.c8, .int .i64 c.c16, .int .i64 c.c32] ++ [.slice s.a s.l.length s.c] ∧ PrgR w w.heap.size d ∧ SLR w w.heap.size 1 intE I64 s := by
 obtain ⟨xs, n', hfu, _, hlen, hxs, hf⟩ := DataW.trod_struct Tryz.underlying35 h
 have hx : xs.length = 3 := hxs
 have hc : cs.length = 18 := hlen.trans (by kernel_rfl)
 obtain ⟨c0, c1, c2, c3, c4, c5, c6, c7, c8, c9, c10, c11, c12, c13, c14, c15, c16, c17, rfl⟩ := len_18 hc
 obtain ⟨x0, h0⟩ := piece hx (by omega) (hf 0 _ rfl)
 have e0 : Tryz.prog.cellsOf 31 = 9 := by kernel_rfl
 change DataW.trod enc Tryz.prog w base spare held n' 31 (([c0, c1, c2, c3, c4, c5, c6, c7, c8, c9, c10, c11, c12, c13, c14, c15, c16, c17].drop 0).take (Tryz.prog.cellsOf 31)) = some x0 at h0
 rw [e0] at h0
 change DataW.trod enc Tryz.prog w base spare held n' 31 [c0, c1, c2, c3, c4, c5, c6, c7, c8] = some x0 at h0
 obtain ⟨d, q0, w0⟩ := prg_open h0
 obtain ⟨x1, h1⟩ := piece hx (by omega) (hf 1 _ rfl)
 have e1 : Tryz.prog.cellsOf 33 = 8 := by kernel_rfl
 change DataW.trod enc Tryz.prog w base spare held n' 33 (([c0, c1, c2, c3, c4, c5, c6, c7, c8, c9, c10, c11, c12, c13, c14, c15, c16, c17].drop 9).take (Tryz.prog.cellsOf 33)) = some x1 at h1
 rw [e1] at h1
 change DataW.trod enc Tryz.prog w base spare held n' 33 [c9, c10, c11, c12, c13, c14, c15, c16] = some x1 at h1
 obtain ⟨c, q1⟩ := zNe h1
 obtain ⟨x2, h2⟩ := piece hx (by omega) (hf 2 _ rfl)
 have e2 : Tryz.prog.cellsOf 29 = 1 := by kernel_rfl
 change DataW.trod enc Tryz.prog w base spare held n' 29 (([c0, c1, c2, c3, c4, c5, c6, c7, c8, c9, c10, c11, c12, c13, c14, c15, c16, c17].drop 17).take (Tryz.prog.cellsOf 29)) = some x2 at h2
 rw [e2] at h2
 change DataW.trod enc Tryz.prog w base spare held n' 29 [c17] = some x2 at h2
 obtain ⟨s, q2, w2⟩ := zwb (size := 1) Tryz.underlying29 (by kernel_rfl) (by omega) zna h2 (fun _ _ _ _ h => zza h)
 exact ⟨d, c, s, by rw [← q0, ← q1, ← q2]; rfl, w0, w2⟩
end
end Go.Proofs.YtakgiamhdpgoeaaGreat
