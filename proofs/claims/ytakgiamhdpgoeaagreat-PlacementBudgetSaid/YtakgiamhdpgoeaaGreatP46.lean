/- Lemmas. -/
import Derived.Test.YtakgiamhdpgoeaaGreatP44
import Derived.Test.YtakgiamhdpgoeaaGreatP45
set_option linter.unusedSimpArgs false
namespace Go.Proofs.YtakgiamhdpgoeaaGreat
open Go.RowKit
set_option linter.unusedVariables false
theorem grown5 (W : World) (g : Nat) (v0 v1 v2 v3 v4 : Value) : W.grownBy (((((W.setCell ⟨g, 0, none⟩ v0).setCell ⟨g, 1, none⟩ v1).setCell ⟨g, 2, none⟩ v2).setCell ⟨g, 3, none⟩ v3).setCell ⟨g, 4, none⟩ v4) (some g) :=
 zHa (zHa (zHa (zHa (zHa (zpb _ _) _ _) _ _) _ _) _ _) _ _
theorem own5 {W : World} {N B g c : Nat} {A : Option Addr} {l : List Int} (h : OwnZ W B A c l) (hg : g < B) (hN : N ≤ B) (v0 v1 v2 v3 v4 : Value) :
  OwnZ (((((W.setCell ⟨g, 0, none⟩ v0).setCell ⟨g, 1, none⟩ v1).setCell ⟨g, 2, none⟩ v2).setCell ⟨g, 3, none⟩ v3).setCell ⟨g, 4, none⟩ v4) N A c l := by
 refine Own.rebase (Own.grown h (grown5 W g v0 v1 v2 v3 v4) ?_) hN
 cases hA : ownB A with
 | none => exact .inl rfl
 | some q => exact .inr fun e => by injection e with e; have := (Own.lt h q hA).1; omega
structure PrgS (d : PrgD) : Prop where
 h : d.hZ.l.length ≤ 1000
 m : d.mZ.l.length ≤ 1000
 r : d.rZ.l.length ≤ 1000
 a : d.aZ.l.length ≤ 1000
 t : d.tZ.l.length ≤ 1000
 n : (zra d).1 = 0 → zra d = zUa d
set_option maxRecDepth 100000 in
set_option maxHeartbeats 8000000 in
theorem zDc (d : PrgD) (c : ChipD) (b : Int) (w : World) (hR : PrgR w w.heap.size d) (hS : PrgS d) (hb : I64 b) :
  Calls Tryz.prog 8 #[PrgD.v d, chipV c, .int .i64 b] w fun e w' => (∃ (r : PlcM) (A : Option Addr) (cA : Nat) (B : Option Addr) (cB : Nat), e = .returned (plcV r A cA B cB) ∧ zub (zra d).1 (jobOf d c) (zgc (jobOf d c).deps) b r ∧ OwnZ w' w.heap.size A cA r.stage ∧ OwnZ w' w.heap.size B cB r.units) ∧ Below w.heap.size w w' := by
 obtain ⟨N, hN⟩ : ∃ N, w.heap.size = N := ⟨_, rfl⟩
 rw [hN] at hR ⊢
 have F0 := Fr.start w
 rw [hN] at F0
 have HF0 := Hd F0
 have HR := Hd hR
 have HS := Hd hS
 obtain ⟨hb0, hb1⟩ := hb
 obtain ⟨PM, hPM⟩ : ∃ z, zub (zra d).1 (jobOf d c) (zgc (jobOf d c).deps) b = z := ⟨_, rfl⟩
 have HPM := Hd hPM
 rw [hPM]
 clear hR F0 hS hPM
 unfold PrgD.v PrgD.vs chipV
 go_enter Tryz.func8, Tryz.ntmps8
 go_wp2_with fail
 refine Calls.named ?_
 intro W1 hW1
 have F1 := (((HF0.out.alloc _ _).alloc _ _).alloc _ _).of_eq hW1
 simp only [World.size_alloc, hN, Nat.add_assoc, Nat.reduceAdd] at F1 ⊢
 obtain ⟨L, hL, F1⟩ := F1.name
 have HL := Hd hL
 have HF1 := Hd F1
 clear F1 hW1 hL
 have hcon := zOd d W1 (HF1.out.prg HR.out) HS.out.h HS.out.m HS.out.r HS.out.a HS.out.t
 obtain ⟨⟨g1, g2, g3, g4⟩, hg⟩ : ∃ z, zra d = z := ⟨_, rfl⟩
 have HG := Hd hg
 rw [hg] at hcon
 unfold PrgD.v PrgD.vs diagV at hcon
 have HCon := Hd hcon
 clear hcon hg
 with_reducible refine HCon.out.mono ?_
 rintro e w2 ⟨rfl, hb2⟩
 have HF2 := Hd (HF1.out.call hb2)
 clear hb2 HCon
 go_upto_region 2 with (fail)
 refine zfa ?_
 intro W3 hW3
 obtain ⟨M, hM⟩ : ∃ z, w2.heap.size = z := ⟨_, rfl⟩
 have hb3 : Below w2.heap.size w2 W3 := by rw [hW3]; exact (Below.refl _ _).alloc (Nat.le_refl _) _
 have HF3 := Hd (HF2.out.call hb3)
 have HD3 := Hd (show Blk W3 M 54 _ by rw [hW3, ← hM]; exact Blk.new _ _ _)
 simp only [hM]
 clear hW3 hb3 hM HF2
 have m0 : ∀ i, W3.cell? ⟨M, i, none⟩ = _ := fun i => HD3.out.cell i
 have hMl := HD3.out.lt
 rw [HL.out] at HF3
 have a0 : ∀ i, W3.cell? ⟨N + 1, i, none⟩ = _ := fun i => HF3.out.cell (.tail _ (.head _)) i
 have p0 : ∀ i, W3.cell? ⟨N, i, none⟩ = _ := fun i => HF3.out.cell (.tail _ (.tail _ (.head _))) i
 by_cases hg1 : g1 = 0
 ·subst hg1
  obtain ⟨cc, hcc⟩ : ∃ z, zAa c = z := ⟨_, rfl⟩
  have HCc := Hd hcc
  have hcon := zyc c W3
  rw [hcc] at hcon
  have HCon := Hd hcon
  clear hcon hcc
  go_wp2_with fail
  with_reducible refine HCon.out.mono ?_
  rintro e w4 ⟨rfl, hb4⟩
  have HF4 := Hd (HF3.out.call hb4)
  clear hb4 HCon m0 a0 p0 hMl HD3
  have a0 : ∀ i, w4.cell? ⟨N + 1, i, none⟩ = _ := fun i => HF4.out.cell (.tail _ (.head _)) i
  have p0 : ∀ i, w4.cell? ⟨N, i, none⟩ = _ := fun i => HF4.out.cell (.tail _ (.tail _ (.head _))) i
  have m0 := trivial
  have hMl := trivial
  by_cases hc0 : cc = 0
  ·subst hc0
   by_cases hbn : b < 0
   ·
    have HInf := Hd (show ∀ u : World, Calls Tryz.prog 17 #[.int .i64 (2), .int .i64 0, .slice none 0 0] u fun e' w' => e' = .returned (.agg #[.int .i64 2, .slice none 0 0, .int .i64 0, .int .i64 (2), .slice none 0 0]) ∧ Below u.heap.size u w' from fun u => zJb (2) 0 ⟨none, 0, []⟩ u)
    go_wp2_with fail
    with_reducible refine (HInf.out _).mono ?_
    rintro e w9 ⟨rfl, hb9⟩
    have HF9 := Hd (HF4.out.call hb9)
    clear hb9 HInf m0 a0 p0 hMl
    obtain ⟨c0, d0, c1, d1, c2, d2, c3, d3, c4, d4, c5⟩ := set5 (HF9.out.blk (N + 2, _, _) (.head _)).2 (.int .i64 (2)) (.slice none 0 0) (.int .i64 (0)) (.int .i64 (2)) (.slice none 0 0)
    have hlr := (HF9.out.blk (N + 2, _, _) (.head _)).2.lt
    go_wp2_with fail
    exact bodyPost_ret (v := .agg #[.int .i64 (2), .slice none 0 0, .int .i64 (0), .int .i64 (2), .slice none 0 0]) (by simp [results, Tryz.results8, go_sem, c5]) rfl ⟨⟨.no (2) 0 [], none, 0, none, 0, rfl, (by rw [← HPM.out]; unfold zub; rw [if_neg (by rw [HG.out]; simp), if_neg (by show ¬ zAa c ≠ 0; rw [HCc.out]; simp), if_pos hbn]), OwnZ.none_ _ _, OwnZ.none_ _ _⟩, zUf HF9.out.below (by omega) _ _ _ _ _⟩
   ·have hbn' : decide (b < 0) = false := decide_eq_false hbn
    have hEq := HS.out.n (by rw [HG.out])
    have hP0 : (zUa d).1 = 0 := by rw [← hEq, HG.out]
    have hcon := newJob_any d c w4 (HF4.out.prg HR.out) hP0 hEq
    unfold PrgD.v PrgD.vs at hcon
    have HCon := Hd hcon
    clear hcon
    go_wp2_with fail
    with_reducible refine HCon.out.mono ?_
    rintro e w5 ⟨⟨g, J, rfl, hJ, hJm, hJl, hJc⟩, hb5⟩
    have HF5 := Hd (HF4.out.call hb5)
    have HJ := Hd hJ
    have HJm := Hd hJm
    have HJc := Hd hJc
    have hcon := obstacle_any J g w5 hJ hJl hJc
    obtain ⟨⟨o1, o2⟩, ho⟩ : ∃ z, J.m.obst (zgc J.m.deps) = z := ⟨_, rfl⟩
    have HO := Hd ho
    rw [ho] at hcon
    have HCon := Hd hcon
    clear hcon ho hJ hJm hJc hb5 a0 p0
    go_wp2_with fail
    with_reducible refine HCon.out.mono ?_
    rintro e w6 ⟨⟨A, cA, rfl, hO6⟩, hb6⟩
    have HF6 := Hd (HF5.out.call hb6)
    have HO6 := Hd hO6
    have hsz : N + 2 < w5.heap.size := HF5.out.lt (.head _)
    have HJ6 := Hd ((HJ.out.below hb6).more hb6.size)
    clear hO6 hb6 HCon
    by_cases ho1 : o1 = 0
    ·subst ho1
     obtain ⟨bn, hbm⟩ : ∃ bn : Nat, min b 1048576 = (bn : Int) := ⟨(min b 1048576).toNat, by omega⟩
     have hbn2 : bn ≤ 1048576 := by omega
     have HBn := Hd (show (min b 1048576).toNat = bn by omega)
     have hcz := zOe HCc.out
     have hJc2 : J.chip = c := congrArg JobM.chip HJm.out
     have hcon := search_any J g bn w6 HJ6.out hJl HJc.out (by rw [hJc2]; exact hcz.2) hbn2
     have HCon := Hd hcon
     have HRl := Hd (show ∀ x, Srch J.m bn [] 0 0 x → PM x.plc from fun x hx => by
      rw [← HPM.out, ← HJm.out]
      unfold zub
      rw [if_neg (by rw [HG.out]; simp), if_neg (by show ¬ zAa J.chip ≠ 0; rw [hJc2, HCc.out]; simp), if_neg (show ¬ b < 0 by omega), if_neg (by rw [HO.out]; simp), HBn.out]
      exact ⟨x, hx, rfl⟩)
     clear hcon hcz hJc2
     go_wp2_with fail
     with_reducible refine HCon.out.mono ?_
     rintro e w7 ⟨⟨x, A7, c7, hx7, rfl, hO7⟩, hb7⟩
     have HF7 := Hd (HF6.out.call hb7)
     have HO7 := Hd hO7
     have hsz7 : N + 2 < w6.heap.size := HF6.out.lt (.head _)
     have HRx := Hd (HRl.out x hx7)
     clear hO7 hb7 HCon hx7
     obtain ⟨⟨r1, r2, r3, r4, r5⟩, hr⟩ : ∃ z, x.plc = z := ⟨_, rfl⟩
     have hr5 : r5 = [] := by cases x <;> (simp [Res.plc] at hr; first | exact hr.2.2.2.2 | exact hr.2.2.2.2.symm)
     subst hr5
     rw [hr] at HRx HO7 ⊢
     simp only at HO7 ⊢
     clear hr
     obtain ⟨c0, d0, c1, d1, c2, d2, c3, d3, c4, d4, c5⟩ := set5 (HF7.out.blk (N + 2, _, _) (.head _)).2 (.int .i64 (r1)) (.slice A7 r2.length c7) (.int .i64 (r3)) (.int .i64 (r4)) (.slice none 0 0)
     have hlr := (HF7.out.blk (N + 2, _, _) (.head _)).2.lt
     go_wp2_with fail
     exact bodyPost_ret (v := .agg #[.int .i64 (r1), .slice A7 r2.length c7, .int .i64 (r3), .int .i64 (r4), .slice none 0 0]) (by simp [results, Tryz.results8, go_sem, c5]) rfl ⟨⟨⟨r1, r2, r3, r4, []⟩, A7, c7, none, 0, rfl, HRx.out, own5 HO7.out hsz7 (by omega) _ _ _ _ _, OwnZ.none_ _ _⟩, zUf HF7.out.below (by omega) _ _ _ _ _⟩
    ·have ho1' : (o1 != 0) = true := by simp [ho1]
     have HInf := Hd (show ∀ u : World, Calls Tryz.prog 17 #[.int .i64 o1, .int .i64 0, .slice A o2.length cA] u fun e' w' => e' = .returned (.agg #[.int .i64 2, .slice none 0 0, .int .i64 0, .int .i64 o1, .slice A o2.length cA]) ∧ Below u.heap.size u w' from fun u => zJb o1 0 ⟨A, cA, o2⟩ u)
     have HRx := Hd (show PM (.no o1 0 o2) by
      rw [← HPM.out, ← HJm.out]
      have hJc2 : J.chip = c := congrArg JobM.chip HJm.out
      unfold zub
      rw [if_neg (by rw [HG.out]; simp), if_neg (by show ¬ zAa J.chip ≠ 0; rw [hJc2, HCc.out]; simp), if_neg (show ¬ b < 0 by omega), if_pos (by rw [HO.out]; exact ho1), HO.out])
     go_wp2_with fail
     with_reducible refine (HInf.out _).mono ?_
     rintro e w9 ⟨rfl, hb9⟩
     have HF9 := Hd (HF6.out.call hb9)
     have HO9 := Hd (HO6.out.below hb9)
     clear hb9 HInf
     obtain ⟨c0, d0, c1, d1, c2, d2, c3, d3, c4, d4, c5⟩ := set5 (HF9.out.blk (N + 2, _, _) (.head _)).2 (.int .i64 (2)) (.slice none 0 0) (.int .i64 (0)) (.int .i64 (o1)) (.slice A o2.length cA)
     have hlr := (HF9.out.blk (N + 2, _, _) (.head _)).2.lt
     go_wp2_with fail
     exact bodyPost_ret (v := .agg #[.int .i64 (2), .slice none 0 0, .int .i64 (0), .int .i64 (o1), .slice A o2.length cA]) (by simp [results, Tryz.results8, go_sem, c5]) rfl ⟨⟨.no o1 0 o2, none, 0, A, cA, rfl, HRx.out, OwnZ.none_ _ _, own5 HO9.out hsz (by omega) _ _ _ _ _⟩, zUf HF9.out.below (by omega) _ _ _ _ _⟩
  ·have hc0' : (cc != 0) = true := by simp [hc0]
   have HInf := Hd (show ∀ u : World, Calls Tryz.prog 17 #[.int .i64 (cc), .int .i64 0, .slice none 0 0] u fun e' w' => e' = .returned (.agg #[.int .i64 2, .slice none 0 0, .int .i64 0, .int .i64 (cc), .slice none 0 0]) ∧ Below u.heap.size u w' from fun u => zJb (cc) 0 ⟨none, 0, []⟩ u)
   go_wp2_with fail
   with_reducible refine (HInf.out _).mono ?_
   rintro e w9 ⟨rfl, hb9⟩
   have HF9 := Hd (HF4.out.call hb9)
   clear hb9 HInf m0 a0 p0 hMl
   obtain ⟨c0, d0, c1, d1, c2, d2, c3, d3, c4, d4, c5⟩ := set5 (HF9.out.blk (N + 2, _, _) (.head _)).2 (.int .i64 (2)) (.slice none 0 0) (.int .i64 (0)) (.int .i64 (cc)) (.slice none 0 0)
   have hlr := (HF9.out.blk (N + 2, _, _) (.head _)).2.lt
   go_wp2_with fail
   exact bodyPost_ret (v := .agg #[.int .i64 (2), .slice none 0 0, .int .i64 (0), .int .i64 (cc), .slice none 0 0]) (by simp [results, Tryz.results8, go_sem, c5]) rfl ⟨⟨.no (cc) 0 [], none, 0, none, 0, rfl, (by rw [← HPM.out]; unfold zub; rw [if_neg (by rw [HG.out]; simp), if_pos (by show zAa c ≠ 0; rw [HCc.out]; exact hc0), show zAa (jobOf d c).chip = cc from HCc.out]), OwnZ.none_ _ _, OwnZ.none_ _ _⟩, zUf HF9.out.below (by omega) _ _ _ _ _⟩
 ·have hg1' : (g1 != 0) = true := by simp [hg1]
  have HInf := Hd (show ∀ u : World, Calls Tryz.prog 17 #[.int .i64 (g1), .int .i64 0, .slice none 0 0] u fun e' w' => e' = .returned (.agg #[.int .i64 2, .slice none 0 0, .int .i64 0, .int .i64 (g1), .slice none 0 0]) ∧ Below u.heap.size u w' from fun u => zJb (g1) 0 ⟨none, 0, []⟩ u)
  go_wp2_with fail
  with_reducible refine (HInf.out _).mono ?_
  rintro e w9 ⟨rfl, hb9⟩
  have HF9 := Hd (HF3.out.call hb9)
  clear hb9 HInf m0 a0 p0 hMl
  obtain ⟨c0, d0, c1, d1, c2, d2, c3, d3, c4, d4, c5⟩ := set5 (HF9.out.blk (N + 2, _, _) (.head _)).2 (.int .i64 (2)) (.slice none 0 0) (.int .i64 (0)) (.int .i64 (g1)) (.slice none 0 0)
  have hlr := (HF9.out.blk (N + 2, _, _) (.head _)).2.lt
  go_wp2_with fail
  exact bodyPost_ret (v := .agg #[.int .i64 (2), .slice none 0 0, .int .i64 (0), .int .i64 (g1), .slice none 0 0]) (by simp [results, Tryz.results8, go_sem, c5]) rfl ⟨⟨.no (g1) 0 [], none, 0, none, 0, rfl, (by rw [← HPM.out]; unfold zub; rw [if_pos (by rw [HG.out]; exact hg1), HG.out]), OwnZ.none_ _ _, OwnZ.none_ _ _⟩, zUf HF9.out.below (by omega) _ _ _ _ _⟩
open Go.RowKit
abbrev wz : Int → Int := wr
set_option maxRecDepth 100000 in
set_option maxHeartbeats 8000000 in
theorem blkTop_any : ∀ (n : Nat) (s : SL NodD) (dep : Nat) (w : World), (zda s.l).length < n → SLR w w.heap.size 5 NodD.enc (NodD.ok w w.heap.size) s → dep ≤ 21 →
  Calls Tryz.prog 25 #[.slice s.a s.l.length s.c, .int .i64 dep, .int .i64 60] w fun e w' => e = .returned (.int .i64 (zHb wz s.l dep)) ∧ Below w.heap.size w w' := by
 intro n
 induction n with
 | zero => intro s dep w h; omega
 | succ n ih =>
  intro s dep w hn hS hdp
  have HIh := Hd ih
  clear ih
  obtain ⟨N, hN⟩ : ∃ N, w.heap.size = N := ⟨_, rfl⟩
  rw [hN] at hS ⊢
  have F0 := Fr.start w
  rw [hN] at F0
  have HF0 := Hd F0
  obtain ⟨sa, sc, sl⟩ := s
  have hlen := hS.len
  have HS := Hd hS
  simp only at hn hlen ⊢
  obtain ⟨r, hr⟩ : ∃ r, zHb wz sl dep = r := ⟨_, rfl⟩
  have HR := Hd hr
  rw [hr]
  clear hS F0 hr
  by_cases h1 : 60 < sl.length
  ·have HV := Hd (show r = 61 by rw [← HR.out]; unfold zHb; rw [if_pos (.inl h1)])
   have h1' : decide (60 < sl.length) = true := decide_eq_true h1
   have h1i : (60 : Int) < sl.length := by omega
   go_enter Tryz.func25, Tryz.ntmps25
   go_wp2_with fail
   go_returns
   exact ⟨by rw [HV.out]; try rfl, HF0.out.below⟩
  ·have h1' : decide (60 < sl.length) = false := decide_eq_false h1
   have h1i : ¬ (60 : Int) < sl.length := by omega
   by_cases h2 : 20 < dep
   ·have HV := Hd (show r = 61 by rw [← HR.out]; unfold zHb; rw [if_pos (.inr h2)])
    have h2' : decide (20 < dep) = true := decide_eq_true h2
    have h2i : (20 : Int) < dep := by omega
    go_enter Tryz.func25, Tryz.ntmps25
    go_wp2_with fail
    go_returns
    exact ⟨by rw [HV.out]; try rfl, HF0.out.below⟩
   ·have h2' : decide (20 < dep) = false := decide_eq_false h2
    have h2i : ¬ (20 : Int) < dep := by omega
    have HV := Hd (show blkL wz sl (dep + 1) sl.length = r by rw [← HR.out]; unfold zHb; rw [if_neg (by omega)])
    go_enter Tryz.func25, Tryz.ntmps25
    go_wp2_with fail
    go_loopw [7, 8] (fun m' i' wv => ∃ (k : Nat) (m : Int), k ≤ sl.length ∧ i' = .int .i64 k ∧ m' = .int .i64 m ∧ blkL wz (sl.drop k) (dep + 1) m = r ∧ Fr N w wv []) (fun _ i' _ => sl.length - (intOf i').toNat)
    case atStart => exact ⟨0, _, Nat.zero_le _, rfl, rfl, HV.out, HF0.out⟩
    case round =>
     obtain ⟨k, m, hk, rfl, rfl, hbl, hF⟩ := hrel
     have HBl := Hd hbl
     have HF := Hd hF
     clear hbl hF
     by_cases hlt : k < sl.length
     ·have hk1 : (k : Int) < sl.length := by omega
      obtain ⟨b2, off2, x, hA2, hb2, hx, hxok, hc2⟩ := HF.out.at_ HS.out zCe (by omega) hlt
      rw [nod_enc x] at hc2
      have p2 := hc2 2 _ rfl
      have p3 := hc2 3 _ rfl
      have p4 := hc2 4 _ rfl
      simp only at hA2 hx
      have HB2 := Hd (show blkL wz (x :: sl.drop (k + 1)) (dep + 1) m = r by
       rw [show x :: sl.drop (k + 1) = sl.drop k from by
        rw [← List.getElem_cons_drop (h := hlt)]
        rw [List.getElem?_eq_getElem hlt] at hx
        injection hx with hx
        rw [hx]]
       exact HBl.out)
      by_cases hm : 60 < m
      ·have hm' : decide (m ≤ 60) = false := decide_eq_false (by omega)
       have HV2 := Hd (show m = r by have := HB2.out; rw [blkL, if_pos hm] at this; exact this)
       clear p2 p3 p4 hc2
       go_wp2_with fail
       go_returns
       exact ⟨by rw [HV2.out]; try rfl, HF.out.below⟩
      ·have hm' : decide (m ≤ 60) = true := decide_eq_true (by omega)
       have HB3 := Hd (show blkL wz (sl.drop (k + 1)) (dep + 1) (wz (m + blkN wz x (dep + 1))) = r by have := HB2.out; rw [blkL, if_neg hm] at this; exact this)
       obtain ⟨_, _, hcnd, hthn, hels⟩ := NodD.open hxok
       have hsz := zpd hx
       obtain ⟨va, hva⟩ : ∃ v, zHb wz x.thn.l (dep + 1) = v := ⟨_, rfl⟩
       obtain ⟨vb, hvb⟩ : ∃ v, zHb wz x.els.l (dep + 1) = v := ⟨_, rfl⟩
       have HN := Hd (show blkN wz x (dep + 1) = wz (wz (va + vb) + ((x.cond.l.length / 20 : Nat) : Int)) by rw [blkN_eq, hva, hvb])
       have hde : ((dep + 1 : Nat) : Int) = (dep : Int) + 1 := by omega
       have HTh := Hd (show ∀ u, Below wr.heap.size wr u → Calls Tryz.prog 25 #[.slice x.thn.a x.thn.l.length x.thn.c, .int .i64 ((dep : Int) + 1), .int .i64 60] u fun e w' => e = .returned (.int .i64 va) ∧ Below u.heap.size u w' from fun u hb => by
        have h5 := HF.out.call hb
        have := HIh.out x.thn (dep + 1) u (by omega) (((hthn.below h5.below).imp fun y hy => NodD.ok_more y (NodD.ok_below y hy h5.below) h5.le).more h5.le) (by omega)
        rwa [hva, hde] at this)
       have HEl := Hd (show ∀ u, Below wr.heap.size wr u → Calls Tryz.prog 25 #[.slice x.els.a x.els.l.length x.els.c, .int .i64 ((dep : Int) + 1), .int .i64 60] u fun e w' => e = .returned (.int .i64 vb) ∧ Below u.heap.size u w' from fun u hb => by
        have h5 := HF.out.call hb
        have := HIh.out x.els (dep + 1) u (by omega) (((hels.below h5.below).imp fun y hy => NodD.ok_more y (NodD.ok_below y hy h5.below) h5.le).more h5.le) (by omega)
        rwa [hvb, hde] at this)
       have hcl9 := hcnd.len
       have hqt : Int.tdiv (x.cond.l.length : Int) 20 = ((x.cond.l.length / 20 : Nat) : Int) := by rw [Int.tdiv_eq_ediv_of_nonneg (by omega)]; omega
       have hb2' : b2 < wr.heap.size := Nat.lt_of_lt_of_le hb2 HF.out.le
       subst hA2
       clear hc2 hx hxok hcnd hthn hels hva hvb hde
       go_wp2_with fail
       have hcl : ∀ (p : Ab wr.heap.size wr) (b i : Nat), b < wr.heap.size → p.u.cell? ⟨b, i, none⟩ = wr.cell? ⟨b, i, none⟩ := fun p b i h => p.h.cell (p := ⟨b, i, none⟩) h
       refine zia wr.heap.size wr (by kernel_rfl) (by kernel_rfl) (Below.refl _ _) ?_
       repeat (first
        | go_big_quiet_step ((first | (go_at_call_of 25 (Value.slice x.thn.a x.thn.l.length x.thn.c); exact Calls.ab (Nat.le_refl _) (HTh.out _ (Ab.h _))) | (go_at_call_of 25 (Value.slice x.els.a x.els.l.length x.els.c); exact Calls.ab (Nat.le_refl _) (HEl.out _ (Ab.h _))))))
       refine wpQuiet_nil ?_
       intro u hw'
       obtain ⟨pu, hpu⟩ := hw'
       have hu := pu.h
       rw [← hpu] at hu
       clear hcl hpu
       clear pu
       have HFu := Hd (HF.out.call hu)
       clear hu
       have HB4 := Hd (show blkL wz (sl.drop (k + 1)) (dep + 1) (Go.RowKit.wrap64 (m + Go.RowKit.wrap64 (Go.RowKit.wrap64 (va + vb) + (x.cond.l.length : Int) / 20))) = r by
        have := HB3.out
        rw [HN.out, show ((x.cond.l.length / 20 : Nat) : Int) = (x.cond.l.length : Int) / 20 by omega] at this
        unfold wz at this ⊢
        rw [← wr_64, ← wr_64, ← wr_64]
        exact this)
       go_wp2_with fail
       go_roundw
       case rel => exact ⟨k + 1, _, by omega, by go_num, rfl, HB4.out, HFu.out⟩
       case measure => simp [intOf]; omega
     ·obtain rfl : k = sl.length := by omega
      have HV2 := Hd (show m = r by have := HBl.out; rw [List.drop_length, blkL] at this; exact this)
      clear hlt
      go_wp2_with fail
      go_returns
      exact ⟨by rw [HV2.out]; try rfl, HF.out.below⟩
end Go.Proofs.YtakgiamhdpgoeaaGreat
