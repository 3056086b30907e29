/- Lemmas. -/
import Derived.Test.YtakgiamhdpgoeaaGreatP0
set_option linter.unusedSimpArgs false
namespace Go.Proofs.YtakgiamhdpgoeaaGreat
open Go.RowKit
set_option linter.unusedVariables false
theorem arity_cases (op r : Int) (h : (1 ≤ op ∧ op ≤ 4 ∧ r = 0) ∨ (5 ≤ op ∧ op ≤ 8 ∧ r = 1) ∨ (9 ≤ op ∧ op ≤ 16 ∧ r = 2) ∨ (op = 17 ∧ r = 3) ∨ ((op < 1 ∨ 17 < op) ∧ r = -1)) : r = arity op := by
 unfold arity
 split
 ·omega
 ·split
  ·omega
  ·split
   ·omega
   ·split <;> omega
theorem arity_in (op : Int) (h : 1 ≤ op ∧ op ≤ 17) : op = 1 ∨ op = 2 ∨ op = 3 ∨ op = 4 ∨ op = 5 ∨ op = 6 ∨ op = 7 ∨ op = 8 ∨ op = 9 ∨ op = 10 ∨ op = 11 ∨ op = 12 ∨ op = 13 ∨ op = 14 ∨ op = 15 ∨ op = 16 ∨ op = 17 := by omega
theorem neq_b {a b : Int} (h : a ≠ b) : (a == b) = false := by simpa using h
set_option maxRecDepth 100000 in
set_option maxHeartbeats 1000000 in
theorem zQc (op : Int) (w : World) : Calls Tryz.prog 155 #[.int .i64 op] w fun e w' => e = .returned (.int .i64 (arity op)) ∧ w = w' := by
 by_cases h : 1 ≤ op ∧ op ≤ 17
 ·rcases arity_in op h with h | h | h | h | h | h | h | h | h | h | h | h | h | h | h | h | h
  all_goals
   subst h
   go_enter Tryz.func155, Tryz.ntmps155
   go_wp2_with fail
   go_ret
   exact ⟨rfl, rfl⟩
 ·have h' : op < 1 ∨ 17 < op := by omega
  have HA := Hd (arity_cases op (-1) (Or.inr (Or.inr (Or.inr (Or.inr ⟨h', rfl⟩)))))
  have g1 := neq_b (show op ≠ 1 by omega)
  have g2 := neq_b (show op ≠ 2 by omega)
  have g3 := neq_b (show op ≠ 3 by omega)
  have g4 := neq_b (show op ≠ 4 by omega)
  have g5 := neq_b (show op ≠ 5 by omega)
  have g6 := neq_b (show op ≠ 6 by omega)
  have g7 := neq_b (show op ≠ 7 by omega)
  have g8 := neq_b (show op ≠ 8 by omega)
  have g9 := neq_b (show op ≠ 9 by omega)
  have g10 := neq_b (show op ≠ 10 by omega)
  have g11 := neq_b (show op ≠ 11 by omega)
  have g12 := neq_b (show op ≠ 12 by omega)
  have g13 := neq_b (show op ≠ 13 by omega)
  have g14 := neq_b (show op ≠ 14 by omega)
  have g15 := neq_b (show op ≠ 15 by omega)
  have g16 := neq_b (show op ≠ 16 by omega)
  have g17 := neq_b (show op ≠ 17 by omega)
  clear h h'
  go_enter Tryz.func155, Tryz.ntmps155
  go_wp2_with fail
  go_ret
  exact ⟨zfb HA.out, rfl⟩
theorem zYc (x : Int) (w : World) : Calls Tryz.prog 180 #[.int .i64 x] w fun e w' => e = .returned (.tuple #[.int .i64 (wide x).1, .int .i64 (wide x).2]) ∧ w = w' := by
 obtain ⟨q, hq⟩ : ∃ q, badW x = q := ⟨_, rfl⟩
 have d1 : q = false → 1 ≤ x ∧ x ≤ 32 := fun h => (zSb x).1 (hq.trans h)
 have d2 : q = true → x < 1 ∨ 32 < x := fun h => (zbf x).1 (hq.trans h)
 have HW := Hd (show wide x = if q then (0, 10) else (x, 0) by unfold wide; rw [hq])
 clear hq
 cases q
 ·obtain ⟨h1, h2⟩ := d1 rfl
  clear d1 d2
  go_enter Tryz.func180, Tryz.ntmps180
  go_wp2_with fail
  go_ret2
  exact ⟨by rw [HW.out]; rfl, rfl⟩
 ·have h := d2 rfl
  clear d1 d2
  rcases h with h | h
  ·go_enter Tryz.func180, Tryz.ntmps180
   go_wp2_with fail
   go_ret2
   exact ⟨by rw [HW.out]; rfl, rfl⟩
  ·have h1 : decide (x < 1) = false := by simp; omega
   go_enter Tryz.func180, Tryz.ntmps180
   go_wp2_with fail
   go_ret2
   exact ⟨by rw [HW.out]; rfl, rfl⟩
abbrev ztc (d : PrgD) (ps : SL FldD) : Value := .agg #[.string d.name, .slice d.hZ.a d.hZ.l.length d.hZ.c, .slice d.mZ.a d.mZ.l.length d.mZ.c, .slice d.rZ.a d.rZ.l.length d.rZ.c, .slice d.aZ.a d.aZ.l.length d.aZ.c, .slice d.tZ.a d.tZ.l.length d.tZ.c, .slice d.sZ.a d.sZ.l.length d.sZ.c, .slice d.cZ.a d.cZ.l.length d.cZ.c, .slice d.dep.a d.dep.l.length d.dep.c, .slice ps.a ps.l.length ps.c]
abbrev fldV : Option FldD → Value
 | some f => .tuple #[.agg #[.string f.name, .int .i64 f.width], .bool true]
 | none => .tuple #[.agg #[.string ⟨#[]⟩, .int .i64 0], .bool false]
theorem zQe (d : PrgD) (h i : Int) (c : i < 0) : fldAt d h i = none := by unfold fldAt; rw [if_pos c]
theorem zAc (d : PrgD) (h : Int) (n : Nat) : fldAt d h n = (zoc d h)[n]? := by unfold fldAt; rw [if_neg (by omega)]; rfl
theorem zgg (x : HdrD) : x.enc.length = 2 := rfl
set_option maxRecDepth 100000 in
set_option maxHeartbeats 1000000 in
theorem field_any (d : PrgD) (ps : SL FldD) (h i : Int) (w : World) (hR : PrgR w w.heap.size d) :
  Calls Tryz.prog 181 #[ztc d ps, .int .i64 h, .int .i64 i] w fun e w' => e = .returned (fldV (fldAt d h i)) ∧ Below w.heap.size w w' := by
 have HR := Hd hR
 clear hR
 unfold ztc
 by_cases c1 : h = -1
 ·subst c1
  have HF := Hd (show zoc d (-1) = d.mZ.l by unfold zoc; rw [if_pos rfl])
  have HS := Hd HR.out.mZ
  obtain ⟨mm, hmm⟩ : ∃ m, m = d.mZ := ⟨_, rfl⟩
  rw [← hmm] at HF HS ⊢
  clear hmm
  obtain ⟨ma, mc, ml⟩ := mm
  simp only at HF HS ⊢
  by_cases c3 : i < 0
  ·have HV := Hd (show fldAt d (-1) i = none from (zQe d (-1) i c3).trans rfl)
   go_enter Tryz.func181, Tryz.ntmps181
   go_wp2_with fail
   go_returns
   exact ⟨by rw [HV.out], by go_grown⟩
  ·obtain ⟨n, rfl⟩ := Int.eq_ofNat_of_zero_le (show 0 ≤ i by omega)
   have h0 : (0 : Int) ≤ n := by omega
   by_cases c4 : n < ml.length
   ·obtain ⟨b, off, x, hA, hb, hx, hok, hc⟩ := HS.out.at_ zFb (by omega) c4
    have HV := Hd (show fldAt d (-1) n = some x by rw [zAc, HF.out]; exact hx)
    have q0 : w.cell? ⟨b, off + n * 2, none⟩ = some (.string x.name) := by have := hc 0 _ rfl; simpa using this
    have q1 : w.cell? ⟨b, off + n * 2 + 1, none⟩ = some (.int .i64 x.width) := hc 1 _ rfl
    have c4' : (n : Int) < ml.length := by omega
    simp only at hA
    subst hA
    clear hx hok hc c3
    go_enter Tryz.func181, Tryz.ntmps181
    go_wp2_with fail
    go_returns
    exact ⟨by rw [HV.out], by go_grown⟩
   ·have HV := Hd (show fldAt d (-1) n = none by rw [zAc, HF.out]; exact List.getElem?_eq_none (by omega))
    have c4' : (ml.length : Int) ≤ n := by omega
    clear c3
    go_enter Tryz.func181, Tryz.ntmps181
    go_wp2_with fail
    go_returns
    exact ⟨by rw [HV.out], by go_grown⟩
 ·have c1' := neq_b c1
  by_cases c2 : h < 0
  ·have HV := Hd (show fldAt d h i = none by unfold fldAt zoc; rw [if_neg c1, if_pos (Or.inl c2)]; simp)
   clear c1
   go_enter Tryz.func181, Tryz.ntmps181
   go_wp2_with fail
   go_returns
   exact ⟨by rw [HV.out], by go_grown⟩
  ·obtain ⟨j, rfl⟩ := Int.eq_ofNat_of_zero_le (show 0 ≤ h by omega)
   have g0 : (0 : Int) ≤ j := by omega
   have HH := Hd HR.out.hZ
   obtain ⟨hh, hhh⟩ : ∃ m, m = d.hZ := ⟨_, rfl⟩
   have HE := Hd hhh
   rw [← hhh] at HH ⊢
   clear hhh
   obtain ⟨ha, hc_, hl⟩ := hh
   simp only at HH ⊢
   by_cases c5 : j < hl.length
   ·obtain ⟨hb_, hoff, hx_, hA_, hlt_, hget, hok_, hc2⟩ := HH.out.at_ zgg (by omega) c5
    have HF := Hd (show zoc d j = hx_.fields.l by unfold zoc; rw [if_neg c1, if_neg (by rw [← HE.out]; simp only; omega), ← HE.out, Int.toNat_natCast, hget])
    have HS := Hd hok_.fields
    have q2 : w.cell? ⟨hb_, hoff + j * 2 + 1, none⟩ = some (.slice hx_.fields.a hx_.fields.l.length hx_.fields.c) := hc2 1 _ rfl
    have c5' : (j : Int) < hl.length := by omega
    simp only at hA_
    subst hA_
    clear hget hok_ hc2 c1 c2
    obtain ⟨nm, ma, mc, ml⟩ := hx_
    simp only at HF HS q2 ⊢
    by_cases c3 : i < 0
    ·have HV := Hd (show fldAt d j i = none from (zQe d j i c3).trans rfl)
     go_enter Tryz.func181, Tryz.ntmps181
     go_wp2_with fail
     go_returns
     exact ⟨by rw [HV.out], by go_grown⟩
    ·obtain ⟨n, rfl⟩ := Int.eq_ofNat_of_zero_le (show 0 ≤ i by omega)
     have h0 : (0 : Int) ≤ n := by omega
     by_cases c4 : n < ml.length
     ·obtain ⟨b, off, x, hA, hb, hx, hok, hc⟩ := HS.out.at_ zFb (by omega) c4
      have HV := Hd (show fldAt d j n = some x by rw [zAc, HF.out]; exact hx)
      have q0 : w.cell? ⟨b, off + n * 2, none⟩ = some (.string x.name) := by have := hc 0 _ rfl; simpa using this
      have q1 : w.cell? ⟨b, off + n * 2 + 1, none⟩ = some (.int .i64 x.width) := hc 1 _ rfl
      have c4' : (n : Int) < ml.length := by omega
      simp only at hA
      subst hA
      clear hx hok hc c3
      go_enter Tryz.func181, Tryz.ntmps181
      go_wp2_with fail
      go_returns
      exact ⟨by rw [HV.out], by go_grown⟩
     ·have HV := Hd (show fldAt d j n = none by rw [zAc, HF.out]; exact List.getElem?_eq_none (by omega))
      have c4' : (ml.length : Int) ≤ n := by omega
      clear c3
      go_enter Tryz.func181, Tryz.ntmps181
      go_wp2_with fail
      go_returns
      exact ⟨by rw [HV.out], by go_grown⟩
   ·have HV := Hd (show fldAt d j i = none by unfold fldAt; rw [show zoc d j = [] by unfold zoc; rw [if_neg c1, if_pos (by rw [← HE.out]; right; simp only; omega)]]; simp)
    have c5' : (hl.length : Int) ≤ j := by omega
    clear c1 c2
    go_enter Tryz.func181, Tryz.ntmps181
    go_wp2_with fail
    go_returns
    exact ⟨by rw [HV.out], by go_grown⟩
open Go.RowKit
theorem zLe (w : World) (o1 o2 : Obj) (w1 : World) (h : Below ((w.alloc o1).alloc o2).heap.size ((w.alloc o1).alloc o2) w1) : Below w.heap.size w w1 :=
 (((Below.refl _ w).alloc (Nat.le_refl _) _).alloc (by simp) _).trans (h.mono (by simp; omega))
abbrev exV (x : ExD) : Value := .agg #[.int .i64 x.op, .int .i64 x.n, .int .i64 x.w]
abbrev pairV (r : Int × Int) : Value := .tuple #[.int .i64 r.1, .int .i64 r.2]
theorem wide_bad {x : Int} (h : badW x = true) : wide x = (0, 10) := by unfold wide; rw [h]; rfl
theorem wide_good {x : Int} (h : badW x = false) : wide x = (x, 0) := by unfold wide; rw [h]; rfl
set_option maxRecDepth 100000 in
set_option maxHeartbeats 2000000 in
theorem primary_any (d : PrgD) (ps : SL FldD) (x : ExD) (w : World) (hR : PrgR w w.heap.size d) (hP : SLR w w.heap.size 2 FldD.enc FldD.ok ps) (hx : x.ok) :
  Calls Tryz.prog 156 #[ztc d ps, exV x] w fun e w' => e = .returned (pairV (zSa d ps.l x)) ∧ Below w.heap.size w w' := by
 have HR := Hd hR
 have HP := Hd hP
 have HX := Hd hx
 obtain ⟨op, n, wd⟩ := x
 clear hR hP hx
 unfold ztc exV
 by_cases o1 : op = 1
 ·subst o1
  obtain ⟨q, hq⟩ : ∃ q, badW wd = q := ⟨_, rfl⟩
  cases q
  ·have HW := Hd (wide_good hq)
   by_cases c1 : n < 0
   ·have HV := Hd (show zSa d ps.l ⟨1, n, wd⟩ = (0, 9) by unfold zSa; simp [hq, c1])
    go_enter Tryz.func156, Tryz.ntmps156
    go_wp2_with fail
    refine (zYc wd _).mono ?_; rintro e w1 ⟨rfl, rfl⟩
    rw [HW.out]
    go_wp2_with fail
    go_quiet (fail)
    go_wp2_with fail
    go_returns
    exact ⟨by rw [HV.out]; rfl, by (first | (refine zca ?_ _; go_grown; done) | (go_grown; done))⟩
   ·have c1' : decide (n < 0) = false := by simp; omega
    obtain ⟨r, hr⟩ : ∃ r, decide (zLd wd < n) = r := ⟨_, rfl⟩
    have HV := Hd (show zSa d ps.l ⟨1, n, wd⟩ = if r then (0, 9) else (wd, 0) by rw [← hr]; unfold zSa; simp [hq, c1, zLd])
    have hm0 := mask_lt wd
    have HMA := Hd (Mask_any wd HX.out.2.2)
    obtain ⟨m, hm⟩ : ∃ m, zLd wd = m := ⟨_, rfl⟩
    rw [hm] at hr hm0 HMA
    obtain ⟨m0, m1⟩ := hm0
    have HM := Hd hr
    have hwm : IntKind.i64.wrap m = m := IntWalk.i64_in (by omega) (by omega)
    clear hr hm
    cases r
    all_goals have hr1 := HM.out
    all_goals have hr2 := HM.out
    all_goals rw [← hwm] at hr2
    all_goals have HWM := Hd hwm
    all_goals clear hwm
    all_goals
     go_enter Tryz.func156, Tryz.ntmps156
     go_wp2_with fail
     refine (zYc wd _).mono ?_; rintro e w1 ⟨rfl, rfl⟩
     rw [HW.out]
     go_wp2_with fail
     go_region_with (go_at_call 80; refine (HMA.out _).mono ?_; rintro e w2 ⟨rfl, hb2⟩; obtain ⟨hc2, hf2⟩ := zmc hb2; have HB2 := Hd hb2; clear hb2)
     all_goals go_wp2_with fail
     all_goals
      go_returns
      exact ⟨by rw [HV.out]; rfl, (((Below.refl _ w).alloc (Nat.le_refl _) _).alloc (by simp) _).trans ((undrew HB2.out).mono (by simp; omega))⟩
  ·have HW := Hd (wide_bad hq)
   have HV := Hd (show zSa d ps.l ⟨1, n, wd⟩ = (0, 10) by unfold zSa; simp [hq])
   go_enter Tryz.func156, Tryz.ntmps156
   go_wp2_with fail
   refine (zYc wd _).mono ?_; rintro e w1 ⟨rfl, rfl⟩
   rw [HW.out]
   go_wp2_with fail
   go_quiet (fail)
   go_wp2_with fail
   go_returns
   exact ⟨by rw [HV.out]; rfl, by (first | (refine zca ?_ _; go_grown; done) | (go_grown; done))⟩
 ·have o1' := neq_b o1
  by_cases o2 : op = 2
  ·subst o2
   have HF := Hd fun W (h : PrgR W W.heap.size d) => field_any d ps n wd W h
   obtain ⟨fo, hfo⟩ : ∃ fo, fldAt d n wd = fo := ⟨_, rfl⟩
   have HFo := Hd hfo
   rw [hfo] at HF
   clear hfo
   cases fo with
   | none =>
    have HV := Hd (show zSa d ps.l ⟨2, n, wd⟩ = (0, 8) by unfold zSa; simp [HFo.out])
    go_enter Tryz.func156, Tryz.ntmps156
    go_wp2_with fail
    refine (HF.out _ ?_).mono ?_
    ·exact HR.out.step (by (first | (refine zca ?_ _; go_grown; done) | (go_grown; done)))
    rintro e w1 ⟨rfl, hb1⟩
    obtain ⟨hc1, hf1⟩ := zmc hb1
    have HBw := Hd (zLe w _ _ _ hb1)
    clear hb1
    go_wp2_with fail
    go_returns
    exact ⟨by rw [HV.out]; try rfl, HBw.out.alloc (HBw.out.size) _⟩
   | some f =>
    have HV := Hd (show zSa d ps.l ⟨2, n, wd⟩ = wide f.width by unfold zSa; simp [HFo.out])
    go_enter Tryz.func156, Tryz.ntmps156
    go_wp2_with fail
    refine (HF.out _ ?_).mono ?_
    ·exact HR.out.step (by (first | (refine zca ?_ _; go_grown; done) | (go_grown; done)))
    rintro e w1 ⟨rfl, hb1⟩
    obtain ⟨hc1, hf1⟩ := zmc hb1
    have HBw := Hd (zLe w _ _ _ hb1)
    clear hb1
    go_wp2_with fail
    refine (zYc f.width _).mono ?_; rintro e w2 ⟨rfl, rfl⟩
    go_wp2_with fail
    go_returns
    exact ⟨by rw [HV.out]; try rfl, HBw.out.alloc (HBw.out.size) _⟩
  ·have o2' := neq_b o2
   by_cases o3 : op = 3
   ·subst o3
    by_cases c1 : n < 0
    ·have HV := Hd (show zSa d ps.l ⟨3, n, wd⟩ = (0, 8) by unfold zSa; simp [c1])
     go_enter Tryz.func156, Tryz.ntmps156
     go_wp2_with fail
     go_returns
     exact ⟨by rw [HV.out]; try rfl, by (first | (refine zca ?_ _; go_grown; done) | (go_grown; done))⟩
    ·obtain ⟨k, rfl⟩ := Int.eq_ofNat_of_zero_le (show 0 ≤ n by omega)
     have g0 : (0 : Int) ≤ k := by omega
     obtain ⟨pa, pc, pl⟩ := ps
     simp only at HP ⊢
     by_cases c4 : k < pl.length
     ·obtain ⟨b, off, f, hA, hb, hf, hok, hc⟩ := HP.out.at_ zFb (by omega) c4
      have HV := Hd (show zSa d pl ⟨3, k, wd⟩ = wide f.width by unfold zSa; simp only at hf; simp [hf]; omega)
      have q1 : w.cell? ⟨b, off + k * 2 + 1, none⟩ = some (.int .i64 f.width) := hc 1 _ rfl
      have c4' : (k : Int) < pl.length := by omega
      simp only at hA
      subst hA
      clear hf hok hc c1 o1 o2
      go_enter Tryz.func156, Tryz.ntmps156
      go_wp2_with fail
      refine (zYc f.width _).mono ?_; rintro e w2 ⟨rfl, rfl⟩
      go_wp2_with fail
      go_returns
      exact ⟨by rw [HV.out]; try rfl, by (first | (refine zca ?_ _; go_grown; done) | (go_grown; done))⟩
     ·have HV := Hd (show zSa d pl ⟨3, k, wd⟩ = (0, 8) by unfold zSa; simp [List.getElem?_eq_none (show pl.length ≤ k by omega)])
      have c4' : (pl.length : Int) ≤ k := by omega
      clear c1 o1 o2
      go_enter Tryz.func156, Tryz.ntmps156
      go_wp2_with fail
      go_returns
      exact ⟨by rw [HV.out]; try rfl, by (first | (refine zca ?_ _; go_grown; done) | (go_grown; done))⟩
   ·have o3' := neq_b o3
    obtain ⟨r, hr⟩ : ∃ r, decide (n < 0 ∨ (d.hZ.l.length : Int) ≤ n) = r := ⟨_, rfl⟩
    have HV := Hd (show zSa d ps.l ⟨op, n, wd⟩ = if r then (0, 8) else (1, 0) by unfold zSa; rw [← hr]; simp [o1, o2, o3])
    clear o1 o2 o3
    by_cases c1 : n < 0
    ·obtain rfl : r = true := by rw [← hr]; simp [c1]
     clear hr
     go_enter Tryz.func156, Tryz.ntmps156
     go_wp2_with fail
     go_returns
     exact ⟨by rw [HV.out]; rfl, by (first | (refine zca ?_ _; go_grown; done) | (go_grown; done))⟩
    ·obtain ⟨k, rfl⟩ := Int.eq_ofNat_of_zero_le (show 0 ≤ n by omega)
     have g0 : (0 : Int) ≤ k := by omega
     by_cases c4 : d.hZ.l.length ≤ k
     ·obtain rfl : r = true := by rw [← hr]; simp; omega
      have c4' : (d.hZ.l.length : Int) ≤ k := by omega
      clear hr c1
      go_enter Tryz.func156, Tryz.ntmps156
      go_wp2_with fail
      go_returns
      exact ⟨by rw [HV.out]; rfl, by (first | (refine zca ?_ _; go_grown; done) | (go_grown; done))⟩
     ·obtain rfl : r = false := by rw [← hr]; simp; omega
      have c4' : ¬ (d.hZ.l.length : Int) ≤ k := by omega
      clear hr c1
      go_enter Tryz.func156, Tryz.ntmps156
      go_wp2_with fail
      go_returns
      exact ⟨by rw [HV.out]; rfl, by (first | (refine zca ?_ _; go_grown; done) | (go_grown; done))⟩
open Go.RowKit
def combTail (op a b : Int) : Int × Int := if arity op = 2 ∧ a ≠ b then (0, 10) else if op = 15 ∨ op = 16 then (1, 0) else (a, 0)
set_option maxRecDepth 100000 in
set_option maxHeartbeats 2000000 in
theorem combine_any (x : ExD) (a b c : Int) (w : World) (hx : x.ok) (ha : 0 ≤ a ∧ a ≤ 64) (hb : 0 ≤ b ∧ b ≤ 64) :
  Calls Tryz.prog 157 #[exV x, .agg #[.int .i64 a, .int .i64 b, .int .i64 c]] w fun e w' => e = .returned (pairV (zpa x a b c)) ∧ Below w.heap.size w w' := by
 have HX := Hd hx
 obtain ⟨op, n, wd⟩ := x
 obtain ⟨a0, a1⟩ := ha
 obtain ⟨b0, b1⟩ := hb
 clear hx
 unfold exV
 by_cases o8 : op = 8
 ·subst o8
  by_cases c1 : n < 0
  ·have HV := Hd (show zpa ⟨8, n, wd⟩ a b c = (0, 9) by unfold zpa; simp [c1])
   go_enter Tryz.func157, Tryz.ntmps157
   go_wp2_with fail
   go_returns
   exact ⟨by rw [HV.out]; try rfl, by (first | (refine zca ?_ _; go_grown; done) | (go_grown; done))⟩
  ·have c1' : decide (n < 0) = false := by simp; omega
   obtain ⟨q, hq⟩ : ∃ q, badW wd = q := ⟨_, rfl⟩
   cases q
   ·have HW := Hd (wide_good hq)
    obtain ⟨d1, d2⟩ := (zSb wd).1 hq
    by_cases c2 : a - wd < n
    ·have HV := Hd (show zpa ⟨8, n, wd⟩ a b c = (0, 10) by unfold zpa; simp [c1, hq, c2])
     go_enter Tryz.func157, Tryz.ntmps157
     go_wp2_with fail
     refine (zYc wd _).mono ?_; rintro e w1 ⟨rfl, rfl⟩
     rw [HW.out]
     go_wp2_with fail
     go_returns
     exact ⟨by rw [HV.out]; try rfl, by (first | (refine zca ?_ _; go_grown; done) | (go_grown; done))⟩
    ·have c2' : decide (a - wd < n) = false := by simp; omega
     have HV := Hd (show zpa ⟨8, n, wd⟩ a b c = (wd, 0) by unfold zpa; simp [c1, hq, c2])
     go_enter Tryz.func157, Tryz.ntmps157
     go_wp2_with fail
     refine (zYc wd _).mono ?_; rintro e w1 ⟨rfl, rfl⟩
     rw [HW.out]
     go_wp2_with fail
     go_returns
     exact ⟨by rw [HV.out]; try rfl, by (first | (refine zca ?_ _; go_grown; done) | (go_grown; done))⟩
   ·have HW := Hd (wide_bad hq)
    have HV := Hd (show zpa ⟨8, n, wd⟩ a b c = (0, 10) by unfold zpa; simp [c1, hq])
    go_enter Tryz.func157, Tryz.ntmps157
    go_wp2_with fail
    refine (zYc wd _).mono ?_; rintro e w1 ⟨rfl, rfl⟩
    rw [HW.out]
    go_wp2_with fail
    go_returns
    exact ⟨by rw [HV.out]; try rfl, by (first | (refine zca ?_ _; go_grown; done) | (go_grown; done))⟩
 ·have o8' := neq_b o8
  by_cases o14 : op = 14
  ·subst o14
   have HV := Hd (show zpa ⟨14, n, wd⟩ a b c = wide (a + b) by unfold zpa; simp)
   go_enter Tryz.func157, Tryz.ntmps157
   go_wp2_with fail
   refine (zYc (a + b) _).mono ?_; rintro e w1 ⟨rfl, rfl⟩
   go_wp2_with fail
   go_returns
   exact ⟨by rw [HV.out]; try rfl, by (first | (refine zca ?_ _; go_grown; done) | (go_grown; done))⟩
  ·have o14' := neq_b o14
   by_cases o17 : op = 17
   ·subst o17
    by_cases c1 : a = 1
    ·subst c1
     by_cases c2 : b = c
     ·subst c2
      have HV := Hd (show zpa ⟨17, n, wd⟩ 1 b b = (b, 0) by unfold zpa; simp)
      go_enter Tryz.func157, Tryz.ntmps157
      go_wp2_with fail
      go_returns
      exact ⟨by rw [HV.out]; try rfl, by (first | (refine zca ?_ _; go_grown; done) | (go_grown; done))⟩
     ·have c2' := neq_b c2
      have HV := Hd (show zpa ⟨17, n, wd⟩ 1 b c = (0, 10) by unfold zpa; simp [c2])
      go_enter Tryz.func157, Tryz.ntmps157
      go_wp2_with fail
      go_returns
      exact ⟨by rw [HV.out]; try rfl, by (first | (refine zca ?_ _; go_grown; done) | (go_grown; done))⟩
    ·have c1' := neq_b c1
     have HV := Hd (show zpa ⟨17, n, wd⟩ a b c = (0, 10) by unfold zpa; simp [c1])
     go_enter Tryz.func157, Tryz.ntmps157
     go_wp2_with fail
     go_returns
     exact ⟨by rw [HV.out]; try rfl, by (first | (refine zca ?_ _; go_grown; done) | (go_grown; done))⟩
   ·have o17' := neq_b o17
    by_cases o67 : (op = 6 ∨ op = 7) ∧ (n < 0 ∨ 31 < n)
    ·have HV := Hd (show zpa ⟨op, n, wd⟩ a b c = (0, 9) by unfold zpa; simp [o67])
     obtain ⟨h1, h2⟩ := o67
     rcases h1 with h1 | h1
     all_goals
      subst h1
      rcases h2 with h2 | h2
      ·skip
       go_enter Tryz.func157, Tryz.ntmps157
       go_wp2_with fail
       go_returns
       exact ⟨by rw [HV.out]; try rfl, by (first | (refine zca ?_ _; go_grown; done) | (go_grown; done))⟩
      ·have c1' : decide (n < 0) = false := by simp; omega
       go_enter Tryz.func157, Tryz.ntmps157
       go_wp2_with fail
       go_returns
       exact ⟨by rw [HV.out]; try rfl, by (first | (refine zca ?_ _; go_grown; done) | (go_grown; done))⟩
    ·have HV0 : zpa ⟨op, n, wd⟩ a b c = combTail op a b := by unfold zpa combTail; simp only; rw [if_neg o67, if_neg o8, if_neg o14, if_neg o17]
     obtain ⟨ar, har⟩ : ∃ ar, arity op = ar := ⟨_, rfl⟩
     have HA := Hd har
     have HV1 : zpa ⟨op, n, wd⟩ a b c = if ar = 2 ∧ a ≠ b then (0, 10) else if op = 15 ∨ op = 16 then (1, 0) else (a, 0) := by rw [HV0, ← har]; rfl
     clear HV0 har
     by_cases h67 : op = 6 ∨ op = 7
     ·obtain ⟨c1, c2⟩ : ¬ n < 0 ∧ ¬ 31 < n := by constructor <;> (intro h; exact o67 ⟨h67, by simp [h]⟩)
      clear o67
      have c1' : decide (n < 0) = false := by simp; omega
      have c2' : decide (31 < n) = false := by simp; omega
      have HV := Hd (show zpa ⟨op, n, wd⟩ a b c = (a, 0) by
       rw [HV1, ← HA.out]
       rcases h67 with rfl | rfl <;> simp [arity])
      clear HV1 o8 o14 o17
      obtain rfl : ar = 1 := by rw [← HA.out]; rcases h67 with rfl | rfl <;> rfl
      rcases h67 with h | h
      all_goals
       subst h
       go_enter Tryz.func157, Tryz.ntmps157
       go_wp2_with fail
       refine (zQc _ _).mono ?_; rintro e w1 ⟨rfl, rfl⟩
       rw [HA.out]
       go_wp2_with fail
       go_returns
       exact ⟨by rw [HV.out]; try rfl, by (first | (refine zca ?_ _; go_grown; done) | (go_grown; done))⟩
     ·obtain ⟨h6, h7⟩ : op ≠ 6 ∧ op ≠ 7 := by constructor <;> (intro h; exact h67 (by simp [h]))
      have h6' := neq_b h6
      have h7' := neq_b h7
      clear o67 h67 o8 o14 o17 h6 h7
      by_cases hab : ar = 2 ∧ a ≠ b
      ·have HV := Hd (show zpa ⟨op, n, wd⟩ a b c = (0, 10) by rw [HV1, if_pos hab])
       clear HV1
       obtain ⟨rfl, h⟩ := hab
       have h' := neq_b h
       go_enter Tryz.func157, Tryz.ntmps157
       go_wp2_with fail
       refine (zQc _ _).mono ?_; rintro e w1 ⟨rfl, rfl⟩
       rw [HA.out]
       go_wp2_with fail
       go_returns
       exact ⟨by rw [HV.out]; try rfl, by (first | (refine zca ?_ _; go_grown; done) | (go_grown; done))⟩
      ·by_cases h15 : op = 15
       ·have HV := Hd (show zpa ⟨op, n, wd⟩ a b c = (1, 0) by rw [HV1, if_neg hab, if_pos (Or.inl h15)])
        clear HV1
        subst h15
        obtain rfl : ar = 2 := by rw [← HA.out]; rfl
        obtain rfl : a = b := by omega
        go_enter Tryz.func157, Tryz.ntmps157
        go_wp2_with fail
        refine (zQc _ _).mono ?_; rintro e w1 ⟨rfl, rfl⟩
        rw [HA.out]
        go_wp2_with fail
        go_returns
        exact ⟨by rw [HV.out]; try rfl, by (first | (refine zca ?_ _; go_grown; done) | (go_grown; done))⟩
       ·have h15' := neq_b h15
        by_cases h16 : op = 16
        ·have HV := Hd (show zpa ⟨op, n, wd⟩ a b c = (1, 0) by rw [HV1, if_neg hab, if_pos (Or.inr h16)])
         clear HV1
         subst h16
         obtain rfl : ar = 2 := by rw [← HA.out]; rfl
         obtain rfl : a = b := by omega
         go_enter Tryz.func157, Tryz.ntmps157
         go_wp2_with fail
         refine (zQc _ _).mono ?_; rintro e w1 ⟨rfl, rfl⟩
         rw [HA.out]
         go_wp2_with fail
         go_returns
         exact ⟨by rw [HV.out]; try rfl, by (first | (refine zca ?_ _; go_grown; done) | (go_grown; done))⟩
        ·have h16' := neq_b h16
         have HV := Hd (show zpa ⟨op, n, wd⟩ a b c = (a, 0) by rw [HV1, if_neg hab, if_neg (by omega)])
         clear HV1 h15 h16
         by_cases har : ar = 2
         ·obtain rfl : a = b := by omega
          subst har
          go_enter Tryz.func157, Tryz.ntmps157
          go_wp2_with fail
          refine (zQc _ _).mono ?_; rintro e w1 ⟨rfl, rfl⟩
          rw [HA.out]
          go_wp2_with fail
          go_returns
          exact ⟨by rw [HV.out]; try rfl, by (first | (refine zca ?_ _; go_grown; done) | (go_grown; done))⟩
         ·have har' := neq_b har
          clear hab
          go_enter Tryz.func157, Tryz.ntmps157
          go_wp2_with fail
          refine (zQc _ _).mono ?_; rintro e w1 ⟨rfl, rfl⟩
          rw [HA.out]
          go_wp2_with fail
          go_returns
          exact ⟨by rw [HV.out]; try rfl, by (first | (refine zca ?_ _; go_grown; done) | (go_grown; done))⟩
end Go.Proofs.YtakgiamhdpgoeaaGreat
