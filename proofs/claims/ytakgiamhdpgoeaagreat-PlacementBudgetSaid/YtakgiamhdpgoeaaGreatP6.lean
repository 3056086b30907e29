/- Lemmas. -/
import Derived.Test.YtakgiamhdpgoeaaGreatP3
import Derived.Test.YtakgiamhdpgoeaaGreatP5
set_option linter.unusedSimpArgs false
namespace Go.Proofs.YtakgiamhdpgoeaaGreat
open Go.RowKit
set_option linter.unusedVariables false
theorem below_one (w : World) (o : Obj) (w1 : World) (h : Below (w.alloc o).heap.size (w.alloc o) w1) : Below w.heap.size w w1 :=
 ((Below.refl _ w).alloc (Nat.le_refl _) _).trans (h.mono (by simp))
set_option maxRecDepth 100000 in
set_option maxHeartbeats 1000000 in
theorem value_any (d : PrgD) (ps : SL FldD) (n : SL ExD) (x : Int) (w : World) (hR : PrgR w w.heap.size d) (hP : SLR w w.heap.size 2 FldD.enc FldD.ok ps) (hN : SLR w w.heap.size 3 ExD.enc ExD.ok n) :
  Calls Tryz.prog 118 #[ztc d ps, .slice n.a n.l.length n.c, .int .i64 x] w fun e w' => e = .returned (.int .i64 (zVb d ps.l n.l x)) ∧ Below w.heap.size w w' := by
 have HC := Hd (fun W h1 h2 h3 => zzc d ps n W h1 h2 h3)
 have HV0 : zVb d ps.l n.l x = if (zMa d ps.l n.l).2 = 0 ∧ (zMa d ps.l n.l).1 ≠ x then 10 else (zMa d ps.l n.l).2 := rfl
 obtain ⟨r, hr⟩ : ∃ r, zMa d ps.l n.l = r := ⟨_, rfl⟩
 rw [hr] at HC HV0
 have HR := Hd hR
 have HP := Hd hP
 have HN := Hd hN
 clear hr hR hP hN
 have key : ∀ b1 b2 : Bool, (r.2 == 0) = b1 → (r.1 == x) = b2 → zVb d ps.l n.l x = if b1 && !b2 then 10 else r.2 := by
  intro b1 b2 h1 h2
  rw [HV0, ← h1, ← h2]
  by_cases g1 : r.2 = 0 <;> by_cases g2 : r.1 = x <;> simp [g1, g2]
 clear HV0
 obtain ⟨b1, h1⟩ : ∃ b, (r.2 == 0) = b := ⟨_, rfl⟩
 obtain ⟨b2, h2⟩ : ∃ b, (r.1 == x) = b := ⟨_, rfl⟩
 have HV := Hd (key b1 b2 h1 h2)
 clear key
 unfold ztc at *
 cases b1
 all_goals cases b2
 all_goals
  have h2' := h2
  go_enter Tryz.func118, Tryz.ntmps118
  go_wp2_with fail
  refine (HC.out _ (HR.out.step (by (first | (refine zca ?_ _; go_grown; done) | (go_grown; done)))) ((HP.out.below (by (first | (refine zca ?_ _; go_grown; done) | (go_grown; done)))).more (by simp)) ((HN.out.below (by (first | (refine zca ?_ _; go_grown; done) | (go_grown; done)))).more (by simp))).mono ?_
  rintro e w1 ⟨rfl, hb1⟩
  have HB1 := Hd (below_one w _ _ hb1)
  clear hb1
  go_wp2_with fail
  go_returns
  exact ⟨by rw [HV.out]; rfl, HB1.out⟩
open Go.RowKit Go.BigFrame
abbrev stV (x : StD) : Value := .agg #[.int .i64 x.kind, .int .i64 x.dh, .int .i64 x.df, .int .i64 x.reg, .int .i64 x.hdr, .slice x.index.a x.index.l.length x.index.c, .slice x.value.a x.value.l.length x.value.c]
structure StW (d : PrgD) (ps : SL FldD) (x : StD) (N : Nat) (w W : World) : Prop where
 below : Below N w W
 sz : N + 3 ≤ W.heap.size
 sc : Blk W N 169 (zEa d ps)
 st : Blk W (N + 1) 93 #[.int .i64 x.kind, .int .i64 x.dh, .int .i64 x.df, .int .i64 x.reg, .int .i64 x.hdr, .slice x.index.a x.index.l.length x.index.c, .slice x.value.a x.value.l.length x.value.c]
 pr : Blk W (N + 1 + 1) 31 #[.string d.name, .slice d.hZ.a d.hZ.l.length d.hZ.c, .slice d.mZ.a d.mZ.l.length d.mZ.c, .slice d.rZ.a d.rZ.l.length d.rZ.c, .slice d.aZ.a d.aZ.l.length d.aZ.c, .slice d.tZ.a d.tZ.l.length d.tZ.c, .slice d.sZ.a d.sZ.l.length d.sZ.c, .slice d.cZ.a d.cZ.l.length d.cZ.c, .slice d.dep.a d.dep.l.length d.dep.c]
theorem StW.call {d : PrgD} {ps : SL FldD} {x : StD} {N : Nat} {w W W' : World} (h : StW d ps x N w W) (hb : Below W.heap.size W W') : StW d ps x N w W' :=
 ⟨h.below.trans (hb.mono (by have := h.sz; omega)), Nat.le_trans h.sz hb.size, h.sc.below hb (by have := h.sz; omega), h.st.below hb (by have := h.sz; omega), h.pr.below hb (by have := h.sz; omega)⟩
theorem reg_len (x : RegD) : x.enc.length = 3 := rfl
theorem StW.cells {d : PrgD} {ps : SL FldD} {x : StD} {N : Nat} {w W : World} (h : StW d ps x N w W) :
  (W.cell? ⟨N, 0, none⟩ = some (.string d.name) ∧ W.cell? ⟨N, 1, none⟩ = some (.slice d.hZ.a d.hZ.l.length d.hZ.c) ∧ W.cell? ⟨N, 2, none⟩ = some (.slice d.mZ.a d.mZ.l.length d.mZ.c) ∧ W.cell? ⟨N, 3, none⟩ = some (.slice d.rZ.a d.rZ.l.length d.rZ.c) ∧ W.cell? ⟨N, 4, none⟩ = some (.slice d.aZ.a d.aZ.l.length d.aZ.c)) ∧
  (W.cell? ⟨N, 5, none⟩ = some (.slice d.tZ.a d.tZ.l.length d.tZ.c) ∧ W.cell? ⟨N, 6, none⟩ = some (.slice d.sZ.a d.sZ.l.length d.sZ.c) ∧ W.cell? ⟨N, 7, none⟩ = some (.slice d.cZ.a d.cZ.l.length d.cZ.c) ∧ W.cell? ⟨N, 8, none⟩ = some (.slice d.dep.a d.dep.l.length d.dep.c) ∧ W.cell? ⟨N, 9, none⟩ = some (.slice ps.a ps.l.length ps.c)) ∧
  (W.cell? ⟨N + 1, 0, none⟩ = some (.int .i64 x.kind) ∧ W.cell? ⟨N + 1, 1, none⟩ = some (.int .i64 x.dh) ∧ W.cell? ⟨N + 1, 2, none⟩ = some (.int .i64 x.df) ∧ W.cell? ⟨N + 1, 3, none⟩ = some (.int .i64 x.reg) ∧ W.cell? ⟨N + 1, 4, none⟩ = some (.int .i64 x.hdr) ∧ W.cell? ⟨N + 1, 5, none⟩ = some (.slice x.index.a x.index.l.length x.index.c) ∧ W.cell? ⟨N + 1, 6, none⟩ = some (.slice x.value.a x.value.l.length x.value.c)) ∧
  (W.cell? ⟨N + 1 + 1, 1, none⟩ = some (.slice d.hZ.a d.hZ.l.length d.hZ.c) ∧ W.cell? ⟨N + 1 + 1, 3, none⟩ = some (.slice d.rZ.a d.rZ.l.length d.rZ.c)) :=
 ⟨⟨h.sc.cell 0, h.sc.cell 1, h.sc.cell 2, h.sc.cell 3, h.sc.cell 4⟩, ⟨h.sc.cell 5, h.sc.cell 6, h.sc.cell 7, h.sc.cell 8, h.sc.cell 9⟩, ⟨h.st.cell 0, h.st.cell 1, h.st.cell 2, h.st.cell 3, h.st.cell 4, h.st.cell 5, h.st.cell 6⟩, ⟨h.pr.cell 1, h.pr.cell 3⟩⟩
theorem StW.start (d : PrgD) (ps : SL FldD) (x : StD) (w : World) (t u v : TypeId) (ht : t = 169) (hu : u = 93) (hv : v = 31) : StW d ps x w.heap.size w (((w.alloc (.cells (zEa d ps) t)).alloc (.cells #[.int .i64 x.kind, .int .i64 x.dh, .int .i64 x.df, .int .i64 x.reg, .int .i64 x.hdr, .slice x.index.a x.index.l.length x.index.c, .slice x.value.a x.value.l.length x.value.c] u)).alloc (.cells #[.string d.name, .slice d.hZ.a d.hZ.l.length d.hZ.c, .slice d.mZ.a d.mZ.l.length d.mZ.c, .slice d.rZ.a d.rZ.l.length d.rZ.c, .slice d.aZ.a d.aZ.l.length d.aZ.c, .slice d.tZ.a d.tZ.l.length d.tZ.c, .slice d.sZ.a d.sZ.l.length d.sZ.c, .slice d.cZ.a d.cZ.l.length d.cZ.c, .slice d.dep.a d.dep.l.length d.dep.c] v)) := by
 subst ht hu hv
 refine ⟨by go_grown, by simp, ?_, ?_, ?_⟩
 ·exact (Blk.new w _ _).below (B := w.heap.size + 1) (((Below.refl _ _).alloc (by simp) _).alloc (by simp) _) (by omega)
 ·have h := Blk.new (w.alloc (.cells (zEa d ps) 169)) 93 #[.int .i64 x.kind, .int .i64 x.dh, .int .i64 x.df, .int .i64 x.reg, .int .i64 x.hdr, .slice x.index.a x.index.l.length x.index.c, .slice x.value.a x.value.l.length x.value.c]
  rw [World.size_alloc] at h
  exact h.below (B := w.heap.size + 2) ((Below.refl _ _).alloc (by simp) _) (by omega)
 ·have h := Blk.new ((w.alloc (.cells (zEa d ps) 169)).alloc (.cells #[.int .i64 x.kind, .int .i64 x.dh, .int .i64 x.df, .int .i64 x.reg, .int .i64 x.hdr, .slice x.index.a x.index.l.length x.index.c, .slice x.value.a x.value.l.length x.value.c] 93)) 31 #[.string d.name, .slice d.hZ.a d.hZ.l.length d.hZ.c, .slice d.mZ.a d.mZ.l.length d.mZ.c, .slice d.rZ.a d.rZ.l.length d.rZ.c, .slice d.aZ.a d.aZ.l.length d.aZ.c, .slice d.tZ.a d.tZ.l.length d.tZ.c, .slice d.sZ.a d.sZ.l.length d.sZ.c, .slice d.cZ.a d.cZ.l.length d.cZ.c, .slice d.dep.a d.dep.l.length d.dep.c]
  rw [World.size_alloc, World.size_alloc] at h
  exact h
set_option maxRecDepth 100000 in
set_option maxHeartbeats 1500000 in
theorem zZf (d : PrgD) (ps : SL FldD) (x : StD) (w : World) (hR : PrgR w w.heap.size d) (hP : SLR w w.heap.size 2 FldD.enc FldD.ok ps) (hx : x.ok w w.heap.size) (hk5 : x.kind = 5) (hreg : 0 ≤ x.reg ∧ x.reg < d.rZ.l.length) (hidx : (zMa d ps.l x.index.l).2 = 0) :
  Calls Tryz.prog 83 #[ztc d ps, stV x] w fun e w' => e = .returned (.int .i64 (zFa d ps.l x)) ∧ Below w.heap.size w w' := by
 obtain ⟨N, hN⟩ : ∃ N, N = w.heap.size := ⟨_, rfl⟩
 have HN := Hd hN
 rw [← hN] at hR hP hx
 have HK5 := Hd hk5
 have HREG := Hd hreg
 have HIDX := Hd hidx
 clear hk5 hreg hidx
 have HR := Hd hR
 have HP := Hd hP
 have HX := Hd hx
 have hrl := hR.rZ.len
 have HST := Hd (StW.start d ps x w _ _ _ rfl rfl rfl)
 rw [← hN] at HST
 have HW := Hd (fun W (h : PrgR W W.heap.size d) => width_any d x.dh x.df W h)
 obtain ⟨o, ho⟩ : ∃ o, fldAt d x.dh x.df = o := ⟨_, rfl⟩
 have HO := Hd ho
 rw [ho] at HW
 clear ho
 obtain ⟨wd, hwd⟩ : ∃ y, fldW o = y := ⟨_, rfl⟩
 obtain ⟨ok, hok⟩ : ∃ y, o.isSome = y := ⟨_, rfl⟩
 have HWd := Hd hwd
 have HOk := Hd hok
 rw [show widV o = .tuple #[.int .i64 wd, .bool ok] by rw [← hwd, ← hok]; cases o <;> rfl] at HW
 obtain ⟨rk, hrk⟩ : ∃ y, (decide (0 ≤ x.reg) && decide (x.reg < d.rZ.l.length)) = y := ⟨_, rfl⟩
 have HRK := Hd hrk
 clear hR hP hx hN hwd hok hrk
 unfold ztc PrgD.v PrgD.vs refV at *
 unfold stV
 go_enter Tryz.func83, Tryz.ntmps83
 go_wp2_with fail
 rw [← HN.out]
 unfold zEa at HST
 obtain ⟨W0, hW0⟩ : ∃ U, U = ((w.alloc (.cells #[.string d.name, .slice d.hZ.a d.hZ.l.length d.hZ.c, .slice d.mZ.a d.mZ.l.length d.mZ.c, .slice d.rZ.a d.rZ.l.length d.rZ.c, .slice d.aZ.a d.aZ.l.length d.aZ.c, .slice d.tZ.a d.tZ.l.length d.tZ.c, .slice d.sZ.a d.sZ.l.length d.sZ.c, .slice d.cZ.a d.cZ.l.length d.cZ.c, .slice d.dep.a d.dep.l.length d.dep.c, .slice ps.a ps.l.length ps.c] 169)).alloc (.cells #[.int .i64 x.kind, .int .i64 x.dh, .int .i64 x.df, .int .i64 x.reg, .int .i64 x.hdr, .slice x.index.a x.index.l.length x.index.c, .slice x.value.a x.value.l.length x.value.c] 93)).alloc (.cells #[.string d.name, .slice d.hZ.a d.hZ.l.length d.hZ.c, .slice d.mZ.a d.mZ.l.length d.mZ.c, .slice d.rZ.a d.rZ.l.length d.rZ.c, .slice d.aZ.a d.aZ.l.length d.aZ.c, .slice d.tZ.a d.tZ.l.length d.tZ.c, .slice d.sZ.a d.sZ.l.length d.sZ.c, .slice d.cZ.a d.cZ.l.length d.cZ.c, .slice d.dep.a d.dep.l.length d.dep.c] 31) := ⟨_, rfl⟩
 rw [← hW0] at HST ⊢
 clear hW0
 have hRS : ∀ W, Below N w W → PrgR W W.heap.size d := fun W h => (HR.out.below h).more (by have := h.size; have := HN.out; omega)
 have hPS : ∀ W, Below N w W → SLR W W.heap.size 2 FldD.enc FldD.ok ps := fun W h => (HP.out.below h).more (by have := h.size; have := HN.out; omega)
 have hIS : ∀ W, Below N w W → SLR W W.heap.size 3 ExD.enc ExD.ok x.index := fun W h => (HX.out.index.below h).more (by have := h.size; have := HN.out; omega)
 have hVS : ∀ W, Below N w W → SLR W W.heap.size 3 ExD.enc ExD.ok x.value := fun W h => (HX.out.value.below h).more (by have := h.size; have := HN.out; omega)
 have HRS := Hd hRS
 have HPS := Hd hPS
 have HIS := Hd hIS
 have HVS := Hd hVS
 clear hRS hPS hIS hVS
 refine (HW.out _ (HRS.out _ HST.out.below)).mono ?_
 rintro e w1 ⟨rfl, hb1⟩
 have HS1 := Hd (HST.out.call hb1)
 clear hb1
 obtain ⟨⟨s0, s1, s2, s3, s4⟩, ⟨s5, s6, s7, s8, s9⟩, ⟨t0, t1, t2, t3, t4, t5, t6⟩, ⟨p1, p3⟩⟩ := HS1.out.cells
 go_upto_region 3 with (fail)
 go_cut [8] (fun s8 wx => s8 = .bool rk ∧ wx = w1)
 case first =>
  have hrk := HRK.out
  by_cases r1 : x.reg < 0
  ·have r1' : decide (0 ≤ x.reg) = false := by simp; omega
   have r2 : ¬ (0 ≤ x.reg) := by omega
   rw [r1', Bool.false_and] at hrk
   have HRk := Hd hrk
   clear hrk
   go_wp2_with fail
   go_meet
   exact ⟨by rw [← HRk.out], rfl⟩
  ·have r1' : decide (0 ≤ x.reg) = true := by simp; omega
   rw [r1', Bool.true_and] at hrk
   go_wp2_with fail
   go_meet
   exact ⟨by rw [← hrk], rfl⟩
 case rest =>
  obtain ⟨rfl, rfl⟩ := hcut
  have k := HK5.out
  have k1 : x.kind ≠ 1 := by rw [k]; omega
  have k23 : ¬ (x.kind = 2 ∨ x.kind = 3) := by rw [k]; omega
  have k45 : x.kind = 4 ∨ x.kind = 5 := by rw [k]; omega
  obtain ⟨hr1, hr2⟩ := HREG.out
  have hrk2 := HRK.out
  obtain rfl : rk = true := by rw [← hrk2]; simp; omega
  clear hrk2
  obtain ⟨j, hj⟩ := Int.eq_ofNat_of_zero_le hr1
  rw [hj] at hr2
  have hj0 : (0 : Int) ≤ j := by omega
  obtain ⟨b, off, r, hA, hb, hget, hrok, hc⟩ := HR.out.rZ.at_ reg_len (by omega) (show j < d.rZ.l.length by omega)
  have q1 := (HS1.out.below.cell (p := ⟨b, off + j * 3 + 1, none⟩) hb).trans (hc 1 _ rfl)
  have HQ := Hd (hc 1 _ rfl)
  have HBb := Hd hb
  have HA := Hd hA
  have HJ := Hd hj
  have hidx := HIDX.out
  obtain ⟨ri, hri⟩ : ∃ y, zMa d ps.l x.index.l = y := ⟨_, rfl⟩
  have HV0 : zFa d ps.l x = if x.kind = 4 ∧ o.isNone then 8 else if ri.2 ≠ 0 then ri.2 else if x.kind = 5 then zVb d ps.l x.value.l r.width else if wd = r.width then 0 else 10 := by
   unfold zFa
   rw [if_neg k1, if_neg k23, if_pos k45, if_neg (by omega), hj, Int.toNat_natCast, hget]
   simp only [HO.out, hri, ← HWd.out]
   cases o <;> rfl
  clear k1 k23 k45
  have HC := Hd (zzc d ps x.index _ (HRS.out _ HS1.out.below) (HPS.out _ HS1.out.below) (HIS.out _ HS1.out.below))
  unfold ztc at HC
  rw [hri] at HC
  rw [hj] at t3
  rw [hA] at p3
  rw [hri] at hidx
  clear hri hget hrok hc hr1 hj hb hA
  have d4 : (4 : Int) ≠ 5 := by omega
  rw [k] at t0
  have HK := Hd k
  have HV1 : zFa d ps.l x = if ri.2 ≠ 0 then ri.2 else zVb d ps.l x.value.l r.width := by
   rw [HV0, k, if_neg (by intro h; omega), if_pos rfl]
  clear k HV0
  have e1 : ri.2 = 0 := hidx
  clear hidx
  have e1' : (ri.2 != 0) = false := by simp [e1]
  have HV := Hd (show zFa d ps.l x = zVb d ps.l x.value.l r.width by rw [HV1, if_neg (by omega)])
  clear HV1 e1
  go_wp2_with fail
  refine HC.out.mono ?_
  rintro e w2 ⟨rfl, hb2⟩
  have HS2 := Hd (HS1.out.call hb2)
  clear hb2 q1
  clear s0 s1 s2 s3 s4 s5 s6 s7 s8 s9 t0 t1 t2 t3 t4 t5 t6 p1 p3
  obtain ⟨⟨s0, s1, s2, s3, s4⟩, ⟨s5, s6, s7, s8, s9⟩, ⟨t0, t1, t2, t3, t4, t5, t6⟩, ⟨p1, p3⟩⟩ := HS2.out.cells
  rw [HK.out] at t0
  rw [HJ.out] at t3
  rw [HA.out] at p3
  have q1 := (HS2.out.below.cell (p := ⟨b, off + j * 3 + 1, none⟩) HBb.out).trans HQ.out
  go_wp2_with fail
  have HC3 := Hd fun W (h : Below N w W) => value_any d ps x.value r.width W (HRS.out _ h) (HPS.out _ h) (HVS.out _ h)
  unfold ztc at HC3
  have hbz : b < w2.heap.size := by have := HS2.out.sz; have := HBb.out; omega
  have hz2 := HS2.out.sz
  have hm0 : N < w2.heap.size := by omega
  have hm1 : N + 1 < w2.heap.size := by omega
  have hm2 : N + 1 + 1 < w2.heap.size := by omega
  have hcl : ∀ (p : Ab w2.heap.size w2) (b i : Nat), b < w2.heap.size → p.u.cell? ⟨b, i, none⟩ = w2.cell? ⟨b, i, none⟩ := fun p b i h => p.h.cell (p := ⟨b, i, none⟩) h
  refine zia w2.heap.size w2 (by kernel_rfl) (by kernel_rfl) (Below.refl _ _) ?_
  repeat (first
   | go_big_quiet_step ((go_at_call 118; refine Calls.ab (Nat.le_refl _) (HC3.out _ ?_); exact HS2.out.below.trans (Ab.h _ |>.mono (by have := HS2.out.sz; omega)))))
  refine wpQuiet_nil ?_
  intro _ hw'
  obtain ⟨⟨u, hu⟩, hw''⟩ := hw'
  subst hw''
  go_wp2_with fail
  go_returns
  exact ⟨by rw [HV.out]; try rfl, by rw [← HN.out]; exact HS2.out.below.trans (hu.mono (by have := HS2.out.sz; omega))⟩
open Go.RowKit Go.BigFrame
set_option maxRecDepth 100000 in
set_option maxHeartbeats 4000000 in
theorem statement_any (d : PrgD) (ps : SL FldD) (x : StD) (w : World) (hR : PrgR w w.heap.size d) (hP : SLR w w.heap.size 2 FldD.enc FldD.ok ps) (hx : x.ok w w.heap.size) :
  Calls Tryz.prog 83 #[ztc d ps, stV x] w fun e w' => e = .returned (.int .i64 (zFa d ps.l x)) ∧ Below w.heap.size w w' := by
 obtain ⟨N, hN⟩ : ∃ N, N = w.heap.size := ⟨_, rfl⟩
 have HN := Hd hN
 rw [← hN] at hR hP hx
 by_cases hw : x.kind = 5 ∧ (0 ≤ x.reg ∧ x.reg < d.rZ.l.length) ∧ (zMa d ps.l x.index.l).2 = 0
 ·rw [hN] at hR hP hx
  exact zZf d ps x w hR hP hx hw.1 hw.2.1 hw.2.2
 have HWn := Hd hw
 have HR := Hd hR
 have HP := Hd hP
 have HX := Hd hx
 have hrl := hR.rZ.len
 have HST := Hd (StW.start d ps x w _ _ _ rfl rfl rfl)
 rw [← hN] at HST
 have HW := Hd (fun W (h : PrgR W W.heap.size d) => width_any d x.dh x.df W h)
 obtain ⟨o, ho⟩ : ∃ o, fldAt d x.dh x.df = o := ⟨_, rfl⟩
 have HO := Hd ho
 rw [ho] at HW
 clear ho
 obtain ⟨wd, hwd⟩ : ∃ y, fldW o = y := ⟨_, rfl⟩
 obtain ⟨ok, hok⟩ : ∃ y, o.isSome = y := ⟨_, rfl⟩
 have HWd := Hd hwd
 have HOk := Hd hok
 rw [show widV o = .tuple #[.int .i64 wd, .bool ok] by rw [← hwd, ← hok]; cases o <;> rfl] at HW
 obtain ⟨rk, hrk⟩ : ∃ y, (decide (0 ≤ x.reg) && decide (x.reg < d.rZ.l.length)) = y := ⟨_, rfl⟩
 have HRK := Hd hrk
 clear hR hP hx hN hwd hok hrk hw
 unfold ztc PrgD.v PrgD.vs refV at *
 unfold stV
 go_enter Tryz.func83, Tryz.ntmps83
 go_wp2_with fail
 rw [← HN.out]
 unfold zEa at HST
 obtain ⟨W0, hW0⟩ : ∃ U, U = ((w.alloc (.cells #[.string d.name, .slice d.hZ.a d.hZ.l.length d.hZ.c, .slice d.mZ.a d.mZ.l.length d.mZ.c, .slice d.rZ.a d.rZ.l.length d.rZ.c, .slice d.aZ.a d.aZ.l.length d.aZ.c, .slice d.tZ.a d.tZ.l.length d.tZ.c, .slice d.sZ.a d.sZ.l.length d.sZ.c, .slice d.cZ.a d.cZ.l.length d.cZ.c, .slice d.dep.a d.dep.l.length d.dep.c, .slice ps.a ps.l.length ps.c] 169)).alloc (.cells #[.int .i64 x.kind, .int .i64 x.dh, .int .i64 x.df, .int .i64 x.reg, .int .i64 x.hdr, .slice x.index.a x.index.l.length x.index.c, .slice x.value.a x.value.l.length x.value.c] 93)).alloc (.cells #[.string d.name, .slice d.hZ.a d.hZ.l.length d.hZ.c, .slice d.mZ.a d.mZ.l.length d.mZ.c, .slice d.rZ.a d.rZ.l.length d.rZ.c, .slice d.aZ.a d.aZ.l.length d.aZ.c, .slice d.tZ.a d.tZ.l.length d.tZ.c, .slice d.sZ.a d.sZ.l.length d.sZ.c, .slice d.cZ.a d.cZ.l.length d.cZ.c, .slice d.dep.a d.dep.l.length d.dep.c] 31) := ⟨_, rfl⟩
 rw [← hW0] at HST ⊢
 clear hW0
 have hRS : ∀ W, Below N w W → PrgR W W.heap.size d := fun W h => (HR.out.below h).more (by have := h.size; have := HN.out; omega)
 have hPS : ∀ W, Below N w W → SLR W W.heap.size 2 FldD.enc FldD.ok ps := fun W h => (HP.out.below h).more (by have := h.size; have := HN.out; omega)
 have hIS : ∀ W, Below N w W → SLR W W.heap.size 3 ExD.enc ExD.ok x.index := fun W h => (HX.out.index.below h).more (by have := h.size; have := HN.out; omega)
 have hVS : ∀ W, Below N w W → SLR W W.heap.size 3 ExD.enc ExD.ok x.value := fun W h => (HX.out.value.below h).more (by have := h.size; have := HN.out; omega)
 have HRS := Hd hRS
 have HPS := Hd hPS
 have HIS := Hd hIS
 have HVS := Hd hVS
 clear hRS hPS hIS hVS
 refine (HW.out _ (HRS.out _ HST.out.below)).mono ?_
 rintro e w1 ⟨rfl, hb1⟩
 have HS1 := Hd (HST.out.call hb1)
 clear hb1
 obtain ⟨⟨s0, s1, s2, s3, s4⟩, ⟨s5, s6, s7, s8, s9⟩, ⟨t0, t1, t2, t3, t4, t5, t6⟩, ⟨p1, p3⟩⟩ := HS1.out.cells
 go_upto_region 3 with (fail)
 go_cut [8] (fun s8 wx => s8 = .bool rk ∧ wx = w1)
 case first =>
  have hrk := HRK.out
  by_cases r1 : x.reg < 0
  ·have r1' : decide (0 ≤ x.reg) = false := by simp; omega
   have r2 : ¬ (0 ≤ x.reg) := by omega
   rw [r1', Bool.false_and] at hrk
   have HRk := Hd hrk
   clear hrk
   go_wp2_with fail
   go_meet
   exact ⟨by rw [← HRk.out], rfl⟩
  ·have r1' : decide (0 ≤ x.reg) = true := by simp; omega
   rw [r1', Bool.true_and] at hrk
   go_wp2_with fail
   go_meet
   exact ⟨by rw [← hrk], rfl⟩
 case rest =>
  obtain ⟨rfl, rfl⟩ := hcut
  by_cases k1 : x.kind = 1
  ·have t0' := t0
   rw [k1] at t0
   cases o with
   | none =>
    obtain rfl : ok = false := HOk.out.symm
    have HV := Hd (show zFa d ps.l x = 8 by unfold zFa; rw [if_pos k1, HO.out])
    clear k1
    go_wp2_with fail
    go_returns
    exact ⟨by rw [HV.out]; try rfl, by rw [← HN.out]; exact HS1.out.below⟩
   | some f =>
    obtain rfl : ok = true := HOk.out.symm
    obtain rfl : f.width = wd := HWd.out
    have HV := Hd (show zFa d ps.l x = zVb d ps.l x.value.l f.width by unfold zFa; rw [if_pos k1, HO.out])
    have HC := Hd (value_any d ps x.value f.width _ (HRS.out _ HS1.out.below) (HPS.out _ HS1.out.below) (HVS.out _ HS1.out.below))
    unfold ztc at HC
    clear k1
    go_wp2_with fail
    refine HC.out.mono ?_
    rintro e w2 ⟨rfl, hb2⟩
    have HS2 := Hd (HS1.out.call hb2)
    clear hb2
    go_wp2_with fail
    go_returns
    exact ⟨by rw [HV.out]; try rfl, by rw [← HN.out]; exact HS2.out.below⟩
  ·have k1' := neq_b k1
   by_cases k23 : x.kind = 2 ∨ x.kind = 3
   ·obtain ⟨q, hq⟩ : ∃ q, decide (x.hdr < 0 ∨ (d.hZ.l.length : Int) ≤ x.hdr) = q := ⟨_, rfl⟩
    have HV := Hd (show zFa d ps.l x = if q then 8 else 0 by unfold zFa; rw [if_neg k1, if_pos k23, ← hq]; simp)
    clear k1 k1'
    by_cases c1 : x.hdr < 0
    ·obtain rfl : q = true := by rw [← hq]; simp [c1]
     clear hq
     rcases k23 with k | k
     all_goals
      rw [k] at t0
      clear k
      go_wp2_with fail
      go_returns
      exact ⟨by rw [HV.out]; try rfl, by rw [← HN.out]; exact HS1.out.below⟩
    ·have c1' : decide (x.hdr < 0) = false := by simp; omega
     by_cases c2 : (d.hZ.l.length : Int) ≤ x.hdr
     ·obtain rfl : q = true := by rw [← hq]; simp [c2]
      have c2' : decide ((d.hZ.l.length : Int) ≤ x.hdr) = true := by simp; omega
      clear hq
      rcases k23 with k | k
      all_goals
       rw [k] at t0
       clear k
       go_wp2_with fail
       go_returns
       exact ⟨by rw [HV.out]; try rfl, by rw [← HN.out]; exact HS1.out.below⟩
     ·obtain rfl : q = false := by rw [← hq]; simp; omega
      have c2' : decide ((d.hZ.l.length : Int) ≤ x.hdr) = false := by simp; omega
      clear hq
      rcases k23 with k | k
      all_goals
       rw [k] at t0
       clear k
       go_wp2_with fail
       go_returns
       exact ⟨by rw [HV.out]; try rfl, by rw [← HN.out]; exact HS1.out.below⟩
   ·have k2' := neq_b (show x.kind ≠ 2 by omega)
    have k3' := neq_b (show x.kind ≠ 3 by omega)
    by_cases k45 : x.kind = 4 ∨ x.kind = 5
    ·cases rk with
     | false =>
      have HV := Hd (show zFa d ps.l x = 8 by
       have hr := HRK.out
       unfold zFa
       rw [if_neg k1, if_neg k23, if_pos k45]
       by_cases r1 : x.reg < 0
       ·rw [if_pos r1]
       ·rw [if_neg r1, List.getElem?_eq_none (by simp at hr; omega)])
      clear k1 k1' k23 k2' k3'
      rcases k45 with k | k
      all_goals
       rw [k] at t0
       clear k
       go_wp2_with fail
       go_returns
       exact ⟨by rw [HV.out]; try rfl, by rw [← HN.out]; exact HS1.out.below⟩
     | true =>
      have hr := HRK.out
      obtain ⟨hr1, hr2⟩ : 0 ≤ x.reg ∧ x.reg < d.rZ.l.length := by simpa using hr
      clear hr
      obtain ⟨j, hj⟩ := Int.eq_ofNat_of_zero_le hr1
      rw [hj] at hr2
      have hj0 : (0 : Int) ≤ j := by omega
      obtain ⟨b, off, r, hA, hb, hget, hrok, hc⟩ := HR.out.rZ.at_ reg_len (by omega) (show j < d.rZ.l.length by omega)
      have q1 := (HS1.out.below.cell (p := ⟨b, off + j * 3 + 1, none⟩) hb).trans (hc 1 _ rfl)
      have HQ := Hd (hc 1 _ rfl)
      have HBb := Hd hb
      have HA := Hd hA
      have HJ := Hd hj
      obtain ⟨ri, hri⟩ : ∃ y, zMa d ps.l x.index.l = y := ⟨_, rfl⟩
      have HV0 : zFa d ps.l x = if x.kind = 4 ∧ o.isNone then 8 else if ri.2 ≠ 0 then ri.2 else if x.kind = 5 then zVb d ps.l x.value.l r.width else if wd = r.width then 0 else 10 := by
       unfold zFa
       rw [if_neg k1, if_neg k23, if_pos k45, if_neg (by omega), hj, Int.toNat_natCast, hget]
       simp only [HO.out, hri, ← HWd.out]
       cases o <;> rfl
      have HC := Hd (zzc d ps x.index _ (HRS.out _ HS1.out.below) (HPS.out _ HS1.out.below) (HIS.out _ HS1.out.below))
      unfold ztc at HC
      rw [hri] at HC
      rw [hj] at t3
      rw [hA] at p3
      have HRI := Hd hri
      clear hri hget hrok hc hr1 hj k1 k1' k23 k2' k3' hb hA
      have d4 : (4 : Int) ≠ 5 := by omega
      rcases k45 with k | k
      ·rw [k] at t0
       have HK := Hd k
       have HV1 := HV0
       rw [k] at HV1
       clear k HV0
       cases ok with
       | false =>
        have HV := Hd (show zFa d ps.l x = 8 by rw [HV1, if_pos ⟨rfl, by have := HOk.out; cases o <;> simp_all⟩])
        clear HV1
        go_wp2_with fail
        go_returns
        exact ⟨by rw [HV.out]; try rfl, by rw [← HN.out]; exact HS1.out.below⟩
       | true =>
        have HV2 : zFa d ps.l x = if ri.2 ≠ 0 then ri.2 else if wd = r.width then 0 else 10 := by
         rw [HV1, if_neg (by have := HOk.out; cases o <;> simp_all), if_neg (show ¬ (4 : Int) = 5 by omega)]
        clear HV1
        by_cases e1 : ri.2 = 0
        ·have e1' : (ri.2 != 0) = false := by simp [e1]
         by_cases e2 : wd = r.width
         ·have HV := Hd (show zFa d ps.l x = 0 by rw [HV2, if_neg (by omega), if_pos e2])
          have e2' : (wd == r.width) = true := by simp [e2]
          have e3' : (wd != r.width) = false := by simp [e2]
          clear HV2 e1 e2
          go_wp2_with fail
          refine HC.out.mono ?_
          rintro e w2 ⟨rfl, hb2⟩
          have HS2 := Hd (HS1.out.call hb2)
          clear hb2 q1
          clear s0 s1 s2 s3 s4 s5 s6 s7 s8 s9 t0 t1 t2 t3 t4 t5 t6 p1 p3
          obtain ⟨⟨s0, s1, s2, s3, s4⟩, ⟨s5, s6, s7, s8, s9⟩, ⟨t0, t1, t2, t3, t4, t5, t6⟩, ⟨p1, p3⟩⟩ := HS2.out.cells
          rw [HK.out] at t0
          rw [HJ.out] at t3
          rw [HA.out] at p3
          have q1 := (HS2.out.below.cell (p := ⟨b, off + j * 3 + 1, none⟩) HBb.out).trans HQ.out
          go_wp2_with fail
          go_returns
          exact ⟨by rw [HV.out]; try rfl, by rw [← HN.out]; exact HS2.out.below⟩
         ·have HV := Hd (show zFa d ps.l x = 10 by rw [HV2, if_neg (by omega), if_neg e2])
          have e2' : (wd == r.width) = false := by simp [e2]
          have e3' : (wd != r.width) = true := by simp [e2]
          clear HV2 e1 e2
          go_wp2_with fail
          refine HC.out.mono ?_
          rintro e w2 ⟨rfl, hb2⟩
          have HS2 := Hd (HS1.out.call hb2)
          clear hb2 q1
          clear s0 s1 s2 s3 s4 s5 s6 s7 s8 s9 t0 t1 t2 t3 t4 t5 t6 p1 p3
          obtain ⟨⟨s0, s1, s2, s3, s4⟩, ⟨s5, s6, s7, s8, s9⟩, ⟨t0, t1, t2, t3, t4, t5, t6⟩, ⟨p1, p3⟩⟩ := HS2.out.cells
          rw [HK.out] at t0
          rw [HJ.out] at t3
          rw [HA.out] at p3
          have q1 := (HS2.out.below.cell (p := ⟨b, off + j * 3 + 1, none⟩) HBb.out).trans HQ.out
          go_wp2_with fail
          go_returns
          exact ⟨by rw [HV.out]; try rfl, by rw [← HN.out]; exact HS2.out.below⟩
        ·have e1' : (ri.2 != 0) = true := by simp [e1]
         have HV := Hd (show zFa d ps.l x = ri.2 by rw [HV2, if_pos e1])
         clear HV2 e1
         go_wp2_with fail
         refine HC.out.mono ?_
         rintro e w2 ⟨rfl, hb2⟩
         have HS2 := Hd (HS1.out.call hb2)
         clear hb2 q1
         clear s0 s1 s2 s3 s4 s5 s6 s7 s8 s9 t0 t1 t2 t3 t4 t5 t6 p1 p3
         obtain ⟨⟨s0, s1, s2, s3, s4⟩, ⟨s5, s6, s7, s8, s9⟩, ⟨t0, t1, t2, t3, t4, t5, t6⟩, ⟨p1, p3⟩⟩ := HS2.out.cells
         rw [HK.out] at t0
         rw [HJ.out] at t3
         rw [HA.out] at p3
         have q1 := (HS2.out.below.cell (p := ⟨b, off + j * 3 + 1, none⟩) HBb.out).trans HQ.out
         go_wp2_with fail
         go_returns
         exact ⟨by rw [HV.out]; try rfl, by rw [← HN.out]; exact HS2.out.below⟩
      ·rw [k] at t0
       have HK := Hd k
       have HV1 : zFa d ps.l x = if ri.2 ≠ 0 then ri.2 else zVb d ps.l x.value.l r.width := by
        rw [HV0, k, if_neg (by intro h; omega), if_pos rfl]
       clear k HV0
       by_cases e1 : ri.2 = 0
       ·have hr := HRK.out
        exact absurd ⟨HK.out, by simpa using hr, by rw [HRI.out]; exact e1⟩ HWn.out
       ·have e1' : (ri.2 != 0) = true := by simp [e1]
        have HV := Hd (show zFa d ps.l x = ri.2 by rw [HV1, if_pos e1])
        clear HV1 e1
        go_wp2_with fail
        refine HC.out.mono ?_
        rintro e w2 ⟨rfl, hb2⟩
        have HS2 := Hd (HS1.out.call hb2)
        clear hb2 q1
        clear s0 s1 s2 s3 s4 s5 s6 s7 s8 s9 t0 t1 t2 t3 t4 t5 t6 p1 p3
        obtain ⟨⟨s0, s1, s2, s3, s4⟩, ⟨s5, s6, s7, s8, s9⟩, ⟨t0, t1, t2, t3, t4, t5, t6⟩, ⟨p1, p3⟩⟩ := HS2.out.cells
        rw [HK.out] at t0
        rw [HJ.out] at t3
        rw [HA.out] at p3
        have q1 := (HS2.out.below.cell (p := ⟨b, off + j * 3 + 1, none⟩) HBb.out).trans HQ.out
        go_wp2_with fail
        go_returns
        exact ⟨by rw [HV.out]; try rfl, by rw [← HN.out]; exact HS2.out.below⟩
    ·have k4' := neq_b (show x.kind ≠ 4 by omega)
     have k5' := neq_b (show x.kind ≠ 5 by omega)
     have HV := Hd (show zFa d ps.l x = 11 by unfold zFa; rw [if_neg k1, if_neg k23, if_neg k45])
     clear k1 k23 k45
     go_wp2_with fail
     go_returns
     exact ⟨by rw [HV.out]; try rfl, by rw [← HN.out]; exact HS1.out.below⟩
end Go.Proofs.YtakgiamhdpgoeaaGreat
