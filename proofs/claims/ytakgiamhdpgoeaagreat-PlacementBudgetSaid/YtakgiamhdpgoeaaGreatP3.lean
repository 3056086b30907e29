/- Lemmas. -/
import Derived.Test.YtakgiamhdpgoeaaGreatP2
import Derived.Test.YtakgiamhdpgoeaaGreatP1
set_option linter.unusedSimpArgs false
namespace Go.Proofs.YtakgiamhdpgoeaaGreat
open Go.RowKit
set_option linter.unusedVariables false
abbrev tripV (r : Int × Nat × Int) : Value := .tuple #[.int .i64 r.1, .int .i64 r.2.1, .int .i64 r.2.2]
theorem arity_rng (op : Int) : arity op = -1 ∨ arity op = 0 ∨ arity op = 1 ∨ arity op = 2 ∨ arity op = 3 := by
 unfold arity; split <;> (try split) <;> (try split) <;> (try split) <;> simp
theorem ex_len (x : ExD) : x.enc.length = 3 := rfl
def CheckAt (d : PrgD) (ps : SL FldD) (n : SL ExD) (i : Nat) : Prop :=
 ∀ (j : Nat) (w : World), i ≤ j → PrgR w w.heap.size d → SLR w w.heap.size 2 FldD.enc FldD.ok ps → SLR w w.heap.size 3 ExD.enc ExD.ok n →
  Calls Tryz.prog 145 #[ztc d ps, .slice n.a n.l.length n.c, .int .i64 j] w fun e w' => e = .returned (tripV (exI d ps.l n.l j)) ∧ Below w.heap.size w w'
abbrev zEa (d : PrgD) (ps : SL FldD) : Array Value := #[.string d.name, .slice d.hZ.a d.hZ.l.length d.hZ.c, .slice d.mZ.a d.mZ.l.length d.mZ.c, .slice d.rZ.a d.rZ.l.length d.rZ.c, .slice d.aZ.a d.aZ.l.length d.aZ.c, .slice d.tZ.a d.tZ.l.length d.tZ.c, .slice d.sZ.a d.sZ.l.length d.sZ.c, .slice d.cZ.a d.cZ.l.length d.cZ.c, .slice d.dep.a d.dep.l.length d.dep.c, .slice ps.a ps.l.length ps.c]
structure ChkW (d : PrgD) (ps : SL FldD) (w W : World) (a b c : Int) : Prop where
 below : Below w.heap.size w W
 sz : w.heap.size + 2 ≤ W.heap.size
 sc : Blk W w.heap.size 167 (zEa d ps)
 ar : Blk W (w.heap.size + 1) 243 #[.int .i64 a, .int .i64 b, .int .i64 c]
section
variable {d : PrgD} {ps : SL FldD} {w W W' : World} {a b c v : Int}
theorem ChkW.start (d : PrgD) (ps : SL FldD) (w : World) : ChkW d ps w ((w.alloc (.cells (zEa d ps) 167)).alloc (.cells #[.int .i64 0, .int .i64 0, .int .i64 0] 243)) 0 0 0 := by
 refine ⟨by (first | (refine zca ?_ _; go_grown; done) | (go_grown; done)), by simp, ?_, ?_⟩
 ·exact (Blk.new w _ _).below (B := w.heap.size + 1) ((Below.refl _ _).alloc (by simp) _) (by omega)
 ·have := Blk.new (w.alloc (.cells (zEa d ps) 167)) 243 #[.int .i64 0, .int .i64 0, .int .i64 0]
  simpa using this
theorem ChkW.call (h : ChkW d ps w W a b c) (hb : Below W.heap.size W W') : ChkW d ps w W' a b c :=
 ⟨h.below.trans (hb.mono h.below.size), Nat.le_trans h.sz hb.size, h.sc.below hb (by have := h.sz; omega), h.ar.below hb (by have := h.sz; omega)⟩
theorem ChkW.set_ (h : ChkW d ps w W a b c) (i : Nat) (u : Value) : Below w.heap.size w (W.setCell ⟨w.heap.size + 1, i, none⟩ u) ∧ w.heap.size + 2 ≤ (W.setCell ⟨w.heap.size + 1, i, none⟩ u).heap.size ∧ Blk (W.setCell ⟨w.heap.size + 1, i, none⟩ u) w.heap.size 167 (zEa d ps) ∧ Blk (W.setCell ⟨w.heap.size + 1, i, none⟩ u) (w.heap.size + 1) 243 ((#[.int .i64 a, .int .i64 b, .int .i64 c] : Array Value).setIfInBounds i u) :=
 ⟨h.below.setCell (by simp) _, by rw [World.size_setCell]; exact h.sz, h.sc.below (B := w.heap.size + 1) ((Below.refl _ _).setCell (by simp) _) (by omega), h.ar.set_ i u⟩
theorem ChkW.set0 (h : ChkW d ps w W a b c) (v : Int) : ChkW d ps w (W.setCell ⟨w.heap.size + 1, 0, none⟩ (.int .i64 v)) v b c := by
 obtain ⟨h1, h2, h3, h4⟩ := h.set_ 0 (.int .i64 v)
 exact ⟨h1, h2, h3, by simpa using h4⟩
theorem ChkW.set1 (h : ChkW d ps w W a b c) (v : Int) : ChkW d ps w (W.setCell ⟨w.heap.size + 1, 1, none⟩ (.int .i64 v)) a v c := by
 obtain ⟨h1, h2, h3, h4⟩ := h.set_ 1 (.int .i64 v)
 exact ⟨h1, h2, h3, by simpa using h4⟩
theorem ChkW.set2 (h : ChkW d ps w W a b c) (v : Int) : ChkW d ps w (W.setCell ⟨w.heap.size + 1, 2, none⟩ (.int .i64 v)) a b v := by
 obtain ⟨h1, h2, h3, h4⟩ := h.set_ 2 (.int .i64 v)
 exact ⟨h1, h2, h3, by simpa using h4⟩
theorem ChkW.cells (h : ChkW d ps w W a b c) :
  (W.cell? ⟨w.heap.size, 0, none⟩ = some (.string d.name) ∧ W.cell? ⟨w.heap.size, 1, none⟩ = some (.slice d.hZ.a d.hZ.l.length d.hZ.c) ∧ W.cell? ⟨w.heap.size, 2, none⟩ = some (.slice d.mZ.a d.mZ.l.length d.mZ.c) ∧ W.cell? ⟨w.heap.size, 3, none⟩ = some (.slice d.rZ.a d.rZ.l.length d.rZ.c) ∧ W.cell? ⟨w.heap.size, 4, none⟩ = some (.slice d.aZ.a d.aZ.l.length d.aZ.c)) ∧
  (W.cell? ⟨w.heap.size, 5, none⟩ = some (.slice d.tZ.a d.tZ.l.length d.tZ.c) ∧ W.cell? ⟨w.heap.size, 6, none⟩ = some (.slice d.sZ.a d.sZ.l.length d.sZ.c) ∧ W.cell? ⟨w.heap.size, 7, none⟩ = some (.slice d.cZ.a d.cZ.l.length d.cZ.c) ∧ W.cell? ⟨w.heap.size, 8, none⟩ = some (.slice d.dep.a d.dep.l.length d.dep.c) ∧ W.cell? ⟨w.heap.size, 9, none⟩ = some (.slice ps.a ps.l.length ps.c)) ∧
  (W.cell? ⟨w.heap.size + 1, 0, none⟩ = some (.int .i64 a) ∧ W.cell? ⟨w.heap.size + 1, 1, none⟩ = some (.int .i64 b) ∧ W.cell? ⟨w.heap.size + 1, 2, none⟩ = some (.int .i64 c)) ∧
  (W.frozen? ⟨w.heap.size + 1, 0, none⟩ = false ∧ W.frozen? ⟨w.heap.size + 1, 1, none⟩ = false ∧ W.frozen? ⟨w.heap.size + 1, 2, none⟩ = false) :=
 ⟨⟨h.sc.cell 0, h.sc.cell 1, h.sc.cell 2, h.sc.cell 3, h.sc.cell 4⟩, ⟨h.sc.cell 5, h.sc.cell 6, h.sc.cell 7, h.sc.cell 8, h.sc.cell 9⟩, ⟨h.ar.cell 0, h.ar.cell 1, h.ar.cell 2⟩, ⟨h.ar.frozen 0, h.ar.frozen 1, h.ar.frozen 2⟩⟩
end
set_option maxRecDepth 100000 in
set_option maxHeartbeats 4000000 in
theorem check_step (d : PrgD) (ps : SL FldD) (n : SL ExD) (i : Nat) (hi : i < n.l.length) (IH : CheckAt d ps n (i + 1)) (w : World) (hR : PrgR w w.heap.size d) (hP : SLR w w.heap.size 2 FldD.enc FldD.ok ps) (hN : SLR w w.heap.size 3 ExD.enc ExD.ok n) :
  Calls Tryz.prog 145 #[ztc d ps, .slice n.a n.l.length n.c, .int .i64 i] w fun e w' => e = .returned (tripV (exI d ps.l n.l i)) ∧ Below w.heap.size w w' := by
 have HR := Hd hR
 have HP := Hd hP
 have HN := Hd hN
 have HI := Hd IH
 have hlen := hN.len
 obtain ⟨b, off, x, hA, hb, hx, hok, hc⟩ := hN.at_ ex_len (by omega) hi
 clear hR hP hN IH
 obtain ⟨na, nc, nl⟩ := n
 simp only at hA hi hx HN hlen ⊢
 subst hA
 have q0 : w.cell? ⟨b, off + i * 3, none⟩ = some (.int .i64 x.op) := by have := hc 0 _ rfl; simpa using this
 have q1 : w.cell? ⟨b, off + i * 3 + 1, none⟩ = some (.int .i64 x.n) := hc 1 _ rfl
 have q2 : w.cell? ⟨b, off + i * 3 + 2, none⟩ = some (.int .i64 x.w) := hc 2 _ rfl
 have HX := Hd hok
 have HS := Hd (exI_some d ps.l nl i x hx)
 have hi' : (i : Int) < nl.length := by omega
 have hi0 : (0 : Int) ≤ i := by omega
 have HA := Hd (zQc x.op)
 have HPR := Hd (fun W h1 h2 => primary_any d ps x W h1 h2 hok)
 have HCO := Hd (fun a b c W ha hb => combine_any x a b c W hok ha hb)
 clear hx hok hc
 have hr := arity_rng x.op
 obtain ⟨ar, har⟩ : ∃ ar, arity x.op = ar := ⟨_, rfl⟩
 rw [har] at HA HS hr
 clear har
 rcases hr with rfl | rfl | rfl | rfl | rfl
 ·have HV := Hd (show exI d ps.l nl i = (0, 0, 11) by rw [HS.out]; rfl)
  go_enter Tryz.func145, Tryz.ntmps145
  go_wp2_with fail
  refine (HA.out _).mono ?_; rintro e w1 ⟨rfl, rfl⟩
  go_wp2_with fail
  go_returns
  exact ⟨by rw [HV.out]; try rfl, by (first | (refine zca ?_ _; go_grown; done) | (go_grown; done))⟩
 ·have HV := Hd (show exI d ps.l nl i = ((zSa d ps.l x).1, i + 1, (zSa d ps.l x).2) by rw [HS.out]; rfl)
  go_enter Tryz.func145, Tryz.ntmps145
  go_wp2_with fail
  refine (HA.out _).mono ?_; rintro e w1 ⟨rfl, rfl⟩
  go_wp2_with fail
  go_region_with (go_at_call 156; refine (HPR.out _ (HR.out.step (by (first | (refine zca ?_ _; go_grown; done) | (go_grown; done)))) ((HP.out.below (by (first | (refine zca ?_ _; go_grown; done) | (go_grown; done)))).more (by simp))).mono ?_; rintro e w2 ⟨rfl, hb2⟩; have HB2 := Hd hb2; clear hb2)
  all_goals go_wp2_with fail
  all_goals
   go_returns
   exact ⟨by rw [HV.out]; rfl, ((Below.refl _ w).alloc (Nat.le_refl _) _).trans ((undrew HB2.out).mono (by simp))⟩
 ·obtain ⟨r1, hr1⟩ : ∃ r, exI d ps.l nl (i + 1) = r := ⟨_, rfl⟩
  have HI1 := Hd (HI.out (i + 1))
  have hk1 := exI_ok d ps.l nl (i + 1)
  rw [hr1] at hk1 HI1
  simp only [hr1] at HS
  clear hr1
  by_cases e1 : r1.2.2 = 0
  ·have hn1 : (r1.2.2 != 0) = false := by simp [e1]
   have hk1' := hk1 e1
   have HV := Hd (show exI d ps.l nl i = ((zpa x r1.1 0 0).1, r1.2.1, (zpa x r1.1 0 0).2) by rw [HS.out]; simp [e1])
   go_enter Tryz.func145, Tryz.ntmps145
   go_wp2_with fail
   refine (HA.out _).mono ?_; rintro e w1 ⟨rfl, rfl⟩
   go_wp2_with fail
   refine wp_loop_rounds 4 ?_
   have HW0 := ChkW.start d ps w
   obtain ⟨W0, hW0⟩ : ∃ U, U = (w.alloc (.cells (zEa d ps) 167)).alloc (.cells #[.int .i64 0, .int .i64 0, .int .i64 0] 243) := ⟨_, rfl⟩
   unfold zEa at hW0
   rw [← hW0]
   unfold zEa at HW0
   rw [← hW0] at HW0
   clear hW0
   obtain ⟨⟨s0, s1, s2, s3, s4⟩, ⟨s5, s6, s7, s8, s9⟩, ⟨a0, a1, a2⟩, ⟨f0, f1, f2⟩⟩ := HW0.cells
   have x0 := (HW0.below.cell (p := ⟨b, off + i * 3, none⟩) hb).trans q0
   have x1 := (HW0.below.cell (p := ⟨b, off + i * 3 + 1, none⟩) hb).trans q1
   have x2 := (HW0.below.cell (p := ⟨b, off + i * 3 + 2, none⟩) hb).trans q2
   have HH0 := Hd HW0
   clear HW0
   rw [rounds_succ]
   go_wp2_with fail
   refine (HI1.out _ (Nat.le_refl _) ?_ ?_ ?_).mono ?_
   ·exact HR.out.step HH0.out.below
   ·exact (HP.out.below HH0.out.below).more HH0.out.below.size
   ·exact (HN.out.below HH0.out.below).more HH0.out.below.size
   rintro e w1 ⟨rfl, hb1⟩
   have HC1 := HH0.out.call hb1
   clear s0 s1 s2 s3 s4 s5 s6 s7 s8 s9 a0 a1 a2 f0 f1 f2 x0 x1 x2
   clear hb1
   obtain ⟨⟨s0, s1, s2, s3, s4⟩, ⟨s5, s6, s7, s8, s9⟩, ⟨a0, a1, a2⟩, ⟨f0, f1, f2⟩⟩ := HC1.cells
   have x0 := (HC1.below.cell (p := ⟨b, off + i * 3, none⟩) hb).trans q0
   have x1 := (HC1.below.cell (p := ⟨b, off + i * 3 + 1, none⟩) hb).trans q1
   have x2 := (HC1.below.cell (p := ⟨b, off + i * 3 + 2, none⟩) hb).trans q2
   have HD1 := Hd HC1
   clear HC1
   go_wp2_with fail
   have HE1 := HD1.out.set0 r1.1
   obtain ⟨W1, hW1⟩ : ∃ U, U = w1.setCell ⟨w.heap.size + 1, 0, none⟩ (.int .i64 r1.1) := ⟨_, rfl⟩
   rw [← hW1] at HE1 ⊢
   clear hW1
   clear s0 s1 s2 s3 s4 s5 s6 s7 s8 s9 a0 a1 a2 f0 f1 f2 x0 x1 x2
   obtain ⟨⟨s0, s1, s2, s3, s4⟩, ⟨s5, s6, s7, s8, s9⟩, ⟨a0, a1, a2⟩, ⟨f0, f1, f2⟩⟩ := HE1.cells
   have x0 := (HE1.below.cell (p := ⟨b, off + i * 3, none⟩) hb).trans q0
   have x1 := (HE1.below.cell (p := ⟨b, off + i * 3 + 1, none⟩) hb).trans q1
   have x2 := (HE1.below.cell (p := ⟨b, off + i * 3 + 2, none⟩) hb).trans q2
   have HH1 := Hd HE1
   clear HE1
   rw [rounds_succ]
   go_wp2_with fail
   go_region_with (go_at_call 157; refine (HCO.out r1.1 0 0 _ (by omega) (by omega)).mono ?_; rintro e w9 ⟨rfl, hb9⟩; have HB9 := Hd hb9; clear hb9)
   all_goals go_wp2_with fail
   all_goals
    go_returns
    exact ⟨by rw [HV.out]; rfl, HH1.out.below.trans ((undrew HB9.out).mono HH1.out.below.size)⟩
  ·have hn1 : (r1.2.2 != 0) = true := by simp [e1]
   have HV := Hd (show exI d ps.l nl i = (0, 0, r1.2.2) by rw [HS.out]; simp [e1])
   go_enter Tryz.func145, Tryz.ntmps145
   go_wp2_with fail
   refine (HA.out _).mono ?_; rintro e w1 ⟨rfl, rfl⟩
   go_wp2_with fail
   refine wp_loop_rounds 4 ?_
   have HW0 := ChkW.start d ps w
   obtain ⟨W0, hW0⟩ : ∃ U, U = (w.alloc (.cells (zEa d ps) 167)).alloc (.cells #[.int .i64 0, .int .i64 0, .int .i64 0] 243) := ⟨_, rfl⟩
   unfold zEa at hW0
   rw [← hW0]
   unfold zEa at HW0
   rw [← hW0] at HW0
   clear hW0
   obtain ⟨⟨s0, s1, s2, s3, s4⟩, ⟨s5, s6, s7, s8, s9⟩, ⟨a0, a1, a2⟩, ⟨f0, f1, f2⟩⟩ := HW0.cells
   have x0 := (HW0.below.cell (p := ⟨b, off + i * 3, none⟩) hb).trans q0
   have x1 := (HW0.below.cell (p := ⟨b, off + i * 3 + 1, none⟩) hb).trans q1
   have x2 := (HW0.below.cell (p := ⟨b, off + i * 3 + 2, none⟩) hb).trans q2
   have HH0 := Hd HW0
   clear HW0
   rw [rounds_succ]
   go_wp2_with fail
   refine (HI1.out _ (Nat.le_refl _) ?_ ?_ ?_).mono ?_
   ·exact HR.out.step HH0.out.below
   ·exact (HP.out.below HH0.out.below).more HH0.out.below.size
   ·exact (HN.out.below HH0.out.below).more HH0.out.below.size
   rintro e w1 ⟨rfl, hb1⟩
   have HC1 := HH0.out.call hb1
   clear s0 s1 s2 s3 s4 s5 s6 s7 s8 s9 a0 a1 a2 f0 f1 f2 x0 x1 x2
   clear hb1
   obtain ⟨⟨s0, s1, s2, s3, s4⟩, ⟨s5, s6, s7, s8, s9⟩, ⟨a0, a1, a2⟩, ⟨f0, f1, f2⟩⟩ := HC1.cells
   have x0 := (HC1.below.cell (p := ⟨b, off + i * 3, none⟩) hb).trans q0
   have x1 := (HC1.below.cell (p := ⟨b, off + i * 3 + 1, none⟩) hb).trans q1
   have x2 := (HC1.below.cell (p := ⟨b, off + i * 3 + 2, none⟩) hb).trans q2
   have HD1 := Hd HC1
   clear HC1
   go_wp2_with fail
   go_returns
   exact ⟨by rw [HV.out]; rfl, (HD1.out.set0 r1.1).below⟩
 ·obtain ⟨r1, hr1⟩ : ∃ r, exI d ps.l nl (i + 1) = r := ⟨_, rfl⟩
  have HI1 := Hd (HI.out (i + 1))
  have hk1 := exI_ok d ps.l nl (i + 1)
  rw [hr1] at hk1 HI1
  simp only [hr1] at HS
  clear hr1
  by_cases e1 : r1.2.2 = 0
  ·have hn1 : (r1.2.2 != 0) = false := by simp [e1]
   have hk1' := hk1 e1
   obtain ⟨r2, hr2⟩ : ∃ r, exI d ps.l nl r1.2.1 = r := ⟨_, rfl⟩
   have HI2 := Hd (HI.out r1.2.1)
   have hk2 := exI_ok d ps.l nl r1.2.1
   rw [hr2] at hk2 HI2
   simp only [hr2] at HS
   clear hr2
   by_cases e2 : r2.2.2 = 0
   ·have hn2 : (r2.2.2 != 0) = false := by simp [e2]
    have hk2' := hk2 e2
    have HV := Hd (show exI d ps.l nl i = ((zpa x r1.1 r2.1 0).1, r2.2.1, (zpa x r1.1 r2.1 0).2) by rw [HS.out]; simp [e1, e2])
    go_enter Tryz.func145, Tryz.ntmps145
    go_wp2_with fail
    refine (HA.out _).mono ?_; rintro e w1 ⟨rfl, rfl⟩
    go_wp2_with fail
    refine wp_loop_rounds 4 ?_
    have HW0 := ChkW.start d ps w
    obtain ⟨W0, hW0⟩ : ∃ U, U = (w.alloc (.cells (zEa d ps) 167)).alloc (.cells #[.int .i64 0, .int .i64 0, .int .i64 0] 243) := ⟨_, rfl⟩
    unfold zEa at hW0
    rw [← hW0]
    unfold zEa at HW0
    rw [← hW0] at HW0
    clear hW0
    obtain ⟨⟨s0, s1, s2, s3, s4⟩, ⟨s5, s6, s7, s8, s9⟩, ⟨a0, a1, a2⟩, ⟨f0, f1, f2⟩⟩ := HW0.cells
    have x0 := (HW0.below.cell (p := ⟨b, off + i * 3, none⟩) hb).trans q0
    have x1 := (HW0.below.cell (p := ⟨b, off + i * 3 + 1, none⟩) hb).trans q1
    have x2 := (HW0.below.cell (p := ⟨b, off + i * 3 + 2, none⟩) hb).trans q2
    have HH0 := Hd HW0
    clear HW0
    rw [rounds_succ]
    go_wp2_with fail
    refine (HI1.out _ (Nat.le_refl _) ?_ ?_ ?_).mono ?_
    ·exact HR.out.step HH0.out.below
    ·exact (HP.out.below HH0.out.below).more HH0.out.below.size
    ·exact (HN.out.below HH0.out.below).more HH0.out.below.size
    rintro e w1 ⟨rfl, hb1⟩
    have HC1 := HH0.out.call hb1
    clear s0 s1 s2 s3 s4 s5 s6 s7 s8 s9 a0 a1 a2 f0 f1 f2 x0 x1 x2
    clear hb1
    obtain ⟨⟨s0, s1, s2, s3, s4⟩, ⟨s5, s6, s7, s8, s9⟩, ⟨a0, a1, a2⟩, ⟨f0, f1, f2⟩⟩ := HC1.cells
    have x0 := (HC1.below.cell (p := ⟨b, off + i * 3, none⟩) hb).trans q0
    have x1 := (HC1.below.cell (p := ⟨b, off + i * 3 + 1, none⟩) hb).trans q1
    have x2 := (HC1.below.cell (p := ⟨b, off + i * 3 + 2, none⟩) hb).trans q2
    have HD1 := Hd HC1
    clear HC1
    go_wp2_with fail
    have HE1 := HD1.out.set0 r1.1
    obtain ⟨W1, hW1⟩ : ∃ U, U = w1.setCell ⟨w.heap.size + 1, 0, none⟩ (.int .i64 r1.1) := ⟨_, rfl⟩
    rw [← hW1] at HE1 ⊢
    clear hW1
    clear s0 s1 s2 s3 s4 s5 s6 s7 s8 s9 a0 a1 a2 f0 f1 f2 x0 x1 x2
    obtain ⟨⟨s0, s1, s2, s3, s4⟩, ⟨s5, s6, s7, s8, s9⟩, ⟨a0, a1, a2⟩, ⟨f0, f1, f2⟩⟩ := HE1.cells
    have x0 := (HE1.below.cell (p := ⟨b, off + i * 3, none⟩) hb).trans q0
    have x1 := (HE1.below.cell (p := ⟨b, off + i * 3 + 1, none⟩) hb).trans q1
    have x2 := (HE1.below.cell (p := ⟨b, off + i * 3 + 2, none⟩) hb).trans q2
    have HH1 := Hd HE1
    clear HE1
    rw [rounds_succ]
    go_wp2_with fail
    refine (HI2.out _ (by omega) ?_ ?_ ?_).mono ?_
    ·exact HR.out.step HH1.out.below
    ·exact (HP.out.below HH1.out.below).more HH1.out.below.size
    ·exact (HN.out.below HH1.out.below).more HH1.out.below.size
    rintro e w2 ⟨rfl, hb2⟩
    have HC2 := HH1.out.call hb2
    clear s0 s1 s2 s3 s4 s5 s6 s7 s8 s9 a0 a1 a2 f0 f1 f2 x0 x1 x2
    clear hb2
    obtain ⟨⟨s0, s1, s2, s3, s4⟩, ⟨s5, s6, s7, s8, s9⟩, ⟨a0, a1, a2⟩, ⟨f0, f1, f2⟩⟩ := HC2.cells
    have x0 := (HC2.below.cell (p := ⟨b, off + i * 3, none⟩) hb).trans q0
    have x1 := (HC2.below.cell (p := ⟨b, off + i * 3 + 1, none⟩) hb).trans q1
    have x2 := (HC2.below.cell (p := ⟨b, off + i * 3 + 2, none⟩) hb).trans q2
    have HD2 := Hd HC2
    clear HC2
    go_wp2_with fail
    have HE2 := HD2.out.set1 r2.1
    obtain ⟨W2, hW2⟩ : ∃ U, U = w2.setCell ⟨w.heap.size + 1, 1, none⟩ (.int .i64 r2.1) := ⟨_, rfl⟩
    rw [← hW2] at HE2 ⊢
    clear hW2
    clear s0 s1 s2 s3 s4 s5 s6 s7 s8 s9 a0 a1 a2 f0 f1 f2 x0 x1 x2
    obtain ⟨⟨s0, s1, s2, s3, s4⟩, ⟨s5, s6, s7, s8, s9⟩, ⟨a0, a1, a2⟩, ⟨f0, f1, f2⟩⟩ := HE2.cells
    have x0 := (HE2.below.cell (p := ⟨b, off + i * 3, none⟩) hb).trans q0
    have x1 := (HE2.below.cell (p := ⟨b, off + i * 3 + 1, none⟩) hb).trans q1
    have x2 := (HE2.below.cell (p := ⟨b, off + i * 3 + 2, none⟩) hb).trans q2
    have HH2 := Hd HE2
    clear HE2
    rw [rounds_succ]
    go_wp2_with fail
    go_region_with (go_at_call 157; refine (HCO.out r1.1 r2.1 0 _ (by omega) (by omega)).mono ?_; rintro e w9 ⟨rfl, hb9⟩; have HB9 := Hd hb9; clear hb9)
    all_goals go_wp2_with fail
    all_goals
     go_returns
     exact ⟨by rw [HV.out]; rfl, HH2.out.below.trans ((undrew HB9.out).mono HH2.out.below.size)⟩
   ·have hn2 : (r2.2.2 != 0) = true := by simp [e2]
    have HV := Hd (show exI d ps.l nl i = (0, 0, r2.2.2) by rw [HS.out]; simp [e1, e2])
    go_enter Tryz.func145, Tryz.ntmps145
    go_wp2_with fail
    refine (HA.out _).mono ?_; rintro e w1 ⟨rfl, rfl⟩
    go_wp2_with fail
    refine wp_loop_rounds 4 ?_
    have HW0 := ChkW.start d ps w
    obtain ⟨W0, hW0⟩ : ∃ U, U = (w.alloc (.cells (zEa d ps) 167)).alloc (.cells #[.int .i64 0, .int .i64 0, .int .i64 0] 243) := ⟨_, rfl⟩
    unfold zEa at hW0
    rw [← hW0]
    unfold zEa at HW0
    rw [← hW0] at HW0
    clear hW0
    obtain ⟨⟨s0, s1, s2, s3, s4⟩, ⟨s5, s6, s7, s8, s9⟩, ⟨a0, a1, a2⟩, ⟨f0, f1, f2⟩⟩ := HW0.cells
    have x0 := (HW0.below.cell (p := ⟨b, off + i * 3, none⟩) hb).trans q0
    have x1 := (HW0.below.cell (p := ⟨b, off + i * 3 + 1, none⟩) hb).trans q1
    have x2 := (HW0.below.cell (p := ⟨b, off + i * 3 + 2, none⟩) hb).trans q2
    have HH0 := Hd HW0
    clear HW0
    rw [rounds_succ]
    go_wp2_with fail
    refine (HI1.out _ (Nat.le_refl _) ?_ ?_ ?_).mono ?_
    ·exact HR.out.step HH0.out.below
    ·exact (HP.out.below HH0.out.below).more HH0.out.below.size
    ·exact (HN.out.below HH0.out.below).more HH0.out.below.size
    rintro e w1 ⟨rfl, hb1⟩
    have HC1 := HH0.out.call hb1
    clear s0 s1 s2 s3 s4 s5 s6 s7 s8 s9 a0 a1 a2 f0 f1 f2 x0 x1 x2
    clear hb1
    obtain ⟨⟨s0, s1, s2, s3, s4⟩, ⟨s5, s6, s7, s8, s9⟩, ⟨a0, a1, a2⟩, ⟨f0, f1, f2⟩⟩ := HC1.cells
    have x0 := (HC1.below.cell (p := ⟨b, off + i * 3, none⟩) hb).trans q0
    have x1 := (HC1.below.cell (p := ⟨b, off + i * 3 + 1, none⟩) hb).trans q1
    have x2 := (HC1.below.cell (p := ⟨b, off + i * 3 + 2, none⟩) hb).trans q2
    have HD1 := Hd HC1
    clear HC1
    go_wp2_with fail
    have HE1 := HD1.out.set0 r1.1
    obtain ⟨W1, hW1⟩ : ∃ U, U = w1.setCell ⟨w.heap.size + 1, 0, none⟩ (.int .i64 r1.1) := ⟨_, rfl⟩
    rw [← hW1] at HE1 ⊢
    clear hW1
    clear s0 s1 s2 s3 s4 s5 s6 s7 s8 s9 a0 a1 a2 f0 f1 f2 x0 x1 x2
    obtain ⟨⟨s0, s1, s2, s3, s4⟩, ⟨s5, s6, s7, s8, s9⟩, ⟨a0, a1, a2⟩, ⟨f0, f1, f2⟩⟩ := HE1.cells
    have x0 := (HE1.below.cell (p := ⟨b, off + i * 3, none⟩) hb).trans q0
    have x1 := (HE1.below.cell (p := ⟨b, off + i * 3 + 1, none⟩) hb).trans q1
    have x2 := (HE1.below.cell (p := ⟨b, off + i * 3 + 2, none⟩) hb).trans q2
    have HH1 := Hd HE1
    clear HE1
    rw [rounds_succ]
    go_wp2_with fail
    refine (HI2.out _ (by omega) ?_ ?_ ?_).mono ?_
    ·exact HR.out.step HH1.out.below
    ·exact (HP.out.below HH1.out.below).more HH1.out.below.size
    ·exact (HN.out.below HH1.out.below).more HH1.out.below.size
    rintro e w2 ⟨rfl, hb2⟩
    have HC2 := HH1.out.call hb2
    clear s0 s1 s2 s3 s4 s5 s6 s7 s8 s9 a0 a1 a2 f0 f1 f2 x0 x1 x2
    clear hb2
    obtain ⟨⟨s0, s1, s2, s3, s4⟩, ⟨s5, s6, s7, s8, s9⟩, ⟨a0, a1, a2⟩, ⟨f0, f1, f2⟩⟩ := HC2.cells
    have x0 := (HC2.below.cell (p := ⟨b, off + i * 3, none⟩) hb).trans q0
    have x1 := (HC2.below.cell (p := ⟨b, off + i * 3 + 1, none⟩) hb).trans q1
    have x2 := (HC2.below.cell (p := ⟨b, off + i * 3 + 2, none⟩) hb).trans q2
    have HD2 := Hd HC2
    clear HC2
    go_wp2_with fail
    go_returns
    exact ⟨by rw [HV.out]; rfl, (HD2.out.set1 r2.1).below⟩
  ·have hn1 : (r1.2.2 != 0) = true := by simp [e1]
   have HV := Hd (show exI d ps.l nl i = (0, 0, r1.2.2) by rw [HS.out]; simp [e1])
   go_enter Tryz.func145, Tryz.ntmps145
   go_wp2_with fail
   refine (HA.out _).mono ?_; rintro e w1 ⟨rfl, rfl⟩
   go_wp2_with fail
   refine wp_loop_rounds 4 ?_
   have HW0 := ChkW.start d ps w
   obtain ⟨W0, hW0⟩ : ∃ U, U = (w.alloc (.cells (zEa d ps) 167)).alloc (.cells #[.int .i64 0, .int .i64 0, .int .i64 0] 243) := ⟨_, rfl⟩
   unfold zEa at hW0
   rw [← hW0]
   unfold zEa at HW0
   rw [← hW0] at HW0
   clear hW0
   obtain ⟨⟨s0, s1, s2, s3, s4⟩, ⟨s5, s6, s7, s8, s9⟩, ⟨a0, a1, a2⟩, ⟨f0, f1, f2⟩⟩ := HW0.cells
   have x0 := (HW0.below.cell (p := ⟨b, off + i * 3, none⟩) hb).trans q0
   have x1 := (HW0.below.cell (p := ⟨b, off + i * 3 + 1, none⟩) hb).trans q1
   have x2 := (HW0.below.cell (p := ⟨b, off + i * 3 + 2, none⟩) hb).trans q2
   have HH0 := Hd HW0
   clear HW0
   rw [rounds_succ]
   go_wp2_with fail
   refine (HI1.out _ (Nat.le_refl _) ?_ ?_ ?_).mono ?_
   ·exact HR.out.step HH0.out.below
   ·exact (HP.out.below HH0.out.below).more HH0.out.below.size
   ·exact (HN.out.below HH0.out.below).more HH0.out.below.size
   rintro e w1 ⟨rfl, hb1⟩
   have HC1 := HH0.out.call hb1
   clear s0 s1 s2 s3 s4 s5 s6 s7 s8 s9 a0 a1 a2 f0 f1 f2 x0 x1 x2
   clear hb1
   obtain ⟨⟨s0, s1, s2, s3, s4⟩, ⟨s5, s6, s7, s8, s9⟩, ⟨a0, a1, a2⟩, ⟨f0, f1, f2⟩⟩ := HC1.cells
   have x0 := (HC1.below.cell (p := ⟨b, off + i * 3, none⟩) hb).trans q0
   have x1 := (HC1.below.cell (p := ⟨b, off + i * 3 + 1, none⟩) hb).trans q1
   have x2 := (HC1.below.cell (p := ⟨b, off + i * 3 + 2, none⟩) hb).trans q2
   have HD1 := Hd HC1
   clear HC1
   go_wp2_with fail
   go_returns
   exact ⟨by rw [HV.out]; rfl, (HD1.out.set0 r1.1).below⟩
 ·obtain ⟨r1, hr1⟩ : ∃ r, exI d ps.l nl (i + 1) = r := ⟨_, rfl⟩
  have HI1 := Hd (HI.out (i + 1))
  have hk1 := exI_ok d ps.l nl (i + 1)
  rw [hr1] at hk1 HI1
  simp only [hr1] at HS
  clear hr1
  by_cases e1 : r1.2.2 = 0
  ·have hn1 : (r1.2.2 != 0) = false := by simp [e1]
   have hk1' := hk1 e1
   obtain ⟨r2, hr2⟩ : ∃ r, exI d ps.l nl r1.2.1 = r := ⟨_, rfl⟩
   have HI2 := Hd (HI.out r1.2.1)
   have hk2 := exI_ok d ps.l nl r1.2.1
   rw [hr2] at hk2 HI2
   simp only [hr2] at HS
   clear hr2
   by_cases e2 : r2.2.2 = 0
   ·have hn2 : (r2.2.2 != 0) = false := by simp [e2]
    have hk2' := hk2 e2
    obtain ⟨r3, hr3⟩ : ∃ r, exI d ps.l nl r2.2.1 = r := ⟨_, rfl⟩
    have HI3 := Hd (HI.out r2.2.1)
    have hk3 := exI_ok d ps.l nl r2.2.1
    rw [hr3] at hk3 HI3
    simp only [hr3] at HS
    clear hr3
    by_cases e3 : r3.2.2 = 0
    ·have hn3 : (r3.2.2 != 0) = false := by simp [e3]
     have hk3' := hk3 e3
     have HV := Hd (show exI d ps.l nl i = ((zpa x r1.1 r2.1 r3.1).1, r3.2.1, (zpa x r1.1 r2.1 r3.1).2) by rw [HS.out]; simp [e1, e2, e3])
     go_enter Tryz.func145, Tryz.ntmps145
     go_wp2_with fail
     refine (HA.out _).mono ?_; rintro e w1 ⟨rfl, rfl⟩
     go_wp2_with fail
     refine wp_loop_rounds 4 ?_
     have HW0 := ChkW.start d ps w
     obtain ⟨W0, hW0⟩ : ∃ U, U = (w.alloc (.cells (zEa d ps) 167)).alloc (.cells #[.int .i64 0, .int .i64 0, .int .i64 0] 243) := ⟨_, rfl⟩
     unfold zEa at hW0
     rw [← hW0]
     unfold zEa at HW0
     rw [← hW0] at HW0
     clear hW0
     obtain ⟨⟨s0, s1, s2, s3, s4⟩, ⟨s5, s6, s7, s8, s9⟩, ⟨a0, a1, a2⟩, ⟨f0, f1, f2⟩⟩ := HW0.cells
     have x0 := (HW0.below.cell (p := ⟨b, off + i * 3, none⟩) hb).trans q0
     have x1 := (HW0.below.cell (p := ⟨b, off + i * 3 + 1, none⟩) hb).trans q1
     have x2 := (HW0.below.cell (p := ⟨b, off + i * 3 + 2, none⟩) hb).trans q2
     have HH0 := Hd HW0
     clear HW0
     rw [rounds_succ]
     go_wp2_with fail
     refine (HI1.out _ (Nat.le_refl _) ?_ ?_ ?_).mono ?_
     ·exact HR.out.step HH0.out.below
     ·exact (HP.out.below HH0.out.below).more HH0.out.below.size
     ·exact (HN.out.below HH0.out.below).more HH0.out.below.size
     rintro e w1 ⟨rfl, hb1⟩
     have HC1 := HH0.out.call hb1
     clear s0 s1 s2 s3 s4 s5 s6 s7 s8 s9 a0 a1 a2 f0 f1 f2 x0 x1 x2
     clear hb1
     obtain ⟨⟨s0, s1, s2, s3, s4⟩, ⟨s5, s6, s7, s8, s9⟩, ⟨a0, a1, a2⟩, ⟨f0, f1, f2⟩⟩ := HC1.cells
     have x0 := (HC1.below.cell (p := ⟨b, off + i * 3, none⟩) hb).trans q0
     have x1 := (HC1.below.cell (p := ⟨b, off + i * 3 + 1, none⟩) hb).trans q1
     have x2 := (HC1.below.cell (p := ⟨b, off + i * 3 + 2, none⟩) hb).trans q2
     have HD1 := Hd HC1
     clear HC1
     go_wp2_with fail
     have HE1 := HD1.out.set0 r1.1
     obtain ⟨W1, hW1⟩ : ∃ U, U = w1.setCell ⟨w.heap.size + 1, 0, none⟩ (.int .i64 r1.1) := ⟨_, rfl⟩
     rw [← hW1] at HE1 ⊢
     clear hW1
     clear s0 s1 s2 s3 s4 s5 s6 s7 s8 s9 a0 a1 a2 f0 f1 f2 x0 x1 x2
     obtain ⟨⟨s0, s1, s2, s3, s4⟩, ⟨s5, s6, s7, s8, s9⟩, ⟨a0, a1, a2⟩, ⟨f0, f1, f2⟩⟩ := HE1.cells
     have x0 := (HE1.below.cell (p := ⟨b, off + i * 3, none⟩) hb).trans q0
     have x1 := (HE1.below.cell (p := ⟨b, off + i * 3 + 1, none⟩) hb).trans q1
     have x2 := (HE1.below.cell (p := ⟨b, off + i * 3 + 2, none⟩) hb).trans q2
     have HH1 := Hd HE1
     clear HE1
     rw [rounds_succ]
     go_wp2_with fail
     refine (HI2.out _ (by omega) ?_ ?_ ?_).mono ?_
     ·exact HR.out.step HH1.out.below
     ·exact (HP.out.below HH1.out.below).more HH1.out.below.size
     ·exact (HN.out.below HH1.out.below).more HH1.out.below.size
     rintro e w2 ⟨rfl, hb2⟩
     have HC2 := HH1.out.call hb2
     clear s0 s1 s2 s3 s4 s5 s6 s7 s8 s9 a0 a1 a2 f0 f1 f2 x0 x1 x2
     clear hb2
     obtain ⟨⟨s0, s1, s2, s3, s4⟩, ⟨s5, s6, s7, s8, s9⟩, ⟨a0, a1, a2⟩, ⟨f0, f1, f2⟩⟩ := HC2.cells
     have x0 := (HC2.below.cell (p := ⟨b, off + i * 3, none⟩) hb).trans q0
     have x1 := (HC2.below.cell (p := ⟨b, off + i * 3 + 1, none⟩) hb).trans q1
     have x2 := (HC2.below.cell (p := ⟨b, off + i * 3 + 2, none⟩) hb).trans q2
     have HD2 := Hd HC2
     clear HC2
     go_wp2_with fail
     have HE2 := HD2.out.set1 r2.1
     obtain ⟨W2, hW2⟩ : ∃ U, U = w2.setCell ⟨w.heap.size + 1, 1, none⟩ (.int .i64 r2.1) := ⟨_, rfl⟩
     rw [← hW2] at HE2 ⊢
     clear hW2
     clear s0 s1 s2 s3 s4 s5 s6 s7 s8 s9 a0 a1 a2 f0 f1 f2 x0 x1 x2
     obtain ⟨⟨s0, s1, s2, s3, s4⟩, ⟨s5, s6, s7, s8, s9⟩, ⟨a0, a1, a2⟩, ⟨f0, f1, f2⟩⟩ := HE2.cells
     have x0 := (HE2.below.cell (p := ⟨b, off + i * 3, none⟩) hb).trans q0
     have x1 := (HE2.below.cell (p := ⟨b, off + i * 3 + 1, none⟩) hb).trans q1
     have x2 := (HE2.below.cell (p := ⟨b, off + i * 3 + 2, none⟩) hb).trans q2
     have HH2 := Hd HE2
     clear HE2
     rw [rounds_succ]
     go_wp2_with fail
     refine (HI3.out _ (by omega) ?_ ?_ ?_).mono ?_
     ·exact HR.out.step HH2.out.below
     ·exact (HP.out.below HH2.out.below).more HH2.out.below.size
     ·exact (HN.out.below HH2.out.below).more HH2.out.below.size
     rintro e w3 ⟨rfl, hb3⟩
     have HC3 := HH2.out.call hb3
     clear s0 s1 s2 s3 s4 s5 s6 s7 s8 s9 a0 a1 a2 f0 f1 f2 x0 x1 x2
     clear hb3
     obtain ⟨⟨s0, s1, s2, s3, s4⟩, ⟨s5, s6, s7, s8, s9⟩, ⟨a0, a1, a2⟩, ⟨f0, f1, f2⟩⟩ := HC3.cells
     have x0 := (HC3.below.cell (p := ⟨b, off + i * 3, none⟩) hb).trans q0
     have x1 := (HC3.below.cell (p := ⟨b, off + i * 3 + 1, none⟩) hb).trans q1
     have x2 := (HC3.below.cell (p := ⟨b, off + i * 3 + 2, none⟩) hb).trans q2
     have HD3 := Hd HC3
     clear HC3
     go_wp2_with fail
     have HE3 := HD3.out.set2 r3.1
     obtain ⟨W3, hW3⟩ : ∃ U, U = w3.setCell ⟨w.heap.size + 1, 2, none⟩ (.int .i64 r3.1) := ⟨_, rfl⟩
     rw [← hW3] at HE3 ⊢
     clear hW3
     clear s0 s1 s2 s3 s4 s5 s6 s7 s8 s9 a0 a1 a2 f0 f1 f2 x0 x1 x2
     obtain ⟨⟨s0, s1, s2, s3, s4⟩, ⟨s5, s6, s7, s8, s9⟩, ⟨a0, a1, a2⟩, ⟨f0, f1, f2⟩⟩ := HE3.cells
     have x0 := (HE3.below.cell (p := ⟨b, off + i * 3, none⟩) hb).trans q0
     have x1 := (HE3.below.cell (p := ⟨b, off + i * 3 + 1, none⟩) hb).trans q1
     have x2 := (HE3.below.cell (p := ⟨b, off + i * 3 + 2, none⟩) hb).trans q2
     have HH3 := Hd HE3
     clear HE3
     rw [rounds_succ]
     go_wp2_with fail
     go_region_with (go_at_call 157; refine (HCO.out r1.1 r2.1 r3.1 _ (by omega) (by omega)).mono ?_; rintro e w9 ⟨rfl, hb9⟩; have HB9 := Hd hb9; clear hb9)
     all_goals go_wp2_with fail
     all_goals
      go_returns
      exact ⟨by rw [HV.out]; rfl, HH3.out.below.trans ((undrew HB9.out).mono HH3.out.below.size)⟩
    ·have hn3 : (r3.2.2 != 0) = true := by simp [e3]
     have HV := Hd (show exI d ps.l nl i = (0, 0, r3.2.2) by rw [HS.out]; simp [e1, e2, e3])
     go_enter Tryz.func145, Tryz.ntmps145
     go_wp2_with fail
     refine (HA.out _).mono ?_; rintro e w1 ⟨rfl, rfl⟩
     go_wp2_with fail
     refine wp_loop_rounds 4 ?_
     have HW0 := ChkW.start d ps w
     obtain ⟨W0, hW0⟩ : ∃ U, U = (w.alloc (.cells (zEa d ps) 167)).alloc (.cells #[.int .i64 0, .int .i64 0, .int .i64 0] 243) := ⟨_, rfl⟩
     unfold zEa at hW0
     rw [← hW0]
     unfold zEa at HW0
     rw [← hW0] at HW0
     clear hW0
     obtain ⟨⟨s0, s1, s2, s3, s4⟩, ⟨s5, s6, s7, s8, s9⟩, ⟨a0, a1, a2⟩, ⟨f0, f1, f2⟩⟩ := HW0.cells
     have x0 := (HW0.below.cell (p := ⟨b, off + i * 3, none⟩) hb).trans q0
     have x1 := (HW0.below.cell (p := ⟨b, off + i * 3 + 1, none⟩) hb).trans q1
     have x2 := (HW0.below.cell (p := ⟨b, off + i * 3 + 2, none⟩) hb).trans q2
     have HH0 := Hd HW0
     clear HW0
     rw [rounds_succ]
     go_wp2_with fail
     refine (HI1.out _ (Nat.le_refl _) ?_ ?_ ?_).mono ?_
     ·exact HR.out.step HH0.out.below
     ·exact (HP.out.below HH0.out.below).more HH0.out.below.size
     ·exact (HN.out.below HH0.out.below).more HH0.out.below.size
     rintro e w1 ⟨rfl, hb1⟩
     have HC1 := HH0.out.call hb1
     clear s0 s1 s2 s3 s4 s5 s6 s7 s8 s9 a0 a1 a2 f0 f1 f2 x0 x1 x2
     clear hb1
     obtain ⟨⟨s0, s1, s2, s3, s4⟩, ⟨s5, s6, s7, s8, s9⟩, ⟨a0, a1, a2⟩, ⟨f0, f1, f2⟩⟩ := HC1.cells
     have x0 := (HC1.below.cell (p := ⟨b, off + i * 3, none⟩) hb).trans q0
     have x1 := (HC1.below.cell (p := ⟨b, off + i * 3 + 1, none⟩) hb).trans q1
     have x2 := (HC1.below.cell (p := ⟨b, off + i * 3 + 2, none⟩) hb).trans q2
     have HD1 := Hd HC1
     clear HC1
     go_wp2_with fail
     have HE1 := HD1.out.set0 r1.1
     obtain ⟨W1, hW1⟩ : ∃ U, U = w1.setCell ⟨w.heap.size + 1, 0, none⟩ (.int .i64 r1.1) := ⟨_, rfl⟩
     rw [← hW1] at HE1 ⊢
     clear hW1
     clear s0 s1 s2 s3 s4 s5 s6 s7 s8 s9 a0 a1 a2 f0 f1 f2 x0 x1 x2
     obtain ⟨⟨s0, s1, s2, s3, s4⟩, ⟨s5, s6, s7, s8, s9⟩, ⟨a0, a1, a2⟩, ⟨f0, f1, f2⟩⟩ := HE1.cells
     have x0 := (HE1.below.cell (p := ⟨b, off + i * 3, none⟩) hb).trans q0
     have x1 := (HE1.below.cell (p := ⟨b, off + i * 3 + 1, none⟩) hb).trans q1
     have x2 := (HE1.below.cell (p := ⟨b, off + i * 3 + 2, none⟩) hb).trans q2
     have HH1 := Hd HE1
     clear HE1
     rw [rounds_succ]
     go_wp2_with fail
     refine (HI2.out _ (by omega) ?_ ?_ ?_).mono ?_
     ·exact HR.out.step HH1.out.below
     ·exact (HP.out.below HH1.out.below).more HH1.out.below.size
     ·exact (HN.out.below HH1.out.below).more HH1.out.below.size
     rintro e w2 ⟨rfl, hb2⟩
     have HC2 := HH1.out.call hb2
     clear s0 s1 s2 s3 s4 s5 s6 s7 s8 s9 a0 a1 a2 f0 f1 f2 x0 x1 x2
     clear hb2
     obtain ⟨⟨s0, s1, s2, s3, s4⟩, ⟨s5, s6, s7, s8, s9⟩, ⟨a0, a1, a2⟩, ⟨f0, f1, f2⟩⟩ := HC2.cells
     have x0 := (HC2.below.cell (p := ⟨b, off + i * 3, none⟩) hb).trans q0
     have x1 := (HC2.below.cell (p := ⟨b, off + i * 3 + 1, none⟩) hb).trans q1
     have x2 := (HC2.below.cell (p := ⟨b, off + i * 3 + 2, none⟩) hb).trans q2
     have HD2 := Hd HC2
     clear HC2
     go_wp2_with fail
     have HE2 := HD2.out.set1 r2.1
     obtain ⟨W2, hW2⟩ : ∃ U, U = w2.setCell ⟨w.heap.size + 1, 1, none⟩ (.int .i64 r2.1) := ⟨_, rfl⟩
     rw [← hW2] at HE2 ⊢
     clear hW2
     clear s0 s1 s2 s3 s4 s5 s6 s7 s8 s9 a0 a1 a2 f0 f1 f2 x0 x1 x2
     obtain ⟨⟨s0, s1, s2, s3, s4⟩, ⟨s5, s6, s7, s8, s9⟩, ⟨a0, a1, a2⟩, ⟨f0, f1, f2⟩⟩ := HE2.cells
     have x0 := (HE2.below.cell (p := ⟨b, off + i * 3, none⟩) hb).trans q0
     have x1 := (HE2.below.cell (p := ⟨b, off + i * 3 + 1, none⟩) hb).trans q1
     have x2 := (HE2.below.cell (p := ⟨b, off + i * 3 + 2, none⟩) hb).trans q2
     have HH2 := Hd HE2
     clear HE2
     rw [rounds_succ]
     go_wp2_with fail
     refine (HI3.out _ (by omega) ?_ ?_ ?_).mono ?_
     ·exact HR.out.step HH2.out.below
     ·exact (HP.out.below HH2.out.below).more HH2.out.below.size
     ·exact (HN.out.below HH2.out.below).more HH2.out.below.size
     rintro e w3 ⟨rfl, hb3⟩
     have HC3 := HH2.out.call hb3
     clear s0 s1 s2 s3 s4 s5 s6 s7 s8 s9 a0 a1 a2 f0 f1 f2 x0 x1 x2
     clear hb3
     obtain ⟨⟨s0, s1, s2, s3, s4⟩, ⟨s5, s6, s7, s8, s9⟩, ⟨a0, a1, a2⟩, ⟨f0, f1, f2⟩⟩ := HC3.cells
     have x0 := (HC3.below.cell (p := ⟨b, off + i * 3, none⟩) hb).trans q0
     have x1 := (HC3.below.cell (p := ⟨b, off + i * 3 + 1, none⟩) hb).trans q1
     have x2 := (HC3.below.cell (p := ⟨b, off + i * 3 + 2, none⟩) hb).trans q2
     have HD3 := Hd HC3
     clear HC3
     go_wp2_with fail
     go_returns
     exact ⟨by rw [HV.out]; rfl, (HD3.out.set2 r3.1).below⟩
   ·have hn2 : (r2.2.2 != 0) = true := by simp [e2]
    have HV := Hd (show exI d ps.l nl i = (0, 0, r2.2.2) by rw [HS.out]; simp [e1, e2])
    go_enter Tryz.func145, Tryz.ntmps145
    go_wp2_with fail
    refine (HA.out _).mono ?_; rintro e w1 ⟨rfl, rfl⟩
    go_wp2_with fail
    refine wp_loop_rounds 4 ?_
    have HW0 := ChkW.start d ps w
    obtain ⟨W0, hW0⟩ : ∃ U, U = (w.alloc (.cells (zEa d ps) 167)).alloc (.cells #[.int .i64 0, .int .i64 0, .int .i64 0] 243) := ⟨_, rfl⟩
    unfold zEa at hW0
    rw [← hW0]
    unfold zEa at HW0
    rw [← hW0] at HW0
    clear hW0
    obtain ⟨⟨s0, s1, s2, s3, s4⟩, ⟨s5, s6, s7, s8, s9⟩, ⟨a0, a1, a2⟩, ⟨f0, f1, f2⟩⟩ := HW0.cells
    have x0 := (HW0.below.cell (p := ⟨b, off + i * 3, none⟩) hb).trans q0
    have x1 := (HW0.below.cell (p := ⟨b, off + i * 3 + 1, none⟩) hb).trans q1
    have x2 := (HW0.below.cell (p := ⟨b, off + i * 3 + 2, none⟩) hb).trans q2
    have HH0 := Hd HW0
    clear HW0
    rw [rounds_succ]
    go_wp2_with fail
    refine (HI1.out _ (Nat.le_refl _) ?_ ?_ ?_).mono ?_
    ·exact HR.out.step HH0.out.below
    ·exact (HP.out.below HH0.out.below).more HH0.out.below.size
    ·exact (HN.out.below HH0.out.below).more HH0.out.below.size
    rintro e w1 ⟨rfl, hb1⟩
    have HC1 := HH0.out.call hb1
    clear s0 s1 s2 s3 s4 s5 s6 s7 s8 s9 a0 a1 a2 f0 f1 f2 x0 x1 x2
    clear hb1
    obtain ⟨⟨s0, s1, s2, s3, s4⟩, ⟨s5, s6, s7, s8, s9⟩, ⟨a0, a1, a2⟩, ⟨f0, f1, f2⟩⟩ := HC1.cells
    have x0 := (HC1.below.cell (p := ⟨b, off + i * 3, none⟩) hb).trans q0
    have x1 := (HC1.below.cell (p := ⟨b, off + i * 3 + 1, none⟩) hb).trans q1
    have x2 := (HC1.below.cell (p := ⟨b, off + i * 3 + 2, none⟩) hb).trans q2
    have HD1 := Hd HC1
    clear HC1
    go_wp2_with fail
    have HE1 := HD1.out.set0 r1.1
    obtain ⟨W1, hW1⟩ : ∃ U, U = w1.setCell ⟨w.heap.size + 1, 0, none⟩ (.int .i64 r1.1) := ⟨_, rfl⟩
    rw [← hW1] at HE1 ⊢
    clear hW1
    clear s0 s1 s2 s3 s4 s5 s6 s7 s8 s9 a0 a1 a2 f0 f1 f2 x0 x1 x2
    obtain ⟨⟨s0, s1, s2, s3, s4⟩, ⟨s5, s6, s7, s8, s9⟩, ⟨a0, a1, a2⟩, ⟨f0, f1, f2⟩⟩ := HE1.cells
    have x0 := (HE1.below.cell (p := ⟨b, off + i * 3, none⟩) hb).trans q0
    have x1 := (HE1.below.cell (p := ⟨b, off + i * 3 + 1, none⟩) hb).trans q1
    have x2 := (HE1.below.cell (p := ⟨b, off + i * 3 + 2, none⟩) hb).trans q2
    have HH1 := Hd HE1
    clear HE1
    rw [rounds_succ]
    go_wp2_with fail
    refine (HI2.out _ (by omega) ?_ ?_ ?_).mono ?_
    ·exact HR.out.step HH1.out.below
    ·exact (HP.out.below HH1.out.below).more HH1.out.below.size
    ·exact (HN.out.below HH1.out.below).more HH1.out.below.size
    rintro e w2 ⟨rfl, hb2⟩
    have HC2 := HH1.out.call hb2
    clear s0 s1 s2 s3 s4 s5 s6 s7 s8 s9 a0 a1 a2 f0 f1 f2 x0 x1 x2
    clear hb2
    obtain ⟨⟨s0, s1, s2, s3, s4⟩, ⟨s5, s6, s7, s8, s9⟩, ⟨a0, a1, a2⟩, ⟨f0, f1, f2⟩⟩ := HC2.cells
    have x0 := (HC2.below.cell (p := ⟨b, off + i * 3, none⟩) hb).trans q0
    have x1 := (HC2.below.cell (p := ⟨b, off + i * 3 + 1, none⟩) hb).trans q1
    have x2 := (HC2.below.cell (p := ⟨b, off + i * 3 + 2, none⟩) hb).trans q2
    have HD2 := Hd HC2
    clear HC2
    go_wp2_with fail
    go_returns
    exact ⟨by rw [HV.out]; rfl, (HD2.out.set1 r2.1).below⟩
  ·have hn1 : (r1.2.2 != 0) = true := by simp [e1]
   have HV := Hd (show exI d ps.l nl i = (0, 0, r1.2.2) by rw [HS.out]; simp [e1])
   go_enter Tryz.func145, Tryz.ntmps145
   go_wp2_with fail
   refine (HA.out _).mono ?_; rintro e w1 ⟨rfl, rfl⟩
   go_wp2_with fail
   refine wp_loop_rounds 4 ?_
   have HW0 := ChkW.start d ps w
   obtain ⟨W0, hW0⟩ : ∃ U, U = (w.alloc (.cells (zEa d ps) 167)).alloc (.cells #[.int .i64 0, .int .i64 0, .int .i64 0] 243) := ⟨_, rfl⟩
   unfold zEa at hW0
   rw [← hW0]
   unfold zEa at HW0
   rw [← hW0] at HW0
   clear hW0
   obtain ⟨⟨s0, s1, s2, s3, s4⟩, ⟨s5, s6, s7, s8, s9⟩, ⟨a0, a1, a2⟩, ⟨f0, f1, f2⟩⟩ := HW0.cells
   have x0 := (HW0.below.cell (p := ⟨b, off + i * 3, none⟩) hb).trans q0
   have x1 := (HW0.below.cell (p := ⟨b, off + i * 3 + 1, none⟩) hb).trans q1
   have x2 := (HW0.below.cell (p := ⟨b, off + i * 3 + 2, none⟩) hb).trans q2
   have HH0 := Hd HW0
   clear HW0
   rw [rounds_succ]
   go_wp2_with fail
   refine (HI1.out _ (Nat.le_refl _) ?_ ?_ ?_).mono ?_
   ·exact HR.out.step HH0.out.below
   ·exact (HP.out.below HH0.out.below).more HH0.out.below.size
   ·exact (HN.out.below HH0.out.below).more HH0.out.below.size
   rintro e w1 ⟨rfl, hb1⟩
   have HC1 := HH0.out.call hb1
   clear s0 s1 s2 s3 s4 s5 s6 s7 s8 s9 a0 a1 a2 f0 f1 f2 x0 x1 x2
   clear hb1
   obtain ⟨⟨s0, s1, s2, s3, s4⟩, ⟨s5, s6, s7, s8, s9⟩, ⟨a0, a1, a2⟩, ⟨f0, f1, f2⟩⟩ := HC1.cells
   have x0 := (HC1.below.cell (p := ⟨b, off + i * 3, none⟩) hb).trans q0
   have x1 := (HC1.below.cell (p := ⟨b, off + i * 3 + 1, none⟩) hb).trans q1
   have x2 := (HC1.below.cell (p := ⟨b, off + i * 3 + 2, none⟩) hb).trans q2
   have HD1 := Hd HC1
   clear HC1
   go_wp2_with fail
   go_returns
   exact ⟨by rw [HV.out]; rfl, (HD1.out.set0 r1.1).below⟩
theorem check_any (d : PrgD) (ps : SL FldD) (n : SL ExD) : ∀ m i, n.l.length ≤ m + i → CheckAt d ps n i
 | m, i, h => by
  intro j w hj hR hP hN
  by_cases hlt : j < n.l.length
  ·match m, h with
   | 0, h => omega
   | m + 1, h => exact check_step d ps n j hlt (check_any d ps n m (j + 1) (by omega)) w hR hP hN
  ·have HV := Hd (exI_none d ps.l n.l j (by omega))
   have h' : (n.l.length : Int) ≤ j := by omega
   clear hR hP hN hj hlt h
   go_enter Tryz.func145, Tryz.ntmps145
   go_wp2_with fail
   go_returns
   exact ⟨by rw [HV.out]; rfl, by (first | (refine zca ?_ _; go_grown; done) | (go_grown; done))⟩
open Go.RowKit
set_option maxRecDepth 100000 in
set_option maxHeartbeats 1000000 in
theorem zzc (d : PrgD) (ps : SL FldD) (n : SL ExD) (w : World) (hR : PrgR w w.heap.size d) (hP : SLR w w.heap.size 2 FldD.enc FldD.ok ps) (hN : SLR w w.heap.size 3 ExD.enc ExD.ok n) :
  Calls Tryz.prog 119 #[.slice n.a n.l.length n.c, ztc d ps] w fun e w' => e = .returned (pairV (zMa d ps.l n.l)) ∧ Below w.heap.size w w' := by
 by_cases h1 : 24 < n.l.length
 ·have HV := Hd (show zMa d ps.l n.l = (0, 12) by unfold zMa; rw [if_pos h1])
  clear hR hP hN
  have h1' : (24 : Int) < n.l.length := by omega
  unfold ztc
  go_enter Tryz.func119, Tryz.ntmps119
  go_wp2_with fail
  go_returns
  exact ⟨by rw [HV.out]; rfl, by (first | (refine zca ?_ _; go_grown; done) | (go_grown; done))⟩
 ·have h1' : ¬ (24 : Int) < n.l.length := by omega
  have HC := Hd (check_any d ps n n.l.length 0 (by omega) 0)
  have e0 : exAt d ps.l n.l (n.l.length + 1) 0 = exI d ps.l n.l 0 := rfl
  have HX : zMa d ps.l n.l = if (exI d ps.l n.l 0).2.2 ≠ 0 then (0, (exI d ps.l n.l 0).2.2) else if (exI d ps.l n.l 0).2.1 < n.l.length then (0, 4) else ((exI d ps.l n.l 0).1, 0) := by unfold zMa; rw [if_neg h1, e0]
  obtain ⟨r, hr⟩ : ∃ r, exI d ps.l n.l 0 = r := ⟨_, rfl⟩
  rw [hr] at HC HX
  have HR := Hd hR
  have HP := Hd hP
  have HN := Hd hN
  clear hr e0 hR hP hN
  by_cases g1 : r.2.2 = 0
  ·have g1' : (r.2.2 != 0) = false := by simp [g1]
   by_cases g2 : r.2.1 < n.l.length
   ·have HV := Hd (show zMa d ps.l n.l = (0, 4) by rw [HX, if_neg (by omega), if_pos g2])
    have g2' : (r.2.1 : Int) < n.l.length := by omega
    clear HX
    unfold ztc at *
    go_enter Tryz.func119, Tryz.ntmps119
    go_wp2_with fail
    refine (HC.out _ (Nat.le_refl _) (HR.out.step (by (first | (refine zca ?_ _; go_grown; done) | (go_grown; done)))) ((HP.out.below (by (first | (refine zca ?_ _; go_grown; done) | (go_grown; done)))).more (by simp)) ((HN.out.below (by (first | (refine zca ?_ _; go_grown; done) | (go_grown; done)))).more (by simp))).mono ?_
    rintro e w1 ⟨rfl, hb1⟩
    have HB1 := Hd (((Below.refl _ w).alloc (Nat.le_refl _) _).trans (hb1.mono (by simp)))
    clear hb1
    go_wp2_with fail
    go_returns
    exact ⟨by rw [HV.out]; rfl, HB1.out⟩
   ·have HV := Hd (show zMa d ps.l n.l = (r.1, 0) by rw [HX, if_neg (by omega), if_neg g2])
    have g2' : ¬ (r.2.1 : Int) < n.l.length := by omega
    clear HX
    unfold ztc at *
    go_enter Tryz.func119, Tryz.ntmps119
    go_wp2_with fail
    refine (HC.out _ (Nat.le_refl _) (HR.out.step (by (first | (refine zca ?_ _; go_grown; done) | (go_grown; done)))) ((HP.out.below (by (first | (refine zca ?_ _; go_grown; done) | (go_grown; done)))).more (by simp)) ((HN.out.below (by (first | (refine zca ?_ _; go_grown; done) | (go_grown; done)))).more (by simp))).mono ?_
    rintro e w1 ⟨rfl, hb1⟩
    have HB1 := Hd (((Below.refl _ w).alloc (Nat.le_refl _) _).trans (hb1.mono (by simp)))
    clear hb1
    go_wp2_with fail
    go_returns
    exact ⟨by rw [HV.out]; rfl, HB1.out⟩
  ·have g1' : (r.2.2 != 0) = true := by simp [g1]
   have HV := Hd (show zMa d ps.l n.l = (0, r.2.2) by rw [HX, if_pos g1])
   clear HX
   unfold ztc at *
   go_enter Tryz.func119, Tryz.ntmps119
   go_wp2_with fail
   refine (HC.out _ (Nat.le_refl _) (HR.out.step (by (first | (refine zca ?_ _; go_grown; done) | (go_grown; done)))) ((HP.out.below (by (first | (refine zca ?_ _; go_grown; done) | (go_grown; done)))).more (by simp)) ((HN.out.below (by (first | (refine zca ?_ _; go_grown; done) | (go_grown; done)))).more (by simp))).mono ?_
   rintro e w1 ⟨rfl, hb1⟩
   have HB1 := Hd (((Below.refl _ w).alloc (Nat.le_refl _) _).trans (hb1.mono (by simp)))
   clear hb1
   go_wp2_with fail
   go_returns
   exact ⟨by rw [HV.out]; rfl, HB1.out⟩
end Go.Proofs.YtakgiamhdpgoeaaGreat
