/- Lemmas. -/
import Derived.Test.YtakgiamhdpgoeaaGreatP49
import Derived.Test.YtakgiamhdpgoeaaGreatP51
import Derived.Test.YtakgiamhdpgoeaaGreatP54
set_option linter.unusedSimpArgs false
namespace Go.Proofs.YtakgiamhdpgoeaaGreat
open Go.RowKit
set_option linter.unusedVariables false
abbrev zero5 : Array Value := #[.int .i64 0, .slice none 0 0, .int .i64 0, .int .i64 0, .slice none 0 0]
def lsw (m : Nat) (a b : Value → World → Prop) : LFact := fun j v u => (j < m → a v u) ∧ (m ≤ j → b v u)
theorem lsw_st {m : Nat} {a b : Value → World → Prop} (ha : zkb a) (hb : zkb b) : ∀ (j : Nat) (v : Value) (u u' : World), Below u.heap.size u u' → lsw m a b j v u → lsw m a b j v u' := fun _ v u u' hB h => ⟨fun hj => ha v u u' hB (h.1 hj), fun hj => hb v u u' hB (h.2 hj)⟩
def pPlcE (M : Nat) (PM : PlcM → Prop) (v : Value) (u : World) : Prop := ∃ r, PM r ∧ pPlc M r v u
theorem pPlcE_st {M : Nat} {PM : PlcM → Prop} : zkb (pPlcE M PM) := fun v u u' hb ⟨r, h1, h2⟩ => ⟨r, h1, pPlc_st v u u' hb h2⟩
def pRes (M : Nat) (PM : PlcM → Prop) (v : Value) (u : World) : Prop := ∃ g r A cA B cB, v = .pointer (some ⟨g, 0, none⟩) ∧ M ≤ g ∧ PM r ∧ Blk u g 40 #[.int .i64 r.status, .slice A r.stage.length cA, .int .i64 r.steps, .int .i64 r.reason, .slice B r.units.length cB] ∧ OwnZ u M A cA r.stage ∧ OwnZ u M B cB r.units
theorem pRes_st {M : Nat} {PM : PlcM → Prop} : zkb (pRes M PM) := fun v u u' hb ⟨g, r, A, cA, B, cB, e, h1, h2, h3, h4, h5⟩ => ⟨g, r, A, cA, B, cB, e, h1, h2, h3.below hb h3.lt, h4.below hb, h5.below hb⟩
section
variable {M g : Nat} {u : World} {PM : PlcM → Prop} {v : Value} {cs : Array Value}
theorem zpe {A : Option Addr} {c : Nat} {l : List Int} (h : OwnZ u M A c l) (hB : Blk u g 40 cs) (v0 v1 v2 v3 v4 : Value) :
  OwnZ (((((u.setCell ⟨g, 0, none⟩ v0).setCell ⟨g, 1, none⟩ v1).setCell ⟨g, 2, none⟩ v2).setCell ⟨g, 3, none⟩ v3).setCell ⟨g, 4, none⟩ v4) M A c l :=
 Own.grown h (grown5 u g v0 v1 v2 v3 v4) (.inr (zGc h hB (by decide)))
theorem pPlcE_set (h : pPlcE M PM v u) (hB : Blk u g 40 cs) (v0 v1 v2 v3 v4 : Value) :
  pPlcE M PM v (((((u.setCell ⟨g, 0, none⟩ v0).setCell ⟨g, 1, none⟩ v1).setCell ⟨g, 2, none⟩ v2).setCell ⟨g, 3, none⟩ v3).setCell ⟨g, 4, none⟩ v4) := by
 obtain ⟨r, h1, A, cA, B, cB, e, h2, h3⟩ := h
 exact ⟨r, h1, A, cA, B, cB, e, zpe h2 hB _ _ _ _ _, zpe h3 hB _ _ _ _ _⟩
theorem pBlk_set (h : pBlk M 40 cs v u) (hne : ∀ g', v = .pointer (some ⟨g', 0, none⟩) → g' ≠ g) (v0 v1 v2 v3 v4 : Value) :
  pBlk M 40 cs v (((((u.setCell ⟨g, 0, none⟩ v0).setCell ⟨g, 1, none⟩ v1).setCell ⟨g, 2, none⟩ v2).setCell ⟨g, 3, none⟩ v3).setCell ⟨g, 4, none⟩ v4) := by
 obtain ⟨g', e, h1, h2⟩ := h
 exact ⟨g', e, h1, zcf h2 (hne g' e) _ _ _ _ _⟩
theorem pRes_set (h : pRes M PM v u) (hB : Blk u g 40 cs) (hne : ∀ g', v = .pointer (some ⟨g', 0, none⟩) → g' ≠ g) (v0 v1 v2 v3 v4 : Value) :
  pRes M PM v (((((u.setCell ⟨g, 0, none⟩ v0).setCell ⟨g, 1, none⟩ v1).setCell ⟨g, 2, none⟩ v2).setCell ⟨g, 3, none⟩ v3).setCell ⟨g, 4, none⟩ v4) := by
 obtain ⟨g', r, A, cA, B, cB, e, h1, h2, h3, h4, h5⟩ := h
 exact ⟨g', r, A, cA, B, cB, e, h1, h2, zcf h3 (hne g' e) _ _ _ _ _, zpe h4 hB _ _ _ _ _, zpe h5 hB _ _ _ _ _⟩
theorem pRes_new {r1 r3 r4 : Int} {r2 r5 : List Int} {A B : Option Addr} {cA cB : Nat} (hB : Blk u g 40 zero5) (hg : M ≤ g) (hp : PM ⟨r1, r2, r3, r4, r5⟩) (h1 : OwnZ u M A cA r2) (h2 : OwnZ u M B cB r5) :
  pRes M PM (.pointer (some ⟨g, 0, none⟩)) (((((u.setCell ⟨g, 0, none⟩ (.int .i64 r1)).setCell ⟨g, 1, none⟩ (.slice A r2.length cA)).setCell ⟨g, 2, none⟩ (.int .i64 r3)).setCell ⟨g, 3, none⟩ (.int .i64 r4)).setCell ⟨g, 4, none⟩ (.slice B r5.length cB)) :=
 ⟨g, ⟨r1, r2, r3, r4, r5⟩, A, cA, B, cB, rfl, hg, hp, ((((hB.set_ 0 _).set_ 1 _).set_ 2 _).set_ 3 _).set_ 4 _, zpe h1 hB _ _ _ _ _, zpe h2 hB _ _ _ _ _⟩
end
def lnk (v v' : Value) : Prop := ∃ g g', v = .pointer (some ⟨g, 0, none⟩) ∧ v' = .pointer (some ⟨g', 0, none⟩) ∧ g ≠ g'
theorem lsw_ptr {m M j : Nat} {cs : Array Value} {PM : PlcM → Prop} {v : Value} {u : World} (h : lsw m (pBlk M 40 cs) (pRes M PM) j v u) : ∃ g, v = .pointer (some ⟨g, 0, none⟩) ∧ g < u.heap.size := by
 by_cases hj : j < m
 ·obtain ⟨g, e, _, hB⟩ := h.1 hj
  exact ⟨g, e, hB.lt⟩
 ·obtain ⟨g, r, A, cA, B, cB, e, _, _, hB, _⟩ := h.2 (by omega)
  exact ⟨g, e, hB.lt⟩
theorem alloc_plc (w : World) : (Instr.alloc 40 true (.tuple #[])).run Tryz.prog w = .ok (.pointer (some ⟨w.heap.size, 0, none⟩)) (w.alloc (.cells zero5 40)) := by kernel_rfl
theorem alloc_op (ρ : Operand → Value) (u : World) {d : Option Nat} {t : TypeId} {s : String} {af : Array Edge} {gd : Option (Nat × Bool)} : (execOp ρ ⟨d, .alloc 40, t, s, af, gd⟩).run Tryz.prog u = .ok (.value (.pointer (some ⟨u.heap.size, 0, none⟩))) (u.alloc (.cells zero5 40)) := by
 unfold execOp
 simp [Sem.run_bind, alloc_plc]
set_option maxRecDepth 100000 in
set_option maxHeartbeats 8000000 in
theorem budget_any (d : PrgD) (c : ChipD) (b0 b1 : Int) (w : World) (hR : PrgR w w.heap.size d) (hb0 : I64 b0) (hb1 : I64 b1) :
  Calls Tryz.prog 4 #[PrgD.v d, chipV c, .agg #[.int .i64 b0, .int .i64 b1]] w fun e' w' => e' = .returned (.bool true) ∧ Below w.heap.size w w' := by
 obtain ⟨N, hN⟩ : ∃ N, w.heap.size = N := ⟨_, rfl⟩
 rw [hN] at hR ⊢
 have F0 := Fr.start w
 rw [hN] at F0
 have HF0 := Hd F0
 have HR := Hd hR
 obtain ⟨q00, q01⟩ := hb0
 obtain ⟨q10, q11⟩ := hb1
 clear hR F0
 unfold PrgD.v PrgD.vs chipV
 go_enter Tryz.func4, Tryz.ntmps4
 go_wp2_with fail
 refine Calls.named ?_
 intro W0 hW0
 have F1 := (((HF0.out.alloc _ _).alloc _ _).alloc _ _).of_eq hW0
 simp only [World.size_alloc, hN, Nat.add_assoc, Nat.reduceAdd] at F1 ⊢
 have HF1 := Hd (show Fr N w W0 [(N + 2, 45, #[.int .i64 b0, .int .i64 b1]), (N + 1, 33, #[.int .i64 c.stages, .int .i64 c.tZ, .int .i64 c.gates, .int .i64 c.sram, .int .i64 c.tcam, .int .i64 c.c8, .int .i64 c.c16, .int .i64 c.c32]), (N, 31, d.vs)] from F1)
 clear F1 hW0
 have hcon := zse d W0 (HF1.out.prg HR.out)
 unfold PrgD.v PrgD.vs at hcon
 with_reducible refine hcon.mono ?_
 clear hcon
 rintro e' W1 ⟨⟨q, rfl, hq⟩, hb4⟩
 have HF4 := Hd (HF1.out.call hb4)
 have HQ := Hd hq
 clear hb4 hq
 have g0 : ∀ i, W1.cell? ⟨N, i, none⟩ = _ := fun i => HF4.out.cell (.tail _ (.tail _ (.head _))) i
 have g1 : ∀ i, W1.cell? ⟨N + 1, i, none⟩ = _ := fun i => HF4.out.cell (.tail _ (.head _)) i
 have g2 : ∀ i, W1.cell? ⟨N + 2, i, none⟩ = _ := fun i => HF4.out.cell (.head _) i
 have hNl : N + 2 < W1.heap.size := HF4.out.lt (.head _)
 cases q with
 | false =>
  go_wp2_with fail
  with_reducible refine (zLa _).mono ?_
  rintro e' wz ⟨rfl, hbz⟩
  have HFz := Hd (HF4.out.call hbz)
  clear hbz
  go_wp2_with fail
  go_returns
  exact ⟨rfl, HFz.out.below⟩
 | true =>
  have HSd := Hd (HQ.out rfl)
  clear HQ
  by_cases k0 : b0 < 0
  ·have k0d : decide (b0 < 0) = true := decide_eq_true k0
   go_wp2_with fail
   with_reducible refine (zLa _).mono ?_
   rintro e' wz ⟨rfl, hbz⟩
   have HFz := Hd (HF4.out.call hbz)
   clear hbz
   go_wp2_with fail
   go_returns
   exact ⟨rfl, HFz.out.below⟩
  ·have k0d : decide (b0 < 0) = false := decide_eq_false k0
   by_cases k1 : b1 < b0
   ·have k1d : decide (b1 < b0) = true := decide_eq_true k1
    go_wp2_with fail
    with_reducible refine (zLa _).mono ?_
    rintro e' wz ⟨rfl, hbz⟩
    have HFz := Hd (HF4.out.call hbz)
    clear hbz
    go_wp2_with fail
    go_returns
    exact ⟨rfl, HFz.out.below⟩
   ·have k1d : decide (b1 < b0) = false := decide_eq_false k1
    obtain ⟨M, hM⟩ : ∃ z, W1.heap.size = z := ⟨_, rfl⟩
    rw [hM] at hNl
    obtain ⟨m0, hm0⟩ : ∃ m, min b0 2000 = m := ⟨_, rfl⟩
    obtain ⟨m1, hm1⟩ : ∃ m, min b1 2000 = m := ⟨_, rfl⟩
    obtain ⟨PM0, hPM0⟩ : ∃ z, zub (zra d).1 (jobOf d c) (zgc (jobOf d c).deps) m0 = z := ⟨_, rfl⟩
    obtain ⟨PM1, hPM1⟩ : ∃ z, zub (zra d).1 (jobOf d c) (zgc (jobOf d c).deps) m1 = z := ⟨_, rfl⟩
    have HM0 := Hd hPM0
    have HM1 := Hd hPM1
    have hmm : 0 ≤ m0 ∧ m0 ≤ m1 ∧ m1 ≤ 2000 := by omega
    have HP := Hd (show ∀ v, Below M W1 v → PrgR v v.heap.size d from fun v hb => (HF4.out.prg HR.out |>.below (by rw [hM]; exact hb)).more (by have := hb.size; omega))
    clear hPM0 hPM1
    go_upto_region 3 with (fail)
    have hstab : zba ([leq (.agg #[.string d.name, .slice d.hZ.a d.hZ.l.length d.hZ.c, .slice d.mZ.a d.mZ.l.length d.mZ.c, .slice d.rZ.a d.rZ.l.length d.rZ.c, .slice d.aZ.a d.aZ.l.length d.aZ.c, .slice d.tZ.a d.tZ.l.length d.tZ.c, .slice d.sZ.a d.sZ.l.length d.sZ.c, .slice d.cZ.a d.cZ.l.length d.cZ.c, .slice d.dep.a d.dep.l.length d.dep.c]), leq (.agg #[.int .i64 c.stages, .int .i64 c.tZ, .int .i64 c.gates, .int .i64 c.sram, .int .i64 c.tcam, .int .i64 c.c8, .int .i64 c.c16, .int .i64 c.c32]), leq (.pointer (some ⟨N + 2, 0, none⟩)), leq (.int .i64 b0), leq (.int .i64 m0), lal (pPlcE M PM0), leq (.agg #[.string d.name, .slice d.hZ.a d.hZ.l.length d.hZ.c, .slice d.mZ.a d.mZ.l.length d.mZ.c, .slice d.rZ.a d.rZ.l.length d.rZ.c, .slice d.aZ.a d.aZ.l.length d.aZ.c, .slice d.tZ.a d.tZ.l.length d.tZ.c, .slice d.sZ.a d.sZ.l.length d.sZ.c, .slice d.cZ.a d.cZ.l.length d.cZ.c, .slice d.dep.a d.dep.l.length d.dep.c]), leq (.agg #[.int .i64 c.stages, .int .i64 c.tZ, .int .i64 c.gates, .int .i64 c.sram, .int .i64 c.tcam, .int .i64 c.c8, .int .i64 c.c16, .int .i64 c.c32]), leq (.pointer (some ⟨N + 2, 1, none⟩)), leq (.int .i64 b1), leq (.int .i64 m1), lal (pPlcE M PM1), lsw 1 (pBlk M 40 zero5) (pRes M PM0), lsw 2 (pBlk M 40 zero5) (pRes M PM1), lany, lany]) := zba.cons_ (zea _) (zba.cons_ (zea _) (zba.cons_ (zea _) (zba.cons_ (zea _) (zba.cons_ (zea _) (zba.cons_ (zKd pPlcE_st) (zba.cons_ (zea _) (zba.cons_ (zea _) (zba.cons_ (zea _) (zba.cons_ (zea _) (zba.cons_ (zea _) (zba.cons_ (zKd pPlcE_st) (zba.cons_ (lsw_st pBlk_st pRes_st) (zba.cons_ (lsw_st pBlk_st pRes_st) (zba.cons_ zfc (zba.cons_ zfc (zba.nil_))))))))))))))))
    have Hq9 := Hd (show ∀ i j, List.contains (Chain.effs ⟨[14, 15], [(0, 0), (0, 0), (0, 0), (0, 0), (0, 0), (0, 0), (0, 0), (0, 0), (0, 0), (0, 0), (0, 0), (0, 0), (0, 0), (0, 0), (0, 0), (1, 1)]⟩) i = false → Chain.next ⟨[14, 15], [(0, 0), (0, 0), (0, 0), (0, 0), (0, 0), (0, 0), (0, 0), (0, 0), (0, 0), (0, 0), (0, 0), (0, 0), (0, 0), (0, 0), (0, 0), (1, 1)]⟩ i j = j from fun i j h => zya h)
    refine wp_region_relK ⟨[14, 15], [(0, 0), (0, 0), (0, 0), (0, 0), (0, 0), (0, 0), (0, 0), (0, 0), (0, 0), (0, 0), (0, 0), (0, 0), (0, 0), (0, 0), (0, 0), (1, 1)]⟩ (fun (_ : Nat) u => Below M W1 u) ([leq (.agg #[.string d.name, .slice d.hZ.a d.hZ.l.length d.hZ.c, .slice d.mZ.a d.mZ.l.length d.mZ.c, .slice d.rZ.a d.rZ.l.length d.rZ.c, .slice d.aZ.a d.aZ.l.length d.aZ.c, .slice d.tZ.a d.tZ.l.length d.tZ.c, .slice d.sZ.a d.sZ.l.length d.sZ.c, .slice d.cZ.a d.cZ.l.length d.cZ.c, .slice d.dep.a d.dep.l.length d.dep.c]), leq (.agg #[.int .i64 c.stages, .int .i64 c.tZ, .int .i64 c.gates, .int .i64 c.sram, .int .i64 c.tcam, .int .i64 c.c8, .int .i64 c.c16, .int .i64 c.c32]), leq (.pointer (some ⟨N + 2, 0, none⟩)), leq (.int .i64 b0), leq (.int .i64 m0), lal (pPlcE M PM0), leq (.agg #[.string d.name, .slice d.hZ.a d.hZ.l.length d.hZ.c, .slice d.mZ.a d.mZ.l.length d.mZ.c, .slice d.rZ.a d.rZ.l.length d.rZ.c, .slice d.aZ.a d.aZ.l.length d.aZ.c, .slice d.tZ.a d.tZ.l.length d.tZ.c, .slice d.sZ.a d.sZ.l.length d.sZ.c, .slice d.cZ.a d.cZ.l.length d.cZ.c, .slice d.dep.a d.dep.l.length d.dep.c]), leq (.agg #[.int .i64 c.stages, .int .i64 c.tZ, .int .i64 c.gates, .int .i64 c.sram, .int .i64 c.tcam, .int .i64 c.c8, .int .i64 c.c16, .int .i64 c.c32]), leq (.pointer (some ⟨N + 2, 1, none⟩)), leq (.int .i64 b1), leq (.int .i64 m1), lal (pPlcE M PM1), lsw 1 (pBlk M 40 zero5) (pRes M PM0), lsw 2 (pBlk M 40 zero5) (pRes M PM1), lany, lany]) 12 13 7 8 lnk (by kernel_rfl) (by kernel_rfl) (by kernel_rfl) (by kernel_rfl) ?_ ?_ ?_ ?_
    ·refine ⟨by decide, ⟨_, rfl, rfl⟩, ⟨_, rfl, rfl⟩, fun o h => by cases h; rfl, fun o h => by cases h; rfl, fun o h ρ u j vq hS hq => ?_, fun o h ρ u j vp hS hp => ?_⟩
     ·cases h
      obtain ⟨g', e', hl'⟩ := lsw_ptr hq
      exact ⟨_, _, alloc_op ρ u, u.heap.size, g', rfl, e', by omega⟩
     ·cases h
      obtain ⟨g', e', hl'⟩ := lsw_ptr hp
      exact ⟨_, _, alloc_op ρ u, g', u.heap.size, e', rfl, by omega⟩
    ·exact (by rw [← hM]; exact (Below.refl _ _).drew)
    ·show LooksK _ _ _ _ _ _ _ _ _ _ _ 0 _
     refine ⟨?_, ?_, ?_, ?_, ?_, ?_, ?_, ?_, ?_, ?_, ?_, ?_, ?_, ?_, ?_, ?_, trivial⟩
     ·intro j hj ρ y u hS hc hf hg hfree hdep hlk
      clear hlk
      obtain rfl := jz hj rfl
      rw [Hq9.out _ 0 rfl]
      have e3 : ρ (.tmp 3) = .pointer (some ⟨N, 0, none⟩) := hfree 3 rfl
      refine ⟨fun _ => ?_, zaa rfl⟩
      clear hdep hfree hj
      have d0 : ∀ i, u.cell? ⟨N, i, none⟩ = _ := fun i => (hS.cell (p := ⟨N, i, none⟩) (by show N < M; omega)).trans (g0 i)
      go_simp
      exact ⟨rfl, hS, KL hstab⟩
     ·intro j hj ρ y u hS hc hf hg hfree hdep hlk
      clear hlk
      obtain rfl := jz hj rfl
      rw [Hq9.out _ 0 rfl]
      have e4 : ρ (.tmp 4) = .pointer (some ⟨N + 1, 0, none⟩) := hfree 4 rfl
      refine ⟨fun _ => ?_, zaa rfl⟩
      clear hdep hfree hj
      have d0 : ∀ i, u.cell? ⟨N + 1, i, none⟩ = _ := fun i => (hS.cell (p := ⟨N + 1, i, none⟩) (by show N + 1 < M; omega)).trans (g1 i)
      go_simp
      exact ⟨rfl, hS, KL hstab⟩
     ·intro j hj ρ y u hS hc hf hg hfree hdep hlk
      clear hlk
      obtain rfl := jz hj rfl
      rw [Hq9.out _ 0 rfl]
      have e5 : ρ (.tmp 5) = .pointer (some ⟨N + 2, 0, none⟩) := hfree 5 rfl
      refine ⟨fun _ => ?_, zaa rfl⟩
      clear hdep hfree hj
      go_simp
      exact ⟨rfl, hS, KL hstab⟩
     ·intro j hj ρ y u hS hc hf hg hfree hdep hlk
      clear hlk
      obtain rfl := jz hj rfl
      rw [Hq9.out _ 0 rfl]
      have e27 : ρ (.tmp 27) = _ := (hdep 2 _ 27 rfl rfl rfl).1
      refine ⟨fun _ => ?_, zaa rfl⟩
      clear hdep hfree hj
      have d0 : ∀ i, u.cell? ⟨N + 2, i, none⟩ = _ := fun i => (hS.cell (p := ⟨N + 2, i, none⟩) (by show N + 2 < M; omega)).trans (g2 i)
      go_simp
      exact ⟨rfl, hS, KL hstab⟩
     ·intro j hj ρ y u hS hc hf hg hfree hdep hlk
      clear hlk
      obtain rfl := jz hj rfl
      rw [Hq9.out _ 0 rfl]
      have e28 : ρ (.tmp 28) = _ := (hdep 3 _ 28 rfl rfl rfl).1
      refine ⟨fun _ => ?_, zaa rfl⟩
      clear hdep hfree hj
      go_simp
      exact ⟨(show _ = Value.int .i64 m0 by first | rfl | (simp only [hm0]) | (simp [hm0]) | (rw [hm0])), hS, KL hstab⟩
     ·intro j hj ρ y u hS hc hf hg hfree hdep hlk
      clear hlk
      obtain rfl := jz hj rfl
      rw [Hq9.out _ 0 rfl]
      have e25 : ρ (.tmp 25) = _ := (hdep 0 _ 25 rfl rfl rfl).1
      have e26 : ρ (.tmp 26) = _ := (hdep 1 _ 26 rfl rfl rfl).1
      have e29 : ρ (.tmp 29) = _ := (hdep 4 _ 29 rfl rfl rfl).1
      refine ⟨fun _ => ?_, zaa rfl⟩
      clear hdep hfree hj
      have hS0 : Below M W1 u := hS
      have hMu : M ≤ u.heap.size := by have := hS0.size; omega
      have hcon := zDc d c m0 u (HP.out u hS0) HSd.out (by unfold I64; omega)
      unfold PrgD.v PrgD.vs chipV at hcon
      go_simp
      refine zha hcon ?_
      rintro e w' ⟨⟨r, A, cA, B, cB, rfl, hpm, hoa, hob⟩, hb3⟩
      exact ⟨_, rfl, ⟨r, by rw [← HM0.out]; exact hpm, A, cA, B, cB, rfl, Own.rebase hoa hMu, Own.rebase hob hMu⟩, hS0.trans (hb3.mono hMu), KeepL.below hb3 _ _ 0 hstab⟩
     ·intro j hj ρ y u hS hc hf hg hfree hdep hlk
      clear hlk
      obtain rfl := jz hj rfl
      rw [Hq9.out _ 0 rfl]
      have e3 : ρ (.tmp 3) = .pointer (some ⟨N, 0, none⟩) := hfree 3 rfl
      refine ⟨fun _ => ?_, zaa rfl⟩
      clear hdep hfree hj
      have d0 : ∀ i, u.cell? ⟨N, i, none⟩ = _ := fun i => (hS.cell (p := ⟨N, i, none⟩) (by show N < M; omega)).trans (g0 i)
      go_simp
      exact ⟨rfl, hS, KL hstab⟩
     ·intro j hj ρ y u hS hc hf hg hfree hdep hlk
      clear hlk
      obtain rfl := jz hj rfl
      rw [Hq9.out _ 0 rfl]
      have e4 : ρ (.tmp 4) = .pointer (some ⟨N + 1, 0, none⟩) := hfree 4 rfl
      refine ⟨fun _ => ?_, zaa rfl⟩
      clear hdep hfree hj
      have d0 : ∀ i, u.cell? ⟨N + 1, i, none⟩ = _ := fun i => (hS.cell (p := ⟨N + 1, i, none⟩) (by show N + 1 < M; omega)).trans (g1 i)
      go_simp
      exact ⟨rfl, hS, KL hstab⟩
     ·intro j hj ρ y u hS hc hf hg hfree hdep hlk
      clear hlk
      obtain rfl := jz hj rfl
      rw [Hq9.out _ 0 rfl]
      have e5 : ρ (.tmp 5) = .pointer (some ⟨N + 2, 0, none⟩) := hfree 5 rfl
      refine ⟨fun _ => ?_, zaa rfl⟩
      clear hdep hfree hj
      go_simp
      exact ⟨rfl, hS, KL hstab⟩
     ·intro j hj ρ y u hS hc hf hg hfree hdep hlk
      clear hlk
      obtain rfl := jz hj rfl
      rw [Hq9.out _ 0 rfl]
      have e33 : ρ (.tmp 33) = _ := (hdep 8 _ 33 rfl rfl rfl).1
      refine ⟨fun _ => ?_, zaa rfl⟩
      clear hdep hfree hj
      have d0 : ∀ i, u.cell? ⟨N + 2, i, none⟩ = _ := fun i => (hS.cell (p := ⟨N + 2, i, none⟩) (by show N + 2 < M; omega)).trans (g2 i)
      go_simp
      exact ⟨rfl, hS, KL hstab⟩
     ·intro j hj ρ y u hS hc hf hg hfree hdep hlk
      clear hlk
      obtain rfl := jz hj rfl
      rw [Hq9.out _ 0 rfl]
      have e34 : ρ (.tmp 34) = _ := (hdep 9 _ 34 rfl rfl rfl).1
      refine ⟨fun _ => ?_, zaa rfl⟩
      clear hdep hfree hj
      go_simp
      exact ⟨(show _ = Value.int .i64 m1 by first | rfl | (simp only [hm1]) | (simp [hm1]) | (rw [hm1])), hS, KL hstab⟩
     ·intro j hj ρ y u hS hc hf hg hfree hdep hlk
      clear hlk
      obtain rfl := jz hj rfl
      rw [Hq9.out _ 0 rfl]
      have e31 : ρ (.tmp 31) = _ := (hdep 6 _ 31 rfl rfl rfl).1
      have e32 : ρ (.tmp 32) = _ := (hdep 7 _ 32 rfl rfl rfl).1
      have e35 : ρ (.tmp 35) = _ := (hdep 10 _ 35 rfl rfl rfl).1
      refine ⟨fun _ => ?_, zaa rfl⟩
      clear hdep hfree hj
      have hS0 : Below M W1 u := hS
      have hMu : M ≤ u.heap.size := by have := hS0.size; omega
      have hcon := zDc d c m1 u (HP.out u hS0) HSd.out (by unfold I64; omega)
      unfold PrgD.v PrgD.vs chipV at hcon
      go_simp
      refine zha hcon ?_
      rintro e w' ⟨⟨r, A, cA, B, cB, rfl, hpm, hoa, hob⟩, hb3⟩
      exact ⟨_, rfl, ⟨r, by rw [← HM1.out]; exact hpm, A, cA, B, cB, rfl, Own.rebase hoa hMu, Own.rebase hob hMu⟩, hS0.trans (hb3.mono hMu), KeepL.below hb3 _ _ 0 hstab⟩
     ·intro j hj ρ y u hS hc hf hg hfree hdep hlk
      clear hlk
      obtain rfl := jz hj rfl
      rw [Hq9.out _ 0 rfl]
      refine ⟨fun _ => ?_, zaa rfl⟩
      clear hdep hfree hj
      have hS0 : Below M W1 u := hS
      have hMu : M ≤ u.heap.size := by have := hS0.size; omega
      go_simp
      exact ⟨⟨fun _ => ⟨u.heap.size, rfl, hMu, Blk.new _ _ _⟩, fun h => absurd h (by omega)⟩, hS0.alloc hMu _, KeepL.below ((Below.refl _ _).alloc (Nat.le_refl _) _) _ _ 0 hstab⟩
     ·intro j hj ρ y u hS hc hf hg hfree hdep hlk
      clear hlk
      obtain rfl := jz hj rfl
      rw [Hq9.out _ 0 rfl]
      refine ⟨fun _ => ?_, zaa rfl⟩
      clear hdep hfree hj
      have hS0 : Below M W1 u := hS
      have hMu : M ≤ u.heap.size := by have := hS0.size; omega
      go_simp
      exact ⟨⟨fun _ => ⟨u.heap.size, rfl, hMu, Blk.new _ _ _⟩, fun h => absurd h (by omega)⟩, hS0.alloc hMu _, KeepL.below ((Below.refl _ _).alloc (Nat.le_refl _) _) _ _ 0 hstab⟩
     ·intro j hj ρ y u hS hc hf hg hfree hdep hlk
      have hlink := hlk rfl rfl
      clear hlk
      obtain rfl := jz hj rfl
      rw [show Chain.next ⟨[14, 15], [(0, 0), (0, 0), (0, 0), (0, 0), (0, 0), (0, 0), (0, 0), (0, 0), (0, 0), (0, 0), (0, 0), (0, 0), (0, 0), (0, 0), (0, 0), (1, 1)]⟩ 14 0 = 1 from rfl]
      have r7 := (hdep 12 _ 7 rfl rfl rfl).1
      have r30 := (hdep 5 _ 30 rfl rfl rfl).1
      refine ⟨fun _ => ?_, zaa rfl⟩
      clear hdep hfree hj
      have hS0 : Below M W1 u := hS
      have hMu : M ≤ u.heap.size := by have := hS0.size; omega
      obtain ⟨gx, ex', hgx, hBx⟩ := r7.1 (by omega)
      obtain ⟨r, hpm, A, cA, B, cB, er', hoa, hob⟩ := r30
      obtain ⟨gl, gr, el', eh', hne⟩ := hlink
      have hgl : gl = gx := by rw [ex'] at el'; injection el' with el'; injection el' with el'; injection el' with el'; exact el'.symm
      subst hgl
      obtain ⟨r1, r2, r3, r4, r5⟩ := r
      unfold plcV at er'
      simp only at er' hoa hob
      obtain ⟨c0, d0, c1, d1, c2, d2, c3, d3, c4, d4, c5⟩ := set5 hBx (.int .i64 r1) (.slice A r2.length cA) (.int .i64 r3) (.int .i64 r4) (.slice B r5.length cB)
      have hlr := hBx.lt
      have hres : pRes M PM0 (.pointer (some ⟨gl, 0, none⟩)) (((((u.setCell ⟨gl, 0, none⟩ (.int .i64 r1)).setCell ⟨gl, 1, none⟩ (.slice A r2.length cA)).setCell ⟨gl, 2, none⟩ (.int .i64 r3)).setCell ⟨gl, 3, none⟩ (.int .i64 r4)).setCell ⟨gl, 4, none⟩ (.slice B r5.length cB)) := pRes_new hBx hgx hpm hoa hob
      rw [← ex'] at hres
      have hkE : ∀ {PM : PlcM → Prop} {v : Value}, pPlcE M PM v u → pPlcE M PM v _ := fun h => pPlcE_set h hBx (.int .i64 r1) (.slice A r2.length cA) (.int .i64 r3) (.int .i64 r4) (.slice B r5.length cB)
      have hk8 : lsw 2 (pBlk M 40 zero5) (pRes M PM1) 0 (ρ (.tmp 8)) u → lsw 2 (pBlk M 40 zero5) (pRes M PM1) 1 (ρ (.tmp 8)) _ := fun h => ⟨fun _ => pBlk_set (h.1 (by omega)) (by rw [eh']; exact fun g' e => by injection e with e; injection e with e; injection e with e; subst e; exact Ne.symm hne) (.int .i64 r1) (.slice A r2.length cA) (.int .i64 r3) (.int .i64 r4) (.slice B r5.length cB), fun h => absurd h (by omega)⟩
      have hb5 := zUf hS0 hgx (.int .i64 r1) (.slice A r2.length cA) (.int .i64 r3) (.int .i64 r4) (.slice B r5.length cB)
      go_simp
      exact ⟨trivial, hb5, ⟨.inr (.inr (fun h => h)), .inr (.inr (fun h => h)), .inr (.inr (fun h => h)), .inr (.inr (fun h => h)), .inr (.inr (fun h => h)), .inr (.inr (hkE)), .inr (.inr (fun h => h)), .inr (.inr (fun h => h)), .inr (.inr (fun h => h)), .inr (.inr (fun h => h)), .inr (.inr (fun h => h)), .inr (.inr (hkE)), .inr (.inr (fun _ => ⟨fun h => absurd h (by omega), fun _ => hres⟩)), .inr (.inr (hk8)), trivial, trivial, trivial⟩⟩
     ·intro j hj ρ y u hS hc hf hg hfree hdep hlk
      have hlink := hlk rfl rfl
      clear hlk
      obtain rfl := jz hj rfl
      rw [show Chain.next ⟨[14, 15], [(0, 0), (0, 0), (0, 0), (0, 0), (0, 0), (0, 0), (0, 0), (0, 0), (0, 0), (0, 0), (0, 0), (0, 0), (0, 0), (0, 0), (0, 0), (1, 1)]⟩ 15 1 = 2 from rfl]
      have r8 := (hdep 13 _ 8 rfl rfl rfl).1
      have r36 := (hdep 11 _ 36 rfl rfl rfl).1
      refine ⟨fun _ => ?_, zaa rfl⟩
      clear hdep hfree hj
      have hS0 : Below M W1 u := hS
      have hMu : M ≤ u.heap.size := by have := hS0.size; omega
      obtain ⟨gx, ex', hgx, hBx⟩ := r8.1 (by omega)
      obtain ⟨r, hpm, A, cA, B, cB, er', hoa, hob⟩ := r36
      obtain ⟨gl, gr, el', eh', hne⟩ := hlink
      have hgl : gr = gx := by rw [ex'] at eh'; injection eh' with eh'; injection eh' with eh'; injection eh' with eh'; exact eh'.symm
      subst hgl
      obtain ⟨r1, r2, r3, r4, r5⟩ := r
      unfold plcV at er'
      simp only at er' hoa hob
      obtain ⟨c0, d0, c1, d1, c2, d2, c3, d3, c4, d4, c5⟩ := set5 hBx (.int .i64 r1) (.slice A r2.length cA) (.int .i64 r3) (.int .i64 r4) (.slice B r5.length cB)
      have hlr := hBx.lt
      have hres : pRes M PM1 (.pointer (some ⟨gr, 0, none⟩)) (((((u.setCell ⟨gr, 0, none⟩ (.int .i64 r1)).setCell ⟨gr, 1, none⟩ (.slice A r2.length cA)).setCell ⟨gr, 2, none⟩ (.int .i64 r3)).setCell ⟨gr, 3, none⟩ (.int .i64 r4)).setCell ⟨gr, 4, none⟩ (.slice B r5.length cB)) := pRes_new hBx hgx hpm hoa hob
      rw [← ex'] at hres
      have hkE : ∀ {PM : PlcM → Prop} {v : Value}, pPlcE M PM v u → pPlcE M PM v _ := fun h => pPlcE_set h hBx (.int .i64 r1) (.slice A r2.length cA) (.int .i64 r3) (.int .i64 r4) (.slice B r5.length cB)
      have hk7 : lsw 1 (pBlk M 40 zero5) (pRes M PM0) 1 (ρ (.tmp 7)) u → lsw 1 (pBlk M 40 zero5) (pRes M PM0) 2 (ρ (.tmp 7)) _ := fun h => ⟨fun h => absurd h (by omega), fun _ => pRes_set (h.2 (by omega)) hBx (by rw [el']; exact fun g' e => by injection e with e; injection e with e; injection e with e; subst e; exact hne) (.int .i64 r1) (.slice A r2.length cA) (.int .i64 r3) (.int .i64 r4) (.slice B r5.length cB)⟩
      have hb5 := zUf hS0 hgx (.int .i64 r1) (.slice A r2.length cA) (.int .i64 r3) (.int .i64 r4) (.slice B r5.length cB)
      go_simp
      exact ⟨trivial, hb5, ⟨.inr (.inr (fun h => h)), .inr (.inr (fun h => h)), .inr (.inr (fun h => h)), .inr (.inr (fun h => h)), .inr (.inr (fun h => h)), .inr (.inr (hkE)), .inr (.inr (fun h => h)), .inr (.inr (fun h => h)), .inr (.inr (fun h => h)), .inr (.inr (fun h => h)), .inr (.inr (fun h => h)), .inr (.inr (hkE)), .inr (.inr (hk7)), .inr (.inr (fun _ => ⟨fun h => absurd h (by omega), fun _ => hres⟩)), trivial, trivial, trivial⟩⟩
    intro u hS
    rintro _ rfl _ rfl _ rfl _ rfl _ rfl _ r_30 _ rfl _ rfl _ rfl _ rfl _ rfl _ r_36 _ r_7 _ r_8
    simp only [zxb, Act.put, List.setIfInBounds_toArray, List.set_cons_zero, List.set_cons_succ]
    have HFe := Hd (HF4.out.call (show Below W1.heap.size W1 u by rw [hM]; exact hS))
    obtain ⟨g7, ⟨r1, r2, r3, r4, r5⟩, A, cA, B, cB, rfl, hg7, hpm0, hB7, ho1, ho2⟩ := r_7.2 (by show 1 ≤ 2; omega)
    obtain ⟨g8, ⟨s1, s2, s3, s4, s5⟩, A2, cA2, B2, cB2, rfl, hg8, hpm1, hB8, ho3, ho4⟩ := r_8.2 (by show 2 ≤ 2; omega)
    rw [← HM0.out] at hpm0
    rw [← HM1.out] at hpm1
    obtain ⟨k2, k3, k4⟩ := hpm0.grow hmm.1 hmm.2.1 hpm1
    simp only at k2 k3 hB7 hB8 ho1 ho2 ho3 ho4
    have HK4 := Hd k4
    have HO1 := Hd ho1
    have HO2 := Hd ho2
    have HO3 := Hd ho3
    have HO4 := Hd ho4
    have HB7 := Hd hB7
    have HB8 := Hd hB8
    clear r_7 r_8 r_30 r_36 hstab hS HP g0 g1 g2 hpm0 hpm1 k4 ho1 ho2 ho3 ho4 hB7 hB8
    have g2 : ∀ i, u.cell? ⟨N + 2, i, none⟩ = _ := fun i => HFe.out.cell (.head _) i
    have hN2 : N + 2 < u.heap.size := HFe.out.lt (.head _)
    have m7 : ∀ i, u.cell? ⟨g7, i, none⟩ = _ := fun i => HB7.out.cell i
    have m8 : ∀ i, u.cell? ⟨g8, i, none⟩ = _ := fun i => HB8.out.cell i
    have l7 := HB7.out.lt
    have l8 := HB8.out.lt
    have k2d : decide (m0 < r3) = false := decide_eq_false (by omega)
    have k3d : decide (s3 < r3) = false := decide_eq_false (by omega)
    by_cases hr1 : r1 = 3
    ·subst hr1
     go_wp2_with fail
     with_reducible refine (zLa _).mono ?_
     rintro e' wz ⟨rfl, hbz⟩
     have HFz := Hd (HFe.out.call hbz)
     clear hbz
     go_wp2_with fail
     go_returns
     exact ⟨rfl, HFz.out.below⟩
    ·have hr1' : (r1 == 3) = false := by simp [hr1]
     obtain ⟨rfl, rfl, rfl, rfl, rfl⟩ : s1 = r1 ∧ s2 = r2 ∧ s3 = r3 ∧ s4 = r4 ∧ s5 = r5 := by
      rcases HK4.out with h | h
      ·exact absurd h hr1
      ·injection h with h1 h2 h3 h4 h5; exact ⟨h1, h2, h3, h4, h5⟩
     have hcon := same_any ⟨s1, s2, s3, s4, s5⟩ ⟨s1, s2, s3, s4, s5⟩ A B A2 B2 cA cB cA2 cB2 u (OwnZ.slr HO1.out fun _ _ => trivial) (OwnZ.slr HO2.out fun _ _ => trivial) (OwnZ.slr HO3.out fun _ _ => trivial) (OwnZ.slr HO4.out fun _ _ => trivial)
     rw [zae] at hcon
     unfold plcV at hcon
     simp only at hcon
     have HCon := Hd hcon
     clear hcon
     go_wp2_with fail
     with_reducible refine HCon.out.mono ?_
     rintro e' w9 ⟨rfl, hb9⟩
     have HF9 := Hd (HFe.out.call hb9)
     clear hb9 HCon g2 hN2 m7 m8 l7 l8
     go_wp2_with fail
     with_reducible refine (zLa _).mono ?_
     rintro e' wz ⟨rfl, hbz⟩
     have HFz := Hd (HF9.out.call hbz)
     clear hbz
     go_wp2_with fail
     go_returns
     exact ⟨rfl, HFz.out.below⟩
end Go.Proofs.YtakgiamhdpgoeaaGreat
