/- Lemmas. -/
import Derived.Test.YtakgiamhdpgoeaaGreatP20
import Derived.Test.YtakgiamhdpgoeaaGreatP24
set_option linter.unusedSimpArgs false
namespace Go.Proofs.YtakgiamhdpgoeaaGreat
open Go.RowKit
set_option linter.unusedVariables false
set_option maxRecDepth 100000 in
set_option maxHeartbeats 600000 in
theorem catch_idle (p : Addr) (w : World) : CallsD Tryz.prog 27 #[.pointer (some p)] .returning w fun e u' w' => e = .returned (.tuple #[]) ∧ u' = .returning ∧ w' = w := by
 refine callsD_of_wpS Tryz.func27 rfl fun c₀ cs hu => ?_
 apply wpS_seq
 apply wpS_region
 simp [wpOpsS, go_sem, recoverD, hu, Tryz.ntmps27, Exit.thenS]
 apply wpS_of_wp
 go_wp2_with fail
 cases c₀
 simp_all [bodyPostS, results, Tryz.results27]
set_option maxRecDepth 100000 in
set_option maxHeartbeats 600000 in
theorem zQd (g : Nat) (c q i s : Int) (older : List PanicEntry) (w : World) (hb : Blk w g 54 #[.int .i64 0, .int .i64 0, .int .i64 0, .int .i64 0]) :
  CallsD Tryz.prog 27 #[.pointer (some ⟨g, 0, none⟩)] (.panicking ({ v := failV c q i s, recovered := false } :: older)) w fun e u' w' =>
   e = .returned (.tuple #[]) ∧ u' = .panicking ({ v := failV c q i s, recovered := true } :: older) ∧ Blk w' g 54 #[.int .i64 c, .int .i64 q, .int .i64 i, .int .i64 s] ∧ Below g w w' := by
 refine callsD_of_wpS Tryz.func27 rfl fun c₀ cs hu => ?_
 apply wpS_seq
 apply wpS_region
 simp [wpOpsS, go_sem, recoverD, hu, Tryz.ntmps27, Exit.thenS]
 have g0 : ∀ i, w.cell? ⟨g, i, none⟩ = _ := fun i => hb.cell i
 have f0 : ∀ i, w.frozen? ⟨g, i, none⟩ = false := fun i => hb.frozen i
 have l0 : g < w.heap.size := hb.lt
 have HB := Hd hb
 have HU := Hd hu
 have hta : ∀ W, (Instr.typeAssert (failV c q i s) 20 102 true).run Tryz.prog W = .ok (.tuple #[.agg #[.int .i64 c, .int .i64 q, .int .i64 i, .int .i64 s], .bool true]) W := fun _ => by kernel_rfl
 rw [show (Array.replicate 15 undef : Array Value) = #[undef, undef, undef, undef, undef, undef, undef, undef, undef, undef, undef, undef, undef, undef, undef] from rfl]
 clear hb hu
 apply wpS_of_wp
 go_wp2_with fail
 have hB4 := ((((HB.out.set_ 0 (.int .i64 c)).set_ 1 (.int .i64 q)).set_ 2 (.int .i64 i)).set_ 3 (.int .i64 s)).below (w' := _) ((Below.refl _ _).alloc (Nat.le_refl _) (.cells #[.int .i64 c, .int .i64 q, .int .i64 i, .int .i64 s] 102)) (by simpa [World.setCell] using l0)
 refine ⟨rfl, FrameMode.panicking ({ v := failV c q i s, recovered := true } :: older), by cases c₀; rfl, .tuple #[], by simp [results, Tryz.results27], rfl, rfl, hB4, ?_⟩
 exact ((((((Below.refl g w).setCell (Nat.le_refl _) _).setCell (Nat.le_refl _) _).setCell (Nat.le_refl _) _).setCell (Nat.le_refl _) _)).alloc (by simp [World.setCell]; omega) _
abbrev diagV (x : Diag) : Value := .agg #[.int .i64 x.1, .int .i64 x.2.1, .int .i64 x.2.2.1, .int .i64 x.2.2.2]
theorem zYb {d : PrgD} {x : Diag} (h : firstD [zmb d, scan d.hZ.l.length (zgd d), zUb d, zdd d, zVc d] = some x) : zra d = x := by
 unfold zra
 rw [h]
 rfl
set_option maxRecDepth 100000 in
set_option maxHeartbeats 2000000 in
theorem zOd (d : PrgD) (w : World) (hR : PrgR w w.heap.size d) (hl0 : d.hZ.l.length ≤ 1000) (hl1 : d.mZ.l.length ≤ 1000) (hl2 : d.rZ.l.length ≤ 1000) (hl3 : d.aZ.l.length ≤ 1000) (hl4 : d.tZ.l.length ≤ 1000) :
  Calls Tryz.prog 16 #[PrgD.v d] w fun e w' => e = .returned (diagV (zra d)) ∧ Below w.heap.size w w' := by
 obtain ⟨N, hN⟩ : ∃ N, w.heap.size = N := ⟨_, rfl⟩
 rw [hN] at hR ⊢
 have F0 := Fr.start w
 rw [hN] at F0
 have HR := Hd hR
 have HF0 := Hd F0
 have hmf : ∀ (fn : Fn) (first cap : Array Value) (w : World), (Instr.makeFunc fn first cap).run Tryz.prog w = .ok (.func fn first cap) w := fun _ _ _ _ => rfl
 clear hR F0
 unfold PrgD.v PrgD.vs
 go_enter_defers Tryz.func16, Tryz.ntmps16
 go_wp2_with fail
 refine Calls.named ?_
 intro W hW
 have F1 := ((HF0.out.alloc _ _).alloc _ _).of_eq hW
 simp only [World.size_alloc, hN] at F1
 obtain ⟨L, hL, F1⟩ := F1.name
 have HL := Hd hL
 have HF1 := Hd F1
 clear F1 hL hW hmf
 with_reducible refine (zVf d W (HF1.out.prg HR.out)).mono ?_
 rintro e w2 ⟨hE, hb2⟩
 have HF2 := Hd (HF1.out.call hb2)
 clear hb2
 cases h1 : zmb d with
 | some x =>
  obtain ⟨c, q, i, s⟩ := x
  have HV := Hd (zYb (d := d) (x := (c, q, i, s)) (by rw [h1]; rfl))
  rw [h1] at hE
  clear h1
  obtain rfl := hE
  refine leaves_cons (f := 27) (args := #[.pointer (some ⟨N + 1, 0, none⟩)]) (by simp) (by simp [go_sem]) ?_
  refine (zQd (N + 1) c q i s [] w2 (HF2.out.blk _ (by rw [HL.out]; exact .head _)).2).mono ?_
  rintro e u' w9 ⟨rfl, rfl, hB9, hb9⟩
  have r0 := hB9.cell 0
  have r1 := hB9.cell 1
  have r2 := hB9.cell 2
  have r3 := hB9.cell 3
  have HB9 := Hd (HF2.out.below.trans (hb9.mono (by omega)))
  simp at r0 r1 r2 r3
  simp [Leaves, settle, results, Tryz.results16, go_sem, r0, r1, r2, r3, HV.out]
  exact HB9.out
 | none =>
  rw [h1] at hE
  obtain rfl := hE
  have HV1 := Hd h1
  clear h1
  obtain ⟨g0, l0, f0⟩ := HF2.out.c0 HL.out
  obtain ⟨g1, l1, f1⟩ := HF2.out.c1 HL.out
  dsimp only at g0 l0 f0 g1 l1 f1
  go_wp2_with fail
  with_reducible refine (zif d w2 (HF2.out.prg HR.out) hl0).mono ?_
  rintro e w3 ⟨hE, hb3⟩
  have HF3 := Hd (HF2.out.call hb3)
  clear hb3
  clear g0 l0 f0 g1 l1 f1
  cases h2 : scan d.hZ.l.length (zgd d) with
  | some x =>
   obtain ⟨c, q, i, s⟩ := x
   have HV := Hd (zYb (d := d) (x := (c, q, i, s)) (by rw [HV1.out, h2]; rfl))
   rw [h2] at hE
   clear h2
   obtain rfl := hE
   refine leaves_cons (f := 27) (args := #[.pointer (some ⟨N + 1, 0, none⟩)]) (by simp) (by simp [go_sem]) ?_
   refine (zQd (N + 1) c q i s [] w3 (HF3.out.blk _ (by rw [HL.out]; exact .head _)).2).mono ?_
   rintro e u' w9 ⟨rfl, rfl, hB9, hb9⟩
   have r0 := hB9.cell 0
   have r1 := hB9.cell 1
   have r2 := hB9.cell 2
   have r3 := hB9.cell 3
   have HB9 := Hd (HF3.out.below.trans (hb9.mono (by omega)))
   simp at r0 r1 r2 r3
   simp [Leaves, settle, results, Tryz.results16, go_sem, r0, r1, r2, r3, HV.out]
   exact HB9.out
  | none =>
   rw [h2] at hE
   obtain rfl := hE
   have HV2 := Hd h2
   clear h2
   obtain ⟨g0, l0, f0⟩ := HF3.out.c0 HL.out
   obtain ⟨g1, l1, f1⟩ := HF3.out.c1 HL.out
   dsimp only at g0 l0 f0 g1 l1 f1
   go_wp2_with fail
   with_reducible refine (zFe d w3 (HF3.out.prg HR.out) hl1).mono ?_
   rintro e w4 ⟨hE, hb4⟩
   have HF4 := Hd (HF3.out.call hb4)
   clear hb4
   clear g0 l0 f0 g1 l1 f1
   cases h3 : zUb d with
   | some x =>
    obtain ⟨c, q, i, s⟩ := x
    have HV := Hd (zYb (d := d) (x := (c, q, i, s)) (by rw [HV1.out, HV2.out, h3]; rfl))
    rw [h3] at hE
    clear h3
    obtain rfl := hE
    refine leaves_cons (f := 27) (args := #[.pointer (some ⟨N + 1, 0, none⟩)]) (by simp) (by simp [go_sem]) ?_
    refine (zQd (N + 1) c q i s [] w4 (HF4.out.blk _ (by rw [HL.out]; exact .head _)).2).mono ?_
    rintro e u' w9 ⟨rfl, rfl, hB9, hb9⟩
    have r0 := hB9.cell 0
    have r1 := hB9.cell 1
    have r2 := hB9.cell 2
    have r3 := hB9.cell 3
    have HB9 := Hd (HF4.out.below.trans (hb9.mono (by omega)))
    simp at r0 r1 r2 r3
    simp [Leaves, settle, results, Tryz.results16, go_sem, r0, r1, r2, r3, HV.out]
    exact HB9.out
   | none =>
    rw [h3] at hE
    obtain rfl := hE
    have HV3 := Hd h3
    clear h3
    obtain ⟨g0, l0, f0⟩ := HF4.out.c0 HL.out
    obtain ⟨g1, l1, f1⟩ := HF4.out.c1 HL.out
    dsimp only at g0 l0 f0 g1 l1 f1
    go_wp2_with fail
    with_reducible refine (zjf d w4 (HF4.out.prg HR.out) hl2 hl3 hl4).mono ?_
    rintro e w5 ⟨hE, hb5⟩
    have HF5 := Hd (HF4.out.call hb5)
    clear hb5
    clear g0 l0 f0 g1 l1 f1
    cases h4 : zdd d with
    | some x =>
     obtain ⟨c, q, i, s⟩ := x
     have HV := Hd (zYb (d := d) (x := (c, q, i, s)) (by rw [HV1.out, HV2.out, HV3.out, h4]; rfl))
     rw [h4] at hE
     clear h4
     obtain rfl := hE
     refine leaves_cons (f := 27) (args := #[.pointer (some ⟨N + 1, 0, none⟩)]) (by simp) (by simp [go_sem]) ?_
     refine (zQd (N + 1) c q i s [] w5 (HF5.out.blk _ (by rw [HL.out]; exact .head _)).2).mono ?_
     rintro e u' w9 ⟨rfl, rfl, hB9, hb9⟩
     have r0 := hB9.cell 0
     have r1 := hB9.cell 1
     have r2 := hB9.cell 2
     have r3 := hB9.cell 3
     have HB9 := Hd (HF5.out.below.trans (hb9.mono (by omega)))
     simp at r0 r1 r2 r3
     simp [Leaves, settle, results, Tryz.results16, go_sem, r0, r1, r2, r3, HV.out]
     exact HB9.out
    | none =>
     rw [h4] at hE
     obtain rfl := hE
     have HV4 := Hd h4
     clear h4
     obtain ⟨g0, l0, f0⟩ := HF5.out.c0 HL.out
     obtain ⟨g1, l1, f1⟩ := HF5.out.c1 HL.out
     dsimp only at g0 l0 f0 g1 l1 f1
     go_wp2_with fail
     with_reducible refine (checkFlow_any d w5 (HF5.out.prg HR.out) (by omega)).mono ?_
     rintro e w6 ⟨hE, hb6⟩
     have HF6 := Hd (HF5.out.call hb6)
     clear hb6
     clear g0 l0 f0 g1 l1 f1
     cases h5 : zVc d with
     | some x =>
      obtain ⟨c, q, i, s⟩ := x
      have HV := Hd (zYb (d := d) (x := (c, q, i, s)) (by rw [HV1.out, HV2.out, HV3.out, HV4.out, h5]; rfl))
      rw [h5] at hE
      clear h5
      obtain rfl := hE
      refine leaves_cons (f := 27) (args := #[.pointer (some ⟨N + 1, 0, none⟩)]) (by simp) (by simp [go_sem]) ?_
      refine (zQd (N + 1) c q i s [] w6 (HF6.out.blk _ (by rw [HL.out]; exact .head _)).2).mono ?_
      rintro e u' w9 ⟨rfl, rfl, hB9, hb9⟩
      have r0 := hB9.cell 0
      have r1 := hB9.cell 1
      have r2 := hB9.cell 2
      have r3 := hB9.cell 3
      have HB9 := Hd (HF6.out.below.trans (hb9.mono (by omega)))
      simp at r0 r1 r2 r3
      simp [Leaves, settle, results, Tryz.results16, go_sem, r0, r1, r2, r3, HV.out]
      exact HB9.out
     | none =>
      rw [h5] at hE
      obtain rfl := hE
      have HV5 := Hd h5
      clear h5
      have HV := Hd (show zra d = (0, 0, 0, 0) by unfold zra; rw [HV1.out, HV2.out, HV3.out, HV4.out, HV5.out]; rfl)
      obtain ⟨g0, l0, f0⟩ := HF6.out.c0 HL.out
      obtain ⟨g1, l1, f1⟩ := HF6.out.c1 HL.out
      dsimp only at g0 l0 f0 g1 l1 f1
      go_wp2_with fail
      refine leaves_cons (f := 27) (args := #[.pointer (some ⟨N + 1, 0, none⟩)]) (by simp) (by simp [go_sem]) ?_
      refine (catch_idle ⟨N + 1, 0, none⟩ _).mono ?_
      rintro e u' w9 ⟨rfl, rfl, rfl⟩
      have HB9 := Hd (((((HF6.out.below.setCell (show N ≤ N + 1 by omega) (.int .i64 0) (p := ⟨N + 1, 0, none⟩)).setCell (show N ≤ N + 1 by omega) (.int .i64 0) (p := ⟨N + 1, 1, none⟩)).setCell (show N ≤ N + 1 by omega) (.int .i64 0) (p := ⟨N + 1, 2, none⟩)).setCell (show N ≤ N + 1 by omega) (.int .i64 0) (p := ⟨N + 1, 3, none⟩)))
      simp [Leaves, settle, results, Tryz.results16, go_sem, g0, HV.out]
      exact HB9.out
open Go.RowKit
def zZb (a x : Int × Int) : Int × Int := (zsd a.1 (max x.1 0), zsd a.2 (max x.2 0))
def sumR (l : List (Int × Int)) : Int × Int := l.foldl zZb (0, 0)
theorem satAdd_bd {a b : Int} (ha : 0 ≤ a ∧ a ≤ 9223372036854775807) (hb : 0 ≤ b) : 0 ≤ zsd a b ∧ zsd a b ≤ 9223372036854775807 := by
 rw [zLb]
 omega
theorem sumStep_bd {a x : Int × Int} (h : (0 ≤ a.1 ∧ a.1 ≤ 9223372036854775807) ∧ (0 ≤ a.2 ∧ a.2 ≤ 9223372036854775807)) : (0 ≤ (zZb a x).1 ∧ (zZb a x).1 ≤ 9223372036854775807) ∧ (0 ≤ (zZb a x).2 ∧ (zZb a x).2 ≤ 9223372036854775807) :=
 ⟨satAdd_bd h.1 (by omega), satAdd_bd h.2 (by omega)⟩
theorem sumFold_bd (l : List (Int × Int)) : ∀ a : Int × Int, ((0 ≤ a.1 ∧ a.1 ≤ 9223372036854775807) ∧ (0 ≤ a.2 ∧ a.2 ≤ 9223372036854775807)) → (0 ≤ (l.foldl zZb a).1 ∧ (l.foldl zZb a).1 ≤ 9223372036854775807) ∧ (0 ≤ (l.foldl zZb a).2 ∧ (l.foldl zZb a).2 ≤ 9223372036854775807) := by
 induction l with
 | nil => exact fun a h => h
 | cons x l ih => exact fun a h => ih _ (sumStep_bd h)
theorem sumStep_eq (a x : Int × Int) : zZb a x = (zsd a.1 (max x.1 0), zsd a.2 (max x.2 0)) := rfl
theorem fold_take2 {l : List (Int × Int)} {k : Nat} {x : Int × Int} (h : l[k]? = some x) : (l.take (k + 1)).foldl zZb (0, 0) = zZb ((l.take k).foldl zZb (0, 0)) x := by
 rw [List.take_add_one, h, List.foldl_append]
 rfl
theorem satAdd_eq (a b : Int) (ha : 0 ≤ a ∧ a ≤ 9223372036854775807) (hb : 0 ≤ b ∧ b ≤ 9223372036854775807) (w : World) :
  Calls Tryz.prog 108 #[.int .i64 a, .int .i64 b] w fun e w' => e = .returned (.int .i64 (zsd a b)) ∧ w' = w := (satAdd_any a b ha hb w).mono fun _ _ h => ⟨h.1, h.2.symm⟩
set_option maxRecDepth 100000 in
set_option maxHeartbeats 4000000 in
theorem resSum_any (s : SL (Int × Int)) (w : World) (hS : SLR w w.heap.size 2 frE (fun x => I64 x.1 ∧ I64 x.2) s) :
  Calls Tryz.prog 74 #[.slice s.a s.l.length s.c] w fun e w' => e = .returned (.agg #[.int .i64 (sumR s.l).1, .int .i64 (sumR s.l).2]) ∧ Below w.heap.size w w' := by
 obtain ⟨N, hN⟩ : ∃ N, w.heap.size = N := ⟨_, rfl⟩
 rw [hN] at hS ⊢
 have F0 := Fr.start w
 rw [hN] at F0
 have HF0 := Hd F0
 have HS := Hd hS
 have hlen := hS.len
 obtain ⟨sa, sc, sl⟩ := s
 have HV := Hd (show sumR sl = sl.foldl zZb (0, 0) from rfl)
 simp only at hlen ⊢
 clear hS F0
 go_enter Tryz.func74, Tryz.ntmps74
 go_wp2_with fail
 refine zfa ?_
 intro W hW
 have F1 := ((HF0.out.alloc _ _).alloc _ _).of_eq hW
 simp only [World.size_alloc, hN] at F1 ⊢
 have HF1 := Hd F1
 clear F1 hW
 go_loopw [7] (fun i wr => ∃ k : Nat, k ≤ sl.length ∧ i = .int .i64 k ∧ Fr N w wr [(N + 1, 69, #[.int .i64 ((sl.take k).foldl zZb (0, 0)).1, .int .i64 ((sl.take k).foldl zZb (0, 0)).2]), (N, 69, #[.int .i64 0, .int .i64 0])]) (fun i _ => sl.length - (intOf i).toNat)
 case atStart => exact ⟨0, Nat.zero_le _, rfl, HF1.out⟩
 case round =>
  obtain ⟨k, hk, rfl, F⟩ := hrel
  have hbd := sumFold_bd (sl.take k) (0, 0) (by decide)
  obtain ⟨⟨m1, m2⟩, hm⟩ : ∃ m, (sl.take k).foldl zZb (0, 0) = m := ⟨_, rfl⟩
  have HM := Hd hm
  rw [hm] at F hbd
  simp only at F hbd
  have HF := Hd F
  clear F hm
  obtain ⟨g0, l0, f0⟩ := HF.out.at_mem (.head _)
  obtain ⟨g1, l1, f1⟩ := HF.out.at_mem (.tail _ (.head _))
  dsimp only at g0 l0 f0 g1 l1 f1
  by_cases hlt : k < sl.length
  ·obtain ⟨b2, off2, x, hA2, hb2, hx, hxok, hc2⟩ := HS.out.at_ zab (by omega) hlt
   have p0 := hc2 0 _ rfl
   have p1 := hc2 1 _ rfl
   simp only [Nat.add_zero] at p0
   simp only at hA2
   have HX := Hd (fold_take2 hx)
   have hk1 : (k : Int) < sl.length := by omega
   obtain ⟨x1, x2⟩ := x
   simp only at hxok p0 p1
   have HP := Hd (And.intro p0 p1)
   have HB2 := Hd hb2
   obtain ⟨⟨i1, i2⟩, i3, i4⟩ := hxok
   obtain ⟨hb1, hb3⟩ := hbd
   subst hA2
   have hr := HX.out
   rw [HM.out, sumStep_eq] at hr
   simp only at hr
   have HR := Hd hr
   clear hc2 hx hr p0 p1
   go_wp2_with fail
   refine zfa ?_
   intro W4 hW4
   have HF4 := Hd (HF.out.of_eq hW4)
   clear hW4 g0 l0 f0 g1 l1 f1
   obtain ⟨g0, l0, f0⟩ := HF4.out.at_mem (.head _)
   dsimp only at g0 l0 f0
   have p0 := (HF4.out.below.cell (p := ⟨b2, off2 + k * 2, none⟩) HB2.out).trans HP.out.1
   have hb2' : b2 < W4.heap.size := Nat.lt_of_lt_of_le hb2 HF4.out.le
   obtain ⟨y1, hy1⟩ : ∃ y, (if x1 < 0 then (0 : Int) else x1) = y := ⟨_, rfl⟩
   have e1 : y1 = max x1 0 := by rw [← hy1]; split <;> omega
   have hy1b : 0 ≤ y1 ∧ y1 ≤ 9223372036854775807 := by omega
   have HE1 := Hd e1
   have HB3 := Hd hb3
   clear e1 hb3
   refine wp_region_still_tail 10 (by kernel_rfl) (by kernel_rfl) ?_
   simp only [List.take_succ_cons, List.take_zero, List.drop_succ_cons, List.drop_zero]
   iterate 8 ((with_reducible refine wpStill_step (fun K hK => ?_)); go_simp; refine hK _ ?_; clear hK K)
   with_reducible refine wpStill_step (fun K hK => ?_)
   go_simp
   refine ⟨_, satAdd_eq m1 y1 hb1 (by omega) _, hK _ ?_⟩
   clear hK K
   with_reducible refine wpStill_step (fun K hK => ?_)
   go_simp
   refine hK _ ?_
   clear hK K
   with_reducible refine wpStill_nil ?_
   change wpList _ _ _ _ _ W4.drew
   go_wp2_with fail
   refine zfa ?_
   intro W5 hW5
   have F5 := (HF4.out.drew.set0 (by intro x hx; simp at hx; rw [hx]; show N ≠ N + 1; omega) 0 (.int .i64 (zsd m1 y1))).of_eq hW5
   have HF5 := Hd (show Fr N w W5 [(N + 1, 69, #[.int .i64 (zsd m1 y1), .int .i64 m2]), (N, 69, #[.int .i64 0, .int .i64 0])] from F5)
   clear hW5 F5 g0 l0 f0 p0 hb2' hy1 hb1
   obtain ⟨g0, l0, f0⟩ := HF5.out.at_mem (.head _)
   dsimp only at g0 l0 f0
   have p1 := (HF5.out.below.cell (p := ⟨b2, off2 + k * 2 + 1, none⟩) HB2.out).trans HP.out.2
   have hb2' : b2 < W5.heap.size := Nat.lt_of_lt_of_le hb2 HF5.out.le
   have hb3 := HB3.out
   obtain ⟨y2, hy2⟩ : ∃ y, (if x2 < 0 then (0 : Int) else x2) = y := ⟨_, rfl⟩
   have e2 : y2 = max x2 0 := by rw [← hy2]; split <;> omega
   have hy2b : 0 ≤ y2 ∧ y2 ≤ 9223372036854775807 := by omega
   have HE2 := Hd e2
   clear e2
   refine wp_region_still_tail 10 (by kernel_rfl) (by kernel_rfl) ?_
   simp only [List.take_succ_cons, List.take_zero, List.drop_succ_cons, List.drop_zero]
   iterate 8 ((with_reducible refine wpStill_step (fun K hK => ?_)); go_simp; refine hK _ ?_; clear hK K)
   with_reducible refine wpStill_step (fun K hK => ?_)
   go_simp
   refine ⟨_, satAdd_eq m2 y2 hb3 (by omega) _, hK _ ?_⟩
   clear hK K
   with_reducible refine wpStill_step (fun K hK => ?_)
   go_simp
   refine hK _ ?_
   clear hK K
   with_reducible refine wpStill_nil ?_
   change wpList _ _ _ _ _ W5.drew
   go_wp2_with fail
   go_roundw
   case rel => exact ⟨k + 1, by omega, by go_num, by rw [HR.out, ← HE1.out, ← HE2.out]; exact HF5.out.drew.set0 (by intro x hx; simp at hx; rw [hx]; show N ≠ N + 1; omega) 1 (.int .i64 (zsd m2 y2))⟩
   case measure => simp [intOf]; omega
  ·obtain rfl : k = sl.length := by omega
   have HV2 := Hd (show sumR sl = (m1, m2) by rw [HV.out, ← HM.out, List.take_length])
   clear hlt
   have hB1 := (HF.out.blk _ (.tail _ (.head _))).2
   have q1 : ∀ i, (wr.setCell ⟨N, 0, none⟩ (.int .i64 m1)).cell? ⟨N, i, none⟩ = #[Value.int .i64 m1, .int .i64 0][i]? := fun i => (hB1.set_ 0 (.int .i64 m1)).cell i
   have r1 : ∀ i, (wr.setCell ⟨N, 0, none⟩ (.int .i64 m1)).frozen? ⟨N, i, none⟩ = false := fun i => (hB1.set_ 0 (.int .i64 m1)).frozen i
   have q2 : ∀ i, ((wr.setCell ⟨N, 0, none⟩ (.int .i64 m1)).setCell ⟨N, 1, none⟩ (.int .i64 m2)).cell? ⟨N, i, none⟩ = #[Value.int .i64 m1, .int .i64 m2][i]? := fun i => ((hB1.set_ 0 (.int .i64 m1)).set_ 1 (.int .i64 m2)).cell i
   have HB2 := Hd ((HF.out.below.setCell (p := ⟨N, 0, none⟩) (Nat.le_refl _) (.int .i64 m1)).setCell (p := ⟨N, 1, none⟩) (Nat.le_refl _) (.int .i64 m2))
   clear hB1
   go_wp2_with fail
   refine bodyPost_ret (v := .agg #[.int .i64 m1, .int .i64 m2]) (by simp [results, Tryz.results74, go_sem, q2]) rfl ⟨by rw [HV2.out]; try rfl, HB2.out⟩
open Go.RowKit
section
variable {N : Nat} {w W : World} {g g1 : Nat} {t t1 : TypeId} {cs c1 : Array Value} {l : List (Nat × TypeId × Array Value)}
theorem Fr.set1 (h : Fr N w W ((g1, t1, c1) :: (g, t, cs) :: l)) (h1 : g1 ≠ g) (hg : ∀ x ∈ l, x.1 ≠ g) (i : Nat) (v : Value) : Fr N w (W.setCell ⟨g, i, none⟩ v) ((g1, t1, c1) :: (g, t, cs.setIfInBounds i v) :: l) := by
 have hb := h.blk _ (.tail _ (.head _))
 have ha := h.blk _ (.head _)
 refine ⟨h.base, h.below.setCell (p := ⟨g, i, none⟩) hb.1 v, fun x hx => ?_⟩
 rcases List.mem_cons.1 hx with rfl | hx
 ·exact ⟨ha.1, zka ha.2 h1 i v⟩
 ·rcases List.mem_cons.1 hx with rfl | hx
  ·exact ⟨hb.1, hb.2.set_ i v⟩
  ·have hx2 := h.blk x (List.mem_cons_of_mem _ (List.mem_cons_of_mem _ hx))
   exact ⟨hx2.1, zka hx2.2 (hg x hx) i v⟩
end
theorem set4 {w : World} {g : Nat} {t : TypeId} {a b c d : Value} (h : Blk w g t #[a, b, c, d]) (v0 v1 v2 v3 : Value) :
  (∀ i, (w.setCell ⟨g, 0, none⟩ v0).cell? ⟨g, i, none⟩ = #[v0, b, c, d][i]?) ∧ (∀ i, (w.setCell ⟨g, 0, none⟩ v0).frozen? ⟨g, i, none⟩ = false) ∧
  (∀ i, ((w.setCell ⟨g, 0, none⟩ v0).setCell ⟨g, 1, none⟩ v1).cell? ⟨g, i, none⟩ = #[v0, v1, c, d][i]?) ∧ (∀ i, ((w.setCell ⟨g, 0, none⟩ v0).setCell ⟨g, 1, none⟩ v1).frozen? ⟨g, i, none⟩ = false) ∧
  (∀ i, (((w.setCell ⟨g, 0, none⟩ v0).setCell ⟨g, 1, none⟩ v1).setCell ⟨g, 2, none⟩ v2).cell? ⟨g, i, none⟩ = #[v0, v1, v2, d][i]?) ∧ (∀ i, (((w.setCell ⟨g, 0, none⟩ v0).setCell ⟨g, 1, none⟩ v1).setCell ⟨g, 2, none⟩ v2).frozen? ⟨g, i, none⟩ = false) ∧
  (∀ i, ((((w.setCell ⟨g, 0, none⟩ v0).setCell ⟨g, 1, none⟩ v1).setCell ⟨g, 2, none⟩ v2).setCell ⟨g, 3, none⟩ v3).cell? ⟨g, i, none⟩ = #[v0, v1, v2, v3][i]?) := by
 have h0 : Blk _ g t #[v0, b, c, d] := h.set_ 0 v0
 have h1 : Blk _ g t #[v0, v1, c, d] := h0.set_ 1 v1
 have h2 : Blk _ g t #[v0, v1, v2, d] := h1.set_ 2 v2
 have h3 : Blk _ g t #[v0, v1, v2, v3] := h2.set_ 3 v3
 exact ⟨h0.cell, h0.frozen, h1.cell, h1.frozen, h2.cell, h2.frozen, h3.cell⟩
set_option maxRecDepth 100000 in
set_option maxHeartbeats 4000000 in
theorem zxf (J : JobD) (g : Nat) (u : Use) (i : Nat) (w : World) (hJ : JobR w w.heap.size g J) (hi : i < J.us.l.length) (hu : (0 ≤ u.tZ ∧ u.tZ ≤ 1000000) ∧ (0 ≤ u.gates ∧ u.gates ≤ 1000000) ∧ I64 u.sram ∧ I64 u.tcam) (hc : ∀ x ∈ J.cs.l, I64 x.1 ∧ I64 x.2) :
  Calls Tryz.prog 36 #[.pointer (some ⟨g, 0, none⟩), useV u, .int .i64 i] w fun e w' => e = .returned (useV (J.m.add u i)) ∧ Below w.heap.size w w' := by
 obtain ⟨N, hN⟩ : ∃ N, w.heap.size = N := ⟨_, rfl⟩
 rw [hN] at hJ ⊢
 have F0 := Fr.start w
 rw [hN] at F0
 have HF0 := Hd F0
 have HJ := Hd hJ
 have hgl := hJ.lt
 have hul := hJ.us.len
 have hcl := hJ.cs.len
 have hn1 := hJ.n1
 have hg : ∀ i, w.cell? ⟨g, i, none⟩ = _ := fun i => hJ.blk.cell i
 unfold JobD.cells at hg
 obtain ⟨b2, off2, x, hA2, hb2, hx, hxok, hc2⟩ := hJ.us.at_ ztd (by omega) hi
 obtain ⟨b3, off3, y, hA3, hb3, hy, _, hc3⟩ := hJ.cs.at_ zab (by omega) (show i < J.cs.l.length by omega)
 have p0 := hc2 0 _ rfl
 have p1 := hc3 0 _ rfl
 have p2 := hc3 1 _ rfl
 simp only [Nat.add_zero] at p0 p1
 have hyI := hc y (List.mem_of_getElem? hy)
 have HV := Hd (show J.m.add u i = ⟨if x.table < 0 then u.tZ else u.tZ + 1, if x.table < 0 then u.gates + 1 else u.gates, cost2 u.sram y.1, cost2 u.tcam y.2⟩ by
  unfold JobM.add JobD.m Use.plus
  simp only [List.getD, List.getElem?_map, hx, hy, Option.map_some, Option.getD_some]
  by_cases h : x.table < 0 <;> simp [h])
 obtain ⟨y1, y2⟩ := y
 obtain ⟨ut, ug, us, um⟩ := u
 simp only at hu hyI HV p1 p2
 rw [HV.out]
 have HP := Hd (And.intro p1 p2)
 have HB3 := Hd hb3
 have HA3 := Hd hA3
 have hi1 : (i : Int) < J.us.l.length := by omega
 have hi2 : (i : Int) < J.cs.l.length := by omega
 have hne : g ≠ N := by omega
 have hne1 : g ≠ N + 1 := by omega
 have hne2 : b2 ≠ N := by omega
 have hne3 : b2 ≠ N + 1 := by omega
 obtain ⟨hu1, hu2, hu3, hu4⟩ := hu
 obtain ⟨tb, htb⟩ : ∃ z, x.table = z := ⟨_, rfl⟩
 rw [htb] at p0 ⊢
 rw [hA2] at hg
 have HG := Hd hg
 clear hJ F0 hc2 hc3 hxok hx hy hc htb HV p1 p2
 unfold useV
 by_cases c1 : tb < 0
 ·simp only [c1, if_true]
  go_enter Tryz.func36, Tryz.ntmps36
  go_wp2_with fail
  refine zfa ?_
  intro W4 hW4
  have F4 := ((HF0.out.alloc _ _).alloc _ _).of_eq hW4
  simp only [World.size_alloc, hN] at F4 ⊢
  have HF4 := Hd F4
  clear hW4 F4 hg p0 hne hne1 hne2 hne3 hA2
  obtain ⟨g0, l0, f0⟩ := HF4.out.at_mem (.tail _ (.head _))
  dsimp only at g0 l0 f0
  have hgW : ∀ i, W4.cell? ⟨g, i, none⟩ = _ := fun i => (HF4.out.below.cell (p := ⟨g, i, none⟩) hgl).trans (HG.out i)
  have q1 := (HF4.out.below.cell (p := ⟨b3, off3 + i * 2, none⟩) HB3.out).trans HP.out.1
  have q2 := (HF4.out.below.cell (p := ⟨b3, off3 + i * 2 + 1, none⟩) HB3.out).trans HP.out.2
  have hb3' : b3 < W4.heap.size := Nat.lt_of_lt_of_le HB3.out HF4.out.le
  have hgl' : g < W4.heap.size := Nat.lt_of_lt_of_le hgl HF4.out.le
  rw [HA3.out] at hgW
  refine wp_region_still_tail 9 (by kernel_rfl) (by kernel_rfl) ?_
  simp only [List.take_succ_cons, List.take_zero, List.drop_succ_cons, List.drop_zero]
  iterate 9 ((with_reducible refine wpStill_step (fun K hK => ?_)); go_simp; refine hK _ ?_; clear hK K)
  with_reducible refine wpStill_nil ?_
  change wpList _ _ _ _ _ W4.drew
  go_wp2_with fail
  refine Calls.named ?_
  intro W5 hW5
  obtain ⟨g5, hg5⟩ : ∃ z, W4.drew.heap.size = z := ⟨_, rfl⟩
  have F5 := (HF4.out.drew.alloc _ _).of_eq hW5
  have hg5' : W4.heap.size = g5 := hg5
  simp only [hg5, hg5'] at F5 ⊢
  have HF5 := Hd F5
  clear hW5 F5 g0 l0 f0 q1 q2 hb3' hgl' hgW hg5 hg5'
  have HSr := Hd (show SLR W5 W5.heap.size 2 frE (fun x => I64 x.1 ∧ I64 x.2) ⟨some ⟨g5, 0, none⟩, 2, [(us, um), (y1, y2)]⟩ from zoa (α := Int × Int) (size := 2) (enc := frE) (ok := fun x => I64 x.1 ∧ I64 x.2) (HF5.out.blk _ (.head _)).2 (HF5.out.blk _ (.head _)).2.lt [(us, um), (y1, y2)] rfl zab (by simp [maxLen]) (by intro z hz; simp at hz; rcases hz with rfl | rfl; exact ⟨hu3, hu4⟩; exact hyI))
  have hcon : Calls Tryz.prog 74 #[.slice (some ⟨g5, 0, none⟩) 2 2] W5 fun e w' => e = .returned (.agg #[.int .i64 (cost2 us y1), .int .i64 (cost2 um y2)]) ∧ Below W5.heap.size W5 w' := resSum_any ⟨some ⟨g5, 0, none⟩, 2, [(us, um), (y1, y2)]⟩ W5 HSr.out
  have HCon := Hd hcon
  clear hcon
  with_reducible refine HCon.out.mono ?_
  rintro e w6 ⟨rfl, hb6⟩
  have HF6 := Hd (HF5.out.call hb6)
  obtain ⟨s1, hs1⟩ : ∃ z, cost2 us y1 = z := ⟨_, rfl⟩
  obtain ⟨s2, hs2⟩ : ∃ z, cost2 um y2 = z := ⟨_, rfl⟩
  rw [hs1, hs2]
  have HS1 := Hd hs1
  have HS2 := Hd hs2
  clear hb6 HSr HCon hs1 hs2
  have HF6s := Hd (HF6.out.skip)
  obtain ⟨g0, l0, f0⟩ := HF6s.out.at_mem (.tail _ (.head _))
  dsimp only at g0 l0 f0
  have hB1 := (HF6s.out.blk _ (.tail _ (.head _))).2
  have r1 : ∀ i, (w6.setCell ⟨N, 2, none⟩ (.int .i64 s1)).cell? ⟨N, i, none⟩ = _ := fun i => (hB1.set_ 2 (.int .i64 s1)).cell i
  have r2 : ∀ i, (w6.setCell ⟨N, 2, none⟩ (.int .i64 s1)).frozen? ⟨N, i, none⟩ = false := fun i => (hB1.set_ 2 (.int .i64 s1)).frozen i
  have F7 := (HF6s.out.set1 (by omega) (by intro x hx; simp at hx) 2 (.int .i64 s1)).set1 (by omega) (by intro x hx; simp at hx) 3 (.int .i64 s2)
  obtain ⟨w7, hw7⟩ : ∃ z, (w6.setCell ⟨N, 2, none⟩ (.int .i64 s1)).setCell ⟨N, 3, none⟩ (.int .i64 s2) = z := ⟨_, rfl⟩
  rw [hw7] at F7
  have HF7 := Hd F7
  obtain ⟨g7, l7, f7⟩ := HF7.out.at_mem (.tail _ (.head _))
  obtain ⟨g8, l8, f8⟩ := HF7.out.at_mem (.head _)
  dsimp only at g7 l7 f7 g8 l8 f8
  obtain ⟨a1, a2, a3, a4, a5, a6, a7⟩ := set4 (HF7.out.blk _ (.head _)).2 (.int .i64 ut) (.int .i64 (ug + 1)) (.int .i64 s1) (.int .i64 s2)
  have HB9 := Hd ((((HF7.out.below.setCell (p := ⟨N + 1, 0, none⟩) (Nat.le_succ _) (.int .i64 ut)).setCell (p := ⟨N + 1, 1, none⟩) (Nat.le_succ _) (.int .i64 (ug + 1))).setCell (p := ⟨N + 1, 2, none⟩) (Nat.le_succ _) (.int .i64 s1)).setCell (p := ⟨N + 1, 3, none⟩) (Nat.le_succ _) (.int .i64 s2))
  clear hB1 F7
  go_wp2_with fail
  refine bodyPost_ret (v := .agg #[.int .i64 ut, .int .i64 (ug + 1), .int .i64 s1, .int .i64 s2]) (by simp [results, Tryz.results36, go_sem, a7]) rfl ⟨by rw [HS1.out, HS2.out], HB9.out⟩
 ·simp only [c1, if_false]
  have c1' : decide (tb < 0) = false := decide_eq_false c1
  go_enter Tryz.func36, Tryz.ntmps36
  go_wp2_with fail
  refine zfa ?_
  intro W4 hW4
  have F4 := ((HF0.out.alloc _ _).alloc _ _).of_eq hW4
  simp only [World.size_alloc, hN] at F4 ⊢
  have HF4 := Hd F4
  clear hW4 F4 hg p0 hne hne1 hne2 hne3 hA2
  obtain ⟨g0, l0, f0⟩ := HF4.out.at_mem (.tail _ (.head _))
  dsimp only at g0 l0 f0
  have hgW : ∀ i, W4.cell? ⟨g, i, none⟩ = _ := fun i => (HF4.out.below.cell (p := ⟨g, i, none⟩) hgl).trans (HG.out i)
  have q1 := (HF4.out.below.cell (p := ⟨b3, off3 + i * 2, none⟩) HB3.out).trans HP.out.1
  have q2 := (HF4.out.below.cell (p := ⟨b3, off3 + i * 2 + 1, none⟩) HB3.out).trans HP.out.2
  have hb3' : b3 < W4.heap.size := Nat.lt_of_lt_of_le HB3.out HF4.out.le
  have hgl' : g < W4.heap.size := Nat.lt_of_lt_of_le hgl HF4.out.le
  rw [HA3.out] at hgW
  refine wp_region_still_tail 9 (by kernel_rfl) (by kernel_rfl) ?_
  simp only [List.take_succ_cons, List.take_zero, List.drop_succ_cons, List.drop_zero]
  iterate 9 ((with_reducible refine wpStill_step (fun K hK => ?_)); go_simp; refine hK _ ?_; clear hK K)
  with_reducible refine wpStill_nil ?_
  change wpList _ _ _ _ _ W4.drew
  go_wp2_with fail
  refine Calls.named ?_
  intro W5 hW5
  obtain ⟨g5, hg5⟩ : ∃ z, W4.drew.heap.size = z := ⟨_, rfl⟩
  have F5 := (HF4.out.drew.alloc _ _).of_eq hW5
  have hg5' : W4.heap.size = g5 := hg5
  simp only [hg5, hg5'] at F5 ⊢
  have HF5 := Hd F5
  clear hW5 F5 g0 l0 f0 q1 q2 hb3' hgl' hgW hg5 hg5'
  have HSr := Hd (show SLR W5 W5.heap.size 2 frE (fun x => I64 x.1 ∧ I64 x.2) ⟨some ⟨g5, 0, none⟩, 2, [(us, um), (y1, y2)]⟩ from zoa (α := Int × Int) (size := 2) (enc := frE) (ok := fun x => I64 x.1 ∧ I64 x.2) (HF5.out.blk _ (.head _)).2 (HF5.out.blk _ (.head _)).2.lt [(us, um), (y1, y2)] rfl zab (by simp [maxLen]) (by intro z hz; simp at hz; rcases hz with rfl | rfl; exact ⟨hu3, hu4⟩; exact hyI))
  have hcon : Calls Tryz.prog 74 #[.slice (some ⟨g5, 0, none⟩) 2 2] W5 fun e w' => e = .returned (.agg #[.int .i64 (cost2 us y1), .int .i64 (cost2 um y2)]) ∧ Below W5.heap.size W5 w' := resSum_any ⟨some ⟨g5, 0, none⟩, 2, [(us, um), (y1, y2)]⟩ W5 HSr.out
  have HCon := Hd hcon
  clear hcon
  with_reducible refine HCon.out.mono ?_
  rintro e w6 ⟨rfl, hb6⟩
  have HF6 := Hd (HF5.out.call hb6)
  obtain ⟨s1, hs1⟩ : ∃ z, cost2 us y1 = z := ⟨_, rfl⟩
  obtain ⟨s2, hs2⟩ : ∃ z, cost2 um y2 = z := ⟨_, rfl⟩
  rw [hs1, hs2]
  have HS1 := Hd hs1
  have HS2 := Hd hs2
  clear hb6 HSr HCon hs1 hs2
  have HF6s := Hd (HF6.out.skip)
  obtain ⟨g0, l0, f0⟩ := HF6s.out.at_mem (.tail _ (.head _))
  dsimp only at g0 l0 f0
  have hB1 := (HF6s.out.blk _ (.tail _ (.head _))).2
  have r1 : ∀ i, (w6.setCell ⟨N, 2, none⟩ (.int .i64 s1)).cell? ⟨N, i, none⟩ = _ := fun i => (hB1.set_ 2 (.int .i64 s1)).cell i
  have r2 : ∀ i, (w6.setCell ⟨N, 2, none⟩ (.int .i64 s1)).frozen? ⟨N, i, none⟩ = false := fun i => (hB1.set_ 2 (.int .i64 s1)).frozen i
  have F7 := (HF6s.out.set1 (by omega) (by intro x hx; simp at hx) 2 (.int .i64 s1)).set1 (by omega) (by intro x hx; simp at hx) 3 (.int .i64 s2)
  obtain ⟨w7, hw7⟩ : ∃ z, (w6.setCell ⟨N, 2, none⟩ (.int .i64 s1)).setCell ⟨N, 3, none⟩ (.int .i64 s2) = z := ⟨_, rfl⟩
  rw [hw7] at F7
  have HF7 := Hd F7
  obtain ⟨g7, l7, f7⟩ := HF7.out.at_mem (.tail _ (.head _))
  obtain ⟨g8, l8, f8⟩ := HF7.out.at_mem (.head _)
  dsimp only at g7 l7 f7 g8 l8 f8
  obtain ⟨a1, a2, a3, a4, a5, a6, a7⟩ := set4 (HF7.out.blk _ (.head _)).2 (.int .i64 (ut + 1)) (.int .i64 ug) (.int .i64 s1) (.int .i64 s2)
  have HB9 := Hd ((((HF7.out.below.setCell (p := ⟨N + 1, 0, none⟩) (Nat.le_succ _) (.int .i64 (ut + 1))).setCell (p := ⟨N + 1, 1, none⟩) (Nat.le_succ _) (.int .i64 ug)).setCell (p := ⟨N + 1, 2, none⟩) (Nat.le_succ _) (.int .i64 s1)).setCell (p := ⟨N + 1, 3, none⟩) (Nat.le_succ _) (.int .i64 s2))
  clear hB1 F7
  go_wp2_with fail
  refine bodyPost_ret (v := .agg #[.int .i64 (ut + 1), .int .i64 ug, .int .i64 s1, .int .i64 s2]) (by simp [results, Tryz.results36, go_sem, a7]) rfl ⟨by rw [HS1.out, HS2.out], HB9.out⟩
open Go.RowKit
theorem lens_step {l : List HdrD} {k : Nat} {x : HdrD} (h : l[k]? = some x) : isum ((l.take (k + 1)).map fun h => (h.fields.l.length : Int)) = isum ((l.take k).map fun h => (h.fields.l.length : Int)) + x.fields.l.length := by
 have := isum_takeK (l := l.map fun h => (h.fields.l.length : Int)) (k := k) (x := (x.fields.l.length : Int)) (by rw [List.getElem?_map, h]; rfl)
 rwa [← List.map_take, ← List.map_take] at this
set_option maxRecDepth 100000 in
set_option maxHeartbeats 4000000 in
theorem counts_any (d : PrgD) (w : World) (hR : PrgR w w.heap.size d) (hB : PrgB d) :
  Calls Tryz.prog 159 #[PrgD.v d] w fun e w' => e = .returned (.agg #[.int .i64 (zCc d), .int .i64 d.hZ.l.length, .int .i64 d.mZ.l.length, .int .i64 d.rZ.l.length]) ∧ Below w.heap.size w w' := by
 obtain ⟨N, hN⟩ : ∃ N, w.heap.size = N := ⟨_, rfl⟩
 rw [hN] at hR ⊢
 have F0 := Fr.start w
 rw [hN] at F0
 have HF0 := Hd F0
 have HR := Hd hR
 have HH := Hd hR.hZ
 have hbd := zvf hB
 have HBd := Hd hbd
 have hl1 := hR.hZ.len
 have hl2 := hR.mZ.len
 have hl3 := hR.rZ.len
 obtain ⟨A0, hA0⟩ : ∃ z, d.hZ.a = z := ⟨_, rfl⟩
 have HA0 := Hd hA0
 clear hR F0 hB hbd
 unfold PrgD.v PrgD.vs
 rw [hA0]
 clear hA0
 obtain ⟨H, hH⟩ : ∃ z, d.hZ.l.length = z := ⟨_, rfl⟩
 obtain ⟨M, hM⟩ : ∃ z, d.mZ.l.length = z := ⟨_, rfl⟩
 obtain ⟨R, hR⟩ : ∃ z, d.rZ.l.length = z := ⟨_, rfl⟩
 rw [hH] at hl1
 rw [hM] at hl2
 rw [hR] at hl3
 rw [hH, hM, hR]
 have HHl := Hd hH
 clear hH hM hR
 go_enter Tryz.func159, Tryz.ntmps159
 go_wp2_with fail
 refine zfa ?_
 intro W hW
 have F1 := (((HF0.out.alloc _ _).alloc _ _).alloc _ _).of_eq hW
 simp only [World.size_alloc, hN] at F1 ⊢
 have HF1 := Hd F1
 clear F1 hW
 obtain ⟨L, hL, F1⟩ : ∃ L, L = [(N + 1, 246, (#[.int .i64 0, .int .i64 0, .int .i64 0, .int .i64 0] : Array Value)), (N, 31, #[.string d.name, .slice A0 H d.hZ.c, .slice d.mZ.a M d.mZ.c, .slice d.rZ.a R d.rZ.c, .slice d.aZ.a d.aZ.l.length d.aZ.c, .slice d.tZ.a d.tZ.l.length d.tZ.c, .slice d.sZ.a d.sZ.l.length d.sZ.c, .slice d.cZ.a d.cZ.l.length d.cZ.c, .slice d.dep.a d.dep.l.length d.dep.c])] ∧ Fr N w W ((N + 1 + 1, 246, #[.int .i64 0, .int .i64 H, .int .i64 M, .int .i64 R]) :: L) := ⟨_, rfl, HF1.out⟩
 have HL := Hd hL
 have hLn : ∀ x ∈ L, x.1 ≠ N + 1 + 1 := by rw [hL]; intro x hx; simp at hx; rcases hx with rfl | rfl <;> simp <;> omega
 have HLn := Hd hLn
 have HF2 := Hd F1
 clear hL hLn F1 HF1
 go_loopw [19] (fun i wr => ∃ k : Nat, k ≤ H ∧ i = .int .i64 k ∧ Fr N w wr ((N + 1 + 1, 246, #[.int .i64 (isum ((d.hZ.l.take k).map fun h => (h.fields.l.length : Int))), .int .i64 H, .int .i64 M, .int .i64 R]) :: L)) (fun i _ => H - (intOf i).toNat)
 case atStart => exact ⟨0, Nat.zero_le _, rfl, HF2.out⟩
 case round =>
  obtain ⟨k, hk, rfl, F⟩ := hrel
  have HF := Hd F
  have hb := HBd.out k
  obtain ⟨z, hz⟩ : ∃ z, isum ((d.hZ.l.take k).map fun h => (h.fields.l.length : Int)) = z := ⟨_, rfl⟩
  have HZ := Hd hz
  rw [hz] at HF hb
  clear F hz HF2
  obtain ⟨g0, l0, f0⟩ := HF.out.at_mem (.head _)
  dsimp only at g0 l0 f0
  by_cases hlt : k < H
  ·obtain ⟨b2, off2, x, hA2, hb2, hx, hxok, hc2⟩ := HF.out.at_ HH.out (fun _ => rfl) (by omega) (by rw [HHl.out]; exact hlt)
   have p0 := hc2 0 _ rfl
   have p1 := hc2 1 _ rfl
   simp only [Nat.add_zero] at p0
   have HX := Hd (lens_step hx)
   have hb3 := HBd.out (k + 1)
   rw [HX.out, HZ.out] at hb3
   have hk1 : (k : Int) < H := by omega
   have hne : N + 1 + 1 ≠ wr.heap.size := by omega
   rw [HA0.out] at hA2
   subst hA2
   clear hc2 hx hxok
   obtain ⟨m, hm⟩ : ∃ m, x.fields.l.length = m := ⟨_, rfl⟩
   have HM := Hd hm
   rw [hm] at p1 hb3
   clear hm
   go_wp2_with fail
   go_roundw
   case rel =>
    refine ⟨k + 1, by omega, by go_num, ?_⟩
    rw [HX.out, HZ.out, HM.out]
    exact ((HF.out.set0 (fun x hx => HLn.out x hx) 0 (.int .i64 (z + m))).alloc _ _).skip
   case measure => simp [intOf]; omega
  ·obtain rfl : k = H := by omega
   have HV := Hd (show zCc d = z by unfold zCc; rw [← HZ.out, ← HHl.out, List.take_length])
   clear hlt
   have hB1 : Blk wr (N + 1) 246 #[.int .i64 0, .int .i64 0, .int .i64 0, .int .i64 0] := (HF.out.blk (N + 1, 246, #[.int .i64 0, .int .i64 0, .int .i64 0, .int .i64 0]) (.tail _ (by rw [HL.out]; exact .head _))).2
   obtain ⟨a1, a2, a3, a4, a5, a6, a7⟩ := set4 hB1 (.int .i64 z) (.int .i64 k) (.int .i64 M) (.int .i64 R)
   have g1 : ∀ i, wr.cell? ⟨N + 1, i, none⟩ = _ := fun i => hB1.cell i
   have f1 : ∀ i, wr.frozen? ⟨N + 1, i, none⟩ = _ := fun i => hB1.frozen i
   have l1 := hB1.lt
   have HB9 := Hd ((((HF.out.below.setCell (p := ⟨N + 1, 0, none⟩) (Nat.le_succ _) (.int .i64 z)).setCell (p := ⟨N + 1, 1, none⟩) (Nat.le_succ _) (.int .i64 k)).setCell (p := ⟨N + 1, 2, none⟩) (Nat.le_succ _) (.int .i64 M)).setCell (p := ⟨N + 1, 3, none⟩) (Nat.le_succ _) (.int .i64 R))
   clear hB1
   go_wp2_with fail
   refine bodyPost_ret (v := .agg #[.int .i64 z, .int .i64 k, .int .i64 M, .int .i64 R]) (by simp [results, Tryz.results159, go_sem, a7]) rfl ⟨by rw [HV.out]; try rfl, HB9.out⟩
def psum (a b c e : Int) (kind : Nat) (k : Nat) : Int := isum (([a, b, c, e].take kind).take k)
theorem cellFst_psum (d : PrgD) (kind : Nat) (h1 : 1 ≤ kind) (h2 : kind ≤ 3) : zRd d kind = psum (zCc d) d.hZ.l.length d.mZ.l.length d.rZ.l.length kind 4 := by
 rcases (show kind = 1 ∨ kind = 2 ∨ kind = 3 by omega) with rfl | rfl | rfl <;> simp [zRd, psum, isum] <;> omega
set_option maxRecDepth 100000 in
set_option maxHeartbeats 4000000 in
theorem first_any (d : PrgD) (kind : Nat) (w : World) (hR : PrgR w w.heap.size d) (hB : PrgB d) (h1 : 1 ≤ kind) (h2 : kind ≤ 3) :
  Calls Tryz.prog 160 #[PrgD.v d, .int .i64 kind] w fun e w' => e = .returned (.int .i64 (zRd d kind)) ∧ Below w.heap.size w w' := by
 obtain ⟨N, hN⟩ : ∃ N, w.heap.size = N := ⟨_, rfl⟩
 rw [hN] at hR ⊢
 have F0 := Fr.start w
 rw [hN] at F0
 have HF0 := Hd F0
 have HR := Hd hR
 have HPB := Hd hB
 have HV := Hd (cellFst_psum d kind h1 h2)
 have hn1 := zAf hB
 have hn2 := hB.h
 have hn3 := hB.m
 have hn4 := hB.r
 have hcon : ∀ (W : World) (h : PrgR W W.heap.size d), Calls Tryz.prog 159 #[PrgD.v d] W _ := fun W h => counts_any d W h hB
 have HCon := Hd hcon
 obtain ⟨fa, hfa⟩ : ∃ z, zCc d = z := ⟨_, rfl⟩
 obtain ⟨H, hH⟩ : ∃ z, (d.hZ.l.length : Int) = z := ⟨_, rfl⟩
 obtain ⟨M, hM⟩ : ∃ z, (d.mZ.l.length : Int) = z := ⟨_, rfl⟩
 obtain ⟨R, hRr⟩ : ∃ z, (d.rZ.l.length : Int) = z := ⟨_, rfl⟩
 have hn2' : 0 ≤ H ∧ H ≤ 1000 := by omega
 have hn3' : 0 ≤ M ∧ M ≤ 1000 := by omega
 have hn4' : 0 ≤ R ∧ R ≤ 1000 := by omega
 rw [hfa] at hn1
 rw [hfa, hH, hM, hRr] at HV HCon
 clear hR F0 hB hcon hn2 hn3 hn4 hfa hH hM hRr
 rw [HV.out]
 have hps : ∀ k, k ≤ 4 → 0 ≤ psum fa H M R kind k ∧ psum fa H M R kind k ≤ 2000000 := by
  intro k hk
  rcases (show kind = 1 ∨ kind = 2 ∨ kind = 3 by omega) with rfl | rfl | rfl <;> rcases (show k = 0 ∨ k = 1 ∨ k = 2 ∨ k = 3 ∨ k = 4 by omega) with rfl | rfl | rfl | rfl | rfl <;> simp [psum, isum] <;> omega
 have HPs := Hd hps
 have hst : ∀ (k : Nat) (c : Int), [fa, H, M, R][k]? = some c → psum fa H M R kind (k + 1) = if k < kind then psum fa H M R kind k + c else psum fa H M R kind k := by
  intro k c hc
  have hk : k < 4 := (List.getElem?_eq_some_iff.1 hc).1
  rcases (show kind = 1 ∨ kind = 2 ∨ kind = 3 by omega) with rfl | rfl | rfl <;> rcases (show k = 0 ∨ k = 1 ∨ k = 2 ∨ k = 3 by omega) with rfl | rfl | rfl | rfl <;> (simp at hc; subst hc; simp [psum, isum]) <;> omega
 have HSt := Hd hst
 clear hps hst
 have HIx := Hd (show ∀ (k : Nat), k < 4 → ∀ w, (Instr.index 246 (.agg #[.int .i64 fa, .int .i64 H, .int .i64 M, .int .i64 R]) (.int .i64 k)).run Tryz.prog w = .ok (.int .i64 ([fa, H, M, R].getD k 0)) w by
  intro k hk w
  rcases (show k = 0 ∨ k = 1 ∨ k = 2 ∨ k = 3 by omega) with rfl | rfl | rfl | rfl <;> kernel_rfl)
 unfold PrgD.v PrgD.vs
 go_enter Tryz.func160, Tryz.ntmps160
 go_wp2_with fail
 refine Calls.named ?_
 intro W hW
 have F1 := (HF0.out.alloc _ _).of_eq hW
 simp only [hN] at F1
 obtain ⟨L, hL, F1⟩ := F1.name
 have HF1 := Hd F1
 clear F1 hL hW
 with_reducible refine (HCon.out W (HF1.out.prg HR.out)).mono ?_
 rintro e w1 ⟨rfl, hb1⟩
 have HF2 := Hd (HF1.out.call hb1)
 clear hb1 HF1
 go_wp2_with fail
 go_loopw [5, 10] (fun s i wr => ∃ k : Nat, k ≤ 4 ∧ i = .int .i64 k ∧ s = .int .i64 (psum fa H M R kind k) ∧ Fr N w wr L) (fun _ i _ => 4 - (intOf i).toNat)
 case atStart => exact ⟨0, by omega, rfl, rfl, HF2.out⟩
 case round =>
  obtain ⟨k, hk, rfl, rfl, F⟩ := hrel
  have HF := Hd F
  have hb := HPs.out k hk
  obtain ⟨z, hz⟩ : ∃ z, psum fa H M R kind k = z := ⟨_, rfl⟩
  have HZ := Hd hz
  rw [hz] at hb ⊢
  clear F hz
  by_cases hlt : k < 4
  ·have ix := HIx.out k hlt
   have hk1 : (k : Int) < 4 := by omega
   obtain ⟨x, hx⟩ : ∃ x, [fa, H, M, R].getD k 0 = x := ⟨_, rfl⟩
   have hx2 : [fa, H, M, R][k]? = some x := by rw [← hx]; rcases (show k = 0 ∨ k = 1 ∨ k = 2 ∨ k = 3 by omega) with rfl | rfl | rfl | rfl <;> rfl
   have HS0 := Hd (HSt.out k x hx2)
   have hb2 := HPs.out (k + 1) (by omega)
   rw [HS0.out, HZ.out] at hb2
   rw [hx] at ix
   clear hx hx2
   by_cases c1 : k < kind
   ·have c1' : (k : Int) < kind := by omega
    rw [if_pos c1] at hb2
    have HS2 := Hd (show psum fa H M R kind (k + 1) = z + x by rw [HS0.out, if_pos c1, HZ.out])
    go_wp2_with fail
    go_roundw
    case rel => exact ⟨k + 1, by omega, by go_num, by rw [HS2.out], HF.out⟩
    case measure => simp [intOf]; omega
   ·have c1' : decide ((k : Int) < kind) = false := decide_eq_false (by omega)
    have HS2 := Hd (show psum fa H M R kind (k + 1) = z by rw [HS0.out, if_neg c1, HZ.out])
    go_wp2_with fail
    go_roundw
    case rel => exact ⟨k + 1, by omega, by go_num, by rw [HS2.out], HF.out⟩
    case measure => simp [intOf]; omega
  ·obtain rfl : k = 4 := by omega
   clear hlt
   go_wp2_with fail
   go_returns
   exact ⟨by rw [HZ.out]; try rfl, HF.out.below⟩
end Go.Proofs.YtakgiamhdpgoeaaGreat
