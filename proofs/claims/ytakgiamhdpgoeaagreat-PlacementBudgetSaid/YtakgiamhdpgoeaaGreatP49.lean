/- Lemmas. -/
import Derived.Test.YtakgiamhdpgoeaaGreatP47
import Derived.Test.YtakgiamhdpgoeaaGreatP48
set_option linter.unusedSimpArgs false
namespace Go.Proofs.YtakgiamhdpgoeaaGreat
open Go.RowKit
set_option linter.unusedVariables false
def pPlc (M : Nat) (r : PlcM) (v : Value) (u : World) : Prop := ∃ A cA B cB, v = plcV r A cA B cB ∧ OwnZ u M A cA r.stage ∧ OwnZ u M B cB r.units
theorem pPlc_st {M : Nat} {r : PlcM} : zkb (pPlc M r) := fun v u u' hb ⟨A, cA, B, cB, e, h1, h2⟩ => ⟨A, cA, B, cB, e, h1.below hb, h2.below hb⟩
def pBld (M : Nat) (f : Value → Value) (v : Value) (u : World) : Prop := ∃ g, v = f (.slice (some ⟨g, 0, none⟩) 2 2) ∧ M ≤ g ∧ Blk u g 3 #[.int .i64 0, .int .i64 1]
theorem pBld_st {M : Nat} {f : Value → Value} : zkb (pBld M f) := fun v u u' hb ⟨g, e, h1, h2⟩ => ⟨g, e, h1, h2.below hb h2.lt⟩
set_option maxRecDepth 100000 in
set_option maxHeartbeats 8000000 in
theorem zLa (w : World) : Calls Tryz.prog 7 #[] w fun e w' => e = .returned (.bool true) ∧ Below w.heap.size w w' := by
 obtain ⟨N, hN⟩ : ∃ N, w.heap.size = N := ⟨_, rfl⟩
 rw [hN]
 have F0 := Fr.start w
 rw [hN] at F0
 have HF0 := Hd F0
 clear F0
 go_enter Tryz.func7, Tryz.ntmps7
 go_wp2_with fail
 with_reducible refine (sample_any w).mono ?_
 rintro e w0 ⟨⟨Ns, rfl, hR0⟩, hb0⟩
 have HF1 := Hd (HF0.out.call (by rw [hN]; rw [hN] at hb0; exact hb0))
 obtain ⟨d, hd⟩ : ∃ d, smpD Ns = d := ⟨_, rfl⟩
 have HD := Hd hd
 rw [hd] at hR0 ⊢
 have HR0 := Hd hR0
 have HSd := Hd (show PrgS d by rw [← hd]; exact smp_S Ns)
 clear hd hR0 hb0
 unfold PrgD.v PrgD.vs
 go_upto_region 2 with (fail)
 refine zfa ?_
 intro W1 hW1
 obtain ⟨Nb, hNb0⟩ : ∃ z, w0.heap.size = z := ⟨_, rfl⟩
 have hbW : Below w0.heap.size w0 W1 := by rw [hW1]; exact (Below.refl _ _).alloc (Nat.le_refl _) _
 have HF2 := Hd (HF1.out.call hbW)
 have HBx := Hd (show Blk W1 Nb 31 d.vs by rw [hW1, ← hNb0]; exact Blk.new _ _ _)
 simp only [hNb0]
 obtain ⟨M, hM⟩ : ∃ z, W1.heap.size = z := ⟨_, rfl⟩
 have hNb : Nb < M := by rw [← hM]; exact HBx.out.lt
 have g0 : ∀ i, W1.cell? ⟨Nb, i, none⟩ = _ := fun i => HBx.out.cell i
 have HP := Hd (show ∀ v, Below M W1 v → PrgR v v.heap.size d from fun v hb => ((HR0.out.below hbW).below (hb.mono (by rw [← hM]; exact hbW.size))).more (by have := hbW.size; have := hb.size; omega))
 clear hW1 hbW hNb0
 have hstab : zba ([leq (.agg #[.string d.name, .slice d.hZ.a d.hZ.l.length d.hZ.c, .slice d.mZ.a d.mZ.l.length d.mZ.c, .slice d.rZ.a d.rZ.l.length d.rZ.c, .slice d.aZ.a d.aZ.l.length d.aZ.c, .slice d.tZ.a d.tZ.l.length d.tZ.c, .slice d.sZ.a d.sZ.l.length d.sZ.c, .slice d.cZ.a d.cZ.l.length d.cZ.c, .slice d.dep.a d.dep.l.length d.dep.c]), leq (.agg #[.int .i64 1, .int .i64 4, .int .i64 4, .int .i64 8, .int .i64 8, .int .i64 8, .int .i64 8, .int .i64 8]), lal (pPlc M ⟨2, [], 0, 17, [0, 1]⟩), lal (pLit M 3 2 #[.int .i64 0, .int .i64 1]), lal (pBld M (fun s => .agg #[.int .i64 2, .slice none 0 0, .int .i64 0, .int .i64 17, s])), leq (.bool true), leq (.bool true), leq (.agg #[.string d.name, .slice d.hZ.a d.hZ.l.length d.hZ.c, .slice d.mZ.a d.mZ.l.length d.mZ.c, .slice d.rZ.a d.rZ.l.length d.rZ.c, .slice d.aZ.a d.aZ.l.length d.aZ.c, .slice d.tZ.a d.tZ.l.length d.tZ.c, .slice d.sZ.a d.sZ.l.length d.sZ.c, .slice d.cZ.a d.cZ.l.length d.cZ.c, .slice d.dep.a d.dep.l.length d.dep.c]), leq (.agg #[.int .i64 2, .int .i64 4, .int .i64 4, .int .i64 8, .int .i64 8, .int .i64 8, .int .i64 8, .int .i64 8]), lal (pPlc M ⟨1, [0, 1], 3, 0, []⟩), lal (pLit M 3 2 #[.int .i64 0, .int .i64 1]), lal (pBld M (fun s => .agg #[.int .i64 1, s, .int .i64 3, .int .i64 0, .slice none 0 0])), leq (.bool true), leq (.bool true), leq (.bool true), leq (.agg #[.string d.name, .slice d.hZ.a d.hZ.l.length d.hZ.c, .slice d.mZ.a d.mZ.l.length d.mZ.c, .slice d.rZ.a d.rZ.l.length d.rZ.c, .slice d.aZ.a d.aZ.l.length d.aZ.c, .slice d.tZ.a d.tZ.l.length d.tZ.c, .slice d.sZ.a d.sZ.l.length d.sZ.c, .slice d.cZ.a d.cZ.l.length d.cZ.c, .slice d.dep.a d.dep.l.length d.dep.c]), leq (.agg #[.int .i64 2, .int .i64 4, .int .i64 4, .int .i64 8, .int .i64 8, .int .i64 8, .int .i64 8, .int .i64 8]), lal (pPlc M ⟨3, [], 2, 19, []⟩), leq (.agg #[.int .i64 3, .slice none 0 0, .int .i64 2, .int .i64 19, .slice none 0 0]), leq (.bool true), leq (.bool true), leq (.bool true), leq (.agg #[.string d.name, .slice d.hZ.a d.hZ.l.length d.hZ.c, .slice d.mZ.a d.mZ.l.length d.mZ.c, .slice d.rZ.a d.rZ.l.length d.rZ.c, .slice d.aZ.a d.aZ.l.length d.aZ.c, .slice d.tZ.a d.tZ.l.length d.tZ.c, .slice d.sZ.a d.sZ.l.length d.sZ.c, .slice d.cZ.a d.cZ.l.length d.cZ.c, .slice d.dep.a d.dep.l.length d.dep.c]), leq (.agg #[.int .i64 2, .int .i64 4, .int .i64 4, .int .i64 8, .int .i64 8, .int .i64 8, .int .i64 8, .int .i64 8]), lal (pLit M 3 2 #[.int .i64 0, .int .i64 1]), leq (.bool true), leq (.bool true), leq (.bool true), leq (.agg #[.string d.name, .slice d.hZ.a d.hZ.l.length d.hZ.c, .slice d.mZ.a d.mZ.l.length d.mZ.c, .slice d.rZ.a d.rZ.l.length d.rZ.c, .slice d.aZ.a d.aZ.l.length d.aZ.c, .slice d.tZ.a d.tZ.l.length d.tZ.c, .slice d.sZ.a d.sZ.l.length d.sZ.c, .slice d.cZ.a d.cZ.l.length d.cZ.c, .slice d.dep.a d.dep.l.length d.dep.c]), leq (.agg #[.int .i64 2, .int .i64 4, .int .i64 4, .int .i64 8, .int .i64 8, .int .i64 8, .int .i64 8, .int .i64 8]), lal (pLit M 3 2 #[.int .i64 1, .int .i64 0]), leq (.bool false), leq (.bool true), leq (.bool true), leq (.bool true), leq (.agg #[.int .i64 0, .int .i64 0, .int .i64 0, .int .i64 0, .int .i64 0, .int .i64 0, .int .i64 0, .int .i64 0]), leq (.int .i64 9), leq (.bool true), leq (.bool true), leq (.bool true)]) := zba.cons_ (zea _) (zba.cons_ (zea _) (zba.cons_ (zKd pPlc_st) (zba.cons_ (zKd zYd) (zba.cons_ (zKd pBld_st) (zba.cons_ (zea _) (zba.cons_ (zea _) (zba.cons_ (zea _) (zba.cons_ (zea _) (zba.cons_ (zKd pPlc_st) (zba.cons_ (zKd zYd) (zba.cons_ (zKd pBld_st) (zba.cons_ (zea _) (zba.cons_ (zea _) (zba.cons_ (zea _) (zba.cons_ (zea _) (zba.cons_ (zea _) (zba.cons_ (zKd pPlc_st) (zba.cons_ (zea _) (zba.cons_ (zea _) (zba.cons_ (zea _) (zba.cons_ (zea _) (zba.cons_ (zea _) (zba.cons_ (zea _) (zba.cons_ (zKd zYd) (zba.cons_ (zea _) (zba.cons_ (zea _) (zba.cons_ (zea _) (zba.cons_ (zea _) (zba.cons_ (zea _) (zba.cons_ (zKd zYd) (zba.cons_ (zea _) (zba.cons_ (zea _) (zba.cons_ (zea _) (zba.cons_ (zea _) (zba.cons_ (zea _) (zba.cons_ (zea _) (zba.cons_ (zea _) (zba.cons_ (zea _) (zba.cons_ (zea _) (zba.nil_))))))))))))))))))))))))))))))))))))))))
 have Hq9 := Hd (show ∀ i j, List.contains (Chain.effs ⟨[], [(0, 0), (0, 0), (0, 0), (0, 0), (0, 0), (0, 0), (0, 0), (0, 0), (0, 0), (0, 0), (0, 0), (0, 0), (0, 0), (0, 0), (0, 0), (0, 0), (0, 0), (0, 0), (0, 0), (0, 0), (0, 0), (0, 0), (0, 0), (0, 0), (0, 0), (0, 0), (0, 0), (0, 0), (0, 0), (0, 0), (0, 0), (0, 0), (0, 0), (0, 0), (0, 0), (0, 0), (0, 0), (0, 0), (0, 0), (0, 0)]⟩) i = false → Chain.next ⟨[], [(0, 0), (0, 0), (0, 0), (0, 0), (0, 0), (0, 0), (0, 0), (0, 0), (0, 0), (0, 0), (0, 0), (0, 0), (0, 0), (0, 0), (0, 0), (0, 0), (0, 0), (0, 0), (0, 0), (0, 0), (0, 0), (0, 0), (0, 0), (0, 0), (0, 0), (0, 0), (0, 0), (0, 0), (0, 0), (0, 0), (0, 0), (0, 0), (0, 0), (0, 0), (0, 0), (0, 0), (0, 0), (0, 0), (0, 0), (0, 0)]⟩ i j = j from fun i j h => zya h)
 refine zja ⟨[], [(0, 0), (0, 0), (0, 0), (0, 0), (0, 0), (0, 0), (0, 0), (0, 0), (0, 0), (0, 0), (0, 0), (0, 0), (0, 0), (0, 0), (0, 0), (0, 0), (0, 0), (0, 0), (0, 0), (0, 0), (0, 0), (0, 0), (0, 0), (0, 0), (0, 0), (0, 0), (0, 0), (0, 0), (0, 0), (0, 0), (0, 0), (0, 0), (0, 0), (0, 0), (0, 0), (0, 0), (0, 0), (0, 0), (0, 0), (0, 0)]⟩ (fun (_ : Nat) u => Below M W1 u) ([leq (.agg #[.string d.name, .slice d.hZ.a d.hZ.l.length d.hZ.c, .slice d.mZ.a d.mZ.l.length d.mZ.c, .slice d.rZ.a d.rZ.l.length d.rZ.c, .slice d.aZ.a d.aZ.l.length d.aZ.c, .slice d.tZ.a d.tZ.l.length d.tZ.c, .slice d.sZ.a d.sZ.l.length d.sZ.c, .slice d.cZ.a d.cZ.l.length d.cZ.c, .slice d.dep.a d.dep.l.length d.dep.c]), leq (.agg #[.int .i64 1, .int .i64 4, .int .i64 4, .int .i64 8, .int .i64 8, .int .i64 8, .int .i64 8, .int .i64 8]), lal (pPlc M ⟨2, [], 0, 17, [0, 1]⟩), lal (pLit M 3 2 #[.int .i64 0, .int .i64 1]), lal (pBld M (fun s => .agg #[.int .i64 2, .slice none 0 0, .int .i64 0, .int .i64 17, s])), leq (.bool true), leq (.bool true), leq (.agg #[.string d.name, .slice d.hZ.a d.hZ.l.length d.hZ.c, .slice d.mZ.a d.mZ.l.length d.mZ.c, .slice d.rZ.a d.rZ.l.length d.rZ.c, .slice d.aZ.a d.aZ.l.length d.aZ.c, .slice d.tZ.a d.tZ.l.length d.tZ.c, .slice d.sZ.a d.sZ.l.length d.sZ.c, .slice d.cZ.a d.cZ.l.length d.cZ.c, .slice d.dep.a d.dep.l.length d.dep.c]), leq (.agg #[.int .i64 2, .int .i64 4, .int .i64 4, .int .i64 8, .int .i64 8, .int .i64 8, .int .i64 8, .int .i64 8]), lal (pPlc M ⟨1, [0, 1], 3, 0, []⟩), lal (pLit M 3 2 #[.int .i64 0, .int .i64 1]), lal (pBld M (fun s => .agg #[.int .i64 1, s, .int .i64 3, .int .i64 0, .slice none 0 0])), leq (.bool true), leq (.bool true), leq (.bool true), leq (.agg #[.string d.name, .slice d.hZ.a d.hZ.l.length d.hZ.c, .slice d.mZ.a d.mZ.l.length d.mZ.c, .slice d.rZ.a d.rZ.l.length d.rZ.c, .slice d.aZ.a d.aZ.l.length d.aZ.c, .slice d.tZ.a d.tZ.l.length d.tZ.c, .slice d.sZ.a d.sZ.l.length d.sZ.c, .slice d.cZ.a d.cZ.l.length d.cZ.c, .slice d.dep.a d.dep.l.length d.dep.c]), leq (.agg #[.int .i64 2, .int .i64 4, .int .i64 4, .int .i64 8, .int .i64 8, .int .i64 8, .int .i64 8, .int .i64 8]), lal (pPlc M ⟨3, [], 2, 19, []⟩), leq (.agg #[.int .i64 3, .slice none 0 0, .int .i64 2, .int .i64 19, .slice none 0 0]), leq (.bool true), leq (.bool true), leq (.bool true), leq (.agg #[.string d.name, .slice d.hZ.a d.hZ.l.length d.hZ.c, .slice d.mZ.a d.mZ.l.length d.mZ.c, .slice d.rZ.a d.rZ.l.length d.rZ.c, .slice d.aZ.a d.aZ.l.length d.aZ.c, .slice d.tZ.a d.tZ.l.length d.tZ.c, .slice d.sZ.a d.sZ.l.length d.sZ.c, .slice d.cZ.a d.cZ.l.length d.cZ.c, .slice d.dep.a d.dep.l.length d.dep.c]), leq (.agg #[.int .i64 2, .int .i64 4, .int .i64 4, .int .i64 8, .int .i64 8, .int .i64 8, .int .i64 8, .int .i64 8]), lal (pLit M 3 2 #[.int .i64 0, .int .i64 1]), leq (.bool true), leq (.bool true), leq (.bool true), leq (.agg #[.string d.name, .slice d.hZ.a d.hZ.l.length d.hZ.c, .slice d.mZ.a d.mZ.l.length d.mZ.c, .slice d.rZ.a d.rZ.l.length d.rZ.c, .slice d.aZ.a d.aZ.l.length d.aZ.c, .slice d.tZ.a d.tZ.l.length d.tZ.c, .slice d.sZ.a d.sZ.l.length d.sZ.c, .slice d.cZ.a d.cZ.l.length d.cZ.c, .slice d.dep.a d.dep.l.length d.dep.c]), leq (.agg #[.int .i64 2, .int .i64 4, .int .i64 4, .int .i64 8, .int .i64 8, .int .i64 8, .int .i64 8, .int .i64 8]), lal (pLit M 3 2 #[.int .i64 1, .int .i64 0]), leq (.bool false), leq (.bool true), leq (.bool true), leq (.bool true), leq (.agg #[.int .i64 0, .int .i64 0, .int .i64 0, .int .i64 0, .int .i64 0, .int .i64 0, .int .i64 0, .int .i64 0]), leq (.int .i64 9), leq (.bool true), leq (.bool true), leq (.bool true)]) (by kernel_rfl) (by kernel_rfl) (by kernel_rfl) (by kernel_rfl) ?_ ?_ ?_
 ·exact (by rw [← hM]; exact (Below.refl _ _).drew)
 ·show zQb _ _ _ _ _ _ 0 _
  refine ⟨?_, ?_, ?_, ?_, ?_, ?_, ?_, ?_, ?_, ?_, ?_, ?_, ?_, ?_, ?_, ?_, ?_, ?_, ?_, ?_, ?_, ?_, ?_, ?_, ?_, ?_, ?_, ?_, ?_, ?_, ?_, ?_, ?_, ?_, ?_, ?_, ?_, ?_, ?_, ?_, trivial⟩
  ·intro j hj ρ y u hS hc hf hg hfree hdep
   obtain rfl := jz hj rfl
   rw [Hq9.out _ 0 rfl]
   have e1 : ρ (.tmp 1) = .pointer (some ⟨Nb, 0, none⟩) := hfree 1 rfl
   refine ⟨fun _ => ?_, zaa rfl⟩
   clear hdep hfree hj
   have d0 : ∀ i, u.cell? ⟨Nb, i, none⟩ = _ := fun i => (hS.cell (p := ⟨Nb, i, none⟩) hNb).trans (g0 i)
   go_simp
   exact ⟨rfl, hS, KL hstab⟩
  ·intro j hj ρ y u hS hc hf hg hfree hdep
   obtain rfl := jz hj rfl
   rw [Hq9.out _ 0 rfl]
   refine ⟨fun _ => ?_, zaa rfl⟩
   clear hdep hfree hj
   have hS0 : Below M W1 u := hS
   have hMu : M ≤ u.heap.size := by have := hS0.size; omega
   have hcon := zld 1 u
   unfold chipV zRa at hcon
   go_simp
   refine zha hcon ?_
   rintro e w' ⟨rfl, hb3⟩
   exact ⟨_, rfl, rfl, hS0.trans (hb3.mono hMu), KeepL.below hb3 _ _ 0 hstab⟩
  ·intro j hj ρ y u hS hc hf hg hfree hdep
   obtain rfl := jz hj rfl
   rw [Hq9.out _ 0 rfl]
   have e3 : ρ (.tmp 3) = _ := (hdep 0 _ 3 rfl rfl rfl).1
   have e4 : ρ (.tmp 4) = _ := (hdep 1 _ 4 rfl rfl rfl).1
   refine ⟨fun _ => ?_, zaa rfl⟩
   clear hdep hfree hj
   have hS0 : Below M W1 u := hS
   have hMu : M ≤ u.heap.size := by have := hS0.size; omega
   have hcon := zDc d (zRa 1) 9 u (HP.out u hS0) HSd.out (by unfold I64; omega)
   unfold PrgD.v PrgD.vs chipV at hcon
   simp only [zRa] at hcon
   go_simp
   refine zha hcon ?_
   rintro e w' ⟨⟨r, A, cA, B, cB, rfl, hpm, hoa, hob⟩, hb3⟩
   have hr := smp_place1 (N := Ns) (by rw [HD.out]; exact hpm)
   subst hr
   exact ⟨_, rfl, ⟨A, cA, B, cB, rfl, Own.rebase hoa hMu, Own.rebase hob hMu⟩, hS0.trans (hb3.mono hMu), KeepL.below hb3 _ _ 0 hstab⟩
  ·intro j hj ρ y u hS hc hf hg hfree hdep
   obtain rfl := jz hj rfl
   rw [Hq9.out _ 0 rfl]
   refine ⟨fun _ => ?_, zaa rfl⟩
   clear hdep hfree hj
   have hS0 : Below M W1 u := hS
   have hMu : M ≤ u.heap.size := by have := hS0.size; omega
   go_simp
   exact ⟨⟨u.heap.size, rfl, hMu, Blk.new _ _ _⟩, hS0.alloc hMu _, KeepL.below ((Below.refl _ _).alloc (Nat.le_refl _) _) _ _ 0 hstab⟩
  ·intro j hj ρ y u hS hc hf hg hfree hdep
   obtain rfl := jz hj rfl
   rw [Hq9.out _ 0 rfl]
   have r6 := (hdep 3 _ 6 rfl rfl rfl).1
   refine ⟨fun _ => ?_, zaa rfl⟩
   clear hdep hfree hj
   obtain ⟨gl, e6', hgl, hBl⟩ := r6
   go_simp
   exact ⟨⟨gl, rfl, hgl, hBl⟩, hS, KL hstab⟩
  ·intro j hj ρ y u hS hc hf hg hfree hdep
   obtain rfl := jz hj rfl
   rw [Hq9.out _ 0 rfl]
   have r5 := (hdep 2 _ 5 rfl rfl rfl).1
   have r7 := (hdep 4 _ 7 rfl rfl rfl).1
   refine ⟨fun _ => ?_, zaa rfl⟩
   clear hdep hfree hj
   have hS0 : Below M W1 u := hS
   have hMu : M ≤ u.heap.size := by have := hS0.size; omega
   obtain ⟨A, cA, B, cB, e5', hoa, hob⟩ := r5
   obtain ⟨gl, e7', hgl, hBl⟩ := r7
   have hsr : SLR u u.heap.size 1 intE (fun _ => True) ⟨some ⟨gl, 0, none⟩, 2, [0, 1]⟩ := zoa hBl hBl.lt [0, 1] rfl zna (by simp [maxLen]) (fun _ _ => trivial)
   have hcon := same_any ⟨2, [], 0, 17, [0, 1]⟩ ⟨2, [], 0, 17, [0, 1]⟩ A B none (some ⟨gl, 0, none⟩) cA cB 0 2 u (OwnZ.slr hoa fun _ _ => trivial) (OwnZ.slr hob fun _ _ => trivial) (SLR.nil_ _) hsr
   rw [zae] at hcon
   unfold plcV at hcon e5'
   simp only [List.length_cons, List.length_nil, Nat.zero_add, Nat.reduceAdd] at hcon e5'
   go_simp
   refine zha hcon ?_
   rintro e w' ⟨rfl, hb3⟩
   exact ⟨_, rfl, rfl, hS0.trans (hb3.mono hMu), KeepL.below hb3 _ _ 0 hstab⟩
  ·intro j hj ρ y u hS hc hf hg hfree hdep
   obtain rfl := jz hj rfl
   rw [Hq9.out _ 0 rfl]
   have e8 : ρ (.tmp 8) = _ := (hdep 5 _ 8 rfl rfl rfl).1
   refine ⟨fun _ => ?_, zaa rfl⟩
   clear hdep hfree hj
   go_simp
   exact ⟨rfl, hS, KL hstab⟩
  ·intro j hj ρ y u hS hc hf hg hfree hdep
   obtain rfl := jz hj rfl
   rw [Hq9.out _ 0 rfl]
   have e1 : ρ (.tmp 1) = .pointer (some ⟨Nb, 0, none⟩) := hfree 1 rfl
   have hy := (hdep 6 _ 9 rfl rfl rfl).2
   rw [show ρ (.tmp 9) = .bool true from (hdep 6 _ 9 rfl rfl rfl).1] at hy
   refine ⟨fun _ => ?_, zsa rfl hy⟩
   clear hy
   clear hdep hfree hj
   have d0 : ∀ i, u.cell? ⟨Nb, i, none⟩ = _ := fun i => (hS.cell (p := ⟨Nb, i, none⟩) hNb).trans (g0 i)
   go_simp
   exact ⟨rfl, hS, KL hstab⟩
  ·intro j hj ρ y u hS hc hf hg hfree hdep
   obtain rfl := jz hj rfl
   rw [Hq9.out _ 0 rfl]
   have hy := (hdep 6 _ 9 rfl rfl rfl).2
   rw [show ρ (.tmp 9) = .bool true from (hdep 6 _ 9 rfl rfl rfl).1] at hy
   refine ⟨fun _ => ?_, zsa rfl hy⟩
   clear hy
   clear hdep hfree hj
   have hS0 : Below M W1 u := hS
   have hMu : M ≤ u.heap.size := by have := hS0.size; omega
   have hcon := zld 2 u
   unfold chipV zRa at hcon
   go_simp
   refine zha hcon ?_
   rintro e w' ⟨rfl, hb3⟩
   exact ⟨_, rfl, rfl, hS0.trans (hb3.mono hMu), KeepL.below hb3 _ _ 0 hstab⟩
  ·intro j hj ρ y u hS hc hf hg hfree hdep
   obtain rfl := jz hj rfl
   rw [Hq9.out _ 0 rfl]
   have e10 : ρ (.tmp 10) = _ := (hdep 7 _ 10 rfl rfl rfl).1
   have e11 : ρ (.tmp 11) = _ := (hdep 8 _ 11 rfl rfl rfl).1
   have hy := (hdep 6 _ 9 rfl rfl rfl).2
   rw [show ρ (.tmp 9) = .bool true from (hdep 6 _ 9 rfl rfl rfl).1] at hy
   refine ⟨fun _ => ?_, zsa rfl hy⟩
   clear hy
   clear hdep hfree hj
   have hS0 : Below M W1 u := hS
   have hMu : M ≤ u.heap.size := by have := hS0.size; omega
   have hcon := zDc d (zRa 2) 9 u (HP.out u hS0) HSd.out (by unfold I64; omega)
   unfold PrgD.v PrgD.vs chipV at hcon
   simp only [zRa] at hcon
   go_simp
   refine zha hcon ?_
   rintro e w' ⟨⟨r, A, cA, B, cB, rfl, hpm, hoa, hob⟩, hb3⟩
   have hr := smp_place2 (N := Ns) (by rw [HD.out]; exact hpm)
   subst hr
   exact ⟨_, rfl, ⟨A, cA, B, cB, rfl, Own.rebase hoa hMu, Own.rebase hob hMu⟩, hS0.trans (hb3.mono hMu), KeepL.below hb3 _ _ 0 hstab⟩
  ·intro j hj ρ y u hS hc hf hg hfree hdep
   obtain rfl := jz hj rfl
   rw [Hq9.out _ 0 rfl]
   have hy := (hdep 6 _ 9 rfl rfl rfl).2
   rw [show ρ (.tmp 9) = .bool true from (hdep 6 _ 9 rfl rfl rfl).1] at hy
   refine ⟨fun _ => ?_, zsa rfl hy⟩
   clear hy
   clear hdep hfree hj
   have hS0 : Below M W1 u := hS
   have hMu : M ≤ u.heap.size := by have := hS0.size; omega
   go_simp
   exact ⟨⟨u.heap.size, rfl, hMu, Blk.new _ _ _⟩, hS0.alloc hMu _, KeepL.below ((Below.refl _ _).alloc (Nat.le_refl _) _) _ _ 0 hstab⟩
  ·intro j hj ρ y u hS hc hf hg hfree hdep
   obtain rfl := jz hj rfl
   rw [Hq9.out _ 0 rfl]
   have r13 := (hdep 10 _ 13 rfl rfl rfl).1
   have hy := (hdep 6 _ 9 rfl rfl rfl).2
   rw [show ρ (.tmp 9) = .bool true from (hdep 6 _ 9 rfl rfl rfl).1] at hy
   refine ⟨fun _ => ?_, zsa rfl hy⟩
   clear hy
   clear hdep hfree hj
   obtain ⟨gl, e13', hgl, hBl⟩ := r13
   go_simp
   exact ⟨⟨gl, rfl, hgl, hBl⟩, hS, KL hstab⟩
  ·intro j hj ρ y u hS hc hf hg hfree hdep
   obtain rfl := jz hj rfl
   rw [Hq9.out _ 0 rfl]
   have r12 := (hdep 9 _ 12 rfl rfl rfl).1
   have r14 := (hdep 11 _ 14 rfl rfl rfl).1
   have hy := (hdep 6 _ 9 rfl rfl rfl).2
   rw [show ρ (.tmp 9) = .bool true from (hdep 6 _ 9 rfl rfl rfl).1] at hy
   refine ⟨fun _ => ?_, zsa rfl hy⟩
   clear hy
   clear hdep hfree hj
   have hS0 : Below M W1 u := hS
   have hMu : M ≤ u.heap.size := by have := hS0.size; omega
   obtain ⟨A, cA, B, cB, e12', hoa, hob⟩ := r12
   obtain ⟨gl, e14', hgl, hBl⟩ := r14
   have hsr : SLR u u.heap.size 1 intE (fun _ => True) ⟨some ⟨gl, 0, none⟩, 2, [0, 1]⟩ := zoa hBl hBl.lt [0, 1] rfl zna (by simp [maxLen]) (fun _ _ => trivial)
   have hcon := same_any ⟨1, [0, 1], 3, 0, []⟩ ⟨1, [0, 1], 3, 0, []⟩ A B (some ⟨gl, 0, none⟩) none cA cB 2 0 u (OwnZ.slr hoa fun _ _ => trivial) (OwnZ.slr hob fun _ _ => trivial) hsr (SLR.nil_ _)
   rw [zae] at hcon
   unfold plcV at hcon e12'
   simp only [List.length_cons, List.length_nil, Nat.zero_add, Nat.reduceAdd] at hcon e12'
   go_simp
   refine zha hcon ?_
   rintro e w' ⟨rfl, hb3⟩
   exact ⟨_, rfl, rfl, hS0.trans (hb3.mono hMu), KeepL.below hb3 _ _ 0 hstab⟩
  ·intro j hj ρ y u hS hc hf hg hfree hdep
   obtain rfl := jz hj rfl
   rw [Hq9.out _ 0 rfl]
   have e9 : ρ (.tmp 9) = _ := (hdep 6 _ 9 rfl rfl rfl).1
   have e15 : ρ (.tmp 15) = _ := (hdep 12 _ 15 rfl rfl rfl).1
   refine ⟨fun _ => ?_, zaa rfl⟩
   clear hdep hfree hj
   go_simp
   exact ⟨rfl, hS, KL hstab⟩
  ·intro j hj ρ y u hS hc hf hg hfree hdep
   obtain rfl := jz hj rfl
   rw [Hq9.out _ 0 rfl]
   have e16 : ρ (.tmp 16) = _ := (hdep 13 _ 16 rfl rfl rfl).1
   refine ⟨fun _ => ?_, zaa rfl⟩
   clear hdep hfree hj
   go_simp
   exact ⟨rfl, hS, KL hstab⟩
  ·intro j hj ρ y u hS hc hf hg hfree hdep
   obtain rfl := jz hj rfl
   rw [Hq9.out _ 0 rfl]
   have e1 : ρ (.tmp 1) = .pointer (some ⟨Nb, 0, none⟩) := hfree 1 rfl
   have hy := (hdep 14 _ 17 rfl rfl rfl).2
   rw [show ρ (.tmp 17) = .bool true from (hdep 14 _ 17 rfl rfl rfl).1] at hy
   refine ⟨fun _ => ?_, zsa rfl hy⟩
   clear hy
   clear hdep hfree hj
   have d0 : ∀ i, u.cell? ⟨Nb, i, none⟩ = _ := fun i => (hS.cell (p := ⟨Nb, i, none⟩) hNb).trans (g0 i)
   go_simp
   exact ⟨rfl, hS, KL hstab⟩
  ·intro j hj ρ y u hS hc hf hg hfree hdep
   obtain rfl := jz hj rfl
   rw [Hq9.out _ 0 rfl]
   have hy := (hdep 14 _ 17 rfl rfl rfl).2
   rw [show ρ (.tmp 17) = .bool true from (hdep 14 _ 17 rfl rfl rfl).1] at hy
   refine ⟨fun _ => ?_, zsa rfl hy⟩
   clear hy
   clear hdep hfree hj
   have hS0 : Below M W1 u := hS
   have hMu : M ≤ u.heap.size := by have := hS0.size; omega
   have hcon := zld 2 u
   unfold chipV zRa at hcon
   go_simp
   refine zha hcon ?_
   rintro e w' ⟨rfl, hb3⟩
   exact ⟨_, rfl, rfl, hS0.trans (hb3.mono hMu), KeepL.below hb3 _ _ 0 hstab⟩
  ·intro j hj ρ y u hS hc hf hg hfree hdep
   obtain rfl := jz hj rfl
   rw [Hq9.out _ 0 rfl]
   have e18 : ρ (.tmp 18) = _ := (hdep 15 _ 18 rfl rfl rfl).1
   have e19 : ρ (.tmp 19) = _ := (hdep 16 _ 19 rfl rfl rfl).1
   have hy := (hdep 14 _ 17 rfl rfl rfl).2
   rw [show ρ (.tmp 17) = .bool true from (hdep 14 _ 17 rfl rfl rfl).1] at hy
   refine ⟨fun _ => ?_, zsa rfl hy⟩
   clear hy
   clear hdep hfree hj
   have hS0 : Below M W1 u := hS
   have hMu : M ≤ u.heap.size := by have := hS0.size; omega
   have hcon := zDc d (zRa 2) 2 u (HP.out u hS0) HSd.out (by unfold I64; omega)
   unfold PrgD.v PrgD.vs chipV at hcon
   simp only [zRa] at hcon
   go_simp
   refine zha hcon ?_
   rintro e w' ⟨⟨r, A, cA, B, cB, rfl, hpm, hoa, hob⟩, hb3⟩
   have hr := smp_place3 (N := Ns) (by rw [HD.out]; exact hpm)
   subst hr
   exact ⟨_, rfl, ⟨A, cA, B, cB, rfl, Own.rebase hoa hMu, Own.rebase hob hMu⟩, hS0.trans (hb3.mono hMu), KeepL.below hb3 _ _ 0 hstab⟩
  ·intro j hj ρ y u hS hc hf hg hfree hdep
   obtain rfl := jz hj rfl
   rw [Hq9.out _ 0 rfl]
   have hy := (hdep 14 _ 17 rfl rfl rfl).2
   rw [show ρ (.tmp 17) = .bool true from (hdep 14 _ 17 rfl rfl rfl).1] at hy
   refine ⟨fun _ => ?_, zsa rfl hy⟩
   clear hy
   clear hdep hfree hj
   go_simp
   exact ⟨rfl, hS, KL hstab⟩
  ·intro j hj ρ y u hS hc hf hg hfree hdep
   obtain rfl := jz hj rfl
   rw [Hq9.out _ 0 rfl]
   have r20 := (hdep 17 _ 20 rfl rfl rfl).1
   have e21 : ρ (.tmp 21) = _ := (hdep 18 _ 21 rfl rfl rfl).1
   have hy := (hdep 14 _ 17 rfl rfl rfl).2
   rw [show ρ (.tmp 17) = .bool true from (hdep 14 _ 17 rfl rfl rfl).1] at hy
   refine ⟨fun _ => ?_, zsa rfl hy⟩
   clear hy
   clear hdep hfree hj
   have hS0 : Below M W1 u := hS
   have hMu : M ≤ u.heap.size := by have := hS0.size; omega
   obtain ⟨A, cA, B, cB, e20', hoa, hob⟩ := r20
   have hcon := same_any ⟨3, [], 2, 19, []⟩ ⟨3, [], 2, 19, []⟩ A B none none cA cB 0 0 u (OwnZ.slr hoa fun _ _ => trivial) (OwnZ.slr hob fun _ _ => trivial) (SLR.nil_ _) (SLR.nil_ _)
   rw [zae] at hcon
   unfold plcV at hcon e20'
   simp only [List.length_cons, List.length_nil, Nat.zero_add, Nat.reduceAdd] at hcon e20'
   go_simp
   refine zha hcon ?_
   rintro e w' ⟨rfl, hb3⟩
   exact ⟨_, rfl, rfl, hS0.trans (hb3.mono hMu), KeepL.below hb3 _ _ 0 hstab⟩
  ·intro j hj ρ y u hS hc hf hg hfree hdep
   obtain rfl := jz hj rfl
   rw [Hq9.out _ 0 rfl]
   have e17 : ρ (.tmp 17) = _ := (hdep 14 _ 17 rfl rfl rfl).1
   have e22 : ρ (.tmp 22) = _ := (hdep 19 _ 22 rfl rfl rfl).1
   refine ⟨fun _ => ?_, zaa rfl⟩
   clear hdep hfree hj
   go_simp
   exact ⟨rfl, hS, KL hstab⟩
  ·intro j hj ρ y u hS hc hf hg hfree hdep
   obtain rfl := jz hj rfl
   rw [Hq9.out _ 0 rfl]
   have e23 : ρ (.tmp 23) = _ := (hdep 20 _ 23 rfl rfl rfl).1
   refine ⟨fun _ => ?_, zaa rfl⟩
   clear hdep hfree hj
   go_simp
   exact ⟨rfl, hS, KL hstab⟩
  ·intro j hj ρ y u hS hc hf hg hfree hdep
   obtain rfl := jz hj rfl
   rw [Hq9.out _ 0 rfl]
   have e1 : ρ (.tmp 1) = .pointer (some ⟨Nb, 0, none⟩) := hfree 1 rfl
   have hy := (hdep 21 _ 24 rfl rfl rfl).2
   rw [show ρ (.tmp 24) = .bool true from (hdep 21 _ 24 rfl rfl rfl).1] at hy
   refine ⟨fun _ => ?_, zsa rfl hy⟩
   clear hy
   clear hdep hfree hj
   have d0 : ∀ i, u.cell? ⟨Nb, i, none⟩ = _ := fun i => (hS.cell (p := ⟨Nb, i, none⟩) hNb).trans (g0 i)
   go_simp
   exact ⟨rfl, hS, KL hstab⟩
  ·intro j hj ρ y u hS hc hf hg hfree hdep
   obtain rfl := jz hj rfl
   rw [Hq9.out _ 0 rfl]
   have hy := (hdep 21 _ 24 rfl rfl rfl).2
   rw [show ρ (.tmp 24) = .bool true from (hdep 21 _ 24 rfl rfl rfl).1] at hy
   refine ⟨fun _ => ?_, zsa rfl hy⟩
   clear hy
   clear hdep hfree hj
   have hS0 : Below M W1 u := hS
   have hMu : M ≤ u.heap.size := by have := hS0.size; omega
   have hcon := zld 2 u
   unfold chipV zRa at hcon
   go_simp
   refine zha hcon ?_
   rintro e w' ⟨rfl, hb3⟩
   exact ⟨_, rfl, rfl, hS0.trans (hb3.mono hMu), KeepL.below hb3 _ _ 0 hstab⟩
  ·intro j hj ρ y u hS hc hf hg hfree hdep
   obtain rfl := jz hj rfl
   rw [Hq9.out _ 0 rfl]
   have hy := (hdep 21 _ 24 rfl rfl rfl).2
   rw [show ρ (.tmp 24) = .bool true from (hdep 21 _ 24 rfl rfl rfl).1] at hy
   refine ⟨fun _ => ?_, zsa rfl hy⟩
   clear hy
   clear hdep hfree hj
   have hS0 : Below M W1 u := hS
   have hMu : M ≤ u.heap.size := by have := hS0.size; omega
   go_simp
   exact ⟨⟨u.heap.size, rfl, hMu, Blk.new _ _ _⟩, hS0.alloc hMu _, KeepL.below ((Below.refl _ _).alloc (Nat.le_refl _) _) _ _ 0 hstab⟩
  ·intro j hj ρ y u hS hc hf hg hfree hdep
   obtain rfl := jz hj rfl
   rw [Hq9.out _ 0 rfl]
   have e25 : ρ (.tmp 25) = _ := (hdep 22 _ 25 rfl rfl rfl).1
   have e26 : ρ (.tmp 26) = _ := (hdep 23 _ 26 rfl rfl rfl).1
   have r27 := (hdep 24 _ 27 rfl rfl rfl).1
   have hy := (hdep 21 _ 24 rfl rfl rfl).2
   rw [show ρ (.tmp 24) = .bool true from (hdep 21 _ 24 rfl rfl rfl).1] at hy
   refine ⟨fun _ => ?_, zsa rfl hy⟩
   clear hy
   clear hdep hfree hj
   have hS0 : Below M W1 u := hS
   have hMu : M ≤ u.heap.size := by have := hS0.size; omega
   obtain ⟨gl, e27', hgl, hBl⟩ := r27
   have hsr : SLR u u.heap.size 1 intE (fun _ => True) ⟨some ⟨gl, 0, none⟩, 2, [0, 1]⟩ := zoa hBl hBl.lt [0, 1] rfl zna (by simp [maxLen]) (fun _ _ => trivial)
   have hcon := zud d (zRa 2) ⟨some ⟨gl, 0, none⟩, 2, [0, 1]⟩ u (HP.out u hS0) HSd.out hsr
   rw [← HD.out, zNc, zbe, smp_valid1, HD.out] at hcon
   unfold PrgD.v PrgD.vs chipV at hcon
   simp only [zRa, List.length_cons, List.length_nil, Nat.zero_add, Nat.reduceAdd] at hcon
   go_simp
   refine zha hcon ?_
   rintro e w' ⟨rfl, hb3⟩
   exact ⟨_, rfl, rfl, hS0.trans (hb3.mono hMu), KeepL.below hb3 _ _ 0 hstab⟩
  ·intro j hj ρ y u hS hc hf hg hfree hdep
   obtain rfl := jz hj rfl
   rw [Hq9.out _ 0 rfl]
   have e24 : ρ (.tmp 24) = _ := (hdep 21 _ 24 rfl rfl rfl).1
   have e28 : ρ (.tmp 28) = _ := (hdep 25 _ 28 rfl rfl rfl).1
   refine ⟨fun _ => ?_, zaa rfl⟩
   clear hdep hfree hj
   go_simp
   exact ⟨rfl, hS, KL hstab⟩
  ·intro j hj ρ y u hS hc hf hg hfree hdep
   obtain rfl := jz hj rfl
   rw [Hq9.out _ 0 rfl]
   have e29 : ρ (.tmp 29) = _ := (hdep 26 _ 29 rfl rfl rfl).1
   refine ⟨fun _ => ?_, zaa rfl⟩
   clear hdep hfree hj
   go_simp
   exact ⟨rfl, hS, KL hstab⟩
  ·intro j hj ρ y u hS hc hf hg hfree hdep
   obtain rfl := jz hj rfl
   rw [Hq9.out _ 0 rfl]
   have e1 : ρ (.tmp 1) = .pointer (some ⟨Nb, 0, none⟩) := hfree 1 rfl
   have hy := (hdep 27 _ 30 rfl rfl rfl).2
   rw [show ρ (.tmp 30) = .bool true from (hdep 27 _ 30 rfl rfl rfl).1] at hy
   refine ⟨fun _ => ?_, zsa rfl hy⟩
   clear hy
   clear hdep hfree hj
   have d0 : ∀ i, u.cell? ⟨Nb, i, none⟩ = _ := fun i => (hS.cell (p := ⟨Nb, i, none⟩) hNb).trans (g0 i)
   go_simp
   exact ⟨rfl, hS, KL hstab⟩
  ·intro j hj ρ y u hS hc hf hg hfree hdep
   obtain rfl := jz hj rfl
   rw [Hq9.out _ 0 rfl]
   have hy := (hdep 27 _ 30 rfl rfl rfl).2
   rw [show ρ (.tmp 30) = .bool true from (hdep 27 _ 30 rfl rfl rfl).1] at hy
   refine ⟨fun _ => ?_, zsa rfl hy⟩
   clear hy
   clear hdep hfree hj
   have hS0 : Below M W1 u := hS
   have hMu : M ≤ u.heap.size := by have := hS0.size; omega
   have hcon := zld 2 u
   unfold chipV zRa at hcon
   go_simp
   refine zha hcon ?_
   rintro e w' ⟨rfl, hb3⟩
   exact ⟨_, rfl, rfl, hS0.trans (hb3.mono hMu), KeepL.below hb3 _ _ 0 hstab⟩
  ·intro j hj ρ y u hS hc hf hg hfree hdep
   obtain rfl := jz hj rfl
   rw [Hq9.out _ 0 rfl]
   have hy := (hdep 27 _ 30 rfl rfl rfl).2
   rw [show ρ (.tmp 30) = .bool true from (hdep 27 _ 30 rfl rfl rfl).1] at hy
   refine ⟨fun _ => ?_, zsa rfl hy⟩
   clear hy
   clear hdep hfree hj
   have hS0 : Below M W1 u := hS
   have hMu : M ≤ u.heap.size := by have := hS0.size; omega
   go_simp
   exact ⟨⟨u.heap.size, rfl, hMu, Blk.new _ _ _⟩, hS0.alloc hMu _, KeepL.below ((Below.refl _ _).alloc (Nat.le_refl _) _) _ _ 0 hstab⟩
  ·intro j hj ρ y u hS hc hf hg hfree hdep
   obtain rfl := jz hj rfl
   rw [Hq9.out _ 0 rfl]
   have e31 : ρ (.tmp 31) = _ := (hdep 28 _ 31 rfl rfl rfl).1
   have e32 : ρ (.tmp 32) = _ := (hdep 29 _ 32 rfl rfl rfl).1
   have r33 := (hdep 30 _ 33 rfl rfl rfl).1
   have hy := (hdep 27 _ 30 rfl rfl rfl).2
   rw [show ρ (.tmp 30) = .bool true from (hdep 27 _ 30 rfl rfl rfl).1] at hy
   refine ⟨fun _ => ?_, zsa rfl hy⟩
   clear hy
   clear hdep hfree hj
   have hS0 : Below M W1 u := hS
   have hMu : M ≤ u.heap.size := by have := hS0.size; omega
   obtain ⟨gl, e33', hgl, hBl⟩ := r33
   have hsr : SLR u u.heap.size 1 intE (fun _ => True) ⟨some ⟨gl, 0, none⟩, 2, [1, 0]⟩ := zoa hBl hBl.lt [1, 0] rfl zna (by simp [maxLen]) (fun _ _ => trivial)
   have hcon := zud d (zRa 2) ⟨some ⟨gl, 0, none⟩, 2, [1, 0]⟩ u (HP.out u hS0) HSd.out hsr
   rw [← HD.out, zNc, zbe, smp_valid2, HD.out] at hcon
   unfold PrgD.v PrgD.vs chipV at hcon
   simp only [zRa, List.length_cons, List.length_nil, Nat.zero_add, Nat.reduceAdd] at hcon
   go_simp
   refine zha hcon ?_
   rintro e w' ⟨rfl, hb3⟩
   exact ⟨_, rfl, rfl, hS0.trans (hb3.mono hMu), KeepL.below hb3 _ _ 0 hstab⟩
  ·intro j hj ρ y u hS hc hf hg hfree hdep
   obtain rfl := jz hj rfl
   rw [Hq9.out _ 0 rfl]
   have e34 : ρ (.tmp 34) = _ := (hdep 31 _ 34 rfl rfl rfl).1
   have hy := (hdep 27 _ 30 rfl rfl rfl).2
   rw [show ρ (.tmp 30) = .bool true from (hdep 27 _ 30 rfl rfl rfl).1] at hy
   refine ⟨fun _ => ?_, zsa rfl hy⟩
   clear hy
   clear hdep hfree hj
   go_simp
   exact ⟨rfl, hS, KL hstab⟩
  ·intro j hj ρ y u hS hc hf hg hfree hdep
   obtain rfl := jz hj rfl
   rw [Hq9.out _ 0 rfl]
   have e30 : ρ (.tmp 30) = _ := (hdep 27 _ 30 rfl rfl rfl).1
   have e35 : ρ (.tmp 35) = _ := (hdep 32 _ 35 rfl rfl rfl).1
   refine ⟨fun _ => ?_, zaa rfl⟩
   clear hdep hfree hj
   go_simp
   exact ⟨rfl, hS, KL hstab⟩
  ·intro j hj ρ y u hS hc hf hg hfree hdep
   obtain rfl := jz hj rfl
   rw [Hq9.out _ 0 rfl]
   have e36 : ρ (.tmp 36) = _ := (hdep 33 _ 36 rfl rfl rfl).1
   refine ⟨fun _ => ?_, zaa rfl⟩
   clear hdep hfree hj
   go_simp
   exact ⟨rfl, hS, KL hstab⟩
  ·intro j hj ρ y u hS hc hf hg hfree hdep
   obtain rfl := jz hj rfl
   rw [Hq9.out _ 0 rfl]
   have hy := (hdep 34 _ 37 rfl rfl rfl).2
   rw [show ρ (.tmp 37) = .bool true from (hdep 34 _ 37 rfl rfl rfl).1] at hy
   refine ⟨fun _ => ?_, zsa rfl hy⟩
   clear hy
   clear hdep hfree hj
   go_simp
   exact ⟨rfl, hS, KL hstab⟩
  ·intro j hj ρ y u hS hc hf hg hfree hdep
   obtain rfl := jz hj rfl
   rw [Hq9.out _ 0 rfl]
   have e38 : ρ (.tmp 38) = _ := (hdep 35 _ 38 rfl rfl rfl).1
   have hy := (hdep 34 _ 37 rfl rfl rfl).2
   rw [show ρ (.tmp 37) = .bool true from (hdep 34 _ 37 rfl rfl rfl).1] at hy
   refine ⟨fun _ => ?_, zsa rfl hy⟩
   clear hy
   clear hdep hfree hj
   have hS0 : Below M W1 u := hS
   have hMu : M ≤ u.heap.size := by have := hS0.size; omega
   have hcon := zyc ⟨0, 0, 0, 0, 0, 0, 0, 0⟩ u
   rw [show zAa ⟨0, 0, 0, 0, 0, 0, 0, 0⟩ = 9 by kernel_rfl] at hcon
   unfold chipV at hcon
   go_simp
   refine zha hcon ?_
   rintro e w' ⟨rfl, hb3⟩
   exact ⟨_, rfl, rfl, hS0.trans (hb3.mono hMu), KeepL.below hb3 _ _ 0 hstab⟩
  ·intro j hj ρ y u hS hc hf hg hfree hdep
   obtain rfl := jz hj rfl
   rw [Hq9.out _ 0 rfl]
   have e39 : ρ (.tmp 39) = _ := (hdep 36 _ 39 rfl rfl rfl).1
   have hy := (hdep 34 _ 37 rfl rfl rfl).2
   rw [show ρ (.tmp 37) = .bool true from (hdep 34 _ 37 rfl rfl rfl).1] at hy
   refine ⟨fun _ => ?_, zsa rfl hy⟩
   clear hy
   clear hdep hfree hj
   go_simp
   exact ⟨rfl, hS, KL hstab⟩
  ·intro j hj ρ y u hS hc hf hg hfree hdep
   obtain rfl := jz hj rfl
   rw [Hq9.out _ 0 rfl]
   have e37 : ρ (.tmp 37) = _ := (hdep 34 _ 37 rfl rfl rfl).1
   have e40 : ρ (.tmp 40) = _ := (hdep 37 _ 40 rfl rfl rfl).1
   refine ⟨fun _ => ?_, zaa rfl⟩
   clear hdep hfree hj
   go_simp
   exact ⟨rfl, hS, KL hstab⟩
  ·intro j hj ρ y u hS hc hf hg hfree hdep
   obtain rfl := jz hj rfl
   rw [Hq9.out _ 0 rfl]
   have e41 : ρ (.tmp 41) = _ := (hdep 38 _ 41 rfl rfl rfl).1
   refine ⟨fun _ => ?_, zaa rfl⟩
   clear hdep hfree hj
   go_simp
   exact ⟨rfl, hS, KL hstab⟩
 intro u hS
 rintro _ rfl _ rfl _ r_5 _ r_6 _ r_7 _ rfl _ rfl _ rfl _ rfl _ r_12 _ r_13 _ r_14 _ rfl _ rfl _ rfl _ rfl _ rfl _ r_20 _ rfl _ rfl _ rfl _ rfl _ rfl _ rfl _ r_27 _ rfl _ rfl _ rfl _ rfl _ rfl _ r_33 _ rfl _ rfl _ rfl _ rfl _ rfl _ rfl _ rfl _ rfl _ rfl
 simp only [zxb, Act.put, List.setIfInBounds_toArray, List.set_cons_zero, List.set_cons_succ]
 clear r_5 r_12 r_20 r_6 r_13 r_27 r_33 r_7 r_14 hstab g0 HP
 have HFe := Hd (HF2.out.call (show Below W1.heap.size W1 u by rw [hM]; exact hS))
 go_wp2_with fail
 go_returns
 exact ⟨rfl, HFe.out.below⟩
end Go.Proofs.YtakgiamhdpgoeaaGreat
