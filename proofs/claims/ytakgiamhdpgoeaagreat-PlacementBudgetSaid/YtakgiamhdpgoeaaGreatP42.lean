/- Lemmas. -/
import Derived.Test.YtakgiamhdpgoeaaGreatP41
import Derived.Test.YtakgiamhdpgoeaaGreatP30
set_option linter.unusedSimpArgs false
namespace Go.Proofs.YtakgiamhdpgoeaaGreat
open Go.RowKit
set_option linter.unusedVariables false
theorem SLP.of_ne {α : Type} {w : World} {F : Nat → Prop} {B size : Nat} {enc : α → List Value} {ok : α → Prop} {s : SL α} (h : SLR w B size enc ok s) (hB : B ≤ w.heap.size) (hF : ∀ k, F k → ownB s.a ≠ some k) : SLP w F size enc s :=
 ⟨h.le, h.cap, h.rd.1, fun hn => by
  obtain ⟨ad, e, hb, hc⟩ := h.rd.2 hn
  exact ⟨ad, e, fun h' => hF _ h' (by rw [e]; rfl), by omega, hc⟩⟩
theorem accCells_one (d : PrgD) {α : Type} (q : α → Int × Int) (l : List α) : zwa d ⟨l.map q, [], []⟩ = l.flatMap fun k => zwa d ⟨[q k], [], []⟩ := by
 induction l with
 | nil => rfl
 | cons x l ih =>
  rw [List.flatMap_cons, ← ih, zxd, zxd, zxd]
  simp only [List.map_cons, List.map_nil]
  rw [show ∀ (a : Int) (b : List Int), a :: b = [a] ++ b from fun _ _ => rfl, nnC_app]
  simp [nnC]
set_option maxRecDepth 100000 in
set_option maxHeartbeats 8000000 in
theorem unitReads_any (d : PrgD) (U : UnitD) (w : World) (hR : PrgR w w.heap.size d) (hU : U.ok w w.heap.size) (hcl : U.cond.l.length ≤ 1000) (hPB : PrgB d) (hPC : PrgC d) :
  Calls Tryz.prog 68 #[PrgD.v d, unitV U] w fun e w' => (∃ A c l, e = .returned (.slice A l.length c) ∧ zga l (zhb d U.m) ∧ l.length ≤ 100000 ∧ OwnZ w' w.heap.size A c l) ∧ Below w.heap.size w w' := by
 obtain ⟨N, hN⟩ : ∃ N, w.heap.size = N := ⟨_, rfl⟩
 rw [hN] at hR hU ⊢
 have F0 := Fr.start w
 rw [hN] at F0
 have HF0 := Hd F0
 have HR := Hd hR
 have HU := Hd hU
 have HPb := Hd hPB
 have HPc := Hd hPC
 clear hR hU F0 hPB hPC
 unfold PrgD.v PrgD.vs unitV
 go_enter Tryz.func68, Tryz.ntmps68
 go_upto_region 1 with (fail)
 refine zfa ?_
 intro W1 hW1
 have F1 := ((HF0.out.alloc _ _).alloc _ _).of_eq hW1
 have hz1 : W1.heap.size = N + 2 := by rw [hW1, World.size_alloc, World.size_alloc, hN]
 simp only [World.size_alloc, hN] at F1 ⊢
 obtain ⟨L, hL, F1⟩ := F1.name
 have HL := Hd hL
 have HF1 := Hd F1
 clear F1 hL hW1
 obtain ⟨g0, l0, f0⟩ := HF1.out.c0 HL.out
 obtain ⟨g1, l1, f1⟩ := HF1.out.c1 HL.out
 dsimp only at g0 l0 f0 g1 l1 f1
 go_upto_region 2 with (fail)
 refine zfa ?_
 intro W2 hW2
 have F2 := (HF1.out.alloc _ _).of_eq hW2
 simp only [hz1] at F2 ⊢
 clear g0 l0 f0 g1 l1 f1
 have hA := ColB.mk (N := N) (g := N + 2) (d := d) (cs := ⟨none, 0, []⟩) (by omega) (F2.blk _ (.head _)).2 (Own.none_ _ _ _ _) (HR.out.below F2.below)
 have hz2 : W2.heap.size = N + 3 := by rw [hW2, World.size_alloc, hz1]
 have HPB := Hd (fun i => (F2.cell (g := N) (by rw [HL.out]; exact .tail _ (.tail _ (.head _))) i))
 have HQB := Hd (fun i => (F2.cell (g := N + 1) (by rw [HL.out]; exact .tail _ (.head _)) i))
 have HB2 := Hd F2.below
 have HT0 := Hd (ColTo.refl hA)
 obtain ⟨g, hg⟩ : ∃ z, N + 2 = z := ⟨_, rfl⟩
 have hgN : N + 1 < g := by omega
 have hNg : N ≤ g := by omega
 have hgw : g < W2.heap.size := by omega
 rw [hg] at HT0 ⊢
 clear F2 hA hW2 hz1 hz2 hg HF1 HL
 have HX := Hd (show ∀ W : World, Below N w W → SLR W W.heap.size 3 ExD.enc (fun _ => True) U.cond from fun W hb => (HU.out.cond.below hb).more (Nat.le_trans (by omega) hb.size))
 obtain ⟨b0, b1⟩ : (∀ i, W2.cell? ⟨N, i, none⟩ = _) ∧ (∀ i, W2.cell? ⟨N + 1, i, none⟩ = _) := ⟨HPB.out, HQB.out⟩
 obtain ⟨tz, htz⟩ : ∃ z, U.table = z := ⟨_, rfl⟩
 have HTz := Hd htz
 rw [htz] at b1 HQB ⊢
 clear htz
 by_cases hc : tz = -1
 ·have HV := Hd (show zhb d U.m = zwa d ⟨fieldsOf U.cond.l, zCa U.cond.l, []⟩ by unfold zhb UnitD.m; simp only [HTz.out]; rw [if_pos hc])
  have hc' : (tz == -1) = true := by rw [hc]; rfl
  go_upto_region 3 with (fail)
  obtain ⟨M, hM⟩ : ∃ z, W2.heap.size = z := ⟨_, rfl⟩
  have hgM : g < M := by omega
  have hNM : N ≤ M := by omega
  clear b0 hc'
  have hstab : zba ([leq (.pointer (some ⟨g, 0, none⟩)), leq (.pointer (some ⟨N + 1, 1, none⟩)), leq (.slice U.cond.a U.cond.l.length U.cond.c), lat 0 (pGat (fun u A c l => OwnFR u M A c l) (fieldsOf U.cond.l) U.cond.l.length), leq (.pointer (some ⟨N + 1, 1, none⟩)), leq (.slice U.cond.a U.cond.l.length U.cond.c), lat 0 (pGat (fun u A c l => OwnZ u M A c l) (zCa U.cond.l) U.cond.l.length), lany]) := zba.cons_ (zea _) (zba.cons_ (zea _) (zba.cons_ (zea _) (zba.cons_ (zic (zlg fun _ _ _ _ _ hb ho => Own.below ho hb)) (zba.cons_ (zea _) (zba.cons_ (zea _) (zba.cons_ (zic (zlg fun _ _ _ _ _ hb ho => Own.below ho hb)) (zba.cons_ zfc (zba.nil_))))))))
  have Hq9 := Hd (show ∀ i j, List.contains (Chain.effs ⟨[7], [(0, 0), (0, 0), (0, 0), (0, 0), (0, 0), (0, 0), (0, 0), (0, 0)]⟩) i = false → Chain.next ⟨[7], [(0, 0), (0, 0), (0, 0), (0, 0), (0, 0), (0, 0), (0, 0), (0, 0)]⟩ i j = j from fun i j h => zya h)
  refine zja ⟨[7], [(0, 0), (0, 0), (0, 0), (0, 0), (0, 0), (0, 0), (0, 0), (0, 0)]⟩ (sj (fun u => Below M W2 u) (fun u => ∃ (cs' : SL Int) (L : List Int), ColTo N g d ⟨none, 0, []⟩ cs' L W2 u ∧ zga L (zwa d ⟨fieldsOf U.cond.l, zCa U.cond.l, []⟩) ∧ L.length ≤ 3000)) ([leq (.pointer (some ⟨g, 0, none⟩)), leq (.pointer (some ⟨N + 1, 1, none⟩)), leq (.slice U.cond.a U.cond.l.length U.cond.c), lat 0 (pGat (fun u A c l => OwnFR u M A c l) (fieldsOf U.cond.l) U.cond.l.length), leq (.pointer (some ⟨N + 1, 1, none⟩)), leq (.slice U.cond.a U.cond.l.length U.cond.c), lat 0 (pGat (fun u A c l => OwnZ u M A c l) (zCa U.cond.l) U.cond.l.length), lany]) (by kernel_rfl) (by kernel_rfl) (by kernel_rfl) (by kernel_rfl) ?_ ?_ ?_
  ·exact sj0 (by rw [← hM]; exact (Below.refl _ _).drew)
  ·show zQb _ _ _ _ _ _ 0 _
   refine ⟨?_, ?_, ?_, ?_, ?_, ?_, ?_, ?_, trivial⟩
   ·intro j hj ρ y u hS hc hf hg hfree hdep
    obtain rfl := jz hj rfl
    rw [Hq9.out _ 0 rfl]
    have e5 : ρ (.tmp 5) = .pointer (some ⟨g, 0, none⟩) := hfree 5 rfl
    refine ⟨fun _ => ?_, zaa rfl⟩
    clear hdep hfree hj
    go_simp
    exact ⟨rfl, hS, KL hstab⟩
   ·intro j hj ρ y u hS hc hf hg hfree hdep
    obtain rfl := jz hj rfl
    rw [Hq9.out _ 0 rfl]
    have e3 : ρ (.tmp 3) = .pointer (some ⟨N + 1, 0, none⟩) := hfree 3 rfl
    refine ⟨fun _ => ?_, zaa rfl⟩
    clear hdep hfree hj
    go_simp
    exact ⟨rfl, hS, KL hstab⟩
   ·intro j hj ρ y u hS hc hf hg hfree hdep
    obtain rfl := jz hj rfl
    rw [Hq9.out _ 0 rfl]
    have e19 : ρ (.tmp 19) = _ := (hdep 1 _ 19 rfl rfl rfl).1
    refine ⟨fun _ => ?_, zaa rfl⟩
    clear hdep hfree hj
    have d0 : u.cell? ⟨N + 1, 1, none⟩ = some _ := ((hS.1 rfl).cell (p := ⟨N + 1, 1, none⟩) (by show N + 1 < M; omega)).trans (b1 1)
    go_simp
    exact ⟨rfl, hS, KL hstab⟩
   ·intro j hj ρ y u hS hc hf hg hfree hdep
    obtain rfl := jz hj rfl
    rw [Hq9.out _ 0 rfl]
    have e20 : ρ (.tmp 20) = _ := (hdep 2 _ 20 rfl rfl rfl).1
    refine ⟨fun _ => ?_, zaa rfl⟩
    clear hdep hfree hj
    have hS0 := hS.1 rfl
    have hMu : M ≤ u.heap.size := by have := hS0.size; omega
    go_simp
    refine zha (zrf U.cond u (HX.out u (HB2.out.trans (hS0.mono hNM))) hcl) ?_
    rintro e w' ⟨⟨A3, c3, l3, hs3, hl3, rfl, hO3⟩, hb3⟩
    exact ⟨_, rfl, (fun _ => ⟨A3, c3, l3, rfl, hs3, hl3, Own.rebase hO3 hMu⟩), sj0 (hS0.trans (hb3.mono hMu)), KeepL.below hb3 _ _ 0 hstab⟩
   ·intro j hj ρ y u hS hc hf hg hfree hdep
    obtain rfl := jz hj rfl
    rw [Hq9.out _ 0 rfl]
    have e3 : ρ (.tmp 3) = .pointer (some ⟨N + 1, 0, none⟩) := hfree 3 rfl
    refine ⟨fun _ => ?_, zaa rfl⟩
    clear hdep hfree hj
    go_simp
    exact ⟨rfl, hS, KL hstab⟩
   ·intro j hj ρ y u hS hc hf hg hfree hdep
    obtain rfl := jz hj rfl
    rw [Hq9.out _ 0 rfl]
    have e22 : ρ (.tmp 22) = _ := (hdep 4 _ 22 rfl rfl rfl).1
    refine ⟨fun _ => ?_, zaa rfl⟩
    clear hdep hfree hj
    have d0 : u.cell? ⟨N + 1, 1, none⟩ = some _ := ((hS.1 rfl).cell (p := ⟨N + 1, 1, none⟩) (by show N + 1 < M; omega)).trans (b1 1)
    go_simp
    exact ⟨rfl, hS, KL hstab⟩
   ·intro j hj ρ y u hS hc hf hg hfree hdep
    obtain rfl := jz hj rfl
    rw [Hq9.out _ 0 rfl]
    have e23 : ρ (.tmp 23) = _ := (hdep 5 _ 23 rfl rfl rfl).1
    refine ⟨fun _ => ?_, zaa rfl⟩
    clear hdep hfree hj
    have hS0 := hS.1 rfl
    have hMu : M ≤ u.heap.size := by have := hS0.size; omega
    go_simp
    refine zha (zze U.cond u (HX.out u (HB2.out.trans (hS0.mono hNM))) hcl) ?_
    rintro e w' ⟨⟨A3, c3, l3, hs3, hl3, rfl, hO3⟩, hb3⟩
    exact ⟨_, rfl, (fun _ => ⟨A3, c3, l3, rfl, hs3, hl3, Own.rebase hO3 hMu⟩), sj0 (hS0.trans (hb3.mono hMu)), KeepL.below hb3 _ _ 0 hstab⟩
   ·intro j hj ρ y u hS hc hf hg hfree hdep
    obtain rfl := jz hj rfl
    rw [show Chain.next ⟨[7], [(0, 0), (0, 0), (0, 0), (0, 0), (0, 0), (0, 0), (0, 0), (0, 0)]⟩ 7 0 = 1 from rfl]
    have e18 : ρ (.tmp 18) = _ := (hdep 0 _ 18 rfl rfl rfl).1
    have r21 := (hdep 3 _ 21 rfl rfl rfl).1
    have r24 := (hdep 6 _ 24 rfl rfl rfl).1
    refine ⟨fun _ => ?_, zaa rfl⟩
    clear hdep hfree hj
    have hS0 := hS.1 rfl
    have hMu : M ≤ u.heap.size := by have := hS0.size; omega
    have hSx : Below W2.heap.size W2 u := by rw [hM]; exact hS0
    obtain ⟨A3, c3, l3, e21', hs3, hl3, hO3⟩ := r21 rfl
    obtain ⟨A4, c4, l4, e24', hs4, hl4, hO4⟩ := r24 rfl
    go_simp
    refine zha (add_any N g d ⟨none, 0, []⟩ ⟨A3, c3, l3⟩ ⟨A4, c4, l4⟩ ⟨none, 0, []⟩ u (HT0.out.b.below hSx) HPb.out (SLP.of_own hO3 rfl fun k hk he => by have h1 := (HT0.out.b.foot hk).2; have h2 := (Own.lt hO3 k he).1; omega) (SLP.of_own hO4 rfl fun k hk he => by have h1 := (HT0.out.b.foot hk).2; have h2 := (Own.lt hO4 k he).1; omega) SLP.nil_ (by simp) (by show l3.length ≤ 100000; omega) (by show l4.length ≤ 100000; omega) (by simp)) ?_
    rintro e w' ⟨rfl, cs', hc'⟩
    have hln := zPc d ⟨l3, l4, []⟩
    simp only [List.length_nil] at hln
    exact ⟨_, rfl, trivial, sj1 ⟨cs', _, ((ColTo.refl HT0.out.b).step hSx).trans hc', zid hs3 hs4 (zga.refl _), by rw [List.length_append, List.length_nil]; show 0 + (zwa d ⟨l3, l4, []⟩).length ≤ 3000; omega⟩, ⟨.inr (.inr (fun h => h)), .inr (.inr (fun h => h)), .inr (.inr (fun h => h)), .inr (.inr (fun _ => zbc (by omega))), .inr (.inr (fun h => h)), .inr (.inr (fun h => h)), .inr (.inr (fun _ => zbc (by omega))), .inl rfl, trivial⟩⟩
  intro u hS
  rintro _ rfl _ rfl _ rfl _ r_21 _ rfl _ rfl _ r_24 _ r_25
  simp only [zxb, Act.put, List.setIfInBounds_toArray, List.set_cons_zero, List.set_cons_succ]
  obtain ⟨cs, L, hT, hS1, hL1⟩ := hS.2 rfl
  obtain ⟨W3, hW3⟩ : ∃ z, u = z := ⟨_, rfl⟩
  rw [hW3] at hT ⊢
  have hcl2 := congrArg List.length hT.l
  rw [List.length_append, List.length_nil] at hcl2
  have HT := Hd hT
  have HS1 := Hd hS1
  clear hW3 hT hS1 hS hstab r_21 r_24 r_25 b1
  go_wp2_with fail
  with_reducible refine (zmd N g d cs W3 HT.out.b (by omega)).mono ?_
  rintro e w9 ⟨⟨A, c, l, rfl, hs9, hl9, ho9⟩, hk9⟩
  have hgW := HT.out.b.box.lt
  have HB9 := Hd (show Below N w w9 from (HB2.out.trans (HT.out.kept.below (fun k hk => by have := (HT0.out.b.foot hk).1; omega) (by omega))).trans (hk9.below (fun k hk => by have := (HT.out.b.foot hk).1; omega) (by omega)))
  have HO9 := Hd (Own.rebase (base' := N) ho9 (by omega))
  have HS9 := Hd hs9
  have HCl := Hd HT.out.l
  clear hs9 hk9 ho9
  go_wp2_with fail
  go_returns
  exact ⟨⟨A, c, l, rfl, by rw [HV.out]; refine HS9.out.trans ?_; rw [HCl.out]; exact HS1.out, by omega, HO9.out⟩, HB9.out⟩
 ·have hc' : (tz == -1) = false := by simp [hc]
  go_wp2_with fail
  refine Calls.named ?_
  intro W2b hW2b
  have HBb := Hd (show Below N w W2b by rw [hW2b]; exact HB2.out)
  cases ht : tblOf d U.table with
  | none =>
   have HV := Hd (show zhb d U.m = [] by unfold zhb UnitD.m; simp only [HTz.out, ht] at ht ⊢; rw [if_neg hc]; simp only [ht])
   have hcon := zeg d U W2b (HR.out.below HBb.out |>.more (by have := HBb.out.size; omega)) (tblOf_none ht)
   unfold PrgD.v PrgD.vs unitV at hcon
   rw [HTz.out] at hcon
   with_reducible refine hcon.mono ?_
   clear hcon
   rintro e w1 ⟨rfl, hb1⟩
   have HB3 := Hd (HBb.out.trans (hb1.mono (by have := HBb.out.size; omega)))
   clear hb1 ht b0 b1 hc'
   go_wp2_with fail
   go_returns
   exact ⟨⟨none, 0, [], rfl, by rw [HV.out]; exact zga.refl _, by simp, Own.none_ _ _ _ _⟩, HB3.out.alloc (by have := HB3.out.size; omega) _⟩
  | some x =>
   have HV := Hd (show zhb d U.m = zwa d ⟨x.keys.l.map fun k => (k.h, k.f), [], []⟩ ++ x.aZ.l.flatMap fun a => zwa d (zjd d a) by unfold zhb UnitD.m; simp only [HTz.out, ht] at ht ⊢; rw [if_neg hc]; simp only [ht])
   obtain ⟨hk6, ha16⟩ := tblOf_C HPc.out ht
   obtain ⟨ht0, ht1⟩ := zee ht
   have HXt := Hd (HR.out.tZ.ok x (List.mem_of_getElem? ht1))
   have hcon := zof d U x W2b (HR.out.below HBb.out |>.more (by have := HBb.out.size; omega)) ht0 ht1
   unfold PrgD.v PrgD.vs unitV at hcon
   rw [HTz.out] at hcon
   with_reducible refine hcon.mono ?_
   clear hcon
   rintro e w1 ⟨rfl, hb1⟩
   have HT1 := Hd (show ColTo N g d ⟨none, 0, []⟩ ⟨none, 0, []⟩ [] W2 w1 from HT0.out.step (by rw [← hW2b]; exact hb1))
   have HB3 := Hd (HBb.out.trans (hb1.mono (by have := HBb.out.size; omega)))
   have HP3 := Hd (show ∀ i, w1.cell? ⟨N, i, none⟩ = W2.cell? ⟨N, i, none⟩ from fun i => by rw [← hW2b]; exact hb1.cell (p := ⟨N, i, none⟩) (by show N < W2b.heap.size; rw [hW2b]; omega))
   clear hb1 ht ht0 ht1 b0 b1 hc' hW2b HBb
   go_upto_region 8 with (fail)
   refine zfa ?_
   intro W3 hW3
   obtain ⟨M, hM⟩ : ∃ z, w1.heap.size = z := ⟨_, rfl⟩
   have hbW : Below w1.heap.size w1 W3 := by rw [hW3]; exact (Below.refl _ _).alloc (Nat.le_refl _) _
   have HTm := Hd (ColTo.refl (HT1.out.b.below hbW))
   have HHm := Hd (show Held (ColF g ⟨none, 0, []⟩) W3 [(M, 80, tblCells x)] by
    rw [hW3, ← hM]; exact Held.nil_.alloc (fun k hk => (HT1.out.b.foot hk).2) _ _)
   have HB4 := Hd (HB3.out.trans (hbW.mono (by have := HB3.out.size; omega)))
   have hgw1 := HT1.out.b.box.lt
   have HPB3 := Hd (fun i => (hbW.cell (p := ⟨N, i, none⟩) (by show N < w1.heap.size; omega)).trans ((HP3.out i).trans (HPB.out i)))
   have hgw3 : g < W3.heap.size := by have := hbW.size; omega
   have HKy := Hd (HXt.out.keys.below HB4.out)
   simp only [hM] at hbW ⊢
   clear hW3 hbW hgw1 hgw
   obtain ⟨d0, d1, d2⟩ := Held.at_ HHm.out (.head _)
   have q0 : W3.cell? ⟨M, 1, none⟩ = some (.slice x.keys.a x.keys.l.length x.keys.c) := d0 1
   obtain ⟨xk, hxk⟩ : ∃ z, x.keys = z := ⟨_, rfl⟩
   have HXk := Hd hxk
   rw [hxk] at q0 HV hk6 HKy
   obtain ⟨ka, kc, kl⟩ := xk
   simp only at q0 HV hk6 HKy
   clear hxk d0
   go_wp2_with fail
   go_loopw [39] (fun i wr => ∃ (k : Nat) (cs : SL Int), k ≤ kl.length ∧ i = .int .i64 k ∧ ColTo N g d ⟨none, 0, []⟩ cs ((kl.take k).flatMap fun k => zwa d ⟨[(k.h, k.f)], [], []⟩) W3 wr ∧ Held (ColF g cs) wr [(M, 80, tblCells x)] ∧ cs.l.length ≤ k) (fun i _ => kl.length - (intOf i).toNat)
   case atStart => exact ⟨0, ⟨none, 0, []⟩, Nat.zero_le _, rfl, HTm.out, HHm.out, Nat.le_refl _⟩
   case round =>
    obtain ⟨k, cs, hk, rfl, hT, hH, hcl2⟩ := hrel
    have HT := Hd hT
    have HH := Hd hH
    have hbw : Below g W3 wr := hT.kept.below (fun k hk => (HTm.out.b.foot hk).1) (by omega)
    have HBw := Hd hbw
    have hgr : g < wr.heap.size := hT.b.box.lt
    clear hT hH hbw q0 d1 d2
    by_cases hlt : k < kl.length
    ·obtain ⟨b2, off2, y, hA2, hb2, hy, _, hc2⟩ := (HKy.out.below (HBw.out.mono hNg)).at_ (fun _ => rfl) (by omega) hlt
     have p0 := hc2 0 _ rfl
     have p1 := hc2 1 _ rfl
     have p2 := hc2 2 _ rfl
     simp only [Nat.add_zero] at p0
     simp only at hA2
     have HY := Hd (zJd (fun (k : KeyD) => zwa d ⟨[(k.h, k.f)], [], []⟩) hy)
     have hk1 : (k : Int) < kl.length := by omega
     subst hA2
     clear hc2 hy
     go_upto_region 11 with (fail)
     refine zfa ?_
     intro W4 hW4
     obtain ⟨b9, hb9⟩ : ∃ z, wr.heap.size = z := ⟨_, rfl⟩
     have hbW : Below wr.heap.size wr W4 := by rw [hW4]; exact (Below.refl _ _).alloc (Nat.le_refl _) _
     have HT4 := Hd (HT.out.step hbW)
     have HH4 := Hd (show Held (ColF g cs) W4 [(b9, 98, #[.int .i64 y.h, .int .i64 y.f, .int .i64 y.kind]), (M, 80, tblCells x)] by
      rw [hW4, ← hb9]; exact HH.out.alloc (fun k hk => (HT.out.b.foot hk).2) _ _)
     simp only [hb9] at hbW ⊢
     clear hW4 p0 p1 p2 hbW
     obtain ⟨d0, d1, d2⟩ := Held.at_ HH4.out (.head _)
     go_wp2_with fail
     refine Calls.named ?_
     intro W5 hW5
     obtain ⟨gl, hgl⟩ : ∃ z, W4.heap.size = z := ⟨_, rfl⟩
     have hbW : Below W4.heap.size W4 W5 := by rw [hW5]; exact (Below.refl _ _).alloc (Nat.le_refl _) _
     have hBl : Blk W5 gl 82 #[.int .i64 y.h, .int .i64 y.f] := by rw [hW5, ← hgl]; exact Blk.new _ _ _
     have HT5 := Hd (HT4.out.step hbW)
     have HH5 := Hd (HH4.out.below hbW)
     have hsr : SLR W5 W5.heap.size 2 frE (fun _ => True) ⟨some ⟨gl, 0, none⟩, 1, [(y.h, y.f)]⟩ := zoa hBl hBl.lt [(y.h, y.f)] rfl zab (by simp [maxLen]) (fun _ _ => trivial)
     have hsp : SLP W5 (ColF g cs) 2 frE ⟨some ⟨gl, 0, none⟩, 1, [(y.h, y.f)]⟩ := SLP.of_ne hsr (Nat.le_refl _) fun k hk he => by
      have h1 := (HT4.out.b.foot hk).2
      simp only [ownB, Option.some.injEq, Option.map_some] at he
      omega
     have hcon : Calls Tryz.prog 94 #[.pointer (some ⟨g, 0, none⟩), .slice (some ⟨gl, 0, none⟩) 1 1, .slice none 0 0, .slice none 0 0] W5 fun e w' => e = .returned (.tuple #[]) ∧ ∃ cs', ColTo N g d cs cs' (zwa d ⟨[(y.h, y.f)], [], []⟩) W5 w' :=
      add_any N g d cs ⟨some ⟨gl, 0, none⟩, 1, [(y.h, y.f)]⟩ ⟨none, 0, []⟩ ⟨none, 0, []⟩ W5 HT5.out.b HPb.out hsp SLP.nil_ SLP.nil_ (by omega) (by simp) (by simp) (by simp)
     have HCon := Hd hcon
     simp only [hgl]
     clear hcon hsp hsr hBl hW5 hbW d0 d1 d2
     with_reducible refine HCon.out.mono ?_
     rintro e w6 ⟨rfl, cs2, hc6⟩
     have HT6 := Hd (HT5.out.trans hc6)
     have HH6 := Hd (HH5.out.kept hc6.kept hc6.sub)
     have hl6 : cs2.l.length ≤ k + 1 := by
      have h1 := zPc d ⟨[(y.h, y.f)], [], []⟩
      simp only [List.length_cons, List.length_nil] at h1
      rw [hc6.l, List.length_append]; omega
     clear hc6
     go_wp2_with fail
     go_roundw
     case rel => exact ⟨k + 1, cs2, by omega, by go_num, by rw [HY.out]; exact HT6.out, HH6.out.skip, hl6⟩
     case measure => simp [intOf]; omega
    ·obtain rfl : k = kl.length := by omega
     have hTl := HT.out.l
     rw [List.take_length] at hTl
     have HTl := Hd hTl
     have HT0b := Hd (ColTo.refl HT.out.b)
     have HB5 := Hd (HB4.out.trans (HBw.out.mono hNg))
     have HPB := Hd (fun i => (HBw.out.cell (p := ⟨N, i, none⟩) (by show N < g; omega)).trans (HPB3.out i))
     have HA4 := Hd (HXt.out.aZ.below HB5.out)
     obtain ⟨d0, d1, d2⟩ := Held.at_ HH.out (.head _)
     have q0 : wr.cell? ⟨M, 2, none⟩ = some (.slice x.aZ.a x.aZ.l.length x.aZ.c) := d0 2
     obtain ⟨cs0, hcs0⟩ : ∃ z, cs = z := ⟨_, rfl⟩
     obtain ⟨wk, hwk⟩ : ∃ z, wr = z := ⟨_, rfl⟩
     rw [hcs0] at HTl HT0b hcl2
     rw [hwk] at HT0b HB5 HPB HA4 q0 d1 d2 hgr ⊢
     obtain ⟨xa, hxa⟩ : ∃ z, x.aZ = z := ⟨_, rfl⟩
     rw [hxa] at HA4 HV ha16 q0
     obtain ⟨sa, sc, sl⟩ := xa
     simp only at HA4 HV ha16 q0
     clear d0 hlt hTl HT HH HBw hcs0 hwk hxa HTm HHm HB3 HB4 HP3 HPB3 hk
     go_wp2_with fail
     clear q0 d1 d2
     have hc0 : (cs0 : SL Int).l.length ≤ 10000 := by omega
     go_loopw [52] (fun i wr => ∃ (k : Nat) (cs : SL Int) (L : List Int), k ≤ sl.length ∧ i = .int .i64 k ∧ ColTo N g d cs0 cs L wk wr ∧ zga L ((sl.take k).flatMap fun a => zwa d (zjd d a)) ∧ L.length ≤ 3000 * k) (fun i _ => sl.length - (intOf i).toNat)
     case atStart => exact ⟨0, cs0, [], Nat.zero_le _, rfl, HT0b.out, zga.refl _, Nat.zero_le _⟩
     case round =>
      obtain ⟨k, cs, L, hk, rfl, hT, hS, hL⟩ := hrel
      have HT := Hd hT
      have HS := Hd hS
      have hcl := congrArg List.length hT.l
      rw [List.length_append] at hcl
      have hbw : Below g wk wr := hT.kept.below (fun k hk => (HT0b.out.b.foot hk).1) (by omega)
      have HBw := Hd hbw
      have hgr : g < wr.heap.size := hT.b.box.lt
      clear hT hS hbw
      by_cases hlt : k < sl.length
      ·obtain ⟨b2, off2, a, hA2, hb2, ha, _, hc2⟩ := (HA4.out.below (HBw.out.mono hNg)).at_ zna (by omega) hlt
       have p0 := hc2 0 _ rfl
       simp only [Nat.add_zero, Nat.mul_one] at p0
       simp only at hA2
       have HX := Hd (zJd (fun a => zwa d (zjd d a)) ha)
       have hk1 : (k : Int) < sl.length := by omega
       have v0 : ∀ i, wr.cell? ⟨N, i, none⟩ = _ := fun i => (HBw.out.cell (p := ⟨N, i, none⟩) (by show N < g; omega)).trans (HPB.out i)
       subst hA2
       clear hc2 ha
       go_wp2_with fail
       have hcon := reads_any d a wr (HT.out.b.prg.more (by omega))
       unfold PrgD.v PrgD.vs at hcon
       with_reducible refine hcon.mono ?_
       clear hcon
       rintro e w5 ⟨⟨f, h, r, rfl, hacc, hf1, hh1, hr1, of1, oh1, or1⟩, hb5⟩
       have HT5 := Hd (HT.out.step hb5)
       have hcon := add_any N g d cs f h r w5 HT5.out.b HPb.out (SLP.of_own of1 rfl fun k hk he => by have h1 := (HT.out.b.foot hk).2; have h2 := (Own.lt of1 k he).1; omega) (SLP.of_own oh1 rfl fun k hk he => by have h1 := (HT.out.b.foot hk).2; have h2 := (Own.lt oh1 k he).1; omega) (SLP.of_own or1 rfl fun k hk he => by have h1 := (HT.out.b.foot hk).2; have h2 := (Own.lt or1 k he).1; omega) (by omega) (by omega) (by omega) (by omega)
       have HCon := Hd hcon
       have HAc := Hd hacc
       clear v0 p0 hb5 hacc of1 oh1 or1 hcon
       go_wp2_with fail
       with_reducible refine HCon.out.mono ?_
       rintro e w6 ⟨rfl, cs2, hc6⟩
       have HT6 := Hd (HT5.out.trans hc6)
       have HS6 := Hd (show zga (L ++ zwa d ⟨f.l, h.l, r.l⟩) ((sl.take (k + 1)).flatMap fun a => zwa d (zjd d a)) by
        rw [HX.out]; exact HS.out.app (zid HAc.out.1 HAc.out.2.1 HAc.out.2.2))
       have hl6 : (L ++ zwa d ⟨f.l, h.l, r.l⟩).length ≤ 3000 * (k + 1) := by
        have h1 := zPc d ⟨f.l, h.l, r.l⟩
        simp only at h1
        rw [List.length_append]; omega
       clear hc6
       go_wp2_with fail
       go_roundw
       case rel => exact ⟨k + 1, cs2, _, by omega, by go_num, HT6.out, HS6.out, hl6⟩
       case measure => simp [intOf]; omega
      ·obtain rfl : k = sl.length := by omega
       have hll : cs.l.length ≤ 100000 := by omega
       clear hlt
       go_wp2_with fail
       with_reducible refine (zmd N g d cs wr HT.out.b (by omega)).mono ?_
       rintro e w9 ⟨⟨A, c, l, rfl, hs9, hl9, ho9⟩, hk9⟩
       have HB9 := Hd (show Below N w w9 from (HB5.out.trans (HBw.out.mono hNg)).trans (hk9.below (fun k hk => by have := (HT.out.b.foot hk).1; omega) (by omega)))
       have HO9 := Hd (Own.rebase (base' := N) ho9 (by omega))
       have hSl := HS.out
       rw [List.take_length] at hSl
       have hcsl := HT.out.l
       have HS9 := Hd hs9
       have HSl := Hd hSl
       have HCl := Hd hcsl
       clear hs9 hk9 ho9 hSl hcsl
       go_wp2_with fail
       go_returns
       exact ⟨⟨A, c, l, rfl, by (rw [HV.out]; refine HS9.out.trans ?_; rw [HCl.out, HTl.out, accCells_one]; exact (zga.refl _).app HSl.out), by omega, HO9.out⟩, HB9.out⟩
open Go.RowKit
def lle (m : Nat) (p : Value → World → Prop) : LFact := fun j v u => j ≤ m → p v u
theorem lle_st {m : Nat} {p : Value → World → Prop} (h : zkb p) : ∀ (j : Nat) (v : Value) (u u' : World), Below u.heap.size u u' → lle m p j v u → lle m p j v u' := fun _ v u u' hb hp hj => h v u u' hb (hp hj)
theorem lle_no {m j : Nat} {p : Value → World → Prop} {v : Value} {u : World} (h : m < j) : lle m p j v u := fun e => absurd e (by omega)
theorem gat_set {M g k n j j' : Nat} {L0 : List Int} {v x : Value} {u : World} (hg : g < M) (hj : j ≤ j') (h : lle 1 (pGat (fun u A c l => OwnZ u M A c l) L0 n) j v u) : lle 1 (pGat (fun u A c l => OwnZ u M A c l) L0 n) j' v (u.setCell ⟨g, k, none⟩ x) := fun e => by
 obtain ⟨A, c, l, e1, h1, h2, ho⟩ := h (by omega)
 refine ⟨A, c, l, e1, h1, h2, Own.grown ho (zHa (zpb _ _) _ _) ?_⟩
 cases hA : ownB A with
 | none => exact .inl rfl
 | some q => exact .inr fun e => by injection e with e; have := (Own.lt ho q hA).1; omega
theorem guardsB_eq (u : UnitD) (i : Nat) : zuf u i = guardsB u.m i := by
 unfold zuf guardsB UnitD.m
 rw [List.any_map]
 rfl
theorem usr_at {w W : World} {N : Nat} {us : SL UnitD} (h : SLR w N 3 UnitD.enc (UnitD.ok w N) us) (hb : Below N w W) (hN : N ≤ W.heap.size) : SLR W W.heap.size 3 UnitD.enc (UnitD.ok W W.heap.size) us :=
 ((SLR.below h hb).imp fun x hx => (hx.below hb).more hN).more hN
theorem Dep2.call {N : Nat} {w W W' : World} {d : PrgD} {n gr gw gd : Nat} {R Wt : Nat → SL Int} {gs : Nat → Nat} {M : Nat → Nat → Int} (D : Dep2 N w d n gr gw gd R Wt gs M W) (hb : Below W.heap.size W W') : Dep2 N w d n gr gw gd R Wt gs M W' := D.below hb
set_option maxRecDepth 100000 in
set_option maxHeartbeats 8000000 in
theorem depsBuild_any (d : PrgD) (us : SL UnitD) (w : World) (hR : PrgR w w.heap.size d) (hU : SLR w w.heap.size 3 UnitD.enc (UnitD.ok w w.heap.size) us) (hl : us.l.length ≤ 1000) (hcn : ∀ u ∈ us.l, u.cond.l.length ≤ 1000) (hPB : PrgB d) (hPC : PrgC d) :
  Calls Tryz.prog 34 #[PrgD.v d, .slice us.a us.l.length us.c] w fun e w' => (∃ (g : Nat) (gs : Nat → Nat), e = .returned (.slice (some ⟨g, 0, none⟩) us.l.length us.l.length) ∧ w.heap.size ≤ g ∧ Blk w' g 29 (headF us.l.length us.l.length us.l.length gs) ∧ Mat w' (g + 1) us.l.length us.l.length 3 gs (fun a b => .int .i64 (depOf d (us.l.map UnitD.m) a b))) ∧ Below w.heap.size w w' := by
 obtain ⟨N, hN⟩ : ∃ N, w.heap.size = N := ⟨_, rfl⟩
 rw [hN] at hR hU ⊢
 have F0 := Fr.start w
 rw [hN] at F0
 have HF0 := Hd F0
 have HR := Hd hR
 have HU := Hd hU
 have HPb := Hd hPB
 have HPc := Hd hPC
 have HCn := Hd hcn
 have hmk := make_rows us.l.length (by omega)
 have HMk := Hd (zRe us.l.length (by omega))
 have hln : us.l.length ≤ 9223372036854775807 := by omega
 clear hR hU F0 hPB hPC hcn
 obtain ⟨ua, uc, ul⟩ := us
 simp only at hl hln hmk HCn HMk ⊢
 have HMr := Hd hmk
 clear hmk
 unfold PrgD.v PrgD.vs
 go_enter Tryz.func34, Tryz.ntmps34
 go_wp2_with fail
 go_step3
 go_upto_region 2 with (fail)
 go_cut [6, 7] from 15 to 18 (fun s6 s7 wx => ∃ gr gw : Nat, s6 = .slice (some ⟨gr, 0, none⟩) ul.length ul.length ∧ s7 = .slice (some ⟨gw, 0, none⟩) ul.length ul.length ∧ gr ≠ gw ∧ N < gr ∧ N < gw ∧ Blk wx gr 29 (rowF ul.length fun _ => Value.slice none 0 0) ∧ Blk wx gw 29 (rowF ul.length fun _ => Value.slice none 0 0) ∧ Fr N w wx [(N, 31, d.vs)])
 case first =>
  have hmk := HMr.out
  go_region
  all_goals (go_wp2_with fail)
  all_goals go_meet
  all_goals (obtain ⟨h1, h2, h3⟩ := two_rows hN d.vs (rowF ul.length fun _ => Value.slice none 0 0) 31 29)
  all_goals (first | exact ⟨N + 1 + 1, N + 1, rfl, rfl, by omega, by omega, by omega, h2, h1, h3⟩ | exact ⟨N + 1, N + 1 + 1, rfl, rfl, by omega, by omega, by omega, h1, h2, h3⟩)
 case rest =>
  obtain ⟨gr, gw, rfl, rfl, hne, hr1, hw1, hbr, hbw, hF⟩ := hcut
  have HBr := Hd hbr
  have HBw := Hd hbw
  have HFc := Hd hF
  have hmk := HMr.out
  clear hbr hbw hF
  go_upto_region 4 with (fail)
  refine zfa ?_
  intro W1 hW1
  obtain ⟨gd, hgd⟩ : ∃ z, wc.heap.size = z := ⟨_, rfl⟩
  have hbW : Below wc.heap.size wc W1 := by rw [hW1]; exact (Below.refl _ _).alloc (Nat.le_refl _) _
  have HF1 := Hd (HFc.out.call hbW)
  have HBd := Hd (show Blk W1 gd 29 (rowF ul.length fun _ => Value.slice none 0 0) by rw [hW1, ← hgd]; exact Blk.new _ _ _)
  have HBr1 := Hd (HBr.out.below hbW HBr.out.lt)
  have HBw1 := Hd (HBw.out.below hbW HBw.out.lt)
  have hrd : gr < gd := by rw [← hgd]; exact HBr.out.lt
  have hwd : gw < gd := by rw [← hgd]; exact HBw.out.lt
  simp only [hgd]
  clear hW1 hbW hmk HFc HBr HBw
  go_wp2_with fail
  go_loopw [23] (fun i wr => ∃ (k : Nat) (R Wt : Nat → SL Int) (gs : Nat → Nat), k ≤ ul.length ∧ i = .int .i64 k ∧ Dep1 N w d ul gr gw gd k k k R Wt gs wr) (fun i _ => ul.length - (intOf i).toNat)
  case atStart =>
   refine ⟨0, fun _ => ⟨none, 0, []⟩, fun _ => ⟨none, 0, []⟩, fun _ => 0, Nat.zero_le _, rfl, ⟨RowS.new HBr1.out, RowS.new HBw1.out, ?_, Mat.none_ _ _ _ _ _ _, fun j u h => absurd h (by omega), fun j u h => absurd h (by omega), HF1.out, hr1, hne, hrd, hwd, hw1⟩⟩
   rw [show headF ul.length 0 ul.length (fun _ => 0) = rowF ul.length (fun _ => Value.slice none 0 0) from zDa fun k _ => if_neg (by omega)]
   exact HBd.out
  case round =>
   obtain ⟨k, R, Wt, gs, hk, rfl, hD⟩ := hrel
   have HD := Hd hD
   clear hD
   by_cases hlt : k < ul.length
   ·obtain ⟨b2, off2, x, hA2, hb2, hx, hxok, hc2⟩ := HD.out.ff.at_ HU.out ztd (by omega) hlt
    have p0 := hc2 0 _ rfl
    have p1 := hc2 1 _ rfl
    have p2 := hc2 2 _ rfl
    simp only [Nat.add_zero] at p0
    simp only at hA2
    have hk1 : (k : Int) < ul.length := by omega
    have HX := Hd hx
    have HXo := Hd hxok
    have HXc := Hd (HCn.out x (List.mem_of_getElem? hx))
    subst hA2
    clear hc2 hx hxok
    go_upto_region 7 with (fail)
    refine zfa ?_
    intro W2 hW2
    obtain ⟨M0, hM0⟩ : ∃ z, wr.heap.size = z := ⟨_, rfl⟩
    have hbW : Below wr.heap.size wr W2 := by rw [hW2]; exact (Below.refl _ _).alloc (Nat.le_refl _) _
    have HD2 := Hd (HD.out.below hbW)
    have HBx := Hd (show Blk W2 M0 109 #[.int .i64 x.table, .slice x.cond.a x.cond.l.length x.cond.c, .slice x.guards.a x.guards.l.length x.guards.c] by rw [hW2, ← hM0]; exact Blk.new _ _ _)
    simp only [hM0]
    obtain ⟨M, hM⟩ : ∃ z, W2.heap.size = z := ⟨_, rfl⟩
    have hM0M : M0 < M := by rw [← hM]; exact HBx.out.lt
    have hNM : N < M := by have := HD2.out.n1; have := HD2.out.rr.head.lt; omega
    have hrM : gr < M := by have := HD2.out.rr.head.lt; omega
    have hwM : gw < M := by have := HD2.out.rw_.head.lt; omega
    have g0 : ∀ i, W2.cell? ⟨N, i, none⟩ = _ := fun i => HD2.out.ff.cell (.head _) i
    have g1 : ∀ i, W2.cell? ⟨M0, i, none⟩ = _ := fun i => HBx.out.cell i
    have HP := Hd (show ∀ v, Below M W2 v → PrgR v v.heap.size d from fun v hb => (HD2.out.ff.prg HR.out |>.below (by rw [hM]; exact hb)).more (by have := hb.size; omega))
    have HXu := Hd (show ∀ v, Below M W2 v → x.ok v v.heap.size from fun v hb => (((HXo.out.below HD2.out.ff.below).more HD2.out.ff.le).below (by rw [hM]; exact hb)).more (by have := hb.size; omega))
    clear hW2 hbW p0 p1 p2
    have hstab : zba ([leq (.slice (some ⟨gr, 0, none⟩) ul.length ul.length), leq (.int .i64 k), leq (.slice (some ⟨gw, 0, none⟩) ul.length ul.length), leq (.int .i64 k), leq (.agg #[.string d.name, .slice d.hZ.a d.hZ.l.length d.hZ.c, .slice d.mZ.a d.mZ.l.length d.mZ.c, .slice d.rZ.a d.rZ.l.length d.rZ.c, .slice d.aZ.a d.aZ.l.length d.aZ.c, .slice d.tZ.a d.tZ.l.length d.tZ.c, .slice d.sZ.a d.sZ.l.length d.sZ.c, .slice d.cZ.a d.cZ.l.length d.cZ.c, .slice d.dep.a d.dep.l.length d.dep.c]), leq (.agg #[.int .i64 x.table, .slice x.cond.a x.cond.l.length x.cond.c, .slice x.guards.a x.guards.l.length x.guards.c]), lat 0 (pGat (fun u A c l => OwnZ u M A c l) (zhb d x.m) 100000), leq (.agg #[.string d.name, .slice d.hZ.a d.hZ.l.length d.hZ.c, .slice d.mZ.a d.mZ.l.length d.mZ.c, .slice d.rZ.a d.rZ.l.length d.rZ.c, .slice d.aZ.a d.aZ.l.length d.aZ.c, .slice d.tZ.a d.tZ.l.length d.tZ.c, .slice d.sZ.a d.sZ.l.length d.sZ.c, .slice d.cZ.a d.cZ.l.length d.cZ.c, .slice d.dep.a d.dep.l.length d.dep.c]), leq (.agg #[.int .i64 x.table, .slice x.cond.a x.cond.l.length x.cond.c, .slice x.guards.a x.guards.l.length x.guards.c]), lle 1 (pGat (fun u A c l => OwnZ u M A c l) (zKa d x.m) 100000), leq (.pointer (some ⟨gr, k, none⟩)), lany, leq (.pointer (some ⟨gw, k, none⟩)), lany]) := zba.cons_ (zea _) (zba.cons_ (zea _) (zba.cons_ (zea _) (zba.cons_ (zea _) (zba.cons_ (zea _) (zba.cons_ (zea _) (zba.cons_ (zic (zlg fun _ _ _ _ _ hb ho => Own.below ho hb)) (zba.cons_ (zea _) (zba.cons_ (zea _) (zba.cons_ (lle_st (zlg fun _ _ _ _ _ hb ho => Own.below ho hb)) (zba.cons_ (zea _) (zba.cons_ zfc (zba.cons_ (zea _) (zba.cons_ zfc (zba.nil_))))))))))))))
    have Hq9 := Hd (show ∀ i j, List.contains (Chain.effs ⟨[11, 13], [(0, 0), (0, 0), (0, 1), (0, 1), (0, 0), (0, 0), (0, 0), (0, 0), (0, 0), (0, 0), (0, 0), (0, 0), (1, 1), (1, 1)]⟩) i = false → Chain.next ⟨[11, 13], [(0, 0), (0, 0), (0, 1), (0, 1), (0, 0), (0, 0), (0, 0), (0, 0), (0, 0), (0, 0), (0, 0), (0, 0), (1, 1), (1, 1)]⟩ i j = j from fun i j h => zya h)
    refine zja ⟨[11, 13], [(0, 0), (0, 0), (0, 1), (0, 1), (0, 0), (0, 0), (0, 0), (0, 0), (0, 0), (0, 0), (0, 0), (0, 0), (1, 1), (1, 1)]⟩ (sj3 (fun u => Below M W2 u) (fun u => ∃ R1, Dep1 N w d ul gr gw gd (k + 1) k k R1 Wt gs u) (fun u => ∃ R1 Wt1, Dep1 N w d ul gr gw gd (k + 1) (k + 1) k R1 Wt1 gs u)) ([leq (.slice (some ⟨gr, 0, none⟩) ul.length ul.length), leq (.int .i64 k), leq (.slice (some ⟨gw, 0, none⟩) ul.length ul.length), leq (.int .i64 k), leq (.agg #[.string d.name, .slice d.hZ.a d.hZ.l.length d.hZ.c, .slice d.mZ.a d.mZ.l.length d.mZ.c, .slice d.rZ.a d.rZ.l.length d.rZ.c, .slice d.aZ.a d.aZ.l.length d.aZ.c, .slice d.tZ.a d.tZ.l.length d.tZ.c, .slice d.sZ.a d.sZ.l.length d.sZ.c, .slice d.cZ.a d.cZ.l.length d.cZ.c, .slice d.dep.a d.dep.l.length d.dep.c]), leq (.agg #[.int .i64 x.table, .slice x.cond.a x.cond.l.length x.cond.c, .slice x.guards.a x.guards.l.length x.guards.c]), lat 0 (pGat (fun u A c l => OwnZ u M A c l) (zhb d x.m) 100000), leq (.agg #[.string d.name, .slice d.hZ.a d.hZ.l.length d.hZ.c, .slice d.mZ.a d.mZ.l.length d.mZ.c, .slice d.rZ.a d.rZ.l.length d.rZ.c, .slice d.aZ.a d.aZ.l.length d.aZ.c, .slice d.tZ.a d.tZ.l.length d.tZ.c, .slice d.sZ.a d.sZ.l.length d.sZ.c, .slice d.cZ.a d.cZ.l.length d.cZ.c, .slice d.dep.a d.dep.l.length d.dep.c]), leq (.agg #[.int .i64 x.table, .slice x.cond.a x.cond.l.length x.cond.c, .slice x.guards.a x.guards.l.length x.guards.c]), lle 1 (pGat (fun u A c l => OwnZ u M A c l) (zKa d x.m) 100000), leq (.pointer (some ⟨gr, k, none⟩)), lany, leq (.pointer (some ⟨gw, k, none⟩)), lany]) (by kernel_rfl) (by kernel_rfl) (by kernel_rfl) (by kernel_rfl) ?_ ?_ ?_
    ·exact sj3_0 (by rw [← hM]; exact (Below.refl _ _).drew)
    ·show zQb _ _ _ _ _ _ 0 _
     refine ⟨?_, ?_, ?_, ?_, ?_, ?_, ?_, ?_, ?_, ?_, ?_, ?_, ?_, ?_, trivial⟩
     ·intro j hj ρ y u hS hc hf hg hfree hdep
      obtain rfl := jz hj rfl
      rw [Hq9.out _ 0 rfl]
      have e6 : ρ (.tmp 6) = .slice (some ⟨gr, 0, none⟩) ul.length ul.length := hfree 6 rfl
      refine ⟨fun _ => ?_, zaa rfl⟩
      clear hdep hfree hj
      go_simp
      exact ⟨rfl, hS, KL hstab⟩
     ·intro j hj ρ y u hS hc hf hg hfree hdep
      obtain rfl := jz hj rfl
      rw [Hq9.out _ 0 rfl]
      have e9 : ρ (.tmp 9) = .int .i64 k := hfree 9 rfl
      refine ⟨fun _ => ?_, zaa rfl⟩
      clear hdep hfree hj
      go_simp
      exact ⟨rfl, hS, KL hstab⟩
     ·intro j hj ρ y u hS hc hf hg hfree hdep
      obtain ⟨hj0, hj1⟩ := hj _ rfl
      dsimp only at hj0 hj1
      rw [Hq9.out _ j rfl]
      have e7 : ρ (.tmp 7) = .slice (some ⟨gw, 0, none⟩) ul.length ul.length := hfree 7 rfl
      refine ⟨fun _ => ?_, zaa rfl⟩
      clear hdep hfree hj
      go_simp
      exact ⟨rfl, hS, KL hstab⟩
     ·intro j hj ρ y u hS hc hf hg hfree hdep
      obtain ⟨hj0, hj1⟩ := hj _ rfl
      dsimp only at hj0 hj1
      rw [Hq9.out _ j rfl]
      have e9 : ρ (.tmp 9) = .int .i64 k := hfree 9 rfl
      refine ⟨fun _ => ?_, zaa rfl⟩
      clear hdep hfree hj
      go_simp
      exact ⟨rfl, hS, KL hstab⟩
     ·intro j hj ρ y u hS hc hf hg hfree hdep
      obtain rfl := jz hj rfl
      rw [Hq9.out _ 0 rfl]
      have e2 : ρ (.tmp 2) = .pointer (some ⟨N, 0, none⟩) := hfree 2 rfl
      refine ⟨fun _ => ?_, zaa rfl⟩
      clear hdep hfree hj
      have d0 : ∀ i, u.cell? ⟨N, i, none⟩ = _ := fun i => ((hS.1 rfl).cell (p := ⟨N, i, none⟩) hNM).trans (g0 i)
      go_simp
      exact ⟨rfl, hS, KL hstab⟩
     ·intro j hj ρ y u hS hc hf hg hfree hdep
      obtain rfl := jz hj rfl
      rw [Hq9.out _ 0 rfl]
      have e10 : ρ (.tmp 10) = .pointer (some ⟨M0, 0, none⟩) := hfree 10 rfl
      refine ⟨fun _ => ?_, zaa rfl⟩
      clear hdep hfree hj
      have d0 : ∀ i, u.cell? ⟨M0, i, none⟩ = _ := fun i => ((hS.1 rfl).cell (p := ⟨M0, i, none⟩) hM0M).trans (g1 i)
      go_simp
      exact ⟨rfl, hS, KL hstab⟩
     ·intro j hj ρ y u hS hc hf hg hfree hdep
      obtain rfl := jz hj rfl
      rw [Hq9.out _ 0 rfl]
      have e32 : ρ (.tmp 32) = _ := (hdep 4 _ 32 rfl rfl rfl).1
      have e33 : ρ (.tmp 33) = _ := (hdep 5 _ 33 rfl rfl rfl).1
      refine ⟨fun _ => ?_, zaa rfl⟩
      clear hdep hfree hj
      have hS0 := hS.1 rfl
      have hMu : M ≤ u.heap.size := by have := hS0.size; omega
      have hcon := unitReads_any d x u (HP.out u hS0) (HXu.out u hS0) HXc.out HPb.out HPc.out
      unfold PrgD.v PrgD.vs unitV at hcon
      go_simp
      refine zha hcon ?_
      rintro e w' ⟨⟨A3, c3, l3, rfl, hs3, hl3, hO3⟩, hb3⟩
      exact ⟨_, rfl, (fun _ => ⟨A3, c3, l3, rfl, hs3, hl3, Own.rebase hO3 hMu⟩), sj3_0 (hS0.trans (hb3.mono hMu)), KeepL.below hb3 _ _ 0 hstab⟩
     ·intro j hj ρ y u hS hc hf hg hfree hdep
      obtain rfl := jz hj rfl
      rw [Hq9.out _ 0 rfl]
      have e2 : ρ (.tmp 2) = .pointer (some ⟨N, 0, none⟩) := hfree 2 rfl
      refine ⟨fun _ => ?_, zaa rfl⟩
      clear hdep hfree hj
      have d0 : ∀ i, u.cell? ⟨N, i, none⟩ = _ := fun i => ((hS.1 rfl).cell (p := ⟨N, i, none⟩) hNM).trans (g0 i)
      go_simp
      exact ⟨rfl, hS, KL hstab⟩
     ·intro j hj ρ y u hS hc hf hg hfree hdep
      obtain rfl := jz hj rfl
      rw [Hq9.out _ 0 rfl]
      have e10 : ρ (.tmp 10) = .pointer (some ⟨M0, 0, none⟩) := hfree 10 rfl
      refine ⟨fun _ => ?_, zaa rfl⟩
      clear hdep hfree hj
      have d0 : ∀ i, u.cell? ⟨M0, i, none⟩ = _ := fun i => ((hS.1 rfl).cell (p := ⟨M0, i, none⟩) hM0M).trans (g1 i)
      go_simp
      exact ⟨rfl, hS, KL hstab⟩
     ·intro j hj ρ y u hS hc hf hg hfree hdep
      obtain rfl := jz hj rfl
      rw [Hq9.out _ 0 rfl]
      have e35 : ρ (.tmp 35) = _ := (hdep 7 _ 35 rfl rfl rfl).1
      have e36 : ρ (.tmp 36) = _ := (hdep 8 _ 36 rfl rfl rfl).1
      refine ⟨fun _ => ?_, zaa rfl⟩
      clear hdep hfree hj
      have hS0 := hS.1 rfl
      have hMu : M ≤ u.heap.size := by have := hS0.size; omega
      have hcon := unitWrites_any d x u (HP.out u hS0) HPb.out HPc.out
      unfold PrgD.v PrgD.vs unitV at hcon
      go_simp
      refine zha hcon ?_
      rintro e w' ⟨⟨A3, c3, l3, rfl, hs3, hl3, hO3⟩, hb3⟩
      exact ⟨_, rfl, (fun _ => ⟨A3, c3, l3, rfl, hs3, hl3, Own.rebase hO3 hMu⟩), sj3_0 (hS0.trans (hb3.mono hMu)), KeepL.below hb3 _ _ 0 hstab⟩
     ·intro j hj ρ y u hS hc hf hg hfree hdep
      obtain rfl := jz hj rfl
      rw [Hq9.out _ 0 rfl]
      have e28 : ρ (.tmp 28) = _ := (hdep 0 _ 28 rfl rfl rfl).1
      have e29 : ρ (.tmp 29) = _ := (hdep 1 _ 29 rfl rfl rfl).1
      refine ⟨fun _ => ?_, zaa rfl⟩
      clear hdep hfree hj
      go_simp
      exact ⟨rfl, hS, KL hstab⟩
     ·intro j hj ρ y u hS hc hf hg hfree hdep
      obtain rfl := jz hj rfl
      rw [show Chain.next ⟨[11, 13], [(0, 0), (0, 0), (0, 1), (0, 1), (0, 0), (0, 0), (0, 0), (0, 0), (0, 0), (0, 0), (0, 0), (0, 0), (1, 1), (1, 1)]⟩ 11 0 = 1 from rfl]
      have r34 := (hdep 6 _ 34 rfl rfl rfl).1
      have e38 : ρ (.tmp 38) = _ := (hdep 10 _ 38 rfl rfl rfl).1
      refine ⟨fun _ => ?_, zaa rfl⟩
      clear hdep hfree hj
      have hS0 := hS.1 rfl
      obtain ⟨A3, c3, l3, e34', hs3, hl3, hO3⟩ := r34 rfl
      have hD0 := HD2.out.below (by rw [hM]; exact hS0)
      have hSP := hD0.slp hO3 (fun k hk => by have := (HD2.out.foot hk).2; omega)
      have hD1 := hD0.reads hSP HX.out hs3
      have d0 := hD0.rr.zero hlt
      have d1 := hD0.rr.head.frozen k
      have d2 := hD0.rr.head.lt
      go_simp
      exact ⟨trivial, sj3_1 ⟨_, hD1⟩, ⟨.inr (.inr (fun h => h)), .inr (.inr (fun h => h)), .inr (.inr (fun h => h)), .inr (.inr (fun h => h)), .inr (.inr (fun h => h)), .inr (.inr (fun h => h)), .inr (.inr (fun _ => zbc (by omega))), .inr (.inr (fun h => h)), .inr (.inr (fun h => h)), .inr (.inr (fun h => gat_set hrM (by omega) h)), .inr (.inr (fun h => h)), trivial, .inr (.inl (by kernel_rfl)), trivial, trivial⟩⟩
     ·intro j hj ρ y u hS hc hf hg hfree hdep
      obtain rfl := jz hj rfl
      rw [Hq9.out _ 1 rfl]
      have e30 : ρ (.tmp 30) = _ := (hdep 2 _ 30 rfl rfl rfl).1
      have e31 : ρ (.tmp 31) = _ := (hdep 3 _ 31 rfl rfl rfl).1
      refine ⟨fun _ => ?_, zaa rfl⟩
      clear hdep hfree hj
      go_simp
      exact ⟨rfl, hS, KL hstab⟩
     ·intro j hj ρ y u hS hc hf hg hfree hdep
      obtain rfl := jz hj rfl
      rw [show Chain.next ⟨[11, 13], [(0, 0), (0, 0), (0, 1), (0, 1), (0, 0), (0, 0), (0, 0), (0, 0), (0, 0), (0, 0), (0, 0), (0, 0), (1, 1), (1, 1)]⟩ 13 1 = 2 from rfl]
      have r37 := (hdep 9 _ 37 rfl rfl rfl).1
      have e39 : ρ (.tmp 39) = _ := (hdep 12 _ 39 rfl rfl rfl).1
      refine ⟨fun _ => ?_, zaa rfl⟩
      clear hdep hfree hj
      obtain ⟨R1, hD0⟩ := hS.2.1 rfl
      obtain ⟨A3, c3, l3, e37', hs3, hl3, hO3⟩ := r37 (by omega)
      have hSP := hD0.slp hO3 (fun k hk => by have := (HD2.out.foot hk).2; omega)
      have hD1 := hD0.writes hSP HX.out hs3
      have d0 := hD0.rw_.zero hlt
      have d1 := hD0.rw_.head.frozen k
      have d2 := hD0.rw_.head.lt
      go_simp
      exact ⟨trivial, sj3_2 ⟨_, _, hD1⟩, ⟨.inr (.inr (fun h => h)), .inr (.inr (fun h => h)), .inr (.inr (fun h => h)), .inr (.inr (fun h => h)), .inr (.inr (fun h => h)), .inr (.inr (fun h => h)), .inr (.inr (fun _ => zbc (by omega))), .inr (.inr (fun h => h)), .inr (.inr (fun h => h)), .inr (.inr (fun _ => lle_no (by omega))), .inr (.inr (fun h => h)), trivial, .inr (.inr (fun h => h)), trivial, trivial⟩⟩
    intro u hS
    rintro _ rfl _ rfl _ rfl _ rfl _ rfl _ rfl _ r_34 _ rfl _ rfl _ r_37 _ rfl _ rfl
    simp only [zxb, Act.put, List.setIfInBounds_toArray, List.set_cons_zero, List.set_cons_succ]
    obtain ⟨R1, Wt1, hD3⟩ := hS.2.2 rfl
    obtain ⟨W3, hW3⟩ : ∃ z, u = z := ⟨_, rfl⟩
    rw [hW3] at hD3 ⊢
    have HD3 := Hd hD3
    obtain ⟨g4, hg4⟩ : ∃ z, W3.heap.size = z := ⟨_, rfl⟩
    have hD4 := hD3.zeros hg4
    have hmk := HMk.out W3
    rw [hg4] at hmk
    obtain ⟨W4, hW4⟩ : ∃ z, W3.alloc (.cells (rowZ ul.length fun _ => 0) 3) = z := ⟨_, rfl⟩
    have hb4 : Below W3.heap.size W3 W4 := by rw [← hW4]; exact (Below.refl _ _).alloc (Nat.le_refl _) _
    rw [hW4] at hmk hD4
    have HD4 := Hd hD4
    have d0 : W4.cell? ⟨gd, k, none⟩ = some (.slice none 0 0) := by
     rw [(HD3.out.dd.below hb4 HD3.out.dd.lt).cell k]; unfold headF; rw [zbb hlt, if_neg (by omega)]
    have d1 := (HD3.out.dd.below hb4 HD3.out.dd.lt).frozen k
    have d2 := (HD3.out.dd.below hb4 HD3.out.dd.lt).lt
    clear hS hstab r_34 r_37 hW3 hD3 hD4 hb4 hW4 hg4 g0 g1 HP HXu
    go_wp2_with fail
    go_roundw
    case rel => exact ⟨k + 1, R1, Wt1, _, by omega, by go_num, HD4.out⟩
    case measure => simp [intOf]; omega
   ·obtain rfl : k = ul.length := by omega
    have HD2 := Hd HD.out.two
    have HSs := Hd HD.out.ss
    have HSt := Hd HD.out.st
    obtain ⟨P, hP⟩ : ∃ P, (fun a b => depOf d (ul.map UnitD.m) a b) = P := ⟨_, rfl⟩
    have HP := Hd hP
    have HPd := Hd (show ∀ a b, depOf d (ul.map UnitD.m) a b = P a b from fun a b => by rw [← hP])
    clear HD hlt hP
    go_wp2_with fail
    first | go_step3 | skip
    go_wp2_with fail
    go_loopw [47] (fun i' wr => ∃ i : Nat, i ≤ ul.length ∧ i' = .int .i64 i ∧ Dep2 N w d ul.length gr gw gd R Wt gs (depSt P i 0) wr) (fun i' _ => ul.length - (intOf i').toNat)
    case atStart => exact ⟨0, Nat.zero_le _, rfl, HD2.out.congr fun a b _ _ => by unfold depSt; rw [if_neg (by omega)]⟩
    case round =>
     obtain ⟨i, hi, rfl, hD3⟩ := hrel
     have HD3 := Hd hD3
     clear hD3
     by_cases hil : i < ul.length
     ·have hi1 : (i : Int) < ul.length := by omega
      go_wp2_with fail
      go_loopw [51] (fun j' wr2 => ∃ j : Nat, j ≤ ul.length ∧ j' = .int .i64 j ∧ Dep2 N w d ul.length gr gw gd R Wt gs (depSt P i j) wr2) (fun j' _ => ul.length - (intOf j').toNat)
      case atStart => exact ⟨0, Nat.zero_le _, rfl, HD3.out⟩
      case round =>
       obtain ⟨j, hj, rfl, hD4⟩ := hrel
       have HD4 := Hd hD4
       clear hD4
       by_cases hlt2 : j < ul.length
       ·have hj1 : (j : Int) < ul.length := by omega
        obtain ⟨x, hx⟩ : ∃ x, ul[i]? = some x := ⟨_, List.getElem?_eq_getElem hil⟩
        obtain ⟨y, hy⟩ : ∃ y, ul[j]? = some y := ⟨_, List.getElem?_eq_getElem hlt2⟩
        have HDep := Hd (show P i j = _ from (HPd.out i j).symm.trans (depOf_in hx hy))
        by_cases hji : j ≤ i
        ·have HPv := Hd (HDep.out.trans (if_pos hji))
         have HD9 := Hd (HD4.out.congr (M' := depSt P i (j + 1)) fun a b _ _ => (zqf HPv.out).symm)
         have hji' : decide (j ≤ i) = true := decide_eq_true hji
         go_wp2_with fail
         go_roundw
         case rel => exact ⟨j + 1, by omega, by go_num, HD9.out⟩
         case measure => simp [intOf]; omega
        ·have hji' : decide (j ≤ i) = false := decide_eq_false hji
         have HDe2 := Hd (HDep.out.trans (if_neg hji))
         have hr1 := HSs.out j y hlt2 hy
         have hr2 := HSt.out i x hil hx
         have hr3 := HSt.out j y hlt2 hy
         have hr4 := HSs.out i x hil hx
         have HX := Hd hx
         have HY := Hd hy
         have hK := HDe2.out
         rw [← guardsB_eq y i, ← zId hr1 hr2, ← zId hr3 hr2, ← zId hr3 hr4] at hK
         clear hr1 hr2 hr3 hr4 hx hy
         obtain ⟨rj, hrj⟩ : ∃ z, R j = z := ⟨_, rfl⟩
         obtain ⟨wj, hwj⟩ : ∃ z, Wt j = z := ⟨_, rfl⟩
         obtain ⟨ri, hri⟩ : ∃ z, R i = z := ⟨_, rfl⟩
         obtain ⟨wi, hwi⟩ : ∃ z, Wt i = z := ⟨_, rfl⟩
         rw [hrj, hwj, hri, hwi] at hK
         have HRj := Hd hrj
         have HWj := Hd hwj
         have HRi := Hd hri
         have HWi := Hd hwi
         clear hrj hwj hri hwi
         obtain ⟨ex, hex⟩ : ∃ z, exclB (ul.map UnitD.m) i j = z := ⟨_, rfl⟩
         obtain ⟨gv, hgv⟩ : ∃ z, zuf y i = z := ⟨_, rfl⟩
         obtain ⟨c1, hc1⟩ : ∃ z, zcc rj.l wi.l = z := ⟨_, rfl⟩
         obtain ⟨c2, hc2⟩ : ∃ z, zcc wj.l wi.l = z := ⟨_, rfl⟩
         obtain ⟨c3, hc3⟩ : ∃ z, zcc wj.l ri.l = z := ⟨_, rfl⟩
         rw [hex, hgv, hc1, hc2, hc3] at hK
         have HK := Hd hK
         have HEx := Hd hex
         have HGv := Hd hgv
         have HC1 := Hd hc1
         have HC2 := Hd hc2
         have HC3 := Hd hc3
         clear hK hex hgv hc1 hc2 hc3
         go_wp2_with fail
         have hcon := exclusive_any ⟨ua, uc, ul⟩ i j wr (usr_at HU.out HD4.out.ff.below HD4.out.ff.le) hil hlt2
         rw [HEx.out] at hcon
         with_reducible refine hcon.mono ?_
         clear hcon
         rintro e w5 ⟨rfl, hb5⟩
         have HD5 := Hd (HD4.out.below hb5)
         clear hb5
         cases ex with
         | true =>
          have HPv := Hd (HK.out.trans (if_pos rfl))
          have HD9 := Hd (HD5.out.congr (M' := depSt P i (j + 1)) fun a b _ _ => (zqf HPv.out).symm)
          go_upto_region 22 with (fail)
          refine zfa ?_
          intro W9 hW9
          rw [← hW9] at HD9
          clear hW9
          by_cases hjn : j + 1 = ul.length
          ·have e0 : ((j : Int) == (ul.length : Int) - 1) = true := by simp; omega
           have HDa := Hd (HD9.out.congr (M' := depSt P (i + 1) 0) fun a b _ hb => by rw [hjn]; exact zRc hb)
           clear hjn
           go_wp2_with fail
           go_roundw
           case rel => exact ⟨i + 1, by omega, by go_num, HDa.out⟩
           case measure => simp [intOf]; omega
          ·have e0 : ((j : Int) == (ul.length : Int) - 1) = false := by simp; omega
           go_wp2_with fail
           go_roundw
           case rel => exact ⟨j + 1, by omega, by go_num, HD9.out⟩
           case measure => simp [intOf]; omega
         | false =>
          have HK2 := Hd (HK.out.trans (if_neg (by simp)))
          obtain ⟨b2, off2, y', hA2, hb2, hy', hyok, hc2⟩ := HD5.out.ff.at_ HU.out ztd (by omega) hlt2
          obtain rfl : y = y' := Option.some.inj (HY.out.symm.trans hy')
          have p0 := hc2 0 _ rfl
          have p1 := hc2 1 _ rfl
          have p2 := hc2 2 _ rfl
          simp only [Nat.add_zero] at p0
          simp only at hA2
          have q1 := HD5.out.rr.cell hlt2 hlt2
          have q2 := HD5.out.rw_.cell hil hil
          have q3 := HD5.out.rw_.cell hlt2 hlt2
          have q4 := HD5.out.rr.cell hil hil
          rw [HRj.out] at q1
          rw [HWi.out] at q2
          rw [HWj.out] at q3
          rw [HRi.out] at q4
          have sj := (HD5.out.rr.rows j hlt2).slr
          have tj := (HD5.out.rw_.rows j hlt2).slr
          have si := (HD5.out.rr.rows i hil).slr
          have ti := (HD5.out.rw_.rows i hil).slr
          rw [HRj.out] at sj
          rw [HWj.out] at tj
          rw [HRi.out] at si
          rw [HWi.out] at ti
          have HGc := Hd (show ∀ v, Below w5.heap.size w5 v → Calls Tryz.prog 71 #[unitV y, .int .i64 i] v fun e w' => e = .returned (.bool gv) ∧ Below v.heap.size v w' from fun v hb => by
           have := guarded_any y i v (((hyok.guards.below HD5.out.ff.below).more HD5.out.ff.le).below hb |>.more hb.size)
           rwa [HGv.out] at this)
          have HCc1 := Hd (show ∀ v, Below w5.heap.size w5 v → Calls Tryz.prog 72 #[.slice rj.a rj.l.length rj.c, .slice wi.a wi.l.length wi.c] v fun e w' => e = .returned (.bool c1) ∧ Below v.heap.size v w' from fun v hb => by
           have := zlf rj wi v ((sj.below hb).more hb.size) ((ti.below hb).more hb.size)
           rw [HC1.out] at this
           exact this.mono fun _ _ ⟨h1, h2⟩ => ⟨h1, by rw [h2]; exact Below.refl _ _⟩)
          have HCc2 := Hd (show ∀ v, Below w5.heap.size w5 v → Calls Tryz.prog 72 #[.slice wj.a wj.l.length wj.c, .slice wi.a wi.l.length wi.c] v fun e w' => e = .returned (.bool c2) ∧ Below v.heap.size v w' from fun v hb => by
           have := zlf wj wi v ((tj.below hb).more hb.size) ((ti.below hb).more hb.size)
           rw [HC2.out] at this
           exact this.mono fun _ _ ⟨h1, h2⟩ => ⟨h1, by rw [h2]; exact Below.refl _ _⟩)
          have hb2' : b2 < w5.heap.size := Nat.lt_of_lt_of_le hb2 HD5.out.ff.le
          have hgr' := HD5.out.rr.head.lt
          have hgw' := HD5.out.rw_.head.lt
          subst hA2
          clear hc2 hy' hyok sj tj si ti
          cases gv with
          | true =>
           have HPv := Hd (HK2.out.trans (if_pos (by simp)))
           go_wp2_with fail
           have hcl : ∀ (p : Ab w5.heap.size w5) (b i : Nat), b < w5.heap.size → p.u.cell? ⟨b, i, none⟩ = w5.cell? ⟨b, i, none⟩ := fun p b i h => p.h.cell (p := ⟨b, i, none⟩) h
           refine zia w5.heap.size w5 (by kernel_rfl) (by kernel_rfl) (Below.refl _ _) ?_
           repeat (first
            | go_big_quiet_step ((first | (go_at_call 71; exact Calls.ab (Nat.le_refl _) (HGc.out _ (Ab.h _))) | (go_at_call_of 72 (Value.slice rj.a rj.l.length rj.c); exact Calls.ab (Nat.le_refl _) (HCc1.out _ (Ab.h _))) | (go_at_call_of 72 (Value.slice wj.a wj.l.length wj.c); exact Calls.ab (Nat.le_refl _) (HCc2.out _ (Ab.h _))))))
           refine wpQuiet_nil ?_
           intro u hw'
           obtain ⟨pu, hpu⟩ := hw'
           have hu := pu.h
           rw [← hpu] at hu
           clear hcl hpu
           clear pu
           have HFu := Hd (HD5.out.call hu)
           clear hu
           have e0 := HFu.out.head hil
           have e1 := HFu.out.mm.cell hil hlt2
           have e2 := HFu.out.mm.frozen hil j
           have e3 := HFu.out.mm.lt hil
           have HD9 := Hd ((HFu.out.set_ hil j 2).congr (M' := depSt P i (j + 1)) fun a b _ _ => by rw [znd, HPv.out])
           go_upto_region 22 with (fail)
           refine zfa ?_
           intro W9 hW9
           rw [← hW9] at HD9
           clear e0 e1 e2 e3 hW9
           by_cases hjn : j + 1 = ul.length
           ·have e0 : ((j : Int) == (ul.length : Int) - 1) = true := by simp; omega
            have HDa := Hd (HD9.out.congr (M' := depSt P (i + 1) 0) fun a b _ hb => by rw [hjn]; exact zRc hb)
            clear hjn
            go_wp2_with fail
            go_roundw
            case rel => exact ⟨i + 1, by omega, by go_num, HDa.out⟩
            case measure => simp [intOf]; omega
           ·have e0 : ((j : Int) == (ul.length : Int) - 1) = false := by simp; omega
            go_wp2_with fail
            go_roundw
            case rel => exact ⟨j + 1, by omega, by go_num, HD9.out⟩
            case measure => simp [intOf]; omega
          | false =>
           cases c1 with
           | true =>
            have HPv := Hd (HK2.out.trans (if_pos (by simp)))
            go_wp2_with fail
            have hcl : ∀ (p : Ab w5.heap.size w5) (b i : Nat), b < w5.heap.size → p.u.cell? ⟨b, i, none⟩ = w5.cell? ⟨b, i, none⟩ := fun p b i h => p.h.cell (p := ⟨b, i, none⟩) h
            refine zia w5.heap.size w5 (by kernel_rfl) (by kernel_rfl) (Below.refl _ _) ?_
            repeat (first
             | go_big_quiet_step ((first | (go_at_call 71; exact Calls.ab (Nat.le_refl _) (HGc.out _ (Ab.h _))) | (go_at_call_of 72 (Value.slice rj.a rj.l.length rj.c); exact Calls.ab (Nat.le_refl _) (HCc1.out _ (Ab.h _))) | (go_at_call_of 72 (Value.slice wj.a wj.l.length wj.c); exact Calls.ab (Nat.le_refl _) (HCc2.out _ (Ab.h _))))))
            refine wpQuiet_nil ?_
            intro u hw'
            obtain ⟨pu, hpu⟩ := hw'
            have hu := pu.h
            rw [← hpu] at hu
            clear hcl hpu
            clear pu
            have HFu := Hd (HD5.out.call hu)
            clear hu
            have e0 := HFu.out.head hil
            have e1 := HFu.out.mm.cell hil hlt2
            have e2 := HFu.out.mm.frozen hil j
            have e3 := HFu.out.mm.lt hil
            have HD9 := Hd ((HFu.out.set_ hil j 2).congr (M' := depSt P i (j + 1)) fun a b _ _ => by rw [znd, HPv.out])
            go_upto_region 22 with (fail)
            refine zfa ?_
            intro W9 hW9
            rw [← hW9] at HD9
            clear e0 e1 e2 e3 hW9
            by_cases hjn : j + 1 = ul.length
            ·have e0 : ((j : Int) == (ul.length : Int) - 1) = true := by simp; omega
             have HDa := Hd (HD9.out.congr (M' := depSt P (i + 1) 0) fun a b _ hb => by rw [hjn]; exact zRc hb)
             clear hjn
             go_wp2_with fail
             go_roundw
             case rel => exact ⟨i + 1, by omega, by go_num, HDa.out⟩
             case measure => simp [intOf]; omega
            ·have e0 : ((j : Int) == (ul.length : Int) - 1) = false := by simp; omega
             go_wp2_with fail
             go_roundw
             case rel => exact ⟨j + 1, by omega, by go_num, HD9.out⟩
             case measure => simp [intOf]; omega
           | false =>
            cases c2 with
            | true =>
             have HPv := Hd (HK2.out.trans (if_pos (by simp)))
             go_wp2_with fail
             have hcl : ∀ (p : Ab w5.heap.size w5) (b i : Nat), b < w5.heap.size → p.u.cell? ⟨b, i, none⟩ = w5.cell? ⟨b, i, none⟩ := fun p b i h => p.h.cell (p := ⟨b, i, none⟩) h
             refine zia w5.heap.size w5 (by kernel_rfl) (by kernel_rfl) (Below.refl _ _) ?_
             repeat (first
              | go_big_quiet_step ((first | (go_at_call 71; exact Calls.ab (Nat.le_refl _) (HGc.out _ (Ab.h _))) | (go_at_call_of 72 (Value.slice rj.a rj.l.length rj.c); exact Calls.ab (Nat.le_refl _) (HCc1.out _ (Ab.h _))) | (go_at_call_of 72 (Value.slice wj.a wj.l.length wj.c); exact Calls.ab (Nat.le_refl _) (HCc2.out _ (Ab.h _))))))
             refine wpQuiet_nil ?_
             intro u hw'
             obtain ⟨pu, hpu⟩ := hw'
             have hu := pu.h
             rw [← hpu] at hu
             clear hcl hpu
             clear pu
             have HFu := Hd (HD5.out.call hu)
             clear hu
             have e0 := HFu.out.head hil
             have e1 := HFu.out.mm.cell hil hlt2
             have e2 := HFu.out.mm.frozen hil j
             have e3 := HFu.out.mm.lt hil
             have HD9 := Hd ((HFu.out.set_ hil j 2).congr (M' := depSt P i (j + 1)) fun a b _ _ => by rw [znd, HPv.out])
             go_upto_region 22 with (fail)
             refine zfa ?_
             intro W9 hW9
             rw [← hW9] at HD9
             clear e0 e1 e2 e3 hW9
             by_cases hjn : j + 1 = ul.length
             ·have e0 : ((j : Int) == (ul.length : Int) - 1) = true := by simp; omega
              have HDa := Hd (HD9.out.congr (M' := depSt P (i + 1) 0) fun a b _ hb => by rw [hjn]; exact zRc hb)
              clear hjn
              go_wp2_with fail
              go_roundw
              case rel => exact ⟨i + 1, by omega, by go_num, HDa.out⟩
              case measure => simp [intOf]; omega
             ·have e0 : ((j : Int) == (ul.length : Int) - 1) = false := by simp; omega
              go_wp2_with fail
              go_roundw
              case rel => exact ⟨j + 1, by omega, by go_num, HD9.out⟩
              case measure => simp [intOf]; omega
            | false =>
             have HK3 := Hd (HK2.out.trans (if_neg (by simp)))
             go_wp2_with fail
             have hcl : ∀ (p : Ab w5.heap.size w5) (b i : Nat), b < w5.heap.size → p.u.cell? ⟨b, i, none⟩ = w5.cell? ⟨b, i, none⟩ := fun p b i h => p.h.cell (p := ⟨b, i, none⟩) h
             refine zia w5.heap.size w5 (by kernel_rfl) (by kernel_rfl) (Below.refl _ _) ?_
             repeat (first
              | go_big_quiet_step ((first | (go_at_call 71; exact Calls.ab (Nat.le_refl _) (HGc.out _ (Ab.h _))) | (go_at_call_of 72 (Value.slice rj.a rj.l.length rj.c); exact Calls.ab (Nat.le_refl _) (HCc1.out _ (Ab.h _))) | (go_at_call_of 72 (Value.slice wj.a wj.l.length wj.c); exact Calls.ab (Nat.le_refl _) (HCc2.out _ (Ab.h _))))))
             refine wpQuiet_nil ?_
             intro u hw'
             obtain ⟨pu, hpu⟩ := hw'
             have hu := pu.h
             rw [← hpu] at hu
             clear hcl hpu
             clear pu
             have HFu := Hd (HD5.out.call hu)
             clear hu
             have HD6 := HFu
             clear HFu q1 q2 q3 q4 p0 p1 p2 hgr' hgw' hb2' HGc HCc1 HCc2
             obtain ⟨w6, hw6⟩ : ∃ z, u = z := ⟨_, rfl⟩
             rw [hw6] at HD6 ⊢
             clear hw6
             have q3 := HD6.out.rw_.cell hlt2 hlt2
             have q4 := HD6.out.rr.cell hil hil
             rw [HWj.out] at q3
             rw [HRi.out] at q4
             have tj := (HD6.out.rw_.rows j hlt2).slr
             have si := (HD6.out.rr.rows i hil).slr
             rw [HWj.out] at tj
             rw [HRi.out] at si
             have HCc3 := Hd (show ∀ v, Below w6.heap.size w6 v → Calls Tryz.prog 72 #[.slice wj.a wj.l.length wj.c, .slice ri.a ri.l.length ri.c] v fun e w' => e = .returned (.bool c3) ∧ Below v.heap.size v w' from fun v hb => by
              have := zlf wj ri v ((tj.below hb).more hb.size) ((si.below hb).more hb.size)
              rw [HC3.out] at this
              exact this.mono fun _ _ ⟨h1, h2⟩ => ⟨h1, by rw [h2]; exact Below.refl _ _⟩)
             have hgr' := HD6.out.rr.head.lt
             have hgw' := HD6.out.rw_.head.lt
             clear tj si
             cases c3 with
             | true =>
              have HPv := Hd (HK3.out.trans (if_pos rfl))
              go_wp2_with fail
              have hcl : ∀ (p : Ab w6.heap.size w6) (b i : Nat), b < w6.heap.size → p.u.cell? ⟨b, i, none⟩ = w6.cell? ⟨b, i, none⟩ := fun p b i h => p.h.cell (p := ⟨b, i, none⟩) h
              refine zia w6.heap.size w6 (by kernel_rfl) (by kernel_rfl) (Below.refl _ _) ?_
              repeat (first
               | go_big_quiet_step ((go_at_call 72; exact Calls.ab (Nat.le_refl _) (HCc3.out _ (Ab.h _)))))
              refine wpQuiet_nil ?_
              intro u hw'
              obtain ⟨pu, hpu⟩ := hw'
              have hu := pu.h
              rw [← hpu] at hu
              clear hcl hpu
              clear pu
              have HFu := Hd (HD6.out.call hu)
              clear hu
              have e0 := HFu.out.head hil
              have e1 := HFu.out.mm.cell hil hlt2
              have e2 := HFu.out.mm.frozen hil j
              have e3 := HFu.out.mm.lt hil
              have HD9 := Hd ((HFu.out.set_ hil j 1).congr (M' := depSt P i (j + 1)) fun a b _ _ => by rw [znd, HPv.out])
              go_upto_region 22 with (fail)
              refine zfa ?_
              intro W9 hW9
              rw [← hW9] at HD9
              clear e0 e1 e2 e3 hW9
              by_cases hjn : j + 1 = ul.length
              ·have e0 : ((j : Int) == (ul.length : Int) - 1) = true := by simp; omega
               have HDa := Hd (HD9.out.congr (M' := depSt P (i + 1) 0) fun a b _ hb => by rw [hjn]; exact zRc hb)
               clear hjn
               go_wp2_with fail
               go_roundw
               case rel => exact ⟨i + 1, by omega, by go_num, HDa.out⟩
               case measure => simp [intOf]; omega
              ·have e0 : ((j : Int) == (ul.length : Int) - 1) = false := by simp; omega
               go_wp2_with fail
               go_roundw
               case rel => exact ⟨j + 1, by omega, by go_num, HD9.out⟩
               case measure => simp [intOf]; omega
             | false =>
              have HPv := Hd (HK3.out.trans (if_neg (by simp)))
              go_wp2_with fail
              have hcl : ∀ (p : Ab w6.heap.size w6) (b i : Nat), b < w6.heap.size → p.u.cell? ⟨b, i, none⟩ = w6.cell? ⟨b, i, none⟩ := fun p b i h => p.h.cell (p := ⟨b, i, none⟩) h
              refine zia w6.heap.size w6 (by kernel_rfl) (by kernel_rfl) (Below.refl _ _) ?_
              repeat (first
               | go_big_quiet_step ((go_at_call 72; exact Calls.ab (Nat.le_refl _) (HCc3.out _ (Ab.h _)))))
              refine wpQuiet_nil ?_
              intro u hw'
              obtain ⟨pu, hpu⟩ := hw'
              have hu := pu.h
              rw [← hpu] at hu
              clear hcl hpu
              clear pu
              have HFu := Hd (HD6.out.call hu)
              clear hu
              have HD9 := Hd (HFu.out.congr (M' := depSt P i (j + 1)) fun a b _ _ => (zqf HPv.out).symm)
              go_upto_region 22 with (fail)
              refine zfa ?_
              intro W9 hW9
              rw [← hW9] at HD9
              clear hW9
              by_cases hjn : j + 1 = ul.length
              ·have e0 : ((j : Int) == (ul.length : Int) - 1) = true := by simp; omega
               have HDa := Hd (HD9.out.congr (M' := depSt P (i + 1) 0) fun a b _ hb => by rw [hjn]; exact zRc hb)
               clear hjn
               go_wp2_with fail
               go_roundw
               case rel => exact ⟨i + 1, by omega, by go_num, HDa.out⟩
               case measure => simp [intOf]; omega
              ·have e0 : ((j : Int) == (ul.length : Int) - 1) = false := by simp; omega
               go_wp2_with fail
               go_roundw
               case rel => exact ⟨j + 1, by omega, by go_num, HD9.out⟩
               case measure => simp [intOf]; omega
       ·obtain rfl : j = ul.length := by omega
        clear hlt2
        have HD9 := Hd (HD4.out.congr (M' := depSt P (i + 1) 0) fun a b _ hb => zRc hb)
        go_wp2_with fail
        go_roundw
        case rel => exact ⟨i + 1, by omega, by go_num, HD9.out⟩
        case measure => simp [intOf]; omega
     ·obtain rfl : i = ul.length := by omega
      clear hil
      have HD9 := Hd (HD3.out.congr (M' := fun a b => depOf d (ul.map UnitD.m) a b) fun a b ha _ => by unfold depSt; rw [if_pos (.inl ha), HPd.out])
      go_wp2_with fail
      first | go_returns | (rw [Exit.noGoto_ret]; go_returns)
      exact ⟨⟨gd, gs, rfl, by have := HD9.out.n1; have := HD9.out.n3; omega, HD9.out.dd, HD9.out.mm⟩, HD9.out.ff.below⟩
end Go.Proofs.YtakgiamhdpgoeaaGreat
