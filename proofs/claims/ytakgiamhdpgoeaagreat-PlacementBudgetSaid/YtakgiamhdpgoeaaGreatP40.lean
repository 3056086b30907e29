/- Lemmas. -/
import Derived.Test.YtakgiamhdpgoeaaGreatP37
import Derived.Test.YtakgiamhdpgoeaaGreatP38
set_option linter.unusedSimpArgs false
namespace Go.Proofs.YtakgiamhdpgoeaaGreat
open Go.RowKit
set_option linter.unusedVariables false
abbrev stCells (x : StD) : Array Value := #[.int .i64 x.kind, .int .i64 x.dh, .int .i64 x.df, .int .i64 x.reg, .int .i64 x.hdr, .slice x.index.a x.index.l.length x.index.c, .slice x.value.a x.value.l.length x.value.c]
set_option maxRecDepth 100000 in
set_option maxHeartbeats 8000000 in
theorem reads_any (d : PrgD) (i : Int) (w : World) (hR : PrgR w w.heap.size d) :
  Calls Tryz.prog 99 #[PrgD.v d, .int .i64 i] w fun e w' => (∃ (f : SL (Int × Int)) (h r : SL Int), e = .returned (.tuple #[.slice f.a f.l.length f.c, .slice h.a h.l.length h.c, .slice r.a r.l.length r.c]) ∧ AccSame f h r (zjd d i) ∧ f.l.length ≤ 1000 ∧ h.l.length ≤ 1000 ∧ r.l.length ≤ 1000 ∧ OwnFR w' w.heap.size f.a f.c f.l ∧ OwnZ w' w.heap.size h.a h.c h.l ∧ OwnZ w' w.heap.size r.a r.c r.l) ∧ Below w.heap.size w w' := by
 obtain ⟨N, hN⟩ : ∃ N, w.heap.size = N := ⟨_, rfl⟩
 rw [hN] at hR ⊢
 have F0 := Fr.start w
 rw [hN] at F0
 have HF0 := Hd F0
 have HR := Hd hR
 have hbc := bodyC d i
 obtain ⟨hbl, hbs⟩ := hbc
 have HBS := Hd hbs
 have HV := Hd (show zjd d i = zVa zob (zef d i) from rfl)
 clear hR F0 hbs
 unfold PrgD.v PrgD.vs
 go_enter Tryz.func99, Tryz.ntmps99
 go_wp2_with fail
 refine Calls.named ?_
 intro W hW
 have F1 := ((HF0.out.alloc _ _).alloc _ _).of_eq hW
 simp only [World.size_alloc, hN] at F1 ⊢
 have HF1 := Hd F1
 clear F1 hW
 with_reducible refine (body_any d i W N (HF1.out.prg HR.out) (HR.out.below HF1.out.below) HF1.out.le).mono ?_
 rintro e w1 ⟨⟨st, rfl, hst, hS⟩, hb1⟩
 have HF2 := Hd (HF1.out.call hb1)
 have HS := Hd hS
 rw [← hst] at hbl HBS HV
 have hA := AccB.mk (N := N) (g := N + 1) (f := ⟨none, 0, []⟩) (h := ⟨none, 0, []⟩) (r := ⟨none, 0, []⟩) (Nat.le_succ N) (HF2.out.blk _ (.head _)).2 (Own.none_ _ _ _ _) (Own.none_ _ _ _ _) (Own.none_ _ _ _ _) (fun k hk => by simp [ownB] at hk)
 have HT0 := Hd (AccTo.refl hA)
 have HB1 := Hd HF2.out.below
 obtain ⟨sa, sc, sl⟩ := st
 simp only at hbl HBS HV ⊢
 obtain ⟨g, hg⟩ : ∃ z, N + 1 = z := ⟨_, rfl⟩
 rw [hg] at HT0 ⊢
 have hNg : N ≤ g := by omega
 clear hS hst hb1 HF1 HF2 hA
 go_wp2_with fail
 go_loopw [14] (fun i wr => ∃ (k : Nat) (f : SL (Int × Int)) (h r : SL Int), k ≤ sl.length ∧ i = .int .i64 k ∧ AccTo N g ⟨none, 0, []⟩ ⟨none, 0, []⟩ ⟨none, 0, []⟩ (zVa zob (sl.take k)) (50 * k) w1 wr f h r) (fun i _ => sl.length - (intOf i).toNat)
 case atStart => exact ⟨0, ⟨none, 0, []⟩, ⟨none, 0, []⟩, ⟨none, 0, []⟩, Nat.zero_le _, rfl, HT0.out⟩
 case round =>
  obtain ⟨k, f, h, r, hk, rfl, hT⟩ := hrel
  have HT := Hd hT
  have hfl := hT.nf
  have hhl := hT.nh
  have hrl := hT.nr
  simp only [List.length_nil, Nat.zero_add] at hfl hhl hrl
  have hbw : Below N w1 wr := hT.kept.below (fun k hk => (HT0.out.b.foot hk).1) (by have := HT0.out.b.box.lt; omega)
  have HBw := Hd hbw
  have hAr := hT.b
  have HAr := Hd hAr
  clear hT hbw hAr
  by_cases hlt : k < sl.length
  ·obtain ⟨b2, off2, x, hA2, hb2, hx, hxok, hc2⟩ := (HS.out.below HBw.out).at_ st_len (by omega) hlt
   have p0 := hc2 0 _ rfl
   have p1 := hc2 1 _ rfl
   have p2 := hc2 2 _ rfl
   have p3 := hc2 3 _ rfl
   have p4 := hc2 4 _ rfl
   have p5 := hc2 5 _ rfl
   have p6 := hc2 6 _ rfl
   simp only [Nat.add_zero] at p0
   simp only at hA2
   have HX := Hd (zbg zob hx)
   obtain ⟨kn, _, kv, ki⟩ := HBS.out x (List.mem_of_getElem? hx)
   have HXo := Hd (HS.out.ok x (List.mem_of_getElem? hx))
   have hk1 : (k : Int) < sl.length := by omega
   subst hA2
   clear hc2 hx hxok
   go_upto_region 5 with (fail)
   refine zfa ?_
   intro W2 hW2
   obtain ⟨b9, hb9⟩ : ∃ z, wr.heap.size = z := ⟨_, rfl⟩
   have hbW : Below wr.heap.size wr W2 := by rw [hW2]; exact (Below.refl _ _).alloc (Nat.le_refl _) _
   have HA2 := Hd (HAr.out.below hbW)
   have HH2 := Hd (show Held (AccF g f h r) W2 [(b9, 93, stCells x)] by
    rw [hW2, ← hb9]; exact Held.nil_.alloc (fun k hk => (HAr.out.foot hk).2.2) _ _)
   have HT2 := Hd (show AccTo N g ⟨none, 0, []⟩ ⟨none, 0, []⟩ ⟨none, 0, []⟩ (zVa zob (sl.take k)) (50 * k) w1 W2 f h r from ⟨HA2.out, HT.out.sf, HT.out.sh, HT.out.sr, HT.out.nf, HT.out.nh, HT.out.nr, HT.out.sub, HT.out.kept.step_below hbW⟩)
   simp only [hb9] at hbW ⊢
   clear hW2 p0 p1 p2 p3 p4 p5 p6 hbW
   obtain ⟨d0, d1, d2⟩ := Held.at_ HH2.out (.head _)
   rcases kn with ck | ck | ck | ck | ck
   ·skip
    have e1 : (x.kind == 1) = true := by rw [ck]; rfl
    have e2 : (x.kind == 2) = false := by rw [ck]; rfl
    have e3 : (x.kind == 3) = false := by rw [ck]; rfl
    have e4 : (x.kind == 4) = false := by rw [ck]; rfl
    have e5 : (x.kind == 5) = false := by rw [ck]; rfl
    go_wp2_with fail
    have hxl := kv (.inl ck)
    with_reducible refine (zhc N g f h r x.value W2 HA2.out ((HXo.out.value.below (HT2.out.kept.below (B := N) (fun k hk => (HT0.out.b.foot hk).1) (by have := HT0.out.b.box.lt; omega))).imp (fun _ _ => trivial)) (by omega) (by omega) (by omega)).mono ?_
    rintro e w5 ⟨rfl, hstep⟩
    obtain ⟨f5, h5, r5, hT'⟩ := AccTo.of_step hstep
    have HT5 := Hd (HT2.out.trans hT')
    have HH5 := Hd (HH2.out.kept hT'.kept hT'.sub)
    clear hstep hT'
    clear d0 d1 d2
    go_upto_region 16 with (fail)
    obtain ⟨t0, t1, t2⟩ := Held.at_ HH5.out (.head _)
    have HS1 := Hd (show zob x = Acc.app (exAcc x.value.l) (if (x.kind = 1 ∨ x.kind = 4) ∧ x.dh ≠ -1 then ⟨[], [x.dh], []⟩ else .none_) by unfold zob; congr 1; simp [ck])
    by_cases cd : x.dh = -1
    ·have cd' : (x.dh != -1) = false := by simp [cd]
     have HFin := Hd (show AccTo N g ⟨none, 0, []⟩ ⟨none, 0, []⟩ ⟨none, 0, []⟩ (zVa zob (sl.take (k + 1))) (50 * (k + 1)) w1 w5 f5 h5 r5 from HT5.out.conv (by rw [HX.out, HS1.out, if_neg (fun h => h.2 cd), Acc.app_none]; first | done | (simp only [Acc.app, List.append_assoc])) (by omega))
     go_wp2_with fail
     go_roundw
     case rel => exact ⟨k + 1, f5, h5, r5, by omega, by go_num, HFin.out⟩
     case measure => simp [intOf]; omega
    ·have cd' : (x.dh != -1) = true := by simp [cd]
     have hcd : (x.kind = 1 ∨ x.kind = 4) ∧ x.dh ≠ -1 := ⟨by simp [ck], cd⟩
     have HS2 := Hd (HS1.out.trans (by rw [if_pos hcd]))
     clear t0 t1 t2
     have hblA8 : Below w5.heap.size w5 (w5.alloc (.cells #[.int .i64 x.dh] 3)) := (Below.refl _ _).alloc (Nat.le_refl _) _
     have HBlA8 := Hd hblA8
     have HAaA8 := Hd (HT5.out.b.below hblA8)
     have hnA8 : h5.l.length ≤ 1000 := by have h1 := HT5.out.nf; have h2 := HT5.out.nh; have h3 := HT5.out.nr; simp only [List.length_nil] at h1 h2 h3; omega
     obtain ⟨q0, q1, q2⟩ : (∀ i, w5.cell? ⟨g, i, none⟩ = _) ∧ (∀ i, w5.frozen? ⟨g, i, none⟩ = false) ∧ g < w5.heap.size := ⟨fun i => HT5.out.b.box.cell i, fun i => HT5.out.b.box.frozen i, HT5.out.b.box.lt⟩
     obtain ⟨t0, t1, t2⟩ := Held.at_ HH5.out (.head _)
     clear hblA8
     go_wp2_with (at_builtin; (refine zma rfl _ _ rfl (g + 1) h5.a h5.l.length h5.c h5.l rfl rfl HAaA8.out.ho _ _ 1 _ [x.dh] rfl rfl (zsb w5 _ rfl x.dh) (by omega) (by simp; omega) ?_; intro A8 c8 w8 hO2 hG2 hA2; have HOA8 := Hd hO2; have HGA8 := Hd hG2; have HXA8 := Hd hA2; clear q0 q1 q2 t0 t1 t2; obtain ⟨q0, q1, q2⟩ := HT5.out.b.boxG HBlA8.out hG2 (by simp); clear hO2 hG2 hA2))
     have HFin := Hd ((HT5.out.trans (AccTo.pushH HT5.out.b HBlA8.out HGA8.out HOA8.out HXA8.out)).conv (a' := zVa zob (sl.take (k + 1))) (n' := 50 * (k + 1)) (by rw [HX.out, HS2.out]; simp only [Acc.app, List.append_assoc]) (by omega))
     go_roundw
     case rel => exact ⟨k + 1, f5, ⟨A8, c8, h5.l ++ [x.dh]⟩, r5, by omega, by go_num, HFin.out⟩
     case measure => simp [intOf]; omega
   ·skip
    have e1 : (x.kind == 1) = false := by rw [ck]; rfl
    have e2 : (x.kind == 2) = true := by rw [ck]; rfl
    have e3 : (x.kind == 3) = false := by rw [ck]; rfl
    have e4 : (x.kind == 4) = false := by rw [ck]; rfl
    have e5 : (x.kind == 5) = false := by rw [ck]; rfl
    clear d0 d1 d2
    have hblA7 : Below W2.heap.size W2 (W2.alloc (.cells #[.int .i64 x.hdr] 3)) := (Below.refl _ _).alloc (Nat.le_refl _) _
    have HBlA7 := Hd hblA7
    have HAaA7 := Hd (HT2.out.b.below hblA7)
    have hnA7 : h.l.length ≤ 1000 := by have h1 := HT2.out.nf; have h2 := HT2.out.nh; have h3 := HT2.out.nr; simp only [List.length_nil] at h1 h2 h3; omega
    obtain ⟨q0, q1, q2⟩ : (∀ i, W2.cell? ⟨g, i, none⟩ = _) ∧ (∀ i, W2.frozen? ⟨g, i, none⟩ = false) ∧ g < W2.heap.size := ⟨fun i => HT2.out.b.box.cell i, fun i => HT2.out.b.box.frozen i, HT2.out.b.box.lt⟩
    obtain ⟨t0, t1, t2⟩ := Held.at_ HH2.out (.head _)
    clear hblA7
    go_upto_region 16 with (at_builtin; (refine zma rfl _ _ rfl (g + 1) h.a h.l.length h.c h.l rfl rfl HAaA7.out.ho _ _ 1 _ [x.hdr] rfl rfl (zsb W2 _ rfl x.hdr) (by omega) (by simp; omega) ?_; intro A7 c7 w8 hO2 hG2 hA2; have HOA7 := Hd hO2; have HGA7 := Hd hG2; have HXA7 := Hd hA2; clear q0 q1 q2 t0 t1 t2; obtain ⟨q0, q1, q2⟩ := HT2.out.b.boxG HBlA7.out hG2 (by simp); clear hO2 hG2 hA2))
    refine zfa ?_
    intro W3 hWO
    have hpu := AccTo.pushH HT2.out.b HBlA7.out HGA7.out HOA7.out HXA7.out
    rw [← hWO] at hpu
    have HT3 := Hd (HT2.out.trans hpu)
    have HH3 := Hd (HH2.out.kept hpu.kept hpu.sub)
    clear hWO hpu q0 q1 q2
    obtain ⟨t0, t1, t2⟩ := Held.at_ HH3.out (.head _)
    have HS1 := Hd (show zob x = Acc.app (⟨[], [x.hdr], []⟩) (if (x.kind = 1 ∨ x.kind = 4) ∧ x.dh ≠ -1 then ⟨[], [x.dh], []⟩ else .none_) by unfold zob; congr 1; simp [ck])
    have HFin := Hd (show AccTo N g ⟨none, 0, []⟩ ⟨none, 0, []⟩ ⟨none, 0, []⟩ (zVa zob (sl.take (k + 1))) (50 * (k + 1)) w1 W3 f ⟨A7, c7, h.l ++ [x.hdr]⟩ r from HT3.out.conv (by rw [HX.out, HS1.out, if_neg (by simp [ck]), Acc.app_none]; first | done | exact Acc.app_none _ | (simp only [Acc.app, Acc.none_, List.append_assoc, List.append_nil])) (by omega))
    go_wp2_with fail
    go_roundw
    case rel => exact ⟨k + 1, f, ⟨A7, c7, h.l ++ [x.hdr]⟩, r, by omega, by go_num, HFin.out⟩
    case measure => simp [intOf]; omega
   ·skip
    have e1 : (x.kind == 1) = false := by rw [ck]; rfl
    have e2 : (x.kind == 2) = false := by rw [ck]; rfl
    have e3 : (x.kind == 3) = true := by rw [ck]; rfl
    have e4 : (x.kind == 4) = false := by rw [ck]; rfl
    have e5 : (x.kind == 5) = false := by rw [ck]; rfl
    go_upto_region 16 with (fail)
    clear d0 d1 d2
    obtain ⟨t0, t1, t2⟩ := Held.at_ HH2.out (.head _)
    have HS1 := Hd (show zob x = Acc.app (Acc.none_) (if (x.kind = 1 ∨ x.kind = 4) ∧ x.dh ≠ -1 then ⟨[], [x.dh], []⟩ else .none_) by unfold zob; congr 1; simp [ck])
    have HFin := Hd (show AccTo N g ⟨none, 0, []⟩ ⟨none, 0, []⟩ ⟨none, 0, []⟩ (zVa zob (sl.take (k + 1))) (50 * (k + 1)) w1 W2 f h r from HT2.out.conv (by rw [HX.out, HS1.out, if_neg (by simp [ck]), Acc.app_none]; first | done | exact Acc.app_none _ | (simp only [Acc.app, Acc.none_, List.append_assoc, List.append_nil])) (by omega))
    go_wp2_with fail
    go_roundw
    case rel => exact ⟨k + 1, f, h, r, by omega, by go_num, HFin.out⟩
    case measure => simp [intOf]; omega
   ·skip
    have e1 : (x.kind == 1) = false := by rw [ck]; rfl
    have e2 : (x.kind == 2) = false := by rw [ck]; rfl
    have e3 : (x.kind == 3) = false := by rw [ck]; rfl
    have e4 : (x.kind == 4) = true := by rw [ck]; rfl
    have e5 : (x.kind == 5) = false := by rw [ck]; rfl
    go_wp2_with fail
    have hxl := ki (.inl ck)
    with_reducible refine (zhc N g f h r x.index W2 HA2.out ((HXo.out.index.below (HT2.out.kept.below (B := N) (fun k hk => (HT0.out.b.foot hk).1) (by have := HT0.out.b.box.lt; omega))).imp (fun _ _ => trivial)) (by omega) (by omega) (by omega)).mono ?_
    rintro e w5 ⟨rfl, hstep⟩
    obtain ⟨f5, h5, r5, hT'⟩ := AccTo.of_step hstep
    have HT5 := Hd (HT2.out.trans hT')
    have HH5 := Hd (HH2.out.kept hT'.kept hT'.sub)
    clear hstep hT'
    clear d0 d1 d2
    have hblA7 : Below w5.heap.size w5 (w5.alloc (.cells #[.int .i64 x.reg] 3)) := (Below.refl _ _).alloc (Nat.le_refl _) _
    have HBlA7 := Hd hblA7
    have HAaA7 := Hd (HT5.out.b.below hblA7)
    have hnA7 : r5.l.length ≤ 1000 := by have h1 := HT5.out.nf; have h2 := HT5.out.nh; have h3 := HT5.out.nr; simp only [List.length_nil] at h1 h2 h3; omega
    obtain ⟨q0, q1, q2⟩ : (∀ i, w5.cell? ⟨g, i, none⟩ = _) ∧ (∀ i, w5.frozen? ⟨g, i, none⟩ = false) ∧ g < w5.heap.size := ⟨fun i => HT5.out.b.box.cell i, fun i => HT5.out.b.box.frozen i, HT5.out.b.box.lt⟩
    obtain ⟨t0, t1, t2⟩ := Held.at_ HH5.out (.head _)
    clear hblA7
    go_upto_region 16 with (at_builtin; (refine zma rfl _ _ rfl (g + 1) r5.a r5.l.length r5.c r5.l rfl rfl HAaA7.out.ro _ _ 1 _ [x.reg] rfl rfl (zsb w5 _ rfl x.reg) (by omega) (by simp; omega) ?_; intro A7 c7 w8 hO2 hG2 hA2; have HOA7 := Hd hO2; have HGA7 := Hd hG2; have HXA7 := Hd hA2; clear q0 q1 q2 t0 t1 t2; obtain ⟨q0, q1, q2⟩ := HT5.out.b.boxG HBlA7.out hG2 (by simp); clear hO2 hG2 hA2))
    refine zfa ?_
    intro W3 hWO
    have hpu := AccTo.pushR HT5.out.b HBlA7.out HGA7.out HOA7.out HXA7.out
    rw [← hWO] at hpu
    have HT3 := Hd (HT5.out.trans hpu)
    have HH3 := Hd (HH5.out.kept hpu.kept hpu.sub)
    clear hWO hpu q0 q1 q2
    obtain ⟨t0, t1, t2⟩ := Held.at_ HH3.out (.head _)
    have HS1 := Hd (show zob x = Acc.app ((exAcc x.index.l).app ⟨[], [], [x.reg]⟩) (if (x.kind = 1 ∨ x.kind = 4) ∧ x.dh ≠ -1 then ⟨[], [x.dh], []⟩ else .none_) by unfold zob; congr 1; simp [ck])
    by_cases cd : x.dh = -1
    ·have cd' : (x.dh != -1) = false := by simp [cd]
     have HFin := Hd (show AccTo N g ⟨none, 0, []⟩ ⟨none, 0, []⟩ ⟨none, 0, []⟩ (zVa zob (sl.take (k + 1))) (50 * (k + 1)) w1 W3 f5 h5 ⟨A7, c7, r5.l ++ [x.reg]⟩ from HT3.out.conv (by rw [HX.out, HS1.out, if_neg (fun h => h.2 cd), Acc.app_none]; first | done | (simp only [Acc.app, List.append_assoc])) (by omega))
     go_wp2_with fail
     go_roundw
     case rel => exact ⟨k + 1, f5, h5, ⟨A7, c7, r5.l ++ [x.reg]⟩, by omega, by go_num, HFin.out⟩
     case measure => simp [intOf]; omega
    ·have cd' : (x.dh != -1) = true := by simp [cd]
     have hcd : (x.kind = 1 ∨ x.kind = 4) ∧ x.dh ≠ -1 := ⟨by simp [ck], cd⟩
     have HS2 := Hd (HS1.out.trans (by rw [if_pos hcd]))
     clear t0 t1 t2
     have hblA8 : Below W3.heap.size W3 (W3.alloc (.cells #[.int .i64 x.dh] 3)) := (Below.refl _ _).alloc (Nat.le_refl _) _
     have HBlA8 := Hd hblA8
     have HAaA8 := Hd (HT3.out.b.below hblA8)
     have hnA8 : h5.l.length ≤ 1000 := by have h1 := HT3.out.nf; have h2 := HT3.out.nh; have h3 := HT3.out.nr; simp only [List.length_nil] at h1 h2 h3; omega
     obtain ⟨q0, q1, q2⟩ : (∀ i, W3.cell? ⟨g, i, none⟩ = _) ∧ (∀ i, W3.frozen? ⟨g, i, none⟩ = false) ∧ g < W3.heap.size := ⟨fun i => HT3.out.b.box.cell i, fun i => HT3.out.b.box.frozen i, HT3.out.b.box.lt⟩
     obtain ⟨t0, t1, t2⟩ := Held.at_ HH3.out (.head _)
     clear hblA8
     go_wp2_with (at_builtin; (refine zma rfl _ _ rfl (g + 1) h5.a h5.l.length h5.c h5.l rfl rfl HAaA8.out.ho _ _ 1 _ [x.dh] rfl rfl (zsb W3 _ rfl x.dh) (by omega) (by simp; omega) ?_; intro A8 c8 w8 hO2 hG2 hA2; have HOA8 := Hd hO2; have HGA8 := Hd hG2; have HXA8 := Hd hA2; clear q0 q1 q2 t0 t1 t2; obtain ⟨q0, q1, q2⟩ := HT3.out.b.boxG HBlA8.out hG2 (by simp); clear hO2 hG2 hA2))
     have HFin := Hd ((HT3.out.trans (AccTo.pushH HT3.out.b HBlA8.out HGA8.out HOA8.out HXA8.out)).conv (a' := zVa zob (sl.take (k + 1))) (n' := 50 * (k + 1)) (by rw [HX.out, HS2.out]; simp only [Acc.app, List.append_assoc]) (by omega))
     go_roundw
     case rel => exact ⟨k + 1, f5, ⟨A8, c8, h5.l ++ [x.dh]⟩, ⟨A7, c7, r5.l ++ [x.reg]⟩, by omega, by go_num, HFin.out⟩
     case measure => simp [intOf]; omega
   ·skip
    have e1 : (x.kind == 1) = false := by rw [ck]; rfl
    have e2 : (x.kind == 2) = false := by rw [ck]; rfl
    have e3 : (x.kind == 3) = false := by rw [ck]; rfl
    have e4 : (x.kind == 4) = false := by rw [ck]; rfl
    have e5 : (x.kind == 5) = true := by rw [ck]; rfl
    go_wp2_with fail
    have hxl := ki (.inr ck)
    with_reducible refine (zhc N g f h r x.index W2 HA2.out ((HXo.out.index.below (HT2.out.kept.below (B := N) (fun k hk => (HT0.out.b.foot hk).1) (by have := HT0.out.b.box.lt; omega))).imp (fun _ _ => trivial)) (by omega) (by omega) (by omega)).mono ?_
    rintro e w5 ⟨rfl, hstep⟩
    obtain ⟨f5, h5, r5, hT'⟩ := AccTo.of_step hstep
    have HT5 := Hd (HT2.out.trans hT')
    have HH5 := Hd (HH2.out.kept hT'.kept hT'.sub)
    clear hstep hT'
    have HA5 := Hd HT5.out.b
    have hq1 := HT5.out.nf
    have hq2 := HT5.out.nh
    simp only [List.length_nil] at hq1 hq2
    have hxi := hxl
    clear d0 d1 d2 hxl
    obtain ⟨d0, d1, d2⟩ := Held.at_ HH5.out (.head _)
    go_wp2_with fail
    have hxl := kv (.inr ck)
    with_reducible refine (zhc N g f5 h5 r5 x.value w5 HA5.out ((HXo.out.value.below (HT5.out.kept.below (B := N) (fun k hk => (HT0.out.b.foot hk).1) (by have := HT0.out.b.box.lt; omega))).imp (fun _ _ => trivial)) (by omega) (by omega) (by omega)).mono ?_
    rintro e w6 ⟨rfl, hstep⟩
    obtain ⟨f6, h6, r6, hT'⟩ := AccTo.of_step hstep
    have HT6 := Hd (HT5.out.trans hT')
    have HH6 := Hd (HH5.out.kept hT'.kept hT'.sub)
    clear hstep hT'
    clear d0 d1 d2
    obtain ⟨t0, t1, t2⟩ := Held.at_ HH6.out (.head _)
    go_upto_region 16 with (fail)
    clear t0 t1 t2
    obtain ⟨t0, t1, t2⟩ := Held.at_ HH6.out (.head _)
    have HS1 := Hd (show zob x = Acc.app ((exAcc x.index.l).app (exAcc x.value.l)) (if (x.kind = 1 ∨ x.kind = 4) ∧ x.dh ≠ -1 then ⟨[], [x.dh], []⟩ else .none_) by unfold zob; congr 1; simp [ck])
    have HFin := Hd (show AccTo N g ⟨none, 0, []⟩ ⟨none, 0, []⟩ ⟨none, 0, []⟩ (zVa zob (sl.take (k + 1))) (50 * (k + 1)) w1 w6 f6 h6 r6 from HT6.out.conv (by rw [HX.out, HS1.out, if_neg (by simp [ck]), Acc.app_none]; first | done | exact Acc.app_none _ | (simp only [Acc.app, Acc.none_, List.append_assoc, List.append_nil])) (by omega))
    go_wp2_with fail
    go_roundw
    case rel => exact ⟨k + 1, f6, h6, r6, by omega, by go_num, HFin.out⟩
    case measure => simp [intOf]; omega
  ·obtain rfl : k = sl.length := by omega
   have HV2 := Hd (show zVa zob sl = zVa zob (sl.take sl.length) by rw [List.take_length])
   have hAf := HAr.out
   have hT := HT.out
   clear hlt
   go_wp2_with fail
   with_reducible refine (sorted_any N g f h r wr HAr.out (by omega) (by omega) (by omega)).mono ?_
   rintro e w9 ⟨⟨f9, h9, r9, rfl, s1, s2, s3, n1, n2, n3, o1, o2, o3⟩, hk9⟩
   have HE := Hd (show AccSame f9 h9 r9 (zjd d i) by
    rw [HV.out, HV2.out]
    exact ⟨s1.trans hT.sf, s2.trans hT.sh, s3.trans hT.sr⟩)
   have HO := Hd (show OwnFR w9 N f9.a f9.c f9.l ∧ OwnZ w9 N h9.a h9.c h9.l ∧ OwnZ w9 N r9.a r9.c r9.l from ⟨Own.rebase o1 (by omega), Own.rebase o2 (by omega), Own.rebase o3 (by omega)⟩)
   have HB9 := Hd (show Below N w w9 from (HB1.out.trans HBw.out).trans (hk9.below (fun k hk => (HAr.out.foot hk).1) (by have := HAr.out.box.lt; omega)))
   clear hAf hT s1 s2 s3 o1 o2 o3 hk9
   go_wp2_with fail
   go_returns
   exact ⟨⟨f9, h9, r9, rfl, HE.out, by omega, by omega, by omega, HO.out.1, HO.out.2.1, HO.out.2.2⟩, HB9.out⟩
open Go.RowKit
set_option maxRecDepth 100000 in
set_option maxHeartbeats 8000000 in
theorem writes_any (d : PrgD) (i : Int) (w : World) (hR : PrgR w w.heap.size d) (hPB : PrgC d) :
  Calls Tryz.prog 100 #[PrgD.v d, .int .i64 i] w fun e w' => (∃ (f : SL (Int × Int)) (h r : SL Int), e = .returned (.tuple #[.slice f.a f.l.length f.c, .slice h.a h.l.length h.c, .slice r.a r.l.length r.c]) ∧ AccSame f h r (zuc d i) ∧ f.l.length ≤ 1000 ∧ h.l.length ≤ 1000 ∧ r.l.length ≤ 1000 ∧ OwnFR w' w.heap.size f.a f.c f.l ∧ OwnZ w' w.heap.size h.a h.c h.l ∧ OwnZ w' w.heap.size r.a r.c r.l) ∧ Below w.heap.size w w' := by
 obtain ⟨N, hN⟩ : ∃ N, w.heap.size = N := ⟨_, rfl⟩
 rw [hN] at hR ⊢
 have F0 := Fr.start w
 rw [hN] at F0
 have HF0 := Hd F0
 have HR := Hd hR
 have HHd0 := Hd hR.hZ
 have hhl0 := hR.hZ.len
 have HPBd := Hd hPB
 obtain ⟨A0, hA0⟩ : ∃ z, d.hZ.a = z := ⟨_, rfl⟩
 have HA0 := Hd hA0
 have hbc := bodyC d i
 obtain ⟨hbl, hbs⟩ := hbc
 have HBS := Hd hbs
 have HV := Hd (show zuc d i = zVa (zBa d) (zef d i) from rfl)
 clear hR F0 hbs hPB
 unfold PrgD.v PrgD.vs
 rw [hA0]
 clear hA0
 go_enter Tryz.func100, Tryz.ntmps100
 go_wp2_with fail
 refine Calls.named ?_
 intro W hW
 have F1 := ((HF0.out.alloc _ _).alloc _ _).of_eq hW
 simp only [World.size_alloc, hN] at F1 ⊢
 have HF1 := Hd F1
 clear F1 hW
 have hcon := body_any d i W N (HF1.out.prg HR.out) (HR.out.below HF1.out.below) HF1.out.le
 unfold PrgD.v PrgD.vs at hcon
 rw [HA0.out] at hcon
 have HCon := Hd hcon
 clear hcon
 with_reducible refine HCon.out.mono ?_
 rintro e w1 ⟨⟨st, rfl, hst, hS⟩, hb1⟩
 have HF2 := Hd (HF1.out.call hb1)
 have HS := Hd hS
 rw [← hst] at hbl HBS HV
 have hA := AccB.mk (N := N) (g := N + 1) (f := ⟨none, 0, []⟩) (h := ⟨none, 0, []⟩) (r := ⟨none, 0, []⟩) (Nat.le_succ N) (HF2.out.blk _ (.head _)).2 (Own.none_ _ _ _ _) (Own.none_ _ _ _ _) (Own.none_ _ _ _ _) (fun k hk => by simp [ownB] at hk)
 have HT0 := Hd (AccTo.refl hA)
 have HB1 := Hd HF2.out.below
 have HPB := Hd (fun i => ((HF2.out.blk _ (.tail _ (.head _))).2.cell i))
 have HHd := Hd (HHd0.out.below HF2.out.below)
 obtain ⟨sa, sc, sl⟩ := st
 simp only at hbl HBS HV ⊢
 obtain ⟨g, hg⟩ : ∃ z, N + 1 = z := ⟨_, rfl⟩
 rw [hg] at HT0 ⊢
 have hNg : N ≤ g := by omega
 clear hS hst hb1 HF1 HF2 hA
 go_wp2_with fail
 go_loopw [15] (fun i wr => ∃ (k : Nat) (f : SL (Int × Int)) (h r : SL Int), k ≤ sl.length ∧ i = .int .i64 k ∧ AccTo N g ⟨none, 0, []⟩ ⟨none, 0, []⟩ ⟨none, 0, []⟩ (zVa (zBa d) (sl.take k)) (20 * k) w1 wr f h r) (fun i _ => sl.length - (intOf i).toNat)
 case atStart => exact ⟨0, ⟨none, 0, []⟩, ⟨none, 0, []⟩, ⟨none, 0, []⟩, Nat.zero_le _, rfl, HT0.out⟩
 case round =>
  obtain ⟨k, f, h, r, hk, rfl, hT⟩ := hrel
  have HT := Hd hT
  have hfl := hT.nf
  have hhl := hT.nh
  have hrl := hT.nr
  simp only [List.length_nil, Nat.zero_add] at hfl hhl hrl
  have hbw : Below N w1 wr := hT.kept.below (fun k hk => (HT0.out.b.foot hk).1) (by have := HT0.out.b.box.lt; omega)
  have HBw := Hd hbw
  have hAr := hT.b
  have HAr := Hd hAr
  clear hT hbw hAr
  by_cases hlt : k < sl.length
  ·obtain ⟨b2, off2, x, hA2, hb2, hx, hxok, hc2⟩ := (HS.out.below HBw.out).at_ st_len (by omega) hlt
   have p0 := hc2 0 _ rfl
   have p1 := hc2 1 _ rfl
   have p2 := hc2 2 _ rfl
   have p3 := hc2 3 _ rfl
   have p4 := hc2 4 _ rfl
   have p5 := hc2 5 _ rfl
   have p6 := hc2 6 _ rfl
   simp only [Nat.add_zero] at p0
   simp only at hA2
   have HX := Hd (zbg (zBa d) hx)
   obtain ⟨kn, kh, _, _⟩ := HBS.out x (List.mem_of_getElem? hx)
   have HXo := Hd (HS.out.ok x (List.mem_of_getElem? hx))
   have hk1 : (k : Int) < sl.length := by omega
   subst hA2
   clear hc2 hx hxok
   go_upto_region 5 with (fail)
   refine zfa ?_
   intro W2 hW2
   obtain ⟨b9, hb9⟩ : ∃ z, wr.heap.size = z := ⟨_, rfl⟩
   have hbW : Below wr.heap.size wr W2 := by rw [hW2]; exact (Below.refl _ _).alloc (Nat.le_refl _) _
   have HA2 := Hd (HAr.out.below hbW)
   have HH2 := Hd (show Held (AccF g f h r) W2 [(b9, 93, stCells x)] by
    rw [hW2, ← hb9]; exact Held.nil_.alloc (fun k hk => (HAr.out.foot hk).2.2) _ _)
   have HT2 := Hd (show AccTo N g ⟨none, 0, []⟩ ⟨none, 0, []⟩ ⟨none, 0, []⟩ (zVa (zBa d) (sl.take k)) (20 * k) w1 W2 f h r from ⟨HA2.out, HT.out.sf, HT.out.sh, HT.out.sr, HT.out.nf, HT.out.nh, HT.out.nr, HT.out.sub, HT.out.kept.step_below hbW⟩)
   simp only [hb9] at hbW ⊢
   clear hW2 p0 p1 p2 p3 p4 p5 p6 hbW
   obtain ⟨d0, d1, d2⟩ := Held.at_ HH2.out (.head _)
   rcases kn with ck | ck | ck | ck | ck
   ·skip
    have e1 : (x.kind == 1) = true := by rw [ck]; rfl
    have e2 : (x.kind == 2) = false := by rw [ck]; rfl
    have e3 : (x.kind == 3) = false := by rw [ck]; rfl
    have e4 : (x.kind == 4) = false := by rw [ck]; rfl
    have e5 : (x.kind == 5) = false := by rw [ck]; rfl
    clear d0 d1 d2
    have HW := Hd (show zBa d x = ⟨[(x.dh, x.df)], [], []⟩ by unfold zBa; rw [if_pos (by simp [ck])])
    have hblA7 : Below W2.heap.size W2 (W2.alloc (.cells #[.int .i64 (x.dh), .int .i64 (x.df)] 82)) := (Below.refl _ _).alloc (Nat.le_refl _) _
    have HBlA7 := Hd hblA7
    have HAaA7 := Hd (HT2.out.b.below hblA7)
    have hnA7 : f.l.length ≤ 100000 := by have h1 := HT2.out.nf; have h2 := HT2.out.nh; have h3 := HT2.out.nr; simp only [List.length_nil] at h1 h2 h3; omega
    obtain ⟨q0, q1, q2⟩ : (∀ i, W2.cell? ⟨g, i, none⟩ = _) ∧ (∀ i, W2.frozen? ⟨g, i, none⟩ = false) ∧ g < W2.heap.size := ⟨fun i => HT2.out.b.box.cell i, fun i => HT2.out.b.box.frozen i, HT2.out.b.box.lt⟩
    obtain ⟨t0, t1, t2⟩ := Held.at_ HH2.out (.head _)
    have HRlA7 := Hd (rd_lit (enc := frE) W2 82 #[.int .i64 (x.dh), .int .i64 (x.df)] W2.heap.size rfl [(x.dh, x.df)] rfl zab (by simp [maxLen]))
    clear hblA7
    go_wp2_with (at_builtin; (refine zcb rfl _ _ rfl (g + 1) f.a f.l.length f.c f.l rfl rfl HAaA7.out.fo _ _ 1 _ [(x.dh, x.df)] rfl rfl HRlA7.out (by omega) (by simp; omega) ?_; intro A7 c7 w8 hO2 hG2 hA2; have HOA7 := Hd hO2; have HGA7 := Hd hG2; have HXA7 := Hd hA2; clear q0 q1 q2 t0 t1 t2; obtain ⟨q0, q1, q2⟩ := HT2.out.b.boxG HBlA7.out hG2 (by simp); clear hO2 hG2 hA2))
    have HFin := Hd ((HT2.out.trans (AccTo.pushF HT2.out.b HBlA7.out HGA7.out HOA7.out HXA7.out)).conv (a' := zVa (zBa d) (sl.take (k + 1))) (n' := 20 * (k + 1)) (by rw [HX.out, HW.out]) (by omega))
    go_roundw
    case rel => exact ⟨k + 1, ⟨A7, c7, f.l ++ [(x.dh, x.df)]⟩, h, r, by omega, by go_num, HFin.out⟩
    case measure => simp [intOf]; omega
   ·skip
    have e1 : (x.kind == 1) = false := by rw [ck]; rfl
    have e2 : (x.kind == 2) = true := by rw [ck]; rfl
    have e3 : (x.kind == 3) = false := by rw [ck]; rfl
    have e4 : (x.kind == 4) = false := by rw [ck]; rfl
    have e5 : (x.kind == 5) = false := by rw [ck]; rfl
    have hhd : 0 ≤ x.hdr ∧ x.hdr < d.hZ.l.length := kh (by simp [ck])
    obtain ⟨n, hn⟩ : ∃ n : Nat, x.hdr = n := ⟨x.hdr.toNat, by omega⟩
    have hn1 : n < d.hZ.l.length := by omega
    have hn2 : (n : Int) < d.hZ.l.length := by omega
    have hh2 := HH2.out
    unfold stCells at hh2
    rw [hn] at hh2
    have HHn := Hd hh2
    clear d0 d1 d2 hh2
    have hblA7 : Below W2.heap.size W2 (W2.alloc (.cells #[.int .i64 (n : Int)] 3)) := (Below.refl _ _).alloc (Nat.le_refl _) _
    have HBlA7 := Hd hblA7
    have HAaA7 := Hd (HT2.out.b.below hblA7)
    have hnA7 : h.l.length ≤ 100000 := by have h1 := HT2.out.nf; have h2 := HT2.out.nh; have h3 := HT2.out.nr; simp only [List.length_nil] at h1 h2 h3; omega
    obtain ⟨q0, q1, q2⟩ : (∀ i, W2.cell? ⟨g, i, none⟩ = _) ∧ (∀ i, W2.frozen? ⟨g, i, none⟩ = false) ∧ g < W2.heap.size := ⟨fun i => HT2.out.b.box.cell i, fun i => HT2.out.b.box.frozen i, HT2.out.b.box.lt⟩
    obtain ⟨t0, t1, t2⟩ := Held.at_ HHn.out (.head _)
    clear hblA7
    go_upto_region 12 with (at_builtin; (refine zma rfl _ _ rfl (g + 1) h.a h.l.length h.c h.l rfl rfl HAaA7.out.ho _ _ 1 _ [(n : Int)] rfl rfl (zsb W2 _ rfl (n : Int)) (by omega) (by simp; omega) ?_; intro A7 c7 w8 hO2 hG2 hA2; have HOA7 := Hd hO2; have HGA7 := Hd hG2; have HXA7 := Hd hA2; clear q0 q1 q2 t0 t1 t2; obtain ⟨q0, q1, q2⟩ := HT2.out.b.boxG HBlA7.out hG2 (by simp); clear hO2 hG2 hA2))
    refine zfa ?_
    intro W3 hWO
    have hpu := AccTo.pushH HT2.out.b HBlA7.out HGA7.out HOA7.out HXA7.out
    rw [← hWO] at hpu
    have HT3 := Hd (HT2.out.trans hpu)
    have HH3 := Hd (HHn.out.kept hpu.kept hpu.sub)
    clear hWO hpu q0 q1 q2
    obtain ⟨d0, d1, d2⟩ := Held.at_ HH3.out (.head _)
    have HPr := Hd (show Below g w1 W3 from HT3.out.kept.below (fun k hk => (HT0.out.b.foot hk).2.1) (by have := HT0.out.b.box.lt; omega))
    have v0 : ∀ i, W3.cell? ⟨N, i, none⟩ = _ := fun i => (HPr.out.cell (p := ⟨N, i, none⟩) (by show N < g; omega)).trans (HPB.out i)
    obtain ⟨b3, off3, y, hA3, hb3, hy, hyok, hc3⟩ := (HHd.out.below (HPr.out.mono hNg)).at_ (fun _ => rfl) (by omega) hn1
    have p1 := hc3 1 _ rfl
    have hy12 := hdrC_of (HPBd.out.hd y (List.mem_of_getElem? hy))
    have HY := Hd (show zoc d x.hdr = y.fields.l by unfold zoc; rw [hn, if_neg (by omega), if_neg (by omega), Int.toNat_natCast, hy])
    rw [HA0.out] at hA3
    subst hA3
    clear hc3 hy hyok
    obtain ⟨m, hm⟩ : ∃ m, y.fields.l.length = m := ⟨_, rfl⟩
    have HM := Hd hm
    rw [hm] at p1 hy12
    clear hm
    have HW := Hd (show zBa d x = ⟨(List.range m).map fun (f : Nat) => ((n : Int), (f : Int)), [(n : Int)], []⟩ by unfold zBa; rw [if_neg (by simp [ck]), if_pos (by simp [ck]), HY.out, HM.out, hn])
    go_upto_block 2 with (fail)
    refine zfa ?_
    intro W4 hW4
    have HT4 := Hd (show AccTo N g ⟨none, 0, []⟩ ⟨none, 0, []⟩ ⟨none, 0, []⟩ ((zVa (zBa d) (sl.take k)).app ⟨[], [(n : Int)], []⟩) (20 * k + 1) w1 W4 f ⟨A7, c7, h.l ++ [(n : Int)]⟩ r by rw [hW4]; exact HT3.out)
    have HH4 := Hd (show Held (AccF g f ⟨A7, c7, h.l ++ [(n : Int)]⟩ r) W4 [(b9, 93, _)] by rw [hW4]; exact HH3.out)
    clear hW4 v0 p1 d0 d1 d2
    go_loopw [49] (fun s wr2 => ∃ (j : Nat) (f2 : SL (Int × Int)), j ≤ m ∧ s = .int .i64 j ∧ AccTo N g ⟨none, 0, []⟩ ⟨none, 0, []⟩ ⟨none, 0, []⟩ (((zVa (zBa d) (sl.take k)).app ⟨[], [(n : Int)], []⟩).app ⟨(List.range j).map fun (f : Nat) => ((n : Int), (f : Int)), [], []⟩) (20 * k + 1 + j) w1 wr2 f2 ⟨A7, c7, h.l ++ [(n : Int)]⟩ r ∧
     Held (AccF g f2 ⟨A7, c7, h.l ++ [(n : Int)]⟩ r) wr2 [(b9, 93, #[.int .i64 x.kind, .int .i64 x.dh, .int .i64 x.df, .int .i64 x.reg, .int .i64 n, .slice x.index.a x.index.l.length x.index.c, .slice x.value.a x.value.l.length x.value.c])]) (fun s _ => m - (intOf s).toNat)
    case atStart => exact ⟨0, f, Nat.zero_le _, rfl, HT4.out.conv (by simp [Acc.app]) (by omega), HH4.out⟩
    case round =>
     obtain ⟨j, f2, hj, rfl, hT5, hH5⟩ := hrel
     have HT5 := Hd hT5
     have HH5 := Hd hH5
     clear hT5 hH5
     by_cases hjl : j < m
     ·have hj1 : (j : Int) < m := by omega
      have hblA9 : Below wr.heap.size wr (wr.alloc (.cells #[.int .i64 ((n : Int)), .int .i64 ((j : Int))] 82)) := (Below.refl _ _).alloc (Nat.le_refl _) _
      have HBlA9 := Hd hblA9
      have HAaA9 := Hd (HT5.out.b.below hblA9)
      have hnA9 : f2.l.length ≤ 100000 := by have h1 := HT5.out.nf; have h2 := HT5.out.nh; have h3 := HT5.out.nr; simp only [List.length_nil] at h1 h2 h3; omega
      obtain ⟨q0, q1, q2⟩ : (∀ i, wr.cell? ⟨g, i, none⟩ = _) ∧ (∀ i, wr.frozen? ⟨g, i, none⟩ = false) ∧ g < wr.heap.size := ⟨fun i => HT5.out.b.box.cell i, fun i => HT5.out.b.box.frozen i, HT5.out.b.box.lt⟩
      obtain ⟨t0, t1, t2⟩ := Held.at_ HH5.out (.head _)
      have HRlA9 := Hd (rd_lit (enc := frE) wr 82 #[.int .i64 ((n : Int)), .int .i64 ((j : Int))] wr.heap.size rfl [((n : Int), (j : Int))] rfl zab (by simp [maxLen]))
      clear hblA9
      go_wp2_with (at_builtin; (refine zcb rfl _ _ rfl (g + 1) f2.a f2.l.length f2.c f2.l rfl rfl HAaA9.out.fo _ _ 1 _ [((n : Int), (j : Int))] rfl rfl HRlA9.out (by omega) (by simp; omega) ?_; intro A9 c9 w8 hO2 hG2 hA2; have HOA9 := Hd hO2; have HGA9 := Hd hG2; have HXA9 := Hd hA2; clear q0 q1 q2 t0 t1 t2; obtain ⟨q0, q1, q2⟩ := HT5.out.b.boxG HBlA9.out hG2 (by simp); clear hO2 hG2 hA2))
      have hpu := AccTo.pushF HT5.out.b HBlA9.out HGA9.out HOA9.out HXA9.out
      have HT6 := Hd ((HT5.out.trans hpu).conv (a' := ((zVa (zBa d) (sl.take k)).app ⟨[], [(n : Int)], []⟩).app ⟨(List.range (j + 1)).map fun (f : Nat) => ((n : Int), (f : Int)), [], []⟩) (n' := 20 * k + 1 + (j + 1)) (by rw [List.range_succ, List.map_append]; simp [Acc.app]) (by omega))
      have HH6 := Hd (HH5.out.kept hpu.kept hpu.sub)
      clear hpu
      go_roundw
      case rel => exact ⟨j + 1, ⟨A9, c9, f2.l ++ [((n : Int), (j : Int))]⟩, by omega, by go_num, HT6.out, HH6.out⟩
      case measure => simp [intOf]; omega
     ·obtain rfl : j = m := by omega
      have HFin := Hd (HT5.out.conv (a' := zVa (zBa d) (sl.take (k + 1))) (n' := 20 * (k + 1)) (by rw [HX.out, HW.out]; simp [Acc.app]) (by omega))
      clear hjl
      go_wp2_with fail
      go_roundw
      case rel => exact ⟨k + 1, f2, ⟨A7, c7, h.l ++ [(n : Int)]⟩, r, by omega, by go_num, HFin.out⟩
      case measure => simp [intOf]; omega
   ·skip
    have e1 : (x.kind == 1) = false := by rw [ck]; rfl
    have e2 : (x.kind == 2) = false := by rw [ck]; rfl
    have e3 : (x.kind == 3) = true := by rw [ck]; rfl
    have e4 : (x.kind == 4) = false := by rw [ck]; rfl
    have e5 : (x.kind == 5) = false := by rw [ck]; rfl
    have hhd : 0 ≤ x.hdr ∧ x.hdr < d.hZ.l.length := kh (by simp [ck])
    obtain ⟨n, hn⟩ : ∃ n : Nat, x.hdr = n := ⟨x.hdr.toNat, by omega⟩
    have hn1 : n < d.hZ.l.length := by omega
    have hn2 : (n : Int) < d.hZ.l.length := by omega
    have hh2 := HH2.out
    unfold stCells at hh2
    rw [hn] at hh2
    have HHn := Hd hh2
    clear d0 d1 d2 hh2
    have hblA7 : Below W2.heap.size W2 (W2.alloc (.cells #[.int .i64 (n : Int)] 3)) := (Below.refl _ _).alloc (Nat.le_refl _) _
    have HBlA7 := Hd hblA7
    have HAaA7 := Hd (HT2.out.b.below hblA7)
    have hnA7 : h.l.length ≤ 100000 := by have h1 := HT2.out.nf; have h2 := HT2.out.nh; have h3 := HT2.out.nr; simp only [List.length_nil] at h1 h2 h3; omega
    obtain ⟨q0, q1, q2⟩ : (∀ i, W2.cell? ⟨g, i, none⟩ = _) ∧ (∀ i, W2.frozen? ⟨g, i, none⟩ = false) ∧ g < W2.heap.size := ⟨fun i => HT2.out.b.box.cell i, fun i => HT2.out.b.box.frozen i, HT2.out.b.box.lt⟩
    obtain ⟨t0, t1, t2⟩ := Held.at_ HHn.out (.head _)
    clear hblA7
    go_upto_region 12 with (at_builtin; (refine zma rfl _ _ rfl (g + 1) h.a h.l.length h.c h.l rfl rfl HAaA7.out.ho _ _ 1 _ [(n : Int)] rfl rfl (zsb W2 _ rfl (n : Int)) (by omega) (by simp; omega) ?_; intro A7 c7 w8 hO2 hG2 hA2; have HOA7 := Hd hO2; have HGA7 := Hd hG2; have HXA7 := Hd hA2; clear q0 q1 q2 t0 t1 t2; obtain ⟨q0, q1, q2⟩ := HT2.out.b.boxG HBlA7.out hG2 (by simp); clear hO2 hG2 hA2))
    refine zfa ?_
    intro W3 hWO
    have hpu := AccTo.pushH HT2.out.b HBlA7.out HGA7.out HOA7.out HXA7.out
    rw [← hWO] at hpu
    have HT3 := Hd (HT2.out.trans hpu)
    have HH3 := Hd (HHn.out.kept hpu.kept hpu.sub)
    clear hWO hpu q0 q1 q2
    obtain ⟨d0, d1, d2⟩ := Held.at_ HH3.out (.head _)
    have HPr := Hd (show Below g w1 W3 from HT3.out.kept.below (fun k hk => (HT0.out.b.foot hk).2.1) (by have := HT0.out.b.box.lt; omega))
    have v0 : ∀ i, W3.cell? ⟨N, i, none⟩ = _ := fun i => (HPr.out.cell (p := ⟨N, i, none⟩) (by show N < g; omega)).trans (HPB.out i)
    obtain ⟨b3, off3, y, hA3, hb3, hy, hyok, hc3⟩ := (HHd.out.below (HPr.out.mono hNg)).at_ (fun _ => rfl) (by omega) hn1
    have p1 := hc3 1 _ rfl
    have hy12 := hdrC_of (HPBd.out.hd y (List.mem_of_getElem? hy))
    have HY := Hd (show zoc d x.hdr = y.fields.l by unfold zoc; rw [hn, if_neg (by omega), if_neg (by omega), Int.toNat_natCast, hy])
    rw [HA0.out] at hA3
    subst hA3
    clear hc3 hy hyok
    obtain ⟨m, hm⟩ : ∃ m, y.fields.l.length = m := ⟨_, rfl⟩
    have HM := Hd hm
    rw [hm] at p1 hy12
    clear hm
    have HW := Hd (show zBa d x = ⟨(List.range m).map fun (f : Nat) => ((n : Int), (f : Int)), [(n : Int)], []⟩ by unfold zBa; rw [if_neg (by simp [ck]), if_pos (by simp [ck]), HY.out, HM.out, hn])
    go_upto_block 2 with (fail)
    refine zfa ?_
    intro W4 hW4
    have HT4 := Hd (show AccTo N g ⟨none, 0, []⟩ ⟨none, 0, []⟩ ⟨none, 0, []⟩ ((zVa (zBa d) (sl.take k)).app ⟨[], [(n : Int)], []⟩) (20 * k + 1) w1 W4 f ⟨A7, c7, h.l ++ [(n : Int)]⟩ r by rw [hW4]; exact HT3.out)
    have HH4 := Hd (show Held (AccF g f ⟨A7, c7, h.l ++ [(n : Int)]⟩ r) W4 [(b9, 93, _)] by rw [hW4]; exact HH3.out)
    clear hW4 v0 p1 d0 d1 d2
    go_loopw [49] (fun s wr2 => ∃ (j : Nat) (f2 : SL (Int × Int)), j ≤ m ∧ s = .int .i64 j ∧ AccTo N g ⟨none, 0, []⟩ ⟨none, 0, []⟩ ⟨none, 0, []⟩ (((zVa (zBa d) (sl.take k)).app ⟨[], [(n : Int)], []⟩).app ⟨(List.range j).map fun (f : Nat) => ((n : Int), (f : Int)), [], []⟩) (20 * k + 1 + j) w1 wr2 f2 ⟨A7, c7, h.l ++ [(n : Int)]⟩ r ∧
     Held (AccF g f2 ⟨A7, c7, h.l ++ [(n : Int)]⟩ r) wr2 [(b9, 93, #[.int .i64 x.kind, .int .i64 x.dh, .int .i64 x.df, .int .i64 x.reg, .int .i64 n, .slice x.index.a x.index.l.length x.index.c, .slice x.value.a x.value.l.length x.value.c])]) (fun s _ => m - (intOf s).toNat)
    case atStart => exact ⟨0, f, Nat.zero_le _, rfl, HT4.out.conv (by simp [Acc.app]) (by omega), HH4.out⟩
    case round =>
     obtain ⟨j, f2, hj, rfl, hT5, hH5⟩ := hrel
     have HT5 := Hd hT5
     have HH5 := Hd hH5
     clear hT5 hH5
     by_cases hjl : j < m
     ·have hj1 : (j : Int) < m := by omega
      have hblA9 : Below wr.heap.size wr (wr.alloc (.cells #[.int .i64 ((n : Int)), .int .i64 ((j : Int))] 82)) := (Below.refl _ _).alloc (Nat.le_refl _) _
      have HBlA9 := Hd hblA9
      have HAaA9 := Hd (HT5.out.b.below hblA9)
      have hnA9 : f2.l.length ≤ 100000 := by have h1 := HT5.out.nf; have h2 := HT5.out.nh; have h3 := HT5.out.nr; simp only [List.length_nil] at h1 h2 h3; omega
      obtain ⟨q0, q1, q2⟩ : (∀ i, wr.cell? ⟨g, i, none⟩ = _) ∧ (∀ i, wr.frozen? ⟨g, i, none⟩ = false) ∧ g < wr.heap.size := ⟨fun i => HT5.out.b.box.cell i, fun i => HT5.out.b.box.frozen i, HT5.out.b.box.lt⟩
      obtain ⟨t0, t1, t2⟩ := Held.at_ HH5.out (.head _)
      have HRlA9 := Hd (rd_lit (enc := frE) wr 82 #[.int .i64 ((n : Int)), .int .i64 ((j : Int))] wr.heap.size rfl [((n : Int), (j : Int))] rfl zab (by simp [maxLen]))
      clear hblA9
      go_wp2_with (at_builtin; (refine zcb rfl _ _ rfl (g + 1) f2.a f2.l.length f2.c f2.l rfl rfl HAaA9.out.fo _ _ 1 _ [((n : Int), (j : Int))] rfl rfl HRlA9.out (by omega) (by simp; omega) ?_; intro A9 c9 w8 hO2 hG2 hA2; have HOA9 := Hd hO2; have HGA9 := Hd hG2; have HXA9 := Hd hA2; clear q0 q1 q2 t0 t1 t2; obtain ⟨q0, q1, q2⟩ := HT5.out.b.boxG HBlA9.out hG2 (by simp); clear hO2 hG2 hA2))
      have hpu := AccTo.pushF HT5.out.b HBlA9.out HGA9.out HOA9.out HXA9.out
      have HT6 := Hd ((HT5.out.trans hpu).conv (a' := ((zVa (zBa d) (sl.take k)).app ⟨[], [(n : Int)], []⟩).app ⟨(List.range (j + 1)).map fun (f : Nat) => ((n : Int), (f : Int)), [], []⟩) (n' := 20 * k + 1 + (j + 1)) (by rw [List.range_succ, List.map_append]; simp [Acc.app]) (by omega))
      have HH6 := Hd (HH5.out.kept hpu.kept hpu.sub)
      clear hpu
      go_roundw
      case rel => exact ⟨j + 1, ⟨A9, c9, f2.l ++ [((n : Int), (j : Int))]⟩, by omega, by go_num, HT6.out, HH6.out⟩
      case measure => simp [intOf]; omega
     ·obtain rfl : j = m := by omega
      have HFin := Hd (HT5.out.conv (a' := zVa (zBa d) (sl.take (k + 1))) (n' := 20 * (k + 1)) (by rw [HX.out, HW.out]; simp [Acc.app]) (by omega))
      clear hjl
      go_wp2_with fail
      go_roundw
      case rel => exact ⟨k + 1, f2, ⟨A7, c7, h.l ++ [(n : Int)]⟩, r, by omega, by go_num, HFin.out⟩
      case measure => simp [intOf]; omega
   ·skip
    have e1 : (x.kind == 1) = false := by rw [ck]; rfl
    have e2 : (x.kind == 2) = false := by rw [ck]; rfl
    have e3 : (x.kind == 3) = false := by rw [ck]; rfl
    have e4 : (x.kind == 4) = true := by rw [ck]; rfl
    have e5 : (x.kind == 5) = false := by rw [ck]; rfl
    clear d0 d1 d2
    have HW := Hd (show zBa d x = ⟨[(x.dh, x.df)], [], []⟩ by unfold zBa; rw [if_pos (by simp [ck])])
    have hblA7 : Below W2.heap.size W2 (W2.alloc (.cells #[.int .i64 (x.dh), .int .i64 (x.df)] 82)) := (Below.refl _ _).alloc (Nat.le_refl _) _
    have HBlA7 := Hd hblA7
    have HAaA7 := Hd (HT2.out.b.below hblA7)
    have hnA7 : f.l.length ≤ 100000 := by have h1 := HT2.out.nf; have h2 := HT2.out.nh; have h3 := HT2.out.nr; simp only [List.length_nil] at h1 h2 h3; omega
    obtain ⟨q0, q1, q2⟩ : (∀ i, W2.cell? ⟨g, i, none⟩ = _) ∧ (∀ i, W2.frozen? ⟨g, i, none⟩ = false) ∧ g < W2.heap.size := ⟨fun i => HT2.out.b.box.cell i, fun i => HT2.out.b.box.frozen i, HT2.out.b.box.lt⟩
    obtain ⟨t0, t1, t2⟩ := Held.at_ HH2.out (.head _)
    have HRlA7 := Hd (rd_lit (enc := frE) W2 82 #[.int .i64 (x.dh), .int .i64 (x.df)] W2.heap.size rfl [(x.dh, x.df)] rfl zab (by simp [maxLen]))
    clear hblA7
    go_wp2_with (at_builtin; (refine zcb rfl _ _ rfl (g + 1) f.a f.l.length f.c f.l rfl rfl HAaA7.out.fo _ _ 1 _ [(x.dh, x.df)] rfl rfl HRlA7.out (by omega) (by simp; omega) ?_; intro A7 c7 w8 hO2 hG2 hA2; have HOA7 := Hd hO2; have HGA7 := Hd hG2; have HXA7 := Hd hA2; clear q0 q1 q2 t0 t1 t2; obtain ⟨q0, q1, q2⟩ := HT2.out.b.boxG HBlA7.out hG2 (by simp); clear hO2 hG2 hA2))
    have HFin := Hd ((HT2.out.trans (AccTo.pushF HT2.out.b HBlA7.out HGA7.out HOA7.out HXA7.out)).conv (a' := zVa (zBa d) (sl.take (k + 1))) (n' := 20 * (k + 1)) (by rw [HX.out, HW.out]) (by omega))
    go_roundw
    case rel => exact ⟨k + 1, ⟨A7, c7, f.l ++ [(x.dh, x.df)]⟩, h, r, by omega, by go_num, HFin.out⟩
    case measure => simp [intOf]; omega
   ·skip
    have e1 : (x.kind == 1) = false := by rw [ck]; rfl
    have e2 : (x.kind == 2) = false := by rw [ck]; rfl
    have e3 : (x.kind == 3) = false := by rw [ck]; rfl
    have e4 : (x.kind == 4) = false := by rw [ck]; rfl
    have e5 : (x.kind == 5) = true := by rw [ck]; rfl
    clear d0 d1 d2
    have HW := Hd (show zBa d x = ⟨[], [], [x.reg]⟩ by unfold zBa; rw [if_neg (by simp [ck]), if_neg (by simp [ck]), if_pos ck])
    have hblA7 : Below W2.heap.size W2 (W2.alloc (.cells #[.int .i64 x.reg] 3)) := (Below.refl _ _).alloc (Nat.le_refl _) _
    have HBlA7 := Hd hblA7
    have HAaA7 := Hd (HT2.out.b.below hblA7)
    have hnA7 : r.l.length ≤ 100000 := by have h1 := HT2.out.nf; have h2 := HT2.out.nh; have h3 := HT2.out.nr; simp only [List.length_nil] at h1 h2 h3; omega
    obtain ⟨q0, q1, q2⟩ : (∀ i, W2.cell? ⟨g, i, none⟩ = _) ∧ (∀ i, W2.frozen? ⟨g, i, none⟩ = false) ∧ g < W2.heap.size := ⟨fun i => HT2.out.b.box.cell i, fun i => HT2.out.b.box.frozen i, HT2.out.b.box.lt⟩
    obtain ⟨t0, t1, t2⟩ := Held.at_ HH2.out (.head _)
    clear hblA7
    go_wp2_with (at_builtin; (refine zma rfl _ _ rfl (g + 1) r.a r.l.length r.c r.l rfl rfl HAaA7.out.ro _ _ 1 _ [x.reg] rfl rfl (zsb W2 _ rfl x.reg) (by omega) (by simp; omega) ?_; intro A7 c7 w8 hO2 hG2 hA2; have HOA7 := Hd hO2; have HGA7 := Hd hG2; have HXA7 := Hd hA2; clear q0 q1 q2 t0 t1 t2; obtain ⟨q0, q1, q2⟩ := HT2.out.b.boxG HBlA7.out hG2 (by simp); clear hO2 hG2 hA2))
    have HFin := Hd ((HT2.out.trans (AccTo.pushR HT2.out.b HBlA7.out HGA7.out HOA7.out HXA7.out)).conv (a' := zVa (zBa d) (sl.take (k + 1))) (n' := 20 * (k + 1)) (by rw [HX.out, HW.out]) (by omega))
    go_roundw
    case rel => exact ⟨k + 1, f, h, ⟨A7, c7, r.l ++ [x.reg]⟩, by omega, by go_num, HFin.out⟩
    case measure => simp [intOf]; omega
  ·obtain rfl : k = sl.length := by omega
   have HV2 := Hd (show zVa (zBa d) sl = zVa (zBa d) (sl.take sl.length) by rw [List.take_length])
   have hAf := HAr.out
   have hT := HT.out
   clear hlt
   go_wp2_with fail
   with_reducible refine (sorted_any N g f h r wr HAr.out (by omega) (by omega) (by omega)).mono ?_
   rintro e w9 ⟨⟨f9, h9, r9, rfl, s1, s2, s3, n1, n2, n3, o1, o2, o3⟩, hk9⟩
   have HE := Hd (show AccSame f9 h9 r9 (zuc d i) by
    rw [HV.out, HV2.out]
    exact ⟨s1.trans hT.sf, s2.trans hT.sh, s3.trans hT.sr⟩)
   have HO := Hd (show OwnFR w9 N f9.a f9.c f9.l ∧ OwnZ w9 N h9.a h9.c h9.l ∧ OwnZ w9 N r9.a r9.c r9.l from ⟨Own.rebase o1 (by omega), Own.rebase o2 (by omega), Own.rebase o3 (by omega)⟩)
   have HB9 := Hd (show Below N w w9 from (HB1.out.trans HBw.out).trans (hk9.below (fun k hk => (HAr.out.foot hk).1) (by have := HAr.out.box.lt; omega)))
   clear hAf hT s1 s2 s3 o1 o2 o3 hk9
   go_wp2_with fail
   go_returns
   exact ⟨⟨f9, h9, r9, rfl, HE.out, by omega, by omega, by omega, HO.out.1, HO.out.2.1, HO.out.2.2⟩, HB9.out⟩
end Go.Proofs.YtakgiamhdpgoeaaGreat
