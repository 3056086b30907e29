/- Lemmas. -/
import Derived.Test.YtakgiamhdpgoeaaGreatP32
import Derived.Test.YtakgiamhdpgoeaaGreatP34
set_option linter.unusedSimpArgs false
namespace Go.Proofs.YtakgiamhdpgoeaaGreat
open Go.RowKit
set_option linter.unusedVariables false
set_option maxRecDepth 100000 in
set_option maxHeartbeats 8000000 in
theorem search_any (J : JobD) (g b : Nat) (w : World) (hJ : JobR w w.heap.size g J) (hn : J.us.l.length ≤ 1000) (hc : ∀ x ∈ J.cs.l, I64 x.1 ∧ I64 x.2) (hst : 1 ≤ J.chip.stages ∧ J.chip.stages ≤ 16) (hb : b ≤ 1048576) :
  Calls Tryz.prog 20 #[.pointer (some ⟨g, 0, none⟩), .int .i64 b] w fun e w' => (∃ (x : Res) (A : Option Addr) (c : Nat), Srch J.m b [] 0 0 x ∧ e = .returned (plcV x.plc A c none 0) ∧ OwnZ w' w.heap.size A c x.plc.stage) ∧ Below w.heap.size w w' := by
 obtain ⟨N, hN⟩ : ∃ N, w.heap.size = N := ⟨_, rfl⟩
 rw [hN] at hJ ⊢
 have F0 := Fr.start w
 rw [hN] at F0
 have HF0 := Hd F0
 have HJ := Hd hJ
 have HC := Hd hc
 have HMn := Hd J.m_n
 have hgN := hJ.lt
 have hg : ∀ i, w.cell? ⟨g, i, none⟩ = _ := fun i => hJ.blk.cell i
 unfold JobD.cells at hg
 have HG := Hd hg
 obtain ⟨n, hnn⟩ : ∃ n, J.us.l.length = n := ⟨_, rfl⟩
 have HN := Hd hnn
 rw [hnn] at hn HMn HG
 have hdl : n ≤ 9223372036854775807 := by omega
 have hbl : (b : Int) ≤ 1048576 := by omega
 have HMk := Hd (zRe n (by omega))
 clear hJ F0 hc hg hnn
 go_enter Tryz.func20, Tryz.ntmps20
 go_wp2_with fail
 refine zKe 0 (SeaJ N w J.m g b n N (N + 1) (N + 2)) (fun a' _ => (b - (intOf (a'.tmps.getD 9 undef)).toNat) * 2 + (intOf (a'.tmps.getD 7 undef)).toNat) (by rfl) ?_ ?_
 ·intro Q0 hQ0
  have hal := alloc_used
  go_upto_region 2 with (fail)
  refine zfa ?_
  intro W1 hW1
  have F1 := ((HF0.out.alloc _ _).alloc _ _).of_eq hW1
  have hz : W1.heap.size = N + 2 := by rw [hW1, World.size_alloc, World.size_alloc, hN]
  simp only [World.size_alloc, hN] at F1 ⊢
  have HF1 := Hd F1
  clear F1 hW1 hal
  have v0 : ∀ i, W1.cell? ⟨g, i, none⟩ = _ := fun i => (HF1.out.below.cell (p := ⟨g, i, none⟩) hgN).trans (HG.out i)
  have hgw : g < W1.heap.size := by omega
  have hmk := HMk.out W1
  obtain ⟨W2, hW2⟩ : ∃ z, W1.alloc (.cells (rowZ n fun _ => 0) 3) = z := ⟨_, rfl⟩
  rw [hz, hW2] at hmk
  have hb2 : Below W1.heap.size W1 W2 := by rw [← hW2]; exact (Below.refl _ _).alloc (Nat.le_refl _) _
  have HS := Hd (show Sea N w J.m n N (N + 1) (N + 2) [] (fun _ => 0) W2 from ⟨((HF1.out.call hb2).blk _ (.tail _ (.head _))).2, by rw [used_start]; exact ((HF1.out.call hb2).blk _ (.head _)).2, by rw [← hW2, ← hz]; exact Blk.new _ _ _, fun k x h => by simp at h, (HF1.out.call hb2).skip.skip, Nat.le_refl _, by omega, by omega⟩)
  clear hW2 hb2 hz HF1
  go_wp2_with fail
  go_step3
  rename_i hk
  refine hk _ _ (hQ0 _ _ ?_)
  exact SeaJ.mk_ _ _ [] (fun _ => 0) 0 0 _ _ _ rfl rfl rfl rfl HS.out (Nat.zero_le _) (by show (0 : Int) ≤ J.chip.stages; omega) (Nat.zero_le _) (fun x hx => absurd hx (by simp)) (fun r h => h)
 ·rintro a' w' ⟨pre, f, s, k, U, rfl, hS, hpl, hsl, hkb, hpr, hco⟩
  unfold seaFr
  have HS := Hd hS
  have HPr := Hd hpr
  have HCo := Hd hco
  obtain ⟨p, hp⟩ : ∃ p, pre.length = p := ⟨_, rfl⟩
  have HP := Hd hp
  rw [hp] at hpl ⊢
  have v0 : ∀ i, w'.cell? ⟨g, i, none⟩ = _ := fun i => (HS.out.ff.below.cell (p := ⟨g, i, none⟩) hgN).trans (HG.out i)
  have hgw : g < w'.heap.size := Nat.lt_of_lt_of_le hgN HS.out.ff.le
  clear hS hpr hco hp
  by_cases hpn : p = n
  ·have e0 : ((p : Int) == (n : Int)) = true := by simp [hpn]
   obtain ⟨c0, d0, c1, d1, c2, d2, c3, d3, c4, d4, c5⟩ := set5 HS.out.res (.int .i64 1) (.slice (some ⟨N + 2, 0, none⟩) n n) (.int .i64 k) (.int .i64 0) (.slice none 0 0)
   have hlr := HS.out.res.lt
   go_wp2_with fail
   simp only [Exit.jump]
   refine bodyPost_ret (v := plcV (Res.placed pre k).plc (some ⟨N + 2, 0, none⟩) n none 0) (by simp [results, Tryz.results20, go_sem, c5, Res.plc, HP.out, hpn]) rfl ⟨⟨.placed pre k, some ⟨N + 2, 0, none⟩, n, HCo.out _ (.done (by rw [HP.out, HMn.out, hpn])), rfl, ?_⟩, zUf HS.out.ff.below (Nat.le_refl _) _ _ _ _ _⟩
   have hrow := rowZ_list HS.out.ok
   rw [HP.out, hpn] at hrow
   have := Own.of_blk (base := N) (size := 1) (n := n) (zcf HS.out.stg (show N + 2 ≠ N by omega) (.int .i64 1) (.slice (some ⟨N + 2, 0, none⟩) n n) (.int .i64 k) (.int .i64 0) (.slice none 0 0)) (by omega) (by unfold maxLen; omega) (by rw [rowF_size]; omega)
   rw [hrow] at this
   show OwnZ _ N _ n pre
   unfold OwnZ
   rw [HP.out, hpn]
   exact this
  ·have e0 : ((p : Int) == (n : Int)) = false := by simp; omega
   have hp1 : (p : Int) < n := by omega
   clear hpn
   go_wp2_with fail
   clear v0 hgw e0
   go_loopw [7, 8, 9] (fun un sv kv wr => ∃ (s k2 : Nat), un = .int .i64 p ∧ sv = .int .i64 s ∧ kv = .int .i64 k2 ∧ (s : Int) ≤ J.chip.stages ∧ k ≤ k2 ∧ k2 ≤ b ∧ Sea N w J.m n N (N + 1) (N + 2) pre f wr ∧ ∀ r, Srch J.m b pre s k2 r → Srch J.m b [] 0 0 r) (fun _ sv _ _ => (J.chip.stages - intOf sv).toNat)
   case atStart => exact ⟨s, k, rfl, rfl, rfl, hsl, Nat.le_refl _, hkb, HS.out, HCo.out⟩
   case round =>
    obtain ⟨s2, k2, rfl, rfl, rfl, hsl2, hk2, hkb2, hS2, hco2⟩ := hrel
    have HS2 := Hd hS2
    have HCo2 := Hd hco2
    have v0 : ∀ i, wr.cell? ⟨g, i, none⟩ = _ := fun i => (HS2.out.ff.below.cell (p := ⟨g, i, none⟩) hgN).trans (HG.out i)
    have hgw : g < wr.heap.size := Nat.lt_of_lt_of_le hgN HS2.out.ff.le
    clear hS2 hco2
    by_cases hs : (s2 : Int) < J.chip.stages
    ·by_cases hkb3 : k2 = b
     ·subst hkb3
      have e1 : ((k2 : Int) == (k2 : Int)) = true := by simp
      obtain ⟨c0, d0, c1, d1, c2, d2, c3, d3, c4, d4, c5⟩ := set5 HS2.out.res (.int .i64 3) (.slice none 0 0) (.int .i64 k2) (.int .i64 19) (.slice none 0 0)
      have hlr := HS2.out.res.lt
      go_wp2_with fail
      simp only [Exit.jump]
      exact bodyPost_ret (v := plcV (Res.undecided k2).plc none 0 none 0) (by simp [results, Tryz.results20, go_sem, c5, Res.plc]) rfl ⟨⟨.undecided k2, none, 0, HCo2.out _ (.out (by rw [HP.out, HMn.out]; omega) hs rfl), rfl, OwnZ.none_ _ _⟩, zUf HS2.out.ff.below (Nat.le_refl _) _ _ _ _ _⟩
     ·have e1 : ((k2 : Int) == (b : Int)) = false := by simp; omega
      obtain ⟨u0, u1, u2, u3⟩ := HS2.out.uses (s := s2) (by omega)
      have huo := JobM.use_ok (J := J.m) pre s2
      have hul := use_le (J := J.m) pre s2
      rw [HP.out] at hul
      have ht0 := huo.t
      have hg0 := huo.g
      have hs0 := huo.s
      have hm0 := huo.m
      obtain ⟨v, hv⟩ : ∃ v, J.m.use pre s2 = v := ⟨_, rfl⟩
      have HV := Hd hv
      rw [hv] at u0 u1 u2 u3 hul ht0 hg0 hs0 hm0
      obtain ⟨x, hx⟩ : ∃ x, J.m.add v p = x := ⟨_, rfl⟩
      have HX := Hd hx
      have hcon := zxf J g v p wr (HS2.out.ff.job HJ.out) (by rw [HN.out]; omega) ⟨⟨ht0, by omega⟩, ⟨hg0, by omega⟩, ⟨by omega, hs0.2⟩, by omega, hm0.2⟩ HC.out
      rw [hx] at hcon
      have HCon := Hd hcon
      have hs16 : (s2 : Int) < 16 := by omega
      clear hcon hv hx huo hul ht0 hg0 hs0 hm0
      go_wp2_with fail
      with_reducible refine HCon.out.mono ?_
      rintro e w5 ⟨rfl, hb5⟩
      have HS5 := Hd (HS2.out.below hb5)
      clear hb5 HCon u0 u1 u2 u3 v0 hgw
      go_upto_region 12 with (fail)
      refine zfa ?_
      intro W6 hW6
      obtain ⟨M, hM⟩ : ∃ z, w5.heap.size = z := ⟨_, rfl⟩
      have hb6 : Below w5.heap.size w5 W6 := by rw [hW6]; exact (Below.refl _ _).alloc (Nat.le_refl _) _
      have HB6 := Hd (show SeaB N w J.m n N (N + 1) (N + 2) pre f M x W6 from ⟨HS5.out.below hb6, by rw [hW6, ← hM]; exact Blk.new _ _ _⟩)
      simp only [hM]
      clear hW6 hb6 hM
      have v0 : ∀ i, W6.cell? ⟨g, i, none⟩ = _ := fun i => (HB6.out.s.ff.below.cell (p := ⟨g, i, none⟩) hgN).trans (HG.out i)
      have hgw : g < W6.heap.size := Nat.lt_of_lt_of_le hgN HB6.out.s.ff.le
      have b0 : ∀ i, W6.cell? ⟨M, i, none⟩ = _ := fun i => HB6.out.bx.cell i
      have hMw := HB6.out.bx.lt
      obtain ⟨fv, hfv⟩ : ∃ z, x.fits J.chip = z := ⟨_, rfl⟩
      obtain ⟨fo, hfo⟩ : ∃ z, J.m.follows pre p s2 = z := ⟨_, rfl⟩
      have HOk := Hd (show J.m.ok pre s2 = (fv && fo) by unfold JobM.ok; rw [HP.out, HV.out, HX.out, ← hfv, ← hfo]; rfl)
      have HWi := Hd (show ∀ u : World, Calls Tryz.prog 23 #[.agg #[.int .i64 x.tZ, .int .i64 x.gates, .int .i64 x.sram, .int .i64 x.tcam], chipV J.chip] u fun e w' => e = .returned (.bool fv) ∧ Below u.heap.size u w' from fun u => by
       have := zQf x J.chip u
       rw [hfv] at this
       exact this)
      have HFo := Hd (show ∀ u, Below W6.heap.size W6 u → Calls Tryz.prog 39 #[.pointer (some ⟨g, 0, none⟩), .slice (some ⟨N + 2, 0, none⟩) n n, .int .i64 p, .int .i64 s2] u fun e w' => e = .returned (.bool fo) ∧ Below u.heap.size u w' from fun u hb => by
       have h1 := HB6.out.s.below hb
       have := jobFollows_any J g ⟨some ⟨N + 2, 0, none⟩, n, (List.range n).map f⟩ p s2 u (h1.ff.job HJ.out) (h1.slr hn) (by rw [HN.out]; omega) (by simp; omega)
       rw [show (List.map f (List.range n)).length = n by simp] at this
       refine this.mono fun e w'' h2 => ⟨?_, by rw [h2.2]; exact Below.refl _ _⟩
       rw [h2.1, ← hfo, follows_congr (b := pre) fun q hq => ?_]
       have hq2 : q < pre.length := by rw [HP.out]; exact hq
       simp only [List.getD, List.getElem?_map]
       rw [List.getElem?_range (by omega), List.getElem?_eq_getElem hq2]
       exact h1.ok q _ (List.getElem?_eq_getElem hq2))
      clear hfv hfo
      cases fv with
      | false =>
       have HOk2 := Hd (show J.m.ok pre s2 = false from HOk.out)
       go_wp2_with fail
       have hcl : ∀ (p : Ab W6.heap.size W6) (b i : Nat), b < W6.heap.size → p.u.cell? ⟨b, i, none⟩ = W6.cell? ⟨b, i, none⟩ := fun p b i h => p.h.cell (p := ⟨b, i, none⟩) h
       refine zia W6.heap.size W6 (by kernel_rfl) (by kernel_rfl) (Below.refl _ _) ?_
       repeat (first
        | go_big_quiet_step ((first | (go_at_call 23; exact Calls.ab (Nat.le_refl _) (HWi.out _)) | (go_at_call 39; exact Calls.ab (Nat.le_refl _) (HFo.out _ (Ab.h _))))))
       refine wpQuiet_nil ?_
       intro u hw'
       obtain ⟨pu, hpu⟩ := hw'
       have hu := pu.h
       rw [← hpu] at hu
       clear hcl hpu
       clear pu
       have HFu := Hd (HB6.out.call hu)
       clear hu
       clear v0 hgw b0 hMw HWi HFo HB6
       have HSN := Hd HFu.out.s
       go_wp2_with fail
       go_roundw
       case rel => exact ⟨s2 + 1, k2 + 1, rfl, by go_num, by go_num, by omega, by omega, by omega, HSN.out, fun r h => HCo2.out r (.no (by rw [HP.out, HMn.out]; omega) hs hkb3 HOk2.out (by simpa using h))⟩
       case measure => simp [intOf]; omega
      | true =>
       cases fo with
       | false =>
        have HOk2 := Hd (show J.m.ok pre s2 = false from HOk.out)
        go_wp2_with fail
        have hcl : ∀ (p : Ab W6.heap.size W6) (b i : Nat), b < W6.heap.size → p.u.cell? ⟨b, i, none⟩ = W6.cell? ⟨b, i, none⟩ := fun p b i h => p.h.cell (p := ⟨b, i, none⟩) h
        refine zia W6.heap.size W6 (by kernel_rfl) (by kernel_rfl) (Below.refl _ _) ?_
        repeat (first
         | go_big_quiet_step ((first | (go_at_call 23; exact Calls.ab (Nat.le_refl _) (HWi.out _)) | (go_at_call 39; exact Calls.ab (Nat.le_refl _) (HFo.out _ (Ab.h _))))))
        refine wpQuiet_nil ?_
        intro u hw'
        obtain ⟨pu, hpu⟩ := hw'
        have hu := pu.h
        rw [← hpu] at hu
        clear hcl hpu
        clear pu
        have HFu := Hd (HB6.out.call hu)
        clear hu
        clear v0 hgw b0 hMw HWi HFo HB6
        have HSN := Hd HFu.out.s
        go_wp2_with fail
        go_roundw
        case rel => exact ⟨s2 + 1, k2 + 1, rfl, by go_num, by go_num, by omega, by omega, by omega, HSN.out, fun r h => HCo2.out r (.no (by rw [HP.out, HMn.out]; omega) hs hkb3 HOk2.out (by simpa using h))⟩
        case measure => simp [intOf]; omega
       | true =>
        have HOk2 := Hd (show J.m.ok pre s2 = true from HOk.out)
        go_wp2_with fail
        have hcl : ∀ (p : Ab W6.heap.size W6) (b i : Nat), b < W6.heap.size → p.u.cell? ⟨b, i, none⟩ = W6.cell? ⟨b, i, none⟩ := fun p b i h => p.h.cell (p := ⟨b, i, none⟩) h
        refine zia W6.heap.size W6 (by kernel_rfl) (by kernel_rfl) (Below.refl _ _) ?_
        repeat (first
         | go_big_quiet_step ((first | (go_at_call 23; exact Calls.ab (Nat.le_refl _) (HWi.out _)) | (go_at_call 39; exact Calls.ab (Nat.le_refl _) (HFo.out _ (Ab.h _))))))
        refine wpQuiet_nil ?_
        intro u hw'
        obtain ⟨pu, hpu⟩ := hw'
        have hu := pu.h
        rw [← hpu] at hu
        clear hcl hpu
        clear pu
        have HFu := Hd (HB6.out.call hu)
        clear hu
        clear v0 hgw b0 hMw HWi HFo HB6
        have b0 : ∀ i, u.cell? ⟨M, i, none⟩ = _ := fun i => HFu.out.bx.cell i
        obtain ⟨⟨y0, c0⟩, d0, ⟨y1, c1⟩, d1, ⟨y2, c2⟩, d2, ⟨y3, c3⟩, d3⟩ := set4at HFu.out.s.used (s2 * 4) (by rw [rowF_size]; omega) (.int .i64 x.tZ) (.int .i64 x.gates) (.int .i64 x.sram) (.int .i64 x.tcam)
        have hlu := HFu.out.s.used.lt
        have hB5 := zHc HFu.out.s.stg (show N + 2 ≠ N + 1 by omega) (s2 * 4) (s2 * 4 + 1) (s2 * 4 + 2) (s2 * 4 + 3) (.int .i64 x.tZ) (.int .i64 x.gates) (.int .i64 x.sram) (.int .i64 x.tcam)
        have c5 := (hB5.cell p).trans (zbb (show p < n by omega))
        have d5 := hB5.frozen p
        have hlt5 := hB5.lt
        have HSN := Hd (HFu.out.s.put (s := s2) (i := p) (x := (s2 : Int)) (f' := fun q => if q = p then (s2 : Int) else f q) x (pre' := pre ++ [(s2 : Int)]) (fun t => by rw [use_put, HP.out, HV.out, HX.out]) (fun q _ => rfl) (fun q y hq => by
         by_cases hqp : q = p
         ·rw [if_pos hqp]
          rw [hqp, ← HP.out] at hq
          simpa using hq
         ·rw [if_neg hqp]
          have hql := (List.getElem?_eq_some_iff.1 hq).1
          rw [List.length_append, HP.out] at hql
          simp only [List.length_cons, List.length_nil] at hql
          rw [List.getElem?_append_left (by rw [HP.out]; omega)] at hq
          exact HFu.out.s.ok q y hq))
        clear hB5
        go_wp2_with fail
        go_step3
        change 0 = 0 ∧ SeaJ N w J.m g b n N (N + 1) (N + 2) _ _ ∧ _
        refine ⟨rfl, SeaJ.mk_ _ _ (pre ++ [(s2 : Int)]) _ 0 (k2 + 1) _ _ _ rfl (by rw [List.length_append, HP.out]; simp) rfl (by simp) HSN.out (by rw [List.length_append, HP.out]; simp; omega) (by show (0 : Int) ≤ J.chip.stages; omega) (by omega) (fun y hy => ?_) (fun r h => HCo2.out r (.yes (by rw [HP.out, HMn.out]; omega) hs hkb3 HOk2.out h)), ?_⟩
        ·rcases List.mem_append.1 hy with h | h
         ·exact HPr.out y h
         ·simp at h; subst h; exact ⟨by omega, hs⟩
        ·simp [intOf]; omega
    ·have hs' : decide ((s2 : Int) < J.chip.stages) = false := decide_eq_false hs
     have hse : (s2 : Int) = J.chip.stages := by omega
     by_cases hp0 : p = 0
     ·have e2 : ((p : Int) == 0) = true := by simp [hp0]
      have HI := Hd (show ∀ u : World, Calls Tryz.prog 17 #[.int .i64 13, .int .i64 k2, .slice none 0 0] u fun e' w' => e' = .returned (.agg #[.int .i64 2, .slice none 0 0, .int .i64 k2, .int .i64 13, .slice none 0 0]) ∧ Below u.heap.size u w' from fun u => zJb 13 (k2 : Int) ⟨none, 0, []⟩ u)
      have hpre : pre = [] := List.length_eq_zero_iff.1 (by rw [HP.out]; exact hp0)
      have HPe := Hd hpre
      clear hpre
      go_wp2_with fail
      with_reducible refine (HI.out _).mono ?_
      rintro e w5 ⟨rfl, hb5⟩
      have HS5 := Hd (HS2.out.below hb5)
      obtain ⟨c0, d0, c1, d1, c2, d2, c3, d3, c4, d4, c5⟩ := set5 HS5.out.res (.int .i64 2) (.slice none 0 0) (.int .i64 k2) (.int .i64 13) (.slice none 0 0)
      have hlr := HS5.out.res.lt
      clear hb5 v0 hgw HI
      go_wp2_with fail
      simp only [Exit.jump]
      exact bodyPost_ret (v := plcV (Res.full k2).plc none 0 none 0) (by simp [results, Tryz.results20, go_sem, c5, Res.plc]) rfl ⟨⟨.full k2, none, 0, HCo2.out _ (by rw [HPe.out]; exact .full (by rw [HMn.out]; omega) (by show J.chip.stages ≤ _; omega)), rfl, OwnZ.none_ _ _⟩, zUf HS5.out.ff.below (Nat.le_refl _) _ _ _ _ _⟩
     ·have e2 : ((p : Int) == 0) = false := by simp; omega
      obtain ⟨q, hq⟩ : ∃ q, p = q + 1 := ⟨p - 1, by omega⟩
      obtain ⟨pre', x, hpx⟩ : ∃ pre' x, pre = pre' ++ [x] := by
       rcases List.eq_nil_or_concat pre with h | ⟨l, y, h⟩
       ·have := HP.out; rw [h] at this; simp at this; omega
       ·exact ⟨l, y, by rw [h]; simp⟩
      have hpl2 : pre'.length = q := by have := HP.out; rw [hpx, List.length_append] at this; simp at this; omega
      have hxr : 0 ≤ x ∧ x < J.chip.stages := HPr.out x (by rw [hpx]; simp)
      obtain ⟨xn, hxn⟩ : ∃ xn : Nat, x = xn := ⟨x.toNat, by omega⟩
      subst hxn
      have hfq : f q = (xn : Int) := HS2.out.ok q _ (by rw [hpx, ← hpl2]; simp)
      have c0 : wr.cell? ⟨N + 2, q, none⟩ = some (.int .i64 xn) := by
       have := (HS2.out.stg.cell q).trans (zbb (show q < n by omega))
       rwa [hfq] at this
      have hls := HS2.out.stg.lt
      have htk : ((List.range n).map f).take q = pre' := by
       apply List.ext_getElem?
       intro r
       by_cases hr : r < q
       ·rw [List.getElem?_take, if_pos hr, List.getElem?_map, List.getElem?_range (by omega)]
        have h1 : pre'[r]? = some (pre'[r]'(by omega)) := List.getElem?_eq_getElem (by omega)
        rw [h1]
        simp only [Option.map_some, Option.some.injEq]
        exact HS2.out.ok r _ (by rw [hpx, List.getElem?_append_left (by omega)]; exact h1)
       ·rw [List.getElem?_eq_none (by simp; omega), List.getElem?_eq_none (by omega)]
      obtain ⟨v, hv⟩ : ∃ v, J.m.use pre' xn = v := ⟨_, rfl⟩
      have hcon := zyf J g ⟨some ⟨N + 2, 0, none⟩, n, pre'⟩ xn wr (HS2.out.ff.job HJ.out) (by have := (HS2.out.slr hn).take_ zna q (by simp; omega); rwa [htk] at this) (by rw [HN.out]; show pre'.length ≤ n; omega) (by rw [HN.out]; exact hn) HC.out
      simp only at hcon
      rw [hv, hpl2] at hcon
      have HCon := Hd hcon
      have HPx := Hd hpx
      have HPl2 := Hd hpl2
      have HVv := Hd hv
      have hqn : (q : Int) < n := by omega
      have hqn2 : (q : Int) ≤ n := by omega
      have hq63 : (q : Int) ≤ 1000 := by omega
      have hx16 : (xn : Int) < 16 := by omega
      subst hq
      clear hcon hpx hpl2 hv htk hfq
      go_wp2_with fail
      with_reducible refine HCon.out.mono ?_
      rintro e w5 ⟨rfl, hb5⟩
      have HS5 := Hd (HS2.out.below hb5)
      obtain ⟨⟨y0, k0⟩, d0, ⟨y1, k1⟩, d1, ⟨y2, k2'⟩, d2, ⟨y3, k3⟩, d3⟩ := set4at HS5.out.used (xn * 4) (by rw [rowF_size]; omega) (.int .i64 v.tZ) (.int .i64 v.gates) (.int .i64 v.sram) (.int .i64 v.tcam)
      have hlu := HS5.out.used.lt
      have HSN := Hd (HS5.out.putU (s := xn) v (pre' := pre') (fun t => by rw [HPx.out, ← HVv.out]; exact use_back t) (fun r y hr => HS5.out.ok r y (by
       have hrl := (List.getElem?_eq_some_iff.1 hr).1
       rw [HPx.out, List.getElem?_append_left hrl]; exact hr)))
      clear hb5 v0 hgw HCon c0 hls
      go_wp2_with fail
      go_step3
      change 0 = 0 ∧ SeaJ N w J.m g b n N (N + 1) (N + 2) _ _ ∧ _
      refine ⟨rfl, SeaJ.mk_ _ _ pre' _ (xn + 1) k2 _ _ _ rfl (by rw [HPl2.out]) (by simp) rfl HSN.out (by rw [HPl2.out]; omega) (by show ((xn + 1 : Nat) : Int) ≤ J.chip.stages; omega) hkb2 (fun y hy => HPr.out y (by rw [HPx.out]; exact List.mem_append_left _ hy)) (fun r h => HCo2.out r (by rw [HPx.out]; exact .back (by rw [HPl2.out, HMn.out]; omega) (by show J.chip.stages ≤ _; omega) (by simpa using h))), ?_⟩
      simp [intOf]; omega
end Go.Proofs.YtakgiamhdpgoeaaGreat
