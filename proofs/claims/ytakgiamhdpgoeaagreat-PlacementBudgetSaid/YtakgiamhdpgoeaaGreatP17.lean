/- Lemmas. -/
import Derived.Test.YtakgiamhdpgoeaaGreatP13
set_option linter.unusedSimpArgs false
namespace Go.Proofs.YtakgiamhdpgoeaaGreat
open Go.RowKit
set_option linter.unusedVariables false
set_option maxRecDepth 100000 in
set_option maxHeartbeats 2000000 in
theorem preCheck {σ : Type} {P : NodD → Prop} {stp : NodD → σ → σ × Bool} {B : Nat} {I : (Nat → Prop) → σ → World → Prop} {N ce cn cu : Nat} (V : Visit P stp B I (fun x W Q => Calls Tryz.prog 90 #[nodV x, .pointer (some ⟨N, 0, none⟩), .pointer (some ⟨cu, 0, none⟩), .pointer (some ⟨ce, 0, none⟩), .pointer (some ⟨cn, 0, none⟩)] W Q)) :
  ∀ (n : Nat) (s : SL NodD) (s0 : σ) (F : Nat → Prop) (w : World), (zda s.l).length < n → (∀ y ∈ zda s.l, P y) → SLR w B 5 NodD.enc (NodD.ok w B) s → I F s0 w → B ≤ w.heap.size →
  Calls Tryz.prog 89 #[.slice s.a s.l.length s.c, .func (.func 90) #[] #[.pointer (some ⟨N, 0, none⟩), .pointer (some ⟨cu, 0, none⟩), .pointer (some ⟨ce, 0, none⟩), .pointer (some ⟨cn, 0, none⟩)]] w fun e w' => e = .returned (.bool (zta stp (zda s.l) s0).2) ∧ After I F w (zta stp (zda s.l) s0).1 w' := by
 intro n
 induction n with
 | zero => intro s s0 F w h; omega
 | succ n ih =>
  intro s s0 F w hn hP hS hI hB
  have HIh := Hd ih
  obtain ⟨sa, sc, sl⟩ := s
  simp only at hn hS hP ⊢
  have HP := Hd hP
  clear hP
  have HS := Hd hS
  have HI := Hd hI
  have HV := Hd V
  have hlen := hS.len
  simp only at hlen
  clear ih hS hI V
  go_enter Tryz.func89, Tryz.ntmps89
  go_wp2_with fail
  go_loopw [9] (fun i wr => ∃ (k : Nat) (sk : σ) (Fk : Nat → Prop), k ≤ sl.length ∧ i = .int .i64 k ∧ zta stp (zda (sl.take k)) s0 = (sk, true) ∧ I Fk sk wr ∧ Sub F Fk w.heap.size ∧ KeptF F w wr) (fun i _ => sl.length - (intOf i).toNat)
  case atStart => exact ⟨0, s0, F, Nat.zero_le _, rfl, rfl, HI.out, Sub.refl _ _, KeptF.refl _ _⟩
  case round =>
   obtain ⟨k, sk, Fk, hk, rfl, hfold, hIk, hsub, hkept⟩ := hrel
   have HFo := Hd hfold
   have HIk := Hd hIk
   have HSub := Hd hsub
   have HK := Hd hkept
   clear hfold hIk hsub hkept
   have HBel := Hd (HK.out.below (B := B) (fun k h => (HV.out.foot F s0 w k HI.out h).1) hB)
   by_cases hlt : k < sl.length
   ·obtain ⟨b2, off2, x, hA2, hb2, hx, hxok, hc2⟩ := (HS.out.below HBel.out).at_ zCe (by omega) hlt
    rw [nod_enc x] at hc2
    have p0 := hc2 0 _ rfl
    have p1 := hc2 1 _ rfl
    have p2 := hc2 2 _ rfl
    have p3 := hc2 3 _ rfl
    have p4 := hc2 4 _ rfl
    simp only [Nat.add_zero] at p0
    simp only at hA2
    have HX := Hd hx
    have HM := Hd (zoe hx)
    have HXo := Hd (NodD.ok_below x hxok HBel.out)
    have hsz := zpd hx
    have hk1 : (k : Int) < sl.length := by omega
    have hBr : B ≤ wr.heap.size := Nat.le_trans hB HK.out.size
    subst hA2
    clear hc2 hx hxok
    go_wp2_with fail
    refine Calls.named ?_
    intro W4 hW4
    obtain ⟨g, hg⟩ : ∃ g, wr.heap.size = g := ⟨_, rfl⟩
    have HB4 := Hd (show Below wr.heap.size wr W4 by rw [hW4]; exact (Below.refl _ _).alloc (Nat.le_refl _) _)
    have hblk : Blk W4 g 100 #[.int .i64 x.kind, .int .i64 x.table, .slice x.cond.a x.cond.l.length x.cond.c, .slice x.thn.a x.thn.l.length x.thn.c, .slice x.els.a x.els.l.length x.els.c] := by rw [hW4, ← hg]; exact Blk.new _ _ _
    have hnF : ¬ Fk g := fun h => by have := (HV.out.foot _ _ _ _ HIk.out h).2; omega
    simp only [hg] at hBr ⊢
    have HG := Hd hg
    have HBk := Hd hblk
    have HNF := Hd hnF
    clear hW4 hblk hnF hg p0 p1 p2 p3 p4
    have hB4 : B ≤ W4.heap.size := by have := HB4.out.size; have := HG.out; omega
    refine (HV.out.call Fk x sk W4 (HV.out.stable _ _ _ _ HIk.out HB4.out) (NodD.ok_below x HXo.out (HB4.out.mono (by have := HG.out; omega))) (HP.out x HM.out.1) hB4).mono ?_
    rintro e w5 ⟨rfl, F5, hI5, hs5, hk5⟩
    have HI5 := Hd hI5
    have HS5 := Hd hs5
    have HK5 := Hd hk5
    have HB5 := Hd (hk5.blk HBk.out HNF.out)
    have HN5 := Hd (show ¬ F5 g from fun h => by rcases hs5 g h with h | h; exact HNF.out h; have := HBk.out.lt; omega)
    have HKr5 := Hd (((KeptF.of_below (F := Fk) HB4.out).trans (Sub.refl _ _) hk5))
    have hg0 : ∀ i, w5.cell? ⟨g, i, none⟩ = _ := fun i => HB5.out.cell i
    clear hI5 hs5 hk5
    obtain ⟨⟨s5, q5⟩, hstp⟩ : ∃ z, stp x sk = z := ⟨_, rfl⟩
    rw [hstp] at HI5 ⊢
    have HSt := Hd hstp
    simp only at HI5
    clear hstp
    dsimp only
    cases q5 with
    | false =>
     have HR := Hd (show zta stp (zda sl) s0 = (s5, false) by
      rw [zeb sl (k + 1), zqb HX.out]
      refine zXb stp ?_
      rw [zGb stp HFo.out, zta, HSt.out]
      rfl)
     go_wp2_with fail
     go_returns
     exact ⟨by rw [HR.out]; try rfl, F5, by rw [HR.out]; exact HI5.out, (HSub.out.trans (Sub.trans (Sub.refl _ _) HS5.out HB4.out.size) HK.out.size), HK.out.trans HSub.out HKr5.out⟩
    | true =>
     have hB5 : B ≤ w5.heap.size := by have := HK5.out.size; omega
     obtain ⟨_, _, _, hthn, hels⟩ := NodD.open HXo.out
     have HThn := Hd hthn
     have HEls := Hd hels
     have HBel5 := Hd (HBel.out.trans (HKr5.out.below (B := B) (fun k h => (HV.out.foot _ _ _ k HIk.out h).1) (by have := HG.out; omega)))
     clear hthn hels
     go_wp2_with fail
     refine (HIh.out x.thn s5 F5 w5 (by omega) (fun y hy => HP.out y (HM.out.2.1 y hy)) ((HThn.out.below (HKr5.out.below (B := B) (fun k h => (HV.out.foot _ _ _ k HIk.out h).1) (by have := HG.out; omega))).imp fun y hy => NodD.ok_below y hy (HKr5.out.below (B := B) (fun k h => (HV.out.foot _ _ _ k HIk.out h).1) (by have := HG.out; omega))) HI5.out hB5).mono ?_
     rintro e w6 ⟨rfl, F6, hI6, hs6, hk6⟩
     have HI6 := Hd hI6
     have HS6 := Hd hs6
     have HK6 := Hd hk6
     have HB6 := Hd (hk6.blk HB5.out HN5.out)
     have HKr6 := Hd (HKr5.out.trans (Sub.trans (Sub.refl _ _) HS5.out HB4.out.size) hk6)
     have HSr6 := Hd (Sub.trans (Sub.trans (Sub.refl Fk wr.heap.size) HS5.out HB4.out.size) hs6 HKr5.out.size)
     have hg0' : ∀ i, w6.cell? ⟨g, i, none⟩ = _ := fun i => HB6.out.cell i
     clear hI6 hs6 hk6 hg0
     obtain ⟨⟨s6, q6⟩, hf6⟩ : ∃ z, zta stp (zda x.thn.l) s5 = z := ⟨_, rfl⟩
     rw [hf6] at HI6 ⊢
     have HFo6 := Hd hf6
     simp only at HI6
     clear hf6
     dsimp only
     cases q6 with
     | false =>
      have HR := Hd (show zta stp (zda sl) s0 = (s6, false) by
       rw [zeb sl (k + 1), zqb HX.out]
       refine zXb stp ?_
       rw [zGb stp HFo.out, zta, HSt.out]
       simp only [if_true]
       exact zXb stp HFo6.out)
      go_wp2_with fail
      go_returns
      exact ⟨by rw [HR.out]; try rfl, F6, by rw [HR.out]; exact HI6.out, HSub.out.trans HSr6.out HK.out.size, HK.out.trans HSub.out HKr6.out⟩
     | true =>
      have hB6 : B ≤ w6.heap.size := by have := HK6.out.size; omega
      have HBr6 := Hd (HKr6.out.below (B := B) (fun k h => (HV.out.foot _ _ _ k HIk.out h).1) (by have := HG.out; omega))
      go_wp2_with fail
      refine (HIh.out x.els s6 F6 w6 (by omega) (fun y hy => HP.out y (HM.out.2.2 y hy)) ((HEls.out.below HBr6.out).imp fun y hy => NodD.ok_below y hy HBr6.out) HI6.out hB6).mono ?_
      rintro e w7 ⟨rfl, F7, hI7, hs7, hk7⟩
      have HI7 := Hd hI7
      have HSr7 := Hd (Sub.trans HSr6.out hs7 HKr6.out.size)
      have HKr7 := Hd (HKr6.out.trans HSr6.out hk7)
      clear hI7 hs7 hk7 hg0'
      obtain ⟨⟨s7, q7⟩, hf7⟩ : ∃ z, zta stp (zda x.els.l) s6 = z := ⟨_, rfl⟩
      rw [hf7] at HI7 ⊢
      have HFo7 := Hd (show zta stp (zda (sl.take (k + 1))) s0 = (s7, q7) by
       rw [zqb HX.out, zGb stp HFo.out, zta, HSt.out]
       simp only [if_true]
       rw [zGb stp HFo6.out]
       exact hf7)
      simp only at HI7
      clear hf7
      dsimp only
      cases q7 with
      | false =>
       have HR := Hd (show zta stp (zda sl) s0 = (s7, false) by
        rw [zeb sl (k + 1)]
        exact zXb stp HFo7.out)
       go_wp2_with fail
       go_returns
       exact ⟨by rw [HR.out]; try rfl, F7, by rw [HR.out]; exact HI7.out, HSub.out.trans HSr7.out HK.out.size, HK.out.trans HSub.out HKr7.out⟩
      | true =>
       go_wp2_with fail
       go_roundw
       case rel => exact ⟨k + 1, s7, F7, by omega, by go_num, HFo7.out, HI7.out, HSub.out.trans HSr7.out HK.out.size, HK.out.trans HSub.out HKr7.out⟩
       case measure => simp [intOf]; omega
   ·obtain rfl : k = sl.length := by omega
    have HR := Hd (show zta stp (zda sl) s0 = (sk, true) by have := HFo.out; rwa [List.take_length] at this)
    clear hlt
    go_wp2_with fail
    go_returns
    exact ⟨by rw [HR.out]; try rfl, Fk, by rw [HR.out]; exact HIk.out, HSub.out, HK.out⟩
theorem ckVisit (d : PrgD) (htl : d.tZ.l.length ≤ 1000000) (N ce cn cu : Nat) : Visit (fun _ => True) (ckStp d) N (CkI d N ce cn cu) (fun x W Q => Calls Tryz.prog 90 #[nodV x, .pointer (some ⟨N, 0, none⟩), .pointer (some ⟨cu, 0, none⟩), .pointer (some ⟨ce, 0, none⟩), .pointer (some ⟨cn, 0, none⟩)] W Q) where
 stable F s W W' h hb := by
  obtain ⟨A, c, e, h⟩ := h
  exact ⟨A, c, e, h.below hb⟩
 foot F s W k h hk := by
  obtain ⟨A, c, rfl, h⟩ := h
  have h1 := h.l1; have h2 := h.l2; have h3 := h.l3
  rcases hk with rfl | rfl | rfl | hk
  ·exact ⟨by omega, h.be.lt⟩
  ·exact ⟨by omega, h.bn.lt⟩
  ·exact ⟨by omega, h.bu.lt⟩
  ·have := Own.lt h.ow k hk
   exact ⟨by omega, this.2⟩
 call F x s W h hx hp hB := by
  obtain ⟨u, e, n⟩ := s
  obtain ⟨A, c, rfl, h⟩ := h
  exact ckCall d N ce cn cu A c x u e n W h hx htl
theorem ckFold (d : PrgD) : ∀ (l : List NodD) (u : List Int) (n : Nat), zSd d l u n = ((zta (ckStp d) l (u, 0, n)).1.2.2, (zta (ckStp d) l (u, 0, n)).1.2.1)
 | [], u, n => rfl
 | x :: l, u, n => by
  rw [zSd, zta]
  by_cases h : zXa d x u = 0
  ·have h1 : ckStp d x (u, 0, n) = ((if zqa x then u ++ [x.table] else u, 0, n + 1), true) := by unfold ckStp; rw [if_neg (by simp [h])]
   rw [if_neg (by simp [h]), h1]
   simp only [if_true]
   exact ckFold d l _ _
  ·have h1 : ckStp d x (u, 0, n) = ((u, zXa d x u, n), false) := by unfold ckStp; rw [if_pos h]
   rw [if_pos h, h1]
   rfl
set_option maxRecDepth 100000 in
set_option maxHeartbeats 2000000 in
theorem znf (d : PrgD) (w : World) (hR : PrgR w w.heap.size d) (htl : d.tZ.l.length ≤ 1000000) :
  Calls Tryz.prog 62 #[PrgD.v d] w fun e w' => e = .returned (.tuple #[.int .i64 (zWa d).1, .int .i64 (zWa d).2]) ∧ Below w.heap.size w w' := by
 obtain ⟨N, hN⟩ : ∃ N, w.heap.size = N := ⟨_, rfl⟩
 rw [hN] at hR ⊢
 have F0 := Fr.start w
 rw [hN] at F0
 have HR := Hd hR
 have HF0 := Hd F0
 have HV := Hd (show zWa d = if 24 < wr (zda d.cZ.l).length then (-1, 12)
 else if 6 < zOa d.cZ.l then (-1, 14)
 else if (zSd d (zda d.cZ.l) [] 0).2 ≠ 0 then (wr (zSd d (zda d.cZ.l) [] 0).1, (zSd d (zda d.cZ.l) [] 0).2) else (0, 0) from rfl)
 have hmf : ∀ (fn : Fn) (first cap : Array Value) (w : World), (Instr.makeFunc fn first cap).run Tryz.prog w = .ok (.func fn first cap) w := fun _ _ _ _ => rfl
 clear hR F0
 unfold PrgD.v PrgD.vs
 go_enter Tryz.func62, Tryz.ntmps62
 go_wp2_with fail
 refine Calls.named ?_
 intro W hW
 have F1 := ((HF0.out.alloc _ _).alloc _ _).of_eq hW
 simp only [World.size_alloc, hN] at F1
 obtain ⟨L, hL, F1⟩ := F1.name
 have HL := Hd hL
 have HF1 := Hd F1
 clear F1 hL hW
 with_reducible refine (count_any d.cZ W (HF1.out.prg HR.out).cZ).mono ?_
 rintro e w2 ⟨rfl, hb2⟩
 have HF2 := Hd (HF1.out.call hb2)
 obtain ⟨m, hm⟩ : ∃ m, wr ((zda d.cZ.l).length : Int) = m := ⟨_, rfl⟩
 have HM := Hd hm
 rw [hm] at HV ⊢
 clear hb2 hm
 obtain ⟨g0, l0, f0⟩ := HF2.out.c0 HL.out
 obtain ⟨g1, l1, f1⟩ := HF2.out.c1 HL.out
 dsimp only at g0 l0 f0 g1 l1 f1
 by_cases c1 : 24 < m
 ·have c1' : decide (24 < m) = true := decide_eq_true c1
  have HV2 := Hd (HV.out.trans (if_pos c1))
  clear c1
  go_wp2_with fail
  refine bodyPost_ret (v := .tuple #[.int .i64 (-1), .int .i64 12]) (by simp [results, Tryz.results62, go_sem, g0]) rfl ⟨by rw [HV2.out]; try rfl, HF2.out.below.setCell (by show N ≤ N + 1; omega) _⟩
 ·have c1' : decide (24 < m) = false := decide_eq_false c1
  have HV2 := Hd (HV.out.trans (if_neg c1))
  clear c1 HV
  go_wp2_with fail
  with_reducible refine (nesting_any d.cZ w2 (HF2.out.prg HR.out).cZ).mono ?_
  rintro e w3 ⟨rfl, hb3⟩
  have HF3 := Hd (HF2.out.call hb3)
  obtain ⟨k, hk⟩ : ∃ m, zOa d.cZ.l = m := ⟨_, rfl⟩
  rw [hk] at HV2 ⊢
  clear hb3 hk
  clear g0 l0 f0 g1 l1 f1
  obtain ⟨g0, l0, f0⟩ := HF3.out.c0 HL.out
  obtain ⟨g1, l1, f1⟩ := HF3.out.c1 HL.out
  dsimp only at g0 l0 f0 g1 l1 f1
  by_cases c2 : 6 < k
  ·have c2' : decide (6 < k) = true := decide_eq_true c2
   have HV3 := Hd (HV2.out.trans (if_pos c2))
   clear c2
   go_wp2_with fail
   refine bodyPost_ret (v := .tuple #[.int .i64 (-1), .int .i64 14]) (by simp [results, Tryz.results62, go_sem, g0]) rfl ⟨by rw [HV3.out]; try rfl, HF3.out.below.setCell (by show N ≤ N + 1; omega) _⟩
  ·have c2' : decide (6 < k) = false := decide_eq_false c2
   have HV3 := Hd (HV2.out.trans (if_neg c2))
   clear c2 HV2
   go_wp2_with fail
   refine Calls.named ?_
   intro W6 hW6
   obtain ⟨cn, hcn⟩ : ∃ c, w3.heap.size = c := ⟨_, rfl⟩
   have F6 := ((HF3.out.alloc _ _).alloc _ _).of_eq hW6
   simp only [World.size_alloc, hcn] at F6 l0 l1 ⊢
   have HB6 := Hd (show CkB d N (N + 1) cn (cn + 1) none 0 ([], 0, 0) W6 from ⟨by omega, l0, by omega, HR.out.below F6.below, (F6.blk _ (.tail _ (.tail _ (by rw [HL.out]; exact .tail _ (.head _))))).2, (F6.blk _ (.tail _ (.tail _ (by rw [HL.out]; exact .head _)))).2, (F6.blk _ (.tail _ (.head _))).2, (F6.blk _ (.head _)).2, OwnZ.none_ _ _, List.nodup_nil, fun x hx => absurd hx (by simp)⟩)
   have HF6 := Hd F6.below
   have hsz := F6.le
   clear hW6 F6 hcn
   clear g0 l0 f0 g1 l1 f1
   refine (preCheck (ckVisit d htl N (N + 1) cn (cn + 1)) ((zda d.cZ.l).length + 1) d.cZ ([], 0, 0) (CkF (N + 1) cn (cn + 1) none) W6 (by omega) (fun _ _ => trivial) (HR.out.below HF6.out).cZ ⟨none, 0, rfl, HB6.out⟩ hsz).mono ?_
   rintro e w7 ⟨rfl, F7, ⟨A7, c7, _, hB7⟩, _, hk7⟩
   have HF7 := Hd (HF6.out.trans (hk7.below (B := N) (fun k h => by
    rcases h with h | h | h | h
    ·omega
    ·have := HB6.out.l2; omega
    ·have := HB6.out.l2; omega
    ·cases h) hsz))
   have hgo := ckFold d (zda d.cZ.l) [] 0
   obtain ⟨⟨⟨u7, e7, n7⟩, q7⟩, hp7⟩ : ∃ z, zta (ckStp d) (zda d.cZ.l) ([], 0, 0) = z := ⟨_, rfl⟩
   rw [hp7] at hgo hB7 ⊢
   simp only at hgo hB7
   have hv := HV3.out
   rw [hgo] at hv
   simp only at hv
   have HV4 := Hd hv
   have ge : w7.cell? ⟨N + 1, 0, none⟩ = some (.int .i64 e7) := hB7.be.cell 0
   have fe : w7.frozen? ⟨N + 1, 0, none⟩ = false := hB7.be.frozen 0
   have le7 : N + 1 < w7.heap.size := hB7.be.lt
   have gn : w7.cell? ⟨cn, 0, none⟩ = some (.int .i64 (wr n7)) := hB7.bn.cell 0
   have ln7 : cn < w7.heap.size := hB7.bn.lt
   clear hk7 hgo hp7 hB7 hv
   dsimp only
   by_cases e0 : e7 = 0
   ·subst e0
    have HV5 := Hd (HV4.out.trans (if_neg (by simp)))
    go_wp2_with fail
    refine bodyPost_ret (v := .tuple #[.int .i64 0, .int .i64 0]) (by simp [results, Tryz.results62, go_sem, ge]) rfl ⟨by rw [HV5.out]; try rfl, HF7.out.setCell (by show N ≤ N + 1; omega) _⟩
   ·have e0' : (e7 != 0) = true := by simp [e0]
    have HV5 := Hd (HV4.out.trans (if_pos e0))
    clear e0
    go_wp2_with fail
    go_region
    all_goals
     go_wp2_with fail
     refine bodyPost_ret (v := .tuple #[.int .i64 (wr n7), .int .i64 e7]) (by simp [results, Tryz.results62, go_sem, ge]) rfl ⟨by rw [HV5.out]; try rfl, ?_⟩
     first
      | exact HF7.out.drew.setCell (by show N ≤ N + 1; omega) _
      | exact (HF7.out.setCell (by show N ≤ N + 1; omega) _).drew
end Go.Proofs.YtakgiamhdpgoeaaGreat
