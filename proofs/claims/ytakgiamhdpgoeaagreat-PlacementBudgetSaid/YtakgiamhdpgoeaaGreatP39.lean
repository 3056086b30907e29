/- Lemmas. -/
import Derived.Test.YtakgiamhdpgoeaaGreatP37
import Derived.Test.YtakgiamhdpgoeaaGreatP33
import Derived.Test.YtakgiamhdpgoeaaGreatP38
import Derived.Test.YtakgiamhdpgoeaaGreatP28
set_option linter.unusedSimpArgs false
namespace Go.Proofs.YtakgiamhdpgoeaaGreat
open Go.RowKit
set_option linter.unusedVariables false
def gEq (a : Int) (b : Bool) (c : Int) (d : Bool) : Bool := decide (a = c) && decide (b = d)
theorem grdEq (a c : Int) (b d : Bool) (w : World) : (binOp .eql 148 (.agg #[.int .i64 a, .bool b]) (.agg #[.int .i64 c, .bool d])).run Tryz.prog w = .ok (.bool (gEq a b c d)) w := by
 have u3 := Tryz.underlying3
 have u4 := Tryz.underlying4
 have a3 := Tryz.isAgg3
 have a4 := Tryz.isAgg4
 have z3 := Tryz.sizeOf3
 have z4 := Tryz.sizeOf4
 have hS : Tryz.prog.underlying 148 = some (.struct (Tryz.prog.fieldsOf 148)) := by kernel_rfl
 have hp : Tryz.prog.stoodInHeld 148 = false := by kernel_rfl
 rw [run_eql_struct, show (10000 : Nat) = 9999 + 1 from rfl, run_equalIn_agg w 9999 148 _ _ hS hp]
 simp only [Program.fieldsOf, Tryz.underlying148]
 go_simp
 unfold gEq
 by_cases h1 : a = c <;> by_cases h2 : b = d <;> simp [h1, h2]
theorem grdGd (op : BinOp) (a b : Operand) (x y : Array Value) (w : World) : (eqGuard op 148 a b (.agg x) (.agg y)).run Tryz.prog w = .ok () w := run_eqGuard_agg w op 148 a b x y (by kernel_rfl)
abbrev grdV (g : zxa) : Value := .agg #[.int .i64 g.unit, .bool g.want]
set_option maxRecDepth 100000 in
set_option maxHeartbeats 2000000 in
theorem idxG_any {ok : zxa → Prop} (s : SL zxa) (v : zxa) (w : World) (hS : SLR w w.heap.size 2 zxa.enc ok s) :
  Calls Tryz.prog 141 #[.slice s.a s.l.length s.c, grdV v] w fun e w' => (∃ k, e = .returned (.int .i64 k) ∧ decide (0 ≤ k) = s.l.any (fun g => gEq v.unit v.want g.unit g.want)) ∧ Below w.heap.size w w' := by
 obtain ⟨N, hN⟩ : ∃ N, w.heap.size = N := ⟨_, rfl⟩
 rw [hN] at hS ⊢
 have F0 := Fr.start w
 rw [hN] at F0
 have HF0 := Hd F0
 have HS := Hd hS
 have hlen := hS.len
 obtain ⟨sa, sc, sl⟩ := s
 obtain ⟨vu, vw⟩ := v
 simp only at hlen ⊢
 have heq' := grdEq
 have hgd' := grdGd
 clear hS F0
 unfold grdV
 go_enter Tryz.func141, Tryz.ntmps141
 go_wp2_with fail
 refine zfa ?_
 intro W hW
 have HF1 := Hd ((HF0.out.alloc _ _).of_eq hW)
 simp only [hN] at HF1 ⊢
 clear hW
 go_loopw [8] (fun i wr => ∃ k : Nat, k ≤ sl.length ∧ i = .int .i64 k ∧ (∀ (j : Nat) (y : zxa), j < k → sl[j]? = some y → gEq vu vw y.unit y.want = false) ∧ Fr N w wr [(N, 148, #[.int .i64 vu, .bool vw])]) (fun i _ => sl.length - (intOf i).toNat)
 case atStart => exact ⟨0, Nat.zero_le _, rfl, fun j y hj => absurd hj (by omega), HF1.out⟩
 case round =>
  obtain ⟨k, hk, rfl, hno, F⟩ := hrel
  have HNO := Hd hno
  have HF := Hd F
  clear hno F
  obtain ⟨g0, l0, f0⟩ := HF.out.at_mem (.head _)
  dsimp only at g0 l0 f0
  by_cases hlt : k < sl.length
  ·obtain ⟨b2, off2, x, hA2, hb2, hx, _, hc2⟩ := HF.out.at_ HS.out (fun _ => rfl) (by omega) hlt
   have p0 := hc2 0 _ rfl
   have p1 := hc2 1 _ rfl
   simp only [Nat.add_zero] at p0
   simp only at hA2
   have HX := Hd hx
   have hk1 : (k : Int) < sl.length := by omega
   subst hA2
   clear hc2 hx
   cases hq : gEq vu vw x.unit x.want with
   | true =>
    have HQ := Hd hq
    go_wp2_with fail
    go_quiet (fail)
    go_wp2_with fail
    go_returns
    refine ⟨⟨_, rfl, ?_⟩, zca HF.out.below _⟩
    rw [show decide ((0 : Int) ≤ k) = true by simp, List.any_eq_true.2 ⟨x, List.mem_of_getElem? HX.out, HQ.out⟩]
   | false =>
    have HQ := Hd hq
    go_wp2_with fail
    go_quiet (fail)
    go_wp2_with fail
    go_roundw
    case rel =>
     refine ⟨k + 1, by omega, by go_num, fun j y hj hy => ?_, HF.out.call (zca (Below.refl _ _) _)⟩
     by_cases hjk : j < k
     ·exact HNO.out j y hjk hy
     ·obtain rfl : j = k := by omega
      rw [HX.out] at hy
      rw [← Option.some.inj hy]; exact HQ.out
    case measure => simp [intOf]; omega
  ·obtain rfl : k = sl.length := by omega
   clear hlt
   go_wp2_with fail
   go_returns
   refine ⟨⟨_, rfl, ?_⟩, HF.out.below⟩
   have : sl.any (fun g => gEq vu vw g.unit g.want) = false := zkd fun i x hi hx => HNO.out i x hi hx
   rw [this]
   decide
set_option maxRecDepth 100000 in
theorem contG_any {ok : zxa → Prop} (s : SL zxa) (v : zxa) (w : World) (hS : SLR w w.heap.size 2 zxa.enc ok s) :
  Calls Tryz.prog 103 #[.slice s.a s.l.length s.c, grdV v] w fun e w' => e = .returned (.bool (s.l.any fun g => gEq v.unit v.want g.unit g.want)) ∧ Below w.heap.size w w' := by
 obtain ⟨N, hN⟩ : ∃ N, w.heap.size = N := ⟨_, rfl⟩
 rw [hN] at hS ⊢
 have F0 := Fr.start w
 rw [hN] at F0
 have HF0 := Hd F0
 have HS := Hd hS
 clear hS F0
 unfold grdV
 go_enter Tryz.func103, Tryz.ntmps103
 go_wp2_with fail
 refine Calls.named ?_
 intro W hW
 have HF1 := Hd ((HF0.out.alloc _ _).of_eq hW)
 clear hW
 with_reducible refine (idxG_any s v W (HF1.out.slr HS.out)).mono ?_
 rintro e w1 ⟨⟨k, rfl, hk⟩, hb1⟩
 have HK := Hd hk
 have HF2 := Hd (HF1.out.call hb1)
 clear hk hb1
 go_wp2_with fail
 go_returns
 exact ⟨by rw [← HK.out]; rfl, HF2.out.below⟩
abbrev exclF (a b : Nat) : Value := .func (.func 102) #[] #[.pointer (some ⟨a, 0, none⟩), .pointer (some ⟨b, 0, none⟩)]
def exclG (v : UnitD) (g : zxa) : Bool := v.guards.l.any fun h => gEq g.unit (!g.want) h.unit h.want
set_option maxRecDepth 100000 in
set_option maxHeartbeats 2000000 in
theorem exclC_any (g : zxa) (us : SL UnitD) (j : Nat) (v : UnitD) (a b : Nat) (w : World) (hU : SLR w w.heap.size 3 UnitD.enc (UnitD.ok w w.heap.size) us) (hv : us.l[j]? = some v) (ha : Blk w a 63 #[.slice us.a us.l.length us.c]) (hb : Blk w b 3 #[.int .i64 j]) :
  Calls Tryz.prog 102 #[grdV g, .pointer (some ⟨a, 0, none⟩), .pointer (some ⟨b, 0, none⟩)] w fun e w' => e = .returned (.bool (exclG v g)) ∧ Below w.heap.size w w' := by
 obtain ⟨N, hN⟩ : ∃ N, w.heap.size = N := ⟨_, rfl⟩
 have F0 := Fr.start w
 have hj := (List.getElem?_eq_some_iff.1 hv).1
 obtain ⟨b2, off2, x, hA2, hb2, hx, hxok, hc2⟩ := hU.at_ ztd (by omega) hj
 obtain rfl : x = v := Option.some.inj (hx.symm.trans hv)
 have p2 := hc2 2 _ rfl
 have hul := hU.len
 have hj1 : (j : Int) < us.l.length := by omega
 have HX := Hd hxok.guards
 have c0 : w.cell? ⟨a, 0, none⟩ = some _ := ha.cell 0
 have c1 : w.cell? ⟨b, 0, none⟩ = some _ := hb.cell 0
 have l0 := ha.lt
 have l1 := hb.lt
 rw [hN] at F0 hb2 l0 l1 HX ⊢
 have HF0 := Hd F0
 obtain ⟨ua, uc, ul⟩ := us
 simp only at hA2 c0 hj1 hul hj
 subst hA2
 obtain ⟨gu, gw⟩ := g
 obtain ⟨nw, hnw⟩ : ∃ z, (!gw) = z := ⟨_, rfl⟩
 have HV := Hd (show exclG x ⟨gu, gw⟩ = x.guards.l.any fun h => gEq gu nw h.unit h.want by unfold exclG; simp only [hnw])
 rw [HV.out]
 obtain ⟨z, hz⟩ : ∃ z, (x.guards.l.any fun h => gEq gu nw h.unit h.want) = z := ⟨_, rfl⟩
 have HZ := Hd hz
 rw [hz]
 have HNW := Hd hnw
 clear hU hv ha hb F0 hx hxok hc2 hz hnw
 unfold grdV
 dsimp only
 go_enter Tryz.func102, Tryz.ntmps102
 go_wp2_with fail
 refine zfa ?_
 intro W hW
 have HF1 := Hd ((HF0.out.alloc _ _).of_eq hW)
 simp only [hN] at HF1 ⊢
 clear hW
 obtain ⟨g0, l2, f0⟩ := HF1.out.at_mem (.head _)
 dsimp only at g0 l2 f0
 obtain ⟨P, hP⟩ : ∃ z, W.heap.size = z := ⟨_, rfl⟩
 have hNP : N < P := by omega
 have hstab : zba ([leq (.slice (some ⟨b2, off2, none⟩) ul.length uc), leq (.int .i64 j), leq (.pointer (some ⟨b2, off2 + j * 3, none⟩)), leq (.pointer (some ⟨b2, off2 + j * 3 + 2, none⟩)), leq (.slice x.guards.a x.guards.l.length x.guards.c), leq (.pointer (some ⟨N, 0, none⟩)), leq (.int .i64 gu), leq (.pointer (some ⟨N, 1, none⟩)), leq (.bool gw), leq (.bool nw), leq (.agg #[.int .i64 gu, .bool nw]), leq (.bool z), leq (.bool z)]) := zba.cons_ (zea _) (zba.cons_ (zea _) (zba.cons_ (zea _) (zba.cons_ (zea _) (zba.cons_ (zea _) (zba.cons_ (zea _) (zba.cons_ (zea _) (zba.cons_ (zea _) (zba.cons_ (zea _) (zba.cons_ (zea _) (zba.cons_ (zea _) (zba.cons_ (zea _) (zba.cons_ (zea _) (zba.nil_)))))))))))))
 have Hq9 := Hd (show ∀ i j, List.contains (Chain.effs ⟨[], [(0, 0), (0, 0), (0, 0), (0, 0), (0, 0), (0, 0), (0, 0), (0, 0), (0, 0), (0, 0), (0, 0), (0, 0), (0, 0)]⟩) i = false → Chain.next ⟨[], [(0, 0), (0, 0), (0, 0), (0, 0), (0, 0), (0, 0), (0, 0), (0, 0), (0, 0), (0, 0), (0, 0), (0, 0), (0, 0)]⟩ i j = j from fun i j h => zya h)
 refine zja ⟨[], [(0, 0), (0, 0), (0, 0), (0, 0), (0, 0), (0, 0), (0, 0), (0, 0), (0, 0), (0, 0), (0, 0), (0, 0), (0, 0)]⟩ (fun _ u => Below P W u) ([leq (.slice (some ⟨b2, off2, none⟩) ul.length uc), leq (.int .i64 j), leq (.pointer (some ⟨b2, off2 + j * 3, none⟩)), leq (.pointer (some ⟨b2, off2 + j * 3 + 2, none⟩)), leq (.slice x.guards.a x.guards.l.length x.guards.c), leq (.pointer (some ⟨N, 0, none⟩)), leq (.int .i64 gu), leq (.pointer (some ⟨N, 1, none⟩)), leq (.bool gw), leq (.bool nw), leq (.agg #[.int .i64 gu, .bool nw]), leq (.bool z), leq (.bool z)]) (by kernel_rfl) (by kernel_rfl) (by kernel_rfl) (by kernel_rfl) ?_ ?_ ?_
 ·rw [← hP]; exact (Below.refl _ _).drew
 ·show zQb _ _ _ _ _ _ 0 _
  refine ⟨?_, ?_, ?_, ?_, ?_, ?_, ?_, ?_, ?_, ?_, ?_, ?_, ?_, trivial⟩
  ·intro j hj ρ y u hS hc hf hg hfree hdep
   obtain rfl := jz hj rfl
   rw [Hq9.out _ 0 rfl]
   have e1 : ρ (.tmp 1) = .pointer (some ⟨a, 0, none⟩) := hfree 1 rfl
   refine ⟨fun _ => ?_, zaa rfl⟩
   clear hdep hfree hj
   have d0 : u.cell? ⟨a, 0, none⟩ = some _ := (hS.cell (p := ⟨a, 0, none⟩) (by show a < P; omega)).trans ((HF1.out.below.cell (p := ⟨a, 0, none⟩) l0).trans c0)
   go_simp
   exact ⟨rfl, hS, KL hstab⟩
  ·intro j hj ρ y u hS hc hf hg hfree hdep
   obtain rfl := jz hj rfl
   rw [Hq9.out _ 0 rfl]
   have e2 : ρ (.tmp 2) = .pointer (some ⟨b, 0, none⟩) := hfree 2 rfl
   refine ⟨fun _ => ?_, zaa rfl⟩
   clear hdep hfree hj
   have d0 : u.cell? ⟨b, 0, none⟩ = some _ := (hS.cell (p := ⟨b, 0, none⟩) (by show b < P; omega)).trans ((HF1.out.below.cell (p := ⟨b, 0, none⟩) l1).trans c1)
   go_simp
   exact ⟨rfl, hS, KL hstab⟩
  ·intro j hj ρ y u hS hc hf hg hfree hdep
   obtain rfl := jz hj rfl
   rw [Hq9.out _ 0 rfl]
   have e5 : ρ (.tmp 5) = _ := (hdep 0 _ 5 rfl rfl rfl).1
   have e6 : ρ (.tmp 6) = _ := (hdep 1 _ 6 rfl rfl rfl).1
   refine ⟨fun _ => ?_, zaa rfl⟩
   clear hdep hfree hj
   go_simp
   exact ⟨rfl, hS, KL hstab⟩
  ·intro j hj ρ y u hS hc hf hg hfree hdep
   obtain rfl := jz hj rfl
   rw [Hq9.out _ 0 rfl]
   have e7 : ρ (.tmp 7) = _ := (hdep 2 _ 7 rfl rfl rfl).1
   refine ⟨fun _ => ?_, zaa rfl⟩
   clear hdep hfree hj
   go_simp
   exact ⟨rfl, hS, KL hstab⟩
  ·intro j hj ρ y u hS hc hf hg hfree hdep
   obtain rfl := jz hj rfl
   rw [Hq9.out _ 0 rfl]
   have e8 : ρ (.tmp 8) = _ := (hdep 3 _ 8 rfl rfl rfl).1
   refine ⟨fun _ => ?_, zaa rfl⟩
   clear hdep hfree hj
   have d0 : u.cell? ⟨b2, off2 + j * 3 + 2, none⟩ = some _ := (hS.cell (p := ⟨b2, off2 + j * 3 + 2, none⟩) (by show b2 < P; omega)).trans ((HF1.out.below.cell (p := ⟨b2, off2 + j * 3 + 2, none⟩) hb2).trans p2)
   go_simp
   exact ⟨rfl, hS, KL hstab⟩
  ·intro j hj ρ y u hS hc hf hg hfree hdep
   obtain rfl := jz hj rfl
   rw [Hq9.out _ 0 rfl]
   have e3 : ρ (.tmp 3) = .pointer (some ⟨N, 0, none⟩) := hfree 3 rfl
   refine ⟨fun _ => ?_, zaa rfl⟩
   clear hdep hfree hj
   go_simp
   exact ⟨rfl, hS, KL hstab⟩
  ·intro j hj ρ y u hS hc hf hg hfree hdep
   obtain rfl := jz hj rfl
   rw [Hq9.out _ 0 rfl]
   have e10 : ρ (.tmp 10) = _ := (hdep 5 _ 10 rfl rfl rfl).1
   refine ⟨fun _ => ?_, zaa rfl⟩
   clear hdep hfree hj
   have d0 : u.cell? ⟨N, 0, none⟩ = some _ := (hS.cell (p := ⟨N, 0, none⟩) hNP).trans (g0 0)
   go_simp
   exact ⟨rfl, hS, KL hstab⟩
  ·intro j hj ρ y u hS hc hf hg hfree hdep
   obtain rfl := jz hj rfl
   rw [Hq9.out _ 0 rfl]
   have e3 : ρ (.tmp 3) = .pointer (some ⟨N, 0, none⟩) := hfree 3 rfl
   refine ⟨fun _ => ?_, zaa rfl⟩
   clear hdep hfree hj
   go_simp
   exact ⟨rfl, hS, KL hstab⟩
  ·intro j hj ρ y u hS hc hf hg hfree hdep
   obtain rfl := jz hj rfl
   rw [Hq9.out _ 0 rfl]
   have e12 : ρ (.tmp 12) = _ := (hdep 7 _ 12 rfl rfl rfl).1
   refine ⟨fun _ => ?_, zaa rfl⟩
   clear hdep hfree hj
   have d0 : u.cell? ⟨N, 1, none⟩ = some _ := (hS.cell (p := ⟨N, 1, none⟩) hNP).trans (g0 1)
   go_simp
   exact ⟨rfl, hS, KL hstab⟩
  ·intro j hj ρ y u hS hc hf hg hfree hdep
   obtain rfl := jz hj rfl
   rw [Hq9.out _ 0 rfl]
   have e13 : ρ (.tmp 13) = _ := (hdep 8 _ 13 rfl rfl rfl).1
   refine ⟨fun _ => ?_, zaa rfl⟩
   clear hdep hfree hj
   go_simp
   exact ⟨by rw [HNW.out]; rfl, hS, KL hstab⟩
  ·intro j hj ρ y u hS hc hf hg hfree hdep
   obtain rfl := jz hj rfl
   rw [Hq9.out _ 0 rfl]
   have e11 : ρ (.tmp 11) = _ := (hdep 6 _ 11 rfl rfl rfl).1
   have e14 : ρ (.tmp 14) = _ := (hdep 9 _ 14 rfl rfl rfl).1
   refine ⟨fun _ => ?_, zaa rfl⟩
   clear hdep hfree hj
   go_simp
   exact ⟨rfl, hS, KL hstab⟩
  ·intro j hj ρ y u hS hc hf hg hfree hdep
   obtain rfl := jz hj rfl
   rw [Hq9.out _ 0 rfl]
   have e9 : ρ (.tmp 9) = _ := (hdep 4 _ 9 rfl rfl rfl).1
   have e15 : ρ (.tmp 15) = _ := (hdep 10 _ 15 rfl rfl rfl).1
   refine ⟨fun _ => ?_, zaa rfl⟩
   clear hdep hfree hj
   have hPu : P ≤ u.heap.size := by have := hS.size; omega
   go_simp
   refine zha (contG_any x.guards ⟨gu, nw⟩ u ((HX.out.below (HF1.out.below.trans (hS.mono (by omega)))).more (by omega))) ?_
   rintro e w' ⟨rfl, hb'⟩
   exact ⟨_, rfl, by rw [HZ.out]; rfl, hS.trans (hb'.mono hPu), KeepL.below hb' _ _ 0 hstab⟩
  ·intro j hj ρ y u hS hc hf hg hfree hdep
   obtain rfl := jz hj rfl
   rw [Hq9.out _ 0 rfl]
   have e16 : ρ (.tmp 16) = _ := (hdep 11 _ 16 rfl rfl rfl).1
   refine ⟨fun _ => ?_, zaa rfl⟩
   clear hdep hfree hj
   go_simp
   exact ⟨rfl, hS, KL hstab⟩
 intro u hS
 rintro _ rfl _ rfl _ rfl _ rfl _ rfl _ rfl _ rfl _ rfl _ rfl _ rfl _ rfl _ rfl _ rfl
 simp only [zxb, Act.put, List.setIfInBounds_toArray, List.set_cons_zero, List.set_cons_succ]
 go_wp2_with fail
 go_returns
 exact ⟨rfl, HF1.out.below.trans (hS.mono (by omega))⟩
set_option maxRecDepth 100000 in
set_option maxHeartbeats 2000000 in
theorem idxFG_any {ok : zxa → Prop} (s : SL zxa) (us : SL UnitD) (j : Nat) (v : UnitD) (a b : Nat) (w : World) (hS : SLR w w.heap.size 2 zxa.enc ok s) (hU : SLR w w.heap.size 3 UnitD.enc (UnitD.ok w w.heap.size) us) (hv : us.l[j]? = some v) (ha : Blk w a 63 #[.slice us.a us.l.length us.c]) (hb : Blk w b 3 #[.int .i64 j]) :
  Calls Tryz.prog 140 #[.slice s.a s.l.length s.c, exclF a b] w fun e w' => (∃ k, e = .returned (.int .i64 k) ∧ decide (0 ≤ k) = s.l.any (exclG v)) ∧ Below w.heap.size w w' := by
 obtain ⟨N, hN⟩ : ∃ N, w.heap.size = N := ⟨_, rfl⟩
 have HN := Hd hN
 have HS := Hd hS
 have HU := Hd hU
 have HAb := Hd ha
 have HBb := Hd hb
 have hlen := hS.len
 obtain ⟨sa, sc, sl⟩ := s
 simp only at hlen ⊢
 rw [hN]
 have HB0 := Hd (show Below N w w from Below.refl _ _)
 clear hS hU ha hb hN
 unfold exclF
 go_enter Tryz.func140, Tryz.ntmps140
 go_wp2_with fail
 go_loopw [8] (fun i wr => ∃ k : Nat, k ≤ sl.length ∧ i = .int .i64 k ∧ (∀ (j : Nat) (y : zxa), j < k → sl[j]? = some y → exclG v y = false) ∧ Below N w wr) (fun i _ => sl.length - (intOf i).toNat)
 case atStart => exact ⟨0, Nat.zero_le _, rfl, fun j y hj => absurd hj (by omega), HB0.out⟩
 case round =>
  obtain ⟨k, hk, rfl, hno, hB⟩ := hrel
  have HNO := Hd hno
  have HBr := Hd hB
  have hNr : N ≤ wr.heap.size := by have := hB.size; have := HN.out; omega
  clear hno hB
  by_cases hlt : k < sl.length
  ·obtain ⟨b2, off2, x, hA2, hb2, hx, _, hc2⟩ := (HS.out.below (by rw [HN.out]; exact HBr.out)).at_ guard_len (by omega) hlt
   have p0 := hc2 0 _ rfl
   have p1 := hc2 1 _ rfl
   simp only [Nat.add_zero] at p0
   simp only at hA2
   have hBw : Below w.heap.size w wr := by rw [HN.out]; exact HBr.out
   have hle : w.heap.size ≤ wr.heap.size := by rw [HN.out]; exact hNr
   have HC := Hd (exclC_any x us j v a b wr (((HU.out.below hBw).imp fun u hu => hu.below hBw).more hle |>.imp fun u hu => hu.more hle) hv (HAb.out.below hBw HAb.out.lt) (HBb.out.below hBw HBb.out.lt))
   have HX := Hd hx
   have hkl : (k : Int) < sl.length := by omega
   subst hA2
   obtain ⟨q, hq⟩ : ∃ q, exclG v x = q := ⟨_, rfl⟩
   have HQ := Hd hq
   rw [hq] at HC
   clear hc2 hx hq hBw hle hb2
   go_wp2_with fail
   with_reducible refine HC.out.mono ?_
   rintro e w1 ⟨rfl, hb1⟩
   have HB1 := Hd (HBr.out.trans (hb1.mono hNr))
   clear hb1
   cases q
   case true =>
    go_wp2_with fail
    go_returns
    refine ⟨⟨_, rfl, ?_⟩, HB1.out⟩
    rw [show decide ((0 : Int) ≤ k) = true by simp, List.any_eq_true.2 ⟨x, List.mem_of_getElem? HX.out, HQ.out⟩]
   case false =>
    go_wp2_with fail
    go_roundw
    case rel =>
     refine ⟨k + 1, by omega, by go_num, fun j y hj hy => ?_, HB1.out⟩
     by_cases hjk : j < k
     ·exact HNO.out j y hjk hy
     ·obtain rfl : j = k := by omega
      rw [HX.out] at hy
      rw [← Option.some.inj hy]; exact HQ.out
    case measure => simp [intOf]; omega
  ·obtain rfl : k = sl.length := by omega
   clear hlt
   go_wp2_with fail
   go_returns
   refine ⟨⟨_, rfl, ?_⟩, HBr.out⟩
   have : sl.any (exclG v) = false := zkd fun i x hi hx => HNO.out i x hi hx
   rw [this]
   decide
set_option maxRecDepth 100000 in
theorem contFG_any {ok : zxa → Prop} (s : SL zxa) (us : SL UnitD) (j : Nat) (v : UnitD) (a b : Nat) (w : World) (hS : SLR w w.heap.size 2 zxa.enc ok s) (hU : SLR w w.heap.size 3 UnitD.enc (UnitD.ok w w.heap.size) us) (hv : us.l[j]? = some v) (ha : Blk w a 63 #[.slice us.a us.l.length us.c]) (hb : Blk w b 3 #[.int .i64 j]) :
  Calls Tryz.prog 101 #[.slice s.a s.l.length s.c, exclF a b] w fun e w' => e = .returned (.bool (s.l.any (exclG v))) ∧ Below w.heap.size w w' := by
 have HC := Hd (idxFG_any s us j v a b w hS hU hv ha hb)
 clear hS hU hv ha hb
 unfold exclF at *
 go_enter Tryz.func101, Tryz.ntmps101
 go_wp2_with fail
 with_reducible refine HC.out.mono ?_
 rintro e w1 ⟨⟨k, rfl, hk⟩, hb1⟩
 have HK := Hd hk
 have HB1 := Hd hb1
 clear hk hb1
 go_wp2_with fail
 go_returns
 exact ⟨by rw [← HK.out]; rfl, HB1.out⟩
theorem exclB_eq {us : List UnitD} {i j : Nat} {u v : UnitD} (hu : us[i]? = some u) (hv : us[j]? = some v) : exclB (us.map UnitD.m) i j = u.guards.l.any (exclG v) := by
 unfold exclB
 rw [List.getElem?_map, List.getElem?_map, hu, hv]
 simp only [Option.map_some, UnitD.m, List.any_map]
 congr 1
set_option maxRecDepth 100000 in
set_option maxHeartbeats 2000000 in
theorem exclusive_any (us : SL UnitD) (i j : Nat) (w : World) (hU : SLR w w.heap.size 3 UnitD.enc (UnitD.ok w w.heap.size) us) (hi : i < us.l.length) (hj : j < us.l.length) :
  Calls Tryz.prog 70 #[.slice us.a us.l.length us.c, .int .i64 i, .int .i64 j] w fun e w' => e = .returned (.bool (exclB (us.l.map UnitD.m) i j)) ∧ Below w.heap.size w w' := by
 obtain ⟨N, hN⟩ : ∃ N, w.heap.size = N := ⟨_, rfl⟩
 have F0 := Fr.start w
 obtain ⟨v, hv⟩ : ∃ v, us.l[j]? = some v := ⟨_, List.getElem?_eq_getElem hj⟩
 obtain ⟨b2, off2, x, hA2, hb2, hx, hxok, hc2⟩ := hU.at_ ztd (by omega) hi
 have p2 := hc2 2 _ rfl
 have hul := hU.len
 have hi1 : (i : Int) < us.l.length := by omega
 have hj1 : (j : Int) < us.l.length := by omega
 have hi2 : ¬ us.l.length ≤ i := by omega
 have hj2 : ¬ us.l.length ≤ j := by omega
 have hi3 : decide (us.l.length ≤ i) = false := decide_eq_false hi2
 have hj3 : decide (us.l.length ≤ j) = false := decide_eq_false hj2
 have HX := Hd hxok.guards
 have HU := Hd hU
 have HV := Hd (exclB_eq hx hv)
 obtain ⟨z, hz⟩ : ∃ z, exclB (us.l.map UnitD.m) i j = z := ⟨_, rfl⟩
 rw [hz] at HV ⊢
 have hmf : ∀ (fn : Fn) (first cap : Array Value) (w : World), (Instr.makeFunc fn first cap).run Tryz.prog w = .ok (.func fn first cap) w := fun _ _ _ _ => rfl
 rw [hN] at F0 hb2 HX HU ⊢
 have HF0 := Hd F0
 have HVj := Hd hv
 clear hU hv F0 hx hxok hc2 hz hi hj
 obtain ⟨ua, hua⟩ : ∃ z, us.a = z := ⟨_, rfl⟩
 have HUA := Hd hua
 rw [hua] at hA2 ⊢
 clear hua
 subst hA2
 go_enter Tryz.func70, Tryz.ntmps70
 go_wp2_with fail
 refine Calls.named ?_
 intro W hW
 have F1 := ((HF0.out.alloc _ _).alloc _ _).of_eq hW
 simp only [World.size_alloc, hN] at F1 ⊢
 have HF1 := Hd F1
 clear F1 hW
 have hle := HF1.out.le
 have hcon := contFG_any x.guards us j v N (N + 1) W (HF1.out.slr HX.out) (((HU.out.below HF1.out.below).imp fun u hu => hu.below HF1.out.below).more hle |>.imp fun u hu => hu.more hle) HVj.out (by rw [HUA.out]; exact (HF1.out.blk _ (.tail _ (.head _))).2) (HF1.out.blk _ (.head _)).2
 have HCon := Hd hcon
 clear hcon
 unfold exclF at HCon
 with_reducible refine HCon.out.mono ?_
 rintro e w1 ⟨rfl, hb1⟩
 have HF2 := Hd (HF1.out.call hb1)
 rw [← HV.out]
 clear hb1
 go_wp2_with fail
 go_returns
 exact ⟨rfl, HF2.out.below⟩
open Go.RowKit
abbrev colCells (d : PrgD) (cs : SL Int) : Array Value := #[.string d.name, .slice d.hZ.a d.hZ.l.length d.hZ.c, .slice d.mZ.a d.mZ.l.length d.mZ.c, .slice d.rZ.a d.rZ.l.length d.rZ.c, .slice d.aZ.a d.aZ.l.length d.aZ.c, .slice d.tZ.a d.tZ.l.length d.tZ.c, .slice d.sZ.a d.sZ.l.length d.sZ.c, .slice d.cZ.a d.cZ.l.length d.cZ.c, .slice d.dep.a d.dep.l.length d.dep.c, .slice cs.a cs.l.length cs.c]
structure ColB (N g : Nat) (d : PrgD) (cs : SL Int) (W : World) : Prop where
 lo : N ≤ g
 box : Blk W g 181 (colCells d cs)
 own : OwnZ W (g + 1) cs.a cs.c cs.l
 prg : PrgR W N d
def ColF (g : Nat) (cs : SL Int) (k : Nat) : Prop := k = g ∨ ownB cs.a = some k
structure ColTo (N g : Nat) (d : PrgD) (cs cs' : SL Int) (l : List Int) (w w' : World) : Prop where
 b : ColB N g d cs' w'
 l : cs'.l = cs.l ++ l
 sub : Sub (ColF g cs) (ColF g cs') w.heap.size
 kept : KeptF (ColF g cs) w w'
section
variable {N g : Nat} {d : PrgD} {cs cs1 cs2 : SL Int} {l l' : List Int} {w w1 w2 u : World}
theorem ColB.foot (b : ColB N g d cs w) {k : Nat} (hk : ColF g cs k) : g ≤ k ∧ k < w.heap.size := by
 rcases hk with rfl | hk
 ·exact ⟨Nat.le_refl _, b.box.lt⟩
 ·have := Own.lt b.own k hk; exact ⟨by omega, this.2⟩
theorem ColB.below (b : ColB N g d cs w) (hb : Below w.heap.size w u) : ColB N g d cs u := ⟨b.lo, b.box.below hb b.box.lt, Own.below b.own hb, b.prg.below (hb.mono (by have := b.box.lt; have := b.lo; omega))⟩
theorem ColTo.refl (b : ColB N g d cs w) : ColTo N g d cs cs [] w w := ⟨b, by simp, Sub.refl _ _, KeptF.refl _ _⟩
theorem ColTo.trans (x : ColTo N g d cs cs1 l w w1) (y : ColTo N g d cs1 cs2 l' w1 w2) : ColTo N g d cs cs2 (l ++ l') w w2 :=
 ⟨y.b, by rw [y.l, x.l, List.append_assoc], x.sub.trans y.sub x.kept.size, x.kept.trans x.sub y.kept⟩
theorem ColTo.step (x : ColTo N g d cs cs1 l w w1) (hb : Below w1.heap.size w1 w2) : ColTo N g d cs cs1 l w w2 := ⟨x.b.below hb, x.l, x.sub, x.kept.step_below hb⟩
theorem ColB.set_ (b : ColB N g d cs w) (hk : KeptF (fun k => ownB cs.a = some k) w u) {A : Option Addr} {c : Nat} {x : Int} (ho : OwnZ u (g + 1) A c (cs.l ++ [x])) (hA : ownB A = ownB cs.a ∨ ∀ k, ownB A = some k → w.heap.size ≤ k) :
  ColTo N g d cs ⟨A, c, cs.l ++ [x]⟩ [x] w (u.setCell ⟨g, 9, none⟩ (.slice A (cs.l.length + 1) c)) := by
 have hg : ownB cs.a ≠ some g := zGc b.own b.box (by decide)
 have hb : Blk u g 181 _ := hk.blk b.box hg
 have h2 : KeptF (ColF g cs) w u := ⟨hk.os, hk.tape, hk.output, hk.size, fun k hk1 hk2 => hk.block k hk1 (fun h3 => hk2 (.inr h3))⟩
 have h3 : KeptF (ColF g cs) w (u.setCell ⟨g, 9, none⟩ (.slice A (cs.l.length + 1) c)) := h2.set (.inl rfl) 9 _
 refine ⟨⟨b.lo, ?_, zzb ho hb (by decide) 9 _, b.prg.below (h3.below (B := N) (fun k hk => by have := (b.foot hk).1; have := b.lo; omega) (by have := b.box.lt; have := b.lo; omega))⟩, rfl, fun k hk => ?_, h3⟩
 ·have := hb.set_ 9 (.slice A (cs.l.length + 1) c)
  unfold colCells
  rw [List.length_append]
  exact this
 ·rcases hk with hk | hk
  ·exact .inl (.inl hk)
  ·rcases hA with hA | hA
   ·exact .inl (.inr (by rw [← hA]; exact hk))
   ·exact .inr (hA k hk)
end
def pRowX (g : Nat) (old : Option Nat) (M : Nat) (L : List Int) (v : Value) (u : World) : Prop := ∃ A c, v = .slice A L.length c ∧ OwnZ u (g + 1) A c L ∧ (ownB A = old ∨ ∀ k, ownB A = some k → M ≤ k)
theorem pRowX_st {g : Nat} {old : Option Nat} {M : Nat} {L : List Int} : zkb (pRowX g old M L) := fun v u u' hb ⟨A, c, e, ho, h3⟩ => ⟨A, c, e, Own.below ho hb, h3⟩
set_option maxRecDepth 100000 in
set_option maxHeartbeats 4000000 in
theorem put_any (N g cb : Nat) (d : PrgD) (cs : SL Int) (n : Int) (w : World) (hB : ColB N g d cs w) (hc : Blk w cb 179 #[.pointer (some ⟨g, 0, none⟩)]) (hl : cs.l.length ≤ 1000000) :
  Calls Tryz.prog 126 #[.int .i64 n, .pointer (some ⟨cb, 0, none⟩)] w fun e w' => e = .returned (.tuple #[]) ∧ ∃ cs', ColTo N g d cs cs' (if 0 ≤ n then [n] else []) w w' := by
 have HB := Hd hB
 have HC := Hd hc
 have c0 : w.cell? ⟨cb, 0, none⟩ = some (.pointer (some ⟨g, 0, none⟩)) := hc.cell 0
 clear hB hc
 by_cases hn : 0 ≤ n
 ·have HV := Hd (show (if 0 ≤ n then [n] else []) = [n] from if_pos hn)
  have hn' : decide (0 ≤ n) = true := decide_eq_true hn
  go_enter Tryz.func126, Tryz.ntmps126
  go_wp2_with fail
  obtain ⟨M, hM⟩ : ∃ z, w.heap.size = z := ⟨_, rfl⟩
  have hgM : g < M := by rw [← hM]; exact HB.out.box.lt
  have hcM : cb < M := by rw [← hM]; exact HC.out.lt
  have b0 : ∀ i, w.cell? ⟨g, i, none⟩ = _ := fun i => HB.out.box.cell i
  have hstab : zba ([leq (.pointer (some ⟨g, 0, none⟩)), leq (.pointer (some ⟨g, 0, none⟩)), leq (.pointer (some ⟨g, 0, none⟩)), leq (.pointer (some ⟨g, 9, none⟩)), leq (.slice cs.a cs.l.length cs.c), leq (.int .i64 n), lat 0 (pLit M 3 1 #[.int .i64 n]), lat 1 (pRowX g (ownB cs.a) M (cs.l ++ [n])), leq (.pointer (some ⟨g, 0, none⟩)), leq (.pointer (some ⟨g, 9, none⟩)), lany]) := zba.cons_ (zea _) (zba.cons_ (zea _) (zba.cons_ (zea _) (zba.cons_ (zea _) (zba.cons_ (zea _) (zba.cons_ (zea _) (zba.cons_ (zic zYd) (zba.cons_ (zic pRowX_st) (zba.cons_ (zea _) (zba.cons_ (zea _) (zba.cons_ zfc (zba.nil_)))))))))))
  have Hq9 := Hd (show ∀ i j, List.contains (Chain.effs ⟨[7, 10], [(0, 1), (0, 0), (0, 0), (0, 0), (0, 0), (0, 0), (0, 0), (0, 0), (1, 1), (1, 1), (1, 1)]⟩) i = false → Chain.next ⟨[7, 10], [(0, 1), (0, 0), (0, 0), (0, 0), (0, 0), (0, 0), (0, 0), (0, 0), (1, 1), (1, 1), (1, 1)]⟩ i j = j from fun i j h => zya h)
  refine zja ⟨[7, 10], [(0, 1), (0, 0), (0, 0), (0, 0), (0, 0), (0, 0), (0, 0), (0, 0), (1, 1), (1, 1), (1, 1)]⟩ (sj3 (fun u => Below M w u) (fun u => KeptF (fun k => ownB cs.a = some k) w u) (fun u => ∃ cs' : SL Int, ColTo N g d cs cs' [n] w u)) ([leq (.pointer (some ⟨g, 0, none⟩)), leq (.pointer (some ⟨g, 0, none⟩)), leq (.pointer (some ⟨g, 0, none⟩)), leq (.pointer (some ⟨g, 9, none⟩)), leq (.slice cs.a cs.l.length cs.c), leq (.int .i64 n), lat 0 (pLit M 3 1 #[.int .i64 n]), lat 1 (pRowX g (ownB cs.a) M (cs.l ++ [n])), leq (.pointer (some ⟨g, 0, none⟩)), leq (.pointer (some ⟨g, 9, none⟩)), lany]) (by kernel_rfl) (by kernel_rfl) (by kernel_rfl) (by kernel_rfl) ?_ ?_ ?_
  ·exact sj3_0 (by rw [← hM]; exact (Below.refl _ _).drew)
  ·show zQb _ _ _ _ _ _ 0 _
   refine ⟨?_, ?_, ?_, ?_, ?_, ?_, ?_, ?_, ?_, ?_, ?_, trivial⟩
   ·intro j hj ρ y u hS hc hf hg hfree hdep
    obtain ⟨hj0, hj1⟩ := hj _ rfl
    dsimp only at hj0 hj1
    rw [Hq9.out _ j rfl]
    have e1 : ρ (.tmp 1) = .pointer (some ⟨cb, 0, none⟩) := hfree 1 rfl
    refine ⟨fun _ => ?_, zaa rfl⟩
    clear hdep hfree hj
    have d0 : u.cell? ⟨cb, 0, none⟩ = some (.pointer (some ⟨g, 0, none⟩)) := by
     have hj2 : j = 0 ∨ j = 1 ∨ j = 2 := by omega
     rcases hj2 with rfl | rfl | rfl
     ·exact ((hS.1 rfl).cell (p := ⟨cb, 0, none⟩) hcM).trans c0
     ·exact ((hS.2.1 rfl).blk HC.out (zGc HB.out.own HC.out (by decide))).cell 0
     ·omega
    go_simp
    exact ⟨rfl, hS, KL hstab⟩
   ·intro j hj ρ y u hS hc hf hg hfree hdep
    obtain rfl := jz hj rfl
    rw [Hq9.out _ 0 rfl]
    have e1 : ρ (.tmp 1) = .pointer (some ⟨cb, 0, none⟩) := hfree 1 rfl
    refine ⟨fun _ => ?_, zaa rfl⟩
    clear hdep hfree hj
    have d0 : u.cell? ⟨cb, 0, none⟩ = some _ := ((hS.1 rfl).cell (p := ⟨cb, 0, none⟩) hcM).trans c0
    go_simp
    exact ⟨rfl, hS, KL hstab⟩
   ·intro j hj ρ y u hS hc hf hg hfree hdep
    obtain rfl := jz hj rfl
    rw [Hq9.out _ 0 rfl]
    have e6 : ρ (.tmp 6) = _ := (hdep 1 _ 6 rfl rfl rfl).1
    refine ⟨fun _ => ?_, zaa rfl⟩
    clear hdep hfree hj
    go_simp
    exact ⟨rfl, hS, KL hstab⟩
   ·intro j hj ρ y u hS hc hf hg hfree hdep
    obtain rfl := jz hj rfl
    rw [Hq9.out _ 0 rfl]
    have e7 : ρ (.tmp 7) = _ := (hdep 2 _ 7 rfl rfl rfl).1
    refine ⟨fun _ => ?_, zaa rfl⟩
    clear hdep hfree hj
    go_simp
    exact ⟨rfl, hS, KL hstab⟩
   ·intro j hj ρ y u hS hc hf hg hfree hdep
    obtain rfl := jz hj rfl
    rw [Hq9.out _ 0 rfl]
    have e8 : ρ (.tmp 8) = _ := (hdep 3 _ 8 rfl rfl rfl).1
    refine ⟨fun _ => ?_, zaa rfl⟩
    clear hdep hfree hj
    have d0 : u.cell? ⟨g, 9, none⟩ = some _ := ((hS.1 rfl).cell (p := ⟨g, 9, none⟩) hgM).trans (b0 9)
    go_simp
    exact ⟨rfl, hS, KL hstab⟩
   ·intro j hj ρ y u hS hc hf hg hfree hdep
    obtain rfl := jz hj rfl
    rw [Hq9.out _ 0 rfl]
    have e0 : ρ (.tmp 0) = .int .i64 n := hfree 0 rfl
    refine ⟨fun _ => ?_, zaa rfl⟩
    clear hdep hfree hj
    go_simp
    exact ⟨rfl, hS, KL hstab⟩
   ·intro j hj ρ y u hS hc hf hg hfree hdep
    obtain rfl := jz hj rfl
    rw [Hq9.out _ 0 rfl]
    have e10 : ρ (.tmp 10) = _ := (hdep 5 _ 10 rfl rfl rfl).1
    refine ⟨fun _ => ?_, zaa rfl⟩
    clear hdep hfree hj
    have hS0 := hS.1 rfl
    have hMu : M ≤ u.heap.size := by have := hS0.size; omega
    go_simp
    exact ⟨(fun _ => ⟨u.heap.size, rfl, hMu, Blk.new _ _ _⟩), sj3_0 (hS0.alloc hMu _), KeepL.below ((Below.refl _ _).alloc (Nat.le_refl _) _) _ _ 0 hstab⟩
   ·intro j hj ρ y u hS hc hf hg hfree hdep
    obtain rfl := jz hj rfl
    rw [show Chain.next ⟨[7, 10], [(0, 1), (0, 0), (0, 0), (0, 0), (0, 0), (0, 0), (0, 0), (0, 0), (1, 1), (1, 1), (1, 1)]⟩ 7 0 = 1 from rfl]
    have e9 : ρ (.tmp 9) = _ := (hdep 4 _ 9 rfl rfl rfl).1
    have r11 := (hdep 6 _ 11 rfl rfl rfl).1
    refine ⟨fun _ => ?_, zaa rfl⟩
    clear hdep hfree hj
    have hS0 := hS.1 rfl
    have hMu : M ≤ u.heap.size := by have := hS0.size; omega
    have hSx : Below w.heap.size w u := by rw [hM]; exact hS0
    obtain ⟨gl, e11', hgl, hBl⟩ := r11 rfl
    have hsr : SLR u u.heap.size 1 intE (fun _ => True) ⟨some ⟨gl, 0, none⟩, 1, [n]⟩ := zoa hBl hBl.lt [n] rfl zna (by simp [maxLen]) (fun _ _ => trivial)
    refine int2_good (.tmp 9) (.tmp 11) rfl (g + 1) cs.a cs.l.length cs.c cs.l rfl e9 (Own.below HB.out.own hSx) _ _ 1 1 [n] rfl e11' hsr.rd (by omega) (by omega) ?_
    intro A2 c2 w2 hO2 hG2 hA2
    have hbA : ownB A2 = ownB cs.a ∨ ∀ k, ownB A2 = some k → M ≤ k := hA2.imp id fun h k hk => by rw [h] at hk; injection hk with hk; omega
    refine ⟨fun _ => ⟨A2, c2, by rw [List.length_append]; rfl, hO2, hbA⟩, sj3_1 ((KeptF.of_below hSx).step_grown hG2 fun k hk => hk), ⟨.inr (.inr (fun h => h)), .inr (.inr (fun h => h)), .inr (.inr (fun h => h)), .inr (.inr (fun h => h)), .inr (.inr (fun h => h)), .inr (.inr (fun h => h)), .inr (.inr (fun _ => zbc (by omega))), .inl rfl, .inr (.inl (by kernel_rfl)), .inr (.inl (by kernel_rfl)), trivial, trivial⟩⟩
   ·intro j hj ρ y u hS hc hf hg hfree hdep
    obtain rfl := jz hj rfl
    rw [Hq9.out _ 1 rfl]
    have e5 : ρ (.tmp 5) = _ := (hdep 0 _ 5 rfl rfl rfl).1
    refine ⟨fun _ => ?_, zaa rfl⟩
    clear hdep hfree hj
    go_simp
    exact ⟨rfl, hS, KL hstab⟩
   ·intro j hj ρ y u hS hc hf hg hfree hdep
    obtain rfl := jz hj rfl
    rw [Hq9.out _ 1 rfl]
    have e13 : ρ (.tmp 13) = _ := (hdep 8 _ 13 rfl rfl rfl).1
    refine ⟨fun _ => ?_, zaa rfl⟩
    clear hdep hfree hj
    go_simp
    exact ⟨rfl, hS, KL hstab⟩
   ·intro j hj ρ y u hS hc hf hg hfree hdep
    obtain rfl := jz hj rfl
    rw [show Chain.next ⟨[7, 10], [(0, 1), (0, 0), (0, 0), (0, 0), (0, 0), (0, 0), (0, 0), (0, 0), (1, 1), (1, 1), (1, 1)]⟩ 10 1 = 2 from rfl]
    have r12 := (hdep 7 _ 12 rfl rfl rfl).1
    have e14 : ρ (.tmp 14) = _ := (hdep 9 _ 14 rfl rfl rfl).1
    refine ⟨fun _ => ?_, zaa rfl⟩
    clear hdep hfree hj
    have hS1 := hS.2.1 rfl
    obtain ⟨A2, c2, e12', hO2, hb2⟩ := r12 rfl
    rw [List.length_append] at e12'
    have hset := HB.out.set_ hS1 hO2 (by rw [hM]; exact hb2)
    have hnk : ¬ ownB cs.a = some g := zGc HB.out.own HB.out.box (by decide)
    have hbx := hS1.blk HB.out.box hnk
    obtain ⟨d0, d1⟩ : (∀ i, u.cell? ⟨g, i, none⟩ = _) ∧ (∀ i, u.frozen? ⟨g, i, none⟩ = false) := ⟨fun i => hbx.cell i, fun i => hbx.frozen i⟩
    have d2 := hbx.lt
    go_simp
    refine ⟨trivial, sj3_2 ⟨⟨A2, c2, cs.l ++ [n]⟩, hset⟩, ⟨.inr (.inr (fun h => h)), .inr (.inr (fun h => h)), .inr (.inr (fun h => h)), .inr (.inr (fun h => h)), .inr (.inr (fun h => h)), .inr (.inr (fun h => h)), .inr (.inr (fun _ => zbc (by omega))), .inr (.inr (fun _ => zbc (by omega))), .inr (.inr (fun h => h)), .inr (.inr (fun h => h)), trivial, trivial⟩⟩
  intro u hS
  rintro _ rfl _ rfl _ rfl _ rfl _ rfl _ rfl _ r_11 _ r_12 _ rfl _ rfl
  simp only [zxb, Act.put, List.setIfInBounds_toArray, List.set_cons_zero, List.set_cons_succ]
  obtain ⟨cs', hc'⟩ := hS.2.2 rfl
  have HC' := Hd hc'
  clear hS hc' hstab r_11 r_12
  go_wp2_with fail
  go_returns
  exact ⟨rfl, cs', by first | exact HC'.out | (rw [HV.out]; exact HC'.out)⟩
 ·have HV := Hd (show (if 0 ≤ n then [n] else []) = [] from if_neg hn)
  have hn' : decide (0 ≤ n) = false := decide_eq_false hn
  go_enter Tryz.func126, Tryz.ntmps126
  go_wp2_with fail
  go_returns
  exact ⟨rfl, cs, by first | exact ColTo.refl HB.out | (rw [HV.out]; exact ColTo.refl HB.out)⟩
open Go.RowKit
def nnC (l : List Int) : List Int := l.filter fun n => decide (0 ≤ n)
theorem nnC_app (a b : List Int) : nnC (a ++ b) = nnC a ++ nnC b := by unfold nnC; rw [List.filter_append]
theorem nnC_one (n : Int) : nnC [n] = if 0 ≤ n then [n] else [] := by unfold nnC; by_cases h : 0 ≤ n <;> simp [h]
theorem nnC_len (l : List Int) : (nnC l).length ≤ l.length := List.length_filter_le _ _
theorem map_take {α : Type} (q : α → Int) {l : List α} {k : Nat} {x : α} (h : l[k]? = some x) : (l.take (k + 1)).map q = (l.take k).map q ++ [q x] := by
 rw [List.take_add_one, h, List.map_append]; rfl
theorem zxd (d : PrgD) (a : Acc) : zwa d a = (nnC (a.f.map fun x => zvb d x.1 x.2) ++ nnC (a.h.map (zOb d 1))) ++ nnC (a.r.map (zOb d 3)) := by
 unfold zwa nnC
 rw [List.filter_append, List.filter_append]
theorem SLP.at_ {α : Type} {w : World} {F : Nat → Prop} {size : Nat} {enc : α → List Value} {s : SL α} (h : SLP w F size enc s) (henc : ∀ x, (enc x).length = size) (hs : 0 < size) {k : Nat} (hk : k < s.l.length) :
  ∃ b off x, s.a = some ⟨b, off, none⟩ ∧ s.l[k]? = some x ∧ ∀ (i : Nat) (v : Value), (enc x)[i]? = some v → w.cell? ⟨b, off + k * size + i, none⟩ = some v := by
 obtain ⟨b, off, x, h1, _, h2, _, h3⟩ := h.slr.at_ henc hs hk
 exact ⟨b, off, x, h1, h2, h3⟩
theorem Held.blk {F : Nat → Prop} {W : World} {L : List (Nat × TypeId × Array Value)} {g : Nat} {t : TypeId} {cs : Array Value} (h : Held F W L) (hm : (g, t, cs) ∈ L) : Blk W g t cs := (h _ hm).2
set_option maxRecDepth 100000 in
set_option maxHeartbeats 8000000 in
theorem add_any (N g : Nat) (d : PrgD) (cs : SL Int) (f : SL (Int × Int)) (h r : SL Int) (w : World) (hB : ColB N g d cs w) (hP : PrgB d) (hf : SLP w (ColF g cs) 2 frE f) (hh : SLP w (ColF g cs) 1 intE h) (hr : SLP w (ColF g cs) 1 intE r) (hl : cs.l.length ≤ 100000) (hfl : f.l.length ≤ 100000) (hhl : h.l.length ≤ 100000) (hrl : r.l.length ≤ 100000) :
  Calls Tryz.prog 94 #[.pointer (some ⟨g, 0, none⟩), .slice f.a f.l.length f.c, .slice h.a h.l.length h.c, .slice r.a r.l.length r.c] w fun e w' => e = .returned (.tuple #[]) ∧ ∃ cs', ColTo N g d cs cs' (zwa d ⟨f.l, h.l, r.l⟩) w w' := by
 have hNg := hB.lo
 have HB := Hd hB
 have HPb := Hd hP
 have HV := Hd (zxd d ⟨f.l, h.l, r.l⟩)
 have hmf : ∀ (fn : Fn) (first cap : Array Value) (w : World), (Instr.makeFunc fn first cap).run Tryz.prog w = .ok (.func fn first cap) w := fun _ _ _ _ => rfl
 obtain ⟨cb, hcb⟩ : ∃ z, w.heap.size = z := ⟨_, rfl⟩
 obtain ⟨w1, hw1⟩ : ∃ z, w.alloc (.cells #[.pointer (some ⟨g, 0, none⟩)] 179) = z := ⟨_, rfl⟩
 have hbw : Below w.heap.size w w1 := by rw [← hw1]; exact (Below.refl _ _).alloc (Nat.le_refl _) _
 have hlen1 := hf.len
 have hcap1 : f.l.length ≤ 9223372036854775807 := by omega
 have HT0 := Hd ((ColTo.refl hB).step hbw)
 have HT1 := Hd (ColTo.refl (hB.below hbw))
 have HH1 := Hd (show Held (ColF g cs) w1 [(cb, 179, #[.pointer (some ⟨g, 0, none⟩)])] by
  rw [← hw1, ← hcb]; exact Held.nil_.alloc (fun k hk => (hB.foot hk).2) _ _)
 have HF1 := Hd (hf.below hbw)
 have HHr := Hd (hh.below hbw)
 have HRr := Hd (hr.below hbw)
 clear hB hP hf hh hr hbw hlen1
 go_enter Tryz.func94, Tryz.ntmps94
 go_wp2_with fail
 try simp only [hw1, hcb]
 clear hw1
 go_loopw [18] (fun i wr => ∃ (k : Nat) (cs' : SL Int), k ≤ f.l.length ∧ i = .int .i64 k ∧ ColTo N g d cs cs' (([] : List Int) ++ nnC ((f.l.take k).map (fun x => zvb d x.1 x.2))) w1 wr ∧ Held (ColF g cs') wr [(cb, 179, #[.pointer (some ⟨g, 0, none⟩)])] ∧ SLP wr (ColF g cs') 2 frE f ∧ SLP wr (ColF g cs') 1 intE h ∧ SLP wr (ColF g cs') 1 intE r) (fun i _ => f.l.length - (intOf i).toNat)
 case atStart => exact ⟨0, cs, Nat.zero_le _, rfl, HT1.out, HH1.out, HF1.out, HHr.out, HRr.out⟩
 case round =>
  obtain ⟨k, cs2, hk, rfl, hT, hH, hSf, hSh, hSr⟩ := hrel
  have HT := Hd hT
  have HH := Hd hH
  have HSf := Hd hSf
  have HSh := Hd hSh
  have HSr := Hd hSr
  have hcl : cs2.l.length ≤ 400000 := by have h1 := hT.l; have h2 := nnC_len ((f.l.take k).map fun x => zvb d x.1 x.2); rw [List.length_map, List.length_take] at h2; rw [h1, List.length_append, List.length_append]; simp only [List.length_nil]; omega
  clear hT hH hSf hSh hSr
  by_cases hlt : k < f.l.length
  ·obtain ⟨b2, off2, x, hA2, hx, hc2⟩ := HSf.out.at_ zab (by omega) hlt
   have p0 := hc2 0 _ rfl
   have p1 := hc2 1 _ rfl
   simp only [Nat.add_zero] at p0
   have HX := Hd (map_take (fun x => zvb d x.1 x.2) hx)
   have hk1 : (k : Int) < f.l.length := by omega
   clear hc2 hx
   rw [hA2]
   go_wp2_with fail
   refine zfa ?_
   intro W2 hW2
   obtain ⟨b10, hb10⟩ : ∃ z, wr.heap.size = z := ⟨_, rfl⟩
   have hbW : Below wr.heap.size wr W2 := by rw [hW2]; exact (Below.refl _ _).alloc (Nat.le_refl _) _
   have HT2 := Hd (HT.out.step hbW)
   have HH2 := Hd (show Held (ColF g cs2) W2 [(b10, 82, #[.int .i64 x.1, .int .i64 x.2]), (cb, 179, #[.pointer (some ⟨g, 0, none⟩)])] by
    rw [hW2, ← hb10]; exact HH.out.alloc (fun k hk => (HT.out.b.foot hk).2) _ _)
   have HSf2 := Hd (HSf.out.below hbW)
   have HSh2 := Hd (HSh.out.below hbW)
   have HSr2 := Hd (HSr.out.below hbW)
   simp only [hb10] at hbW ⊢
   obtain ⟨M, hM⟩ : ∃ z, W2.heap.size = z := ⟨_, rfl⟩
   obtain ⟨b0, bg⟩ : (∀ i, W2.cell? ⟨g, i, none⟩ = _) ∧ g < M := ⟨fun i => HT2.out.b.box.cell i, by rw [← hM]; exact HT2.out.b.box.lt⟩
   obtain ⟨q0, q1, _⟩ := Held.at_ HH2.out (.head _)
   obtain ⟨r0, r1, _⟩ := Held.at_ HH2.out (.tail _ (.head _))
   rw [hM] at q1 r1
   obtain ⟨fc, hfc⟩ : ∃ z, zvb d x.1 x.2 = z := ⟨_, rfl⟩
   have HFc := Hd hfc
   have HNl := Hd (show nnC [fc] = if 0 ≤ fc then [fc] else [] from nnC_one fc)
   have hNM : N ≤ M := by omega
   clear hW2 p0 p1 hbW hfc
   have hstab : zba ([leq (.func (.func 126) #[] #[.pointer (some ⟨cb, 0, none⟩)]), leq (.pointer (some ⟨g, 0, none⟩)), leq (.pointer (some ⟨g, 0, none⟩)), leq (.pointer (some ⟨g, 0, none⟩)), leq (PrgD.v d), leq (.agg #[.int .i64 x.1, .int .i64 x.2]), leq (.int .i64 fc), lany]) := zba.cons_ (zea _) (zba.cons_ (zea _) (zba.cons_ (zea _) (zba.cons_ (zea _) (zba.cons_ (zea _) (zba.cons_ (zea _) (zba.cons_ (zea _) (zba.cons_ zfc (zba.nil_))))))))
   have Hq9 := Hd (show ∀ i j, List.contains (Chain.effs ⟨[7], [(0, 0), (0, 0), (0, 0), (0, 0), (0, 0), (0, 0), (0, 0), (0, 0)]⟩) i = false → Chain.next ⟨[7], [(0, 0), (0, 0), (0, 0), (0, 0), (0, 0), (0, 0), (0, 0), (0, 0)]⟩ i j = j from fun i j h => zya h)
   refine zja ⟨[7], [(0, 0), (0, 0), (0, 0), (0, 0), (0, 0), (0, 0), (0, 0), (0, 0)]⟩ (sj (fun u => Below M W2 u) (fun u => ∃ cs' : SL Int, ColTo N g d cs2 cs' (nnC [fc]) W2 u)) ([leq (.func (.func 126) #[] #[.pointer (some ⟨cb, 0, none⟩)]), leq (.pointer (some ⟨g, 0, none⟩)), leq (.pointer (some ⟨g, 0, none⟩)), leq (.pointer (some ⟨g, 0, none⟩)), leq (PrgD.v d), leq (.agg #[.int .i64 x.1, .int .i64 x.2]), leq (.int .i64 fc), lany]) (by kernel_rfl) (by kernel_rfl) (by kernel_rfl) (by kernel_rfl) ?_ ?_ ?_
   ·exact sj0 (by rw [← hM]; exact (Below.refl _ _).drew)
   ·show zQb _ _ _ _ _ _ 0 _
    refine ⟨?_, ?_, ?_, ?_, ?_, ?_, ?_, ?_, trivial⟩
    ·intro j hj ρ y u hS hc hf hg hfree hdep
     obtain rfl := jz hj rfl
     rw [Hq9.out _ 0 rfl]
     have e8 : ρ (.tmp 8) = .func (.func 126) #[] #[.pointer (some ⟨cb, 0, none⟩)] := hfree 8 rfl
     refine ⟨fun _ => ?_, zaa rfl⟩
     clear hdep hfree hj
     go_simp
     exact ⟨rfl, hS, KL hstab⟩
    ·intro j hj ρ y u hS hc hf hg hfree hdep
     obtain rfl := jz hj rfl
     rw [Hq9.out _ 0 rfl]
     have e4 : ρ (.tmp 4) = .pointer (some ⟨cb, 0, none⟩) := hfree 4 rfl
     refine ⟨fun _ => ?_, zaa rfl⟩
     clear hdep hfree hj
     have d0 : u.cell? ⟨cb, 0, none⟩ = some _ := ((hS.1 rfl).cell (p := ⟨cb, 0, none⟩) r1).trans (r0 0)
     go_simp
     exact ⟨rfl, hS, KL hstab⟩
    ·intro j hj ρ y u hS hc hf hg hfree hdep
     obtain rfl := jz hj rfl
     rw [Hq9.out _ 0 rfl]
     have e23 : ρ (.tmp 23) = _ := (hdep 1 _ 23 rfl rfl rfl).1
     refine ⟨fun _ => ?_, zaa rfl⟩
     clear hdep hfree hj
     go_simp
     exact ⟨rfl, hS, KL hstab⟩
    ·intro j hj ρ y u hS hc hf hg hfree hdep
     obtain rfl := jz hj rfl
     rw [Hq9.out _ 0 rfl]
     have e24 : ρ (.tmp 24) = _ := (hdep 2 _ 24 rfl rfl rfl).1
     refine ⟨fun _ => ?_, zaa rfl⟩
     clear hdep hfree hj
     go_simp
     exact ⟨rfl, hS, KL hstab⟩
    ·intro j hj ρ y u hS hc hf hg hfree hdep
     obtain rfl := jz hj rfl
     rw [Hq9.out _ 0 rfl]
     have e25 : ρ (.tmp 25) = _ := (hdep 3 _ 25 rfl rfl rfl).1
     refine ⟨fun _ => ?_, zaa rfl⟩
     clear hdep hfree hj
     have d0 : ∀ i, u.cell? ⟨g, i, none⟩ = _ := fun i => ((hS.1 rfl).cell (p := ⟨g, i, none⟩) bg).trans (b0 i)
     go_simp
     exact ⟨rfl, hS, KL hstab⟩
    ·intro j hj ρ y u hS hc hf hg hfree hdep
     obtain rfl := jz hj rfl
     rw [Hq9.out _ 0 rfl]
     have e10 : ρ (.tmp 10) = .pointer (some ⟨b10, 0, none⟩) := hfree 10 rfl
     refine ⟨fun _ => ?_, zaa rfl⟩
     clear hdep hfree hj
     have d0 : ∀ i, u.cell? ⟨b10, i, none⟩ = _ := fun i => ((hS.1 rfl).cell (p := ⟨b10, i, none⟩) q1).trans (q0 i)
     go_simp
     exact ⟨rfl, hS, KL hstab⟩
    ·intro j hj ρ y u hS hc hf hg hfree hdep
     obtain rfl := jz hj rfl
     rw [Hq9.out _ 0 rfl]
     have e26 : ρ (.tmp 26) = _ := (hdep 4 _ 26 rfl rfl rfl).1
     have e27 : ρ (.tmp 27) = _ := (hdep 5 _ 27 rfl rfl rfl).1
     refine ⟨fun _ => ?_, zaa rfl⟩
     clear hdep hfree hj
     have hS0 := hS.1 rfl
     have hMu : M ≤ u.heap.size := by have := hS0.size; omega
     have hSx : Below W2.heap.size W2 u := by rw [hM]; exact hS0
     go_simp
     refine zha (fieldCell_any d x.1 x.2 u ((HT2.out.b.below hSx).prg.more (by omega)) HPb.out) ?_
     rintro e w' ⟨rfl, hb'⟩
     exact ⟨_, rfl, by rw [HFc.out]; rfl, sj0 (hS0.trans (hb'.mono hMu)), KeepL.below hb' _ _ 0 hstab⟩
    ·intro j hj ρ y u hS hc hf hg hfree hdep
     obtain rfl := jz hj rfl
     rw [show Chain.next ⟨[7], [(0, 0), (0, 0), (0, 0), (0, 0), (0, 0), (0, 0), (0, 0), (0, 0)]⟩ 7 0 = 1 from rfl]
     have e22 : ρ (.tmp 22) = _ := (hdep 0 _ 22 rfl rfl rfl).1
     have e28 : ρ (.tmp 28) = _ := (hdep 6 _ 28 rfl rfl rfl).1
     refine ⟨fun _ => ?_, zaa rfl⟩
     clear hdep hfree hj
     have hS0 := hS.1 rfl
     have hSx : Below W2.heap.size W2 u := by rw [hM]; exact hS0
     go_simp
     refine zha (put_any N g cb d cs2 fc u (HT2.out.b.below hSx) ((HH2.out.below hSx) _ (.tail _ (.head _))).2 (by omega)) ?_
     rintro e w' ⟨rfl, cs', hc'⟩
     rw [← HNl.out] at hc'
     exact ⟨_, rfl, trivial, sj1 ⟨cs', ((ColTo.refl HT2.out.b).step hSx).trans hc' |> fun z => by simpa using z⟩, ⟨.inr (.inr (fun h => h)), .inr (.inr (fun h => h)), .inr (.inr (fun h => h)), .inr (.inr (fun h => h)), .inr (.inr (fun h => h)), .inr (.inr (fun h => h)), .inr (.inr (fun h => h)), .inl rfl, trivial⟩⟩
   intro u hS
   rintro _ rfl _ rfl _ rfl _ rfl _ rfl _ rfl _ rfl _ r_29
   simp only [zxb, Act.put, List.setIfInBounds_toArray, List.set_cons_zero, List.set_cons_succ]
   obtain ⟨cs3, hc3⟩ := hS.2 rfl
   have HT3 := Hd (HT2.out.trans hc3)
   have HH3 := Hd (HH2.out.kept hc3.kept hc3.sub)
   have HSf3 := Hd (HSf2.out.kept hc3.kept hc3.sub)
   have HSh3 := Hd (HSh2.out.kept hc3.kept hc3.sub)
   have HSr3 := Hd (HSr2.out.kept hc3.kept hc3.sub)
   have HE := Hd (show ([] : List Int) ++ nnC ((f.l.take (k + 1)).map fun x => zvb d x.1 x.2) = ([] ++ nnC ((f.l.take k).map fun x => zvb d x.1 x.2)) ++ nnC [fc] by rw [HX.out, nnC_app, HFc.out, List.append_assoc])
   clear hS hc3 hstab r_29 b0 q0 r0
   go_wp2_with fail
   go_roundw
   case rel => exact ⟨k + 1, cs3, by omega, by go_num, by rw [HE.out]; exact HT3.out, HH3.out.skip, HSf3.out, HSh3.out, HSr3.out⟩
   case measure => simp [intOf]; omega
  ·obtain rfl : k = f.l.length := by omega
   have hE := HT.out
   rw [List.take_length] at hE
   have HTa := Hd hE
   clear hlt hE
   go_wp2_with fail
   obtain ⟨AC, hAC⟩ : ∃ z, ([] : List Int) ++ nnC (f.l.map fun x => zvb d x.1 x.2) = z := ⟨_, rfl⟩
   rw [hAC] at HTa
   have HAC := Hd hAC
   have hacl : AC.length ≤ 100000 := by rw [← hAC, List.length_append]; have := nnC_len (f.l.map fun x => zvb d x.1 x.2); rw [List.length_map] at this; simp only [List.length_nil]; omega
   clear hAC
   go_loopw [33] (fun i wr => ∃ (k : Nat) (cs' : SL Int), k ≤ h.l.length ∧ i = .int .i64 k ∧ ColTo N g d cs cs' (AC ++ nnC ((h.l.take k).map (zOb d 1))) w1 wr ∧ Held (ColF g cs') wr [(cb, 179, #[.pointer (some ⟨g, 0, none⟩)])] ∧ SLP wr (ColF g cs') 2 frE f ∧ SLP wr (ColF g cs') 1 intE h ∧ SLP wr (ColF g cs') 1 intE r) (fun i _ => h.l.length - (intOf i).toNat)
   case atStart => exact ⟨0, cs2, Nat.zero_le _, rfl, by have := HTa.out; simpa [nnC] using this, HH.out, HSf.out, HSh.out, HSr.out⟩
   case round =>
    clear hcl hk HT HH HSf HSh HSr
    obtain ⟨k, cs2, hk, rfl, hT, hH, hSf, hSh, hSr⟩ := hrel
    have HT := Hd hT
    have HH := Hd hH
    have HSf := Hd hSf
    have HSh := Hd hSh
    have HSr := Hd hSr
    have hcl : cs2.l.length ≤ 500000 := by have h1 := hT.l; have h2 := nnC_len ((h.l.take k).map (zOb d 1)); rw [List.length_map, List.length_take] at h2; rw [h1, List.length_append, List.length_append]; omega
    clear hT hH hSf hSh hSr
    by_cases hlt : k < h.l.length
    ·obtain ⟨b2, off2, x, hA2, hx, hc2⟩ := HSh.out.at_ zna (by omega) hlt
     have p0 := hc2 0 _ rfl
     simp only [Nat.add_zero, Nat.mul_one] at p0
     have HX := Hd (map_take (zOb d 1) hx)
     have hk1 : (k : Int) < h.l.length := by omega
     have hrl9 : h.l.length ≤ 9223372036854775807 := by omega
     clear hc2 hx
     have b0 : ∀ i, wr.cell? ⟨g, i, none⟩ = _ := fun i => HT.out.b.box.cell i
     obtain ⟨r0, r1, _⟩ := Held.at_ HH.out (.head _)
     rw [hA2]
     go_wp2_with fail
     have hcon := validCell_any d x wr (HT.out.b.prg.more (by have := HT.out.b.box.lt; omega)) HPb.out
     have HCon := Hd hcon
     clear hcon
     unfold PrgD.v PrgD.vs at HCon
     with_reducible refine HCon.out.mono ?_
     rintro e w5 ⟨rfl, hb5⟩
     have HT5 := Hd (HT.out.step hb5)
     have HH5 := Hd (HH.out.below hb5)
     have HSf5 := Hd (HSf.out.below hb5)
     have HSh5 := Hd (HSh.out.below hb5)
     have HSr5 := Hd (HSr.out.below hb5)
     obtain ⟨fc, hfc⟩ : ∃ z, zOb d 1 x = z := ⟨_, rfl⟩
     rw [hfc]
     have HFc := Hd hfc
     clear hb5 b0 r0 r1 p0 hfc
     go_wp2_with fail
     with_reducible refine (put_any N g cb d cs2 fc w5 HT5.out.b (Held.blk HH5.out (List.Mem.head _)) (by omega)).mono ?_
     rintro e w6 ⟨rfl, cs3, hc3⟩
     rw [← nnC_one] at hc3
     have HT6 := Hd (HT5.out.trans hc3)
     have HH6 := Hd (HH5.out.kept hc3.kept hc3.sub)
     have HSf6 := Hd (HSf5.out.kept hc3.kept hc3.sub)
     have HSh6 := Hd (HSh5.out.kept hc3.kept hc3.sub)
     have HSr6 := Hd (HSr5.out.kept hc3.kept hc3.sub)
     have HE := Hd (show AC ++ nnC ((h.l.take (k + 1)).map (zOb d 1)) = (AC ++ nnC ((h.l.take k).map (zOb d 1))) ++ nnC [fc] by rw [HX.out, nnC_app, HFc.out, List.append_assoc])
     clear hc3
     go_wp2_with fail
     go_roundw
     case rel => exact ⟨k + 1, cs3, by omega, by go_num, by rw [HE.out]; exact HT6.out, HH6.out, HSf6.out, HSh6.out, HSr6.out⟩
     case measure => simp [intOf]; omega
    ·obtain rfl : k = h.l.length := by omega
     clear hlt
     obtain ⟨BC, hBC⟩ : ∃ z, AC ++ nnC (h.l.map (zOb d 1)) = z := ⟨_, rfl⟩
     have hE := HT.out
     rw [List.take_length, hBC] at hE
     have HTb := Hd hE
     have HBC := Hd hBC
     have hbcl : BC.length ≤ 200000 := by rw [← hBC, List.length_append]; have := nnC_len (h.l.map (zOb d 1)); rw [List.length_map] at this; omega
     clear hBC hE
     go_wp2_with fail
     go_loopw [48] (fun i wr => ∃ (k : Nat) (cs' : SL Int), k ≤ r.l.length ∧ i = .int .i64 k ∧ ColTo N g d cs cs' (BC ++ nnC ((r.l.take k).map (zOb d 3))) w1 wr ∧ Held (ColF g cs') wr [(cb, 179, #[.pointer (some ⟨g, 0, none⟩)])] ∧ SLP wr (ColF g cs') 2 frE f ∧ SLP wr (ColF g cs') 1 intE h ∧ SLP wr (ColF g cs') 1 intE r) (fun i _ => r.l.length - (intOf i).toNat)
     case atStart => exact ⟨0, cs2, Nat.zero_le _, rfl, by have := HTb.out; simpa [nnC] using this, HH.out, HSf.out, HSh.out, HSr.out⟩
     case round =>
      clear hcl hk HT HH HSf HSh HSr
      obtain ⟨k, cs2, hk, rfl, hT, hH, hSf, hSh, hSr⟩ := hrel
      have HT := Hd hT
      have HH := Hd hH
      have HSf := Hd hSf
      have HSh := Hd hSh
      have HSr := Hd hSr
      have hcl : cs2.l.length ≤ 500000 := by have h1 := hT.l; have h2 := nnC_len ((r.l.take k).map (zOb d 3)); rw [List.length_map, List.length_take] at h2; rw [h1, List.length_append, List.length_append]; omega
      clear hT hH hSf hSh hSr
      by_cases hlt : k < r.l.length
      ·obtain ⟨b2, off2, x, hA2, hx, hc2⟩ := HSr.out.at_ zna (by omega) hlt
       have p0 := hc2 0 _ rfl
       simp only [Nat.add_zero, Nat.mul_one] at p0
       have HX := Hd (map_take (zOb d 3) hx)
       have hk1 : (k : Int) < r.l.length := by omega
       have hrl9 : r.l.length ≤ 9223372036854775807 := by omega
       clear hc2 hx
       have b0 : ∀ i, wr.cell? ⟨g, i, none⟩ = _ := fun i => HT.out.b.box.cell i
       obtain ⟨r0, r1, _⟩ := Held.at_ HH.out (.head _)
       rw [hA2]
       go_wp2_with fail
       have hcon := zHf d x wr (HT.out.b.prg.more (by have := HT.out.b.box.lt; omega)) HPb.out
       have HCon := Hd hcon
       clear hcon
       unfold PrgD.v PrgD.vs at HCon
       with_reducible refine HCon.out.mono ?_
       rintro e w5 ⟨rfl, hb5⟩
       have HT5 := Hd (HT.out.step hb5)
       have HH5 := Hd (HH.out.below hb5)
       have HSf5 := Hd (HSf.out.below hb5)
       have HSh5 := Hd (HSh.out.below hb5)
       have HSr5 := Hd (HSr.out.below hb5)
       obtain ⟨fc, hfc⟩ : ∃ z, zOb d 3 x = z := ⟨_, rfl⟩
       rw [hfc]
       have HFc := Hd hfc
       clear hb5 b0 r0 r1 p0 hfc
       go_wp2_with fail
       with_reducible refine (put_any N g cb d cs2 fc w5 HT5.out.b (Held.blk HH5.out (List.Mem.head _)) (by omega)).mono ?_
       rintro e w6 ⟨rfl, cs3, hc3⟩
       rw [← nnC_one] at hc3
       have HT6 := Hd (HT5.out.trans hc3)
       have HH6 := Hd (HH5.out.kept hc3.kept hc3.sub)
       have HSf6 := Hd (HSf5.out.kept hc3.kept hc3.sub)
       have HSh6 := Hd (HSh5.out.kept hc3.kept hc3.sub)
       have HSr6 := Hd (HSr5.out.kept hc3.kept hc3.sub)
       have HE := Hd (show BC ++ nnC ((r.l.take (k + 1)).map (zOb d 3)) = (BC ++ nnC ((r.l.take k).map (zOb d 3))) ++ nnC [fc] by rw [HX.out, nnC_app, HFc.out, List.append_assoc])
       clear hc3
       go_wp2_with fail
       go_roundw
       case rel => exact ⟨k + 1, cs3, by omega, by go_num, by rw [HE.out]; exact HT6.out, HH6.out, HSf6.out, HSh6.out, HSr6.out⟩
       case measure => simp [intOf]; omega
      ·obtain rfl : k = r.l.length := by omega
       clear hlt
       have hE := HT.out
       rw [List.take_length] at hE
       have HEnd := Hd (show ColTo N g d cs cs2 (zwa d ⟨f.l, h.l, r.l⟩) w wr from by
        rw [HV.out]
        have := (HT0.out).trans hE
        rw [List.nil_append, ← HBC.out, ← HAC.out, List.nil_append] at this
        exact this)
       clear hE
       go_wp2_with fail
       go_returns
       exact ⟨rfl, cs2, HEnd.out⟩
open Go.RowKit
set_option maxRecDepth 100000 in
set_option maxHeartbeats 2000000 in
theorem zmd (N g : Nat) (d : PrgD) (cs : SL Int) (w : World) (hB : ColB N g d cs w) (hl : cs.l.length ≤ 1000000) :
  Calls Tryz.prog 97 #[.pointer (some ⟨g, 0, none⟩)] w fun e w' => (∃ A c l, e = .returned (.slice A l.length c) ∧ zga l cs.l ∧ l.length ≤ cs.l.length ∧ OwnZ w' (g + 1) A c l) ∧ KeptF (ColF g cs) w w' := by
 have HB := Hd hB
 have b0 : ∀ i, w.cell? ⟨g, i, none⟩ = _ := fun i => hB.box.cell i
 clear hB
 go_enter Tryz.func97, Tryz.ntmps97
 go_wp2_with fail
 with_reducible refine (zSe (g + 1) cs.a cs.c cs.l w HB.out.own hl).mono ?_
 rintro e w1 ⟨rfl, ⟨l1, hp1, ho1⟩, hg1⟩
 have HK1 := Hd ((zdb hg1).wider (F' := ColF g cs) fun k hk => .inr hk)
 have HO1 := Hd ho1
 have HP1 := Hd hp1
 have b1 : ∀ i, w1.cell? ⟨g, i, none⟩ = _ := fun i => ((zdb hg1).blk HB.out.box (zGc HB.out.own HB.out.box (by decide))).cell i
 have hcon := zPe (g + 1) cs.a cs.c l1 w1 ho1 (by rw [hp1.length_eq]; exact hl)
 rw [hp1.length_eq] at hcon
 have HCon := Hd hcon
 clear ho1 hp1 hg1 b0 hcon
 go_wp2_with fail
 with_reducible refine HCon.out.mono ?_
 rintro e w2 ⟨⟨l2, hs2, hl2, rfl, ho2⟩, hg2⟩
 have HO2 := Hd ho2
 have HS2 := Hd (hs2.trans (zCd HP1.out))
 have HK2 := Hd (HK1.out.step_grown hg2 fun k hk => .inr hk)
 clear ho2 hs2 hg2 b1
 go_wp2_with fail
 go_returns
 exact ⟨⟨cs.a, cs.c, l2, rfl, HS2.out, hl2, HO2.out⟩, HK2.out⟩
theorem cell_top (W : World) (cs : Array Value) (t : TypeId) {n : Nat} (h : W.heap.size = n) (i : Nat) : (W.alloc (.cells cs t)).cell? ⟨n, i, none⟩ = cs[i]? := by
 subst h
 exact ((Fr.start W).alloc cs t).cell (.head _) i
abbrev tblZ : Value := .agg #[.string ⟨#[]⟩, .slice none 0 0, .slice none 0 0, .int .i64 0, .slice none 0 0, .int .i64 0]
set_option maxRecDepth 100000 in
set_option maxHeartbeats 2000000 in
theorem zeg (d : PrgD) (u : UnitD) (w : World) (hR : PrgR w w.heap.size d) (hn : u.table < 0 ∨ (d.tZ.l.length : Int) ≤ u.table) :
  Calls Tryz.prog 98 #[PrgD.v d, unitV u] w fun e w' => e = .returned (.tuple #[tblZ, .bool false]) ∧ Below w.heap.size w w' := by
 have hl := hR.tZ.len
 obtain ⟨N, hN⟩ : ∃ N, w.heap.size = N := ⟨_, rfl⟩
 obtain ⟨t, ht⟩ : ∃ z, u.table = z := ⟨_, rfl⟩
 rw [hN]
 rw [ht] at hn
 have F0 := Fr.start w
 rw [hN] at F0
 have HF0 := Hd F0
 unfold PrgD.v PrgD.vs unitV
 rw [ht]
 clear hR ht F0
 by_cases c1 : t < 0
 ·go_enter Tryz.func98, Tryz.ntmps98
  go_wp2_with fail
  refine bodyPost_ret (v := .tuple #[tblZ, .bool false]) (by simp [results, Tryz.results98, go_sem, cell_top, hN, World.size_alloc]) rfl ⟨rfl, (((HF0.out.alloc _ _).alloc _ _).alloc _ _).below⟩
 ·have c1' : decide (t < 0) = false := decide_eq_false c1
  have c2 : (d.tZ.l.length : Int) ≤ t := by omega
  have c2' : decide ((d.tZ.l.length : Int) ≤ t) = true := decide_eq_true c2
  clear hn
  go_enter Tryz.func98, Tryz.ntmps98
  go_wp2_with fail
  refine bodyPost_ret (v := .tuple #[tblZ, .bool false]) (by simp [results, Tryz.results98, go_sem, cell_top, hN, World.size_alloc]) rfl ⟨rfl, (((HF0.out.alloc _ _).alloc _ _).alloc _ _).below⟩
set_option maxRecDepth 100000 in
set_option maxHeartbeats 2000000 in
theorem zof (d : PrgD) (u : UnitD) (x : TblD) (w : World) (hR : PrgR w w.heap.size d) (h0 : 0 ≤ u.table) (hx : d.tZ.l[u.table.toNat]? = some x) :
  Calls Tryz.prog 98 #[PrgD.v d, unitV u] w fun e w' => e = .returned (.tuple #[tblV x, .bool true]) ∧ Below w.heap.size w w' := by
 have hl := hR.tZ.len
 have HT := Hd hR.tZ
 have hlt : u.table.toNat < d.tZ.l.length := (List.getElem?_eq_some_iff.1 hx).1
 obtain ⟨N, hN⟩ : ∃ N, w.heap.size = N := ⟨_, rfl⟩
 obtain ⟨k, ht⟩ : ∃ k : Nat, u.table = k := ⟨u.table.toNat, by omega⟩
 rw [hN] at HT ⊢
 rw [ht, Int.toNat_natCast] at hlt hx
 have F0 := Fr.start w
 rw [hN] at F0
 have HF0 := Hd F0
 unfold PrgD.v PrgD.vs unitV
 rw [ht]
 clear hR ht F0 h0
 obtain ⟨A0, hA0⟩ : ∃ z, d.tZ.a = z := ⟨_, rfl⟩
 have HA0 := Hd hA0
 have HX := Hd hx
 have hk1 : (k : Int) < d.tZ.l.length := by omega
 have c2' : decide ((d.tZ.l.length : Int) ≤ (k : Int)) = false := decide_eq_false (by omega)
 rw [hA0]
 clear hA0 hx
 go_enter Tryz.func98, Tryz.ntmps98
 go_upto_region 1 with (fail)
 refine zfa ?_
 intro W hW
 have F1 := (((HF0.out.alloc _ _).alloc _ _).alloc _ _).of_eq hW
 simp only [World.size_alloc, hN] at F1
 obtain ⟨L, hL, F1⟩ := F1.name
 have HL := Hd hL
 have HF1 := Hd F1
 clear F1 hL hW
 obtain ⟨g0, l0, f0⟩ := HF1.out.c0 HL.out
 obtain ⟨g1, l1, f1⟩ := HF1.out.c1 HL.out
 obtain ⟨g2, l2, f2⟩ := HF1.out.c2 HL.out
 dsimp only at g0 l0 f0 g1 l1 f1 g2 l2 f2
 obtain ⟨b2, off2, y, hA2, hb2, hy, _, hc2⟩ := HF1.out.at_ HT.out (fun _ => rfl) (by omega) hlt
 obtain rfl : y = x := by have h1 := HX.out; rw [h1] at hy; cases hy; rfl
 have p0 := hc2 0 _ rfl
 have p1 := hc2 1 _ rfl
 have p2 := hc2 2 _ rfl
 have p3 := hc2 3 _ rfl
 have p4 := hc2 4 _ rfl
 have p5 := hc2 5 _ rfl
 simp only [Nat.add_zero] at p0
 rw [HA0.out] at hA2
 subst hA2
 clear hc2 hy
 go_wp2_with fail
 have B0 : Blk W (N + 1 + 1) _ _ := (HF1.out.blk (N + 1 + 1, _, _) (by rw [HL.out]; exact .head _)).2
 have B1 := B0.set_ 0 (Value.string y.name)
 have B2 := B1.set_ 1 (Value.slice y.keys.a y.keys.l.length y.keys.c)
 have B3 := B2.set_ 2 (Value.slice y.aZ.a y.aZ.l.length y.aZ.c)
 have B4 := B3.set_ 3 (Value.int IntKind.i64 y.dfl)
 have B5 := B4.set_ 4 (Value.slice y.args.a y.args.l.length y.args.c)
 have B6 := B5.set_ 5 (Value.int IntKind.i64 y.size)
 have q1 := B1.cell 0
 have q2 := B2.cell 1
 have q3 := B3.cell 2
 have q4 := B4.cell 3
 have q5 := B5.cell 4
 have q6 := B6.cell 5
 refine bodyPost_ret (v := .tuple #[tblV y, .bool true]) (by simp [results, Tryz.results98, go_sem, q1, q2, q3, q4, q5, q6]) rfl ⟨rfl, ?_⟩
 have hle : N ≤ N + 1 + 1 := by omega
 exact ((((((HF1.out.below.setCell hle _).setCell hle _).setCell hle _).setCell hle _).setCell hle _).setCell hle _)
open Go.ChangeShapes Go.WideShapes Go.ChangeAt Go.RowKit Go.Deep
section
variable {H : Type} {enc : TypeId × Value → H} {w : World} {base : Nat} {spare : Nat → Bool} {held : Bool}
set_option maxRecDepth 100000 in
theorem zNe {n : Nat} {cs : List Value} {x : DataW H × List MemPlace} (h : DataW.trod enc Tryz.prog w base spare held n 33 cs = some x) : ∃ c : ChipD, cs = [.int .i64 c.stages, .int .i64 c.tZ, .int .i64 c.gates, .int .i64 c.sram, .int .i64 c.tcam, .int .i64 c.c8, .int .i64 c.c16, .int .i64 c.c32] := by
 obtain ⟨xs, n', hfu, _, hlen, hxs, hf⟩ := DataW.trod_struct Tryz.underlying33 h
 have hx : xs.length = 8 := hxs
 have hc : cs.length = 8 := hlen.trans (by kernel_rfl)
 obtain ⟨c0, c1, c2, c3, c4, c5, c6, c7, rfl⟩ := len_8 hc
 obtain ⟨x0, h0⟩ := piece hx (by omega) (hf 0 _ rfl)
 have e0 : Tryz.prog.cellsOf 3 = 1 := by kernel_rfl
 change DataW.trod enc Tryz.prog w base spare held n' 3 (([c0, c1, c2, c3, c4, c5, c6, c7].drop 0).take (Tryz.prog.cellsOf 3)) = some x0 at h0
 rw [e0] at h0
 change DataW.trod enc Tryz.prog w base spare held n' 3 [c0] = some x0 at h0
 obtain ⟨v0, q0, w0⟩ := zza h0
 injection q0 with q0
 obtain ⟨x1, h1⟩ := piece hx (by omega) (hf 1 _ rfl)
 have e1 : Tryz.prog.cellsOf 3 = 1 := by kernel_rfl
 change DataW.trod enc Tryz.prog w base spare held n' 3 (([c0, c1, c2, c3, c4, c5, c6, c7].drop 1).take (Tryz.prog.cellsOf 3)) = some x1 at h1
 rw [e1] at h1
 change DataW.trod enc Tryz.prog w base spare held n' 3 [c1] = some x1 at h1
 obtain ⟨v1, q1, w1⟩ := zza h1
 injection q1 with q1
 obtain ⟨x2, h2⟩ := piece hx (by omega) (hf 2 _ rfl)
 have e2 : Tryz.prog.cellsOf 3 = 1 := by kernel_rfl
 change DataW.trod enc Tryz.prog w base spare held n' 3 (([c0, c1, c2, c3, c4, c5, c6, c7].drop 2).take (Tryz.prog.cellsOf 3)) = some x2 at h2
 rw [e2] at h2
 change DataW.trod enc Tryz.prog w base spare held n' 3 [c2] = some x2 at h2
 obtain ⟨v2, q2, w2⟩ := zza h2
 injection q2 with q2
 obtain ⟨x3, h3⟩ := piece hx (by omega) (hf 3 _ rfl)
 have e3 : Tryz.prog.cellsOf 3 = 1 := by kernel_rfl
 change DataW.trod enc Tryz.prog w base spare held n' 3 (([c0, c1, c2, c3, c4, c5, c6, c7].drop 3).take (Tryz.prog.cellsOf 3)) = some x3 at h3
 rw [e3] at h3
 change DataW.trod enc Tryz.prog w base spare held n' 3 [c3] = some x3 at h3
 obtain ⟨v3, q3, w3⟩ := zza h3
 injection q3 with q3
 obtain ⟨x4, h4⟩ := piece hx (by omega) (hf 4 _ rfl)
 have e4 : Tryz.prog.cellsOf 3 = 1 := by kernel_rfl
 change DataW.trod enc Tryz.prog w base spare held n' 3 (([c0, c1, c2, c3, c4, c5, c6, c7].drop 4).take (Tryz.prog.cellsOf 3)) = some x4 at h4
 rw [e4] at h4
 change DataW.trod enc Tryz.prog w base spare held n' 3 [c4] = some x4 at h4
 obtain ⟨v4, q4, w4⟩ := zza h4
 injection q4 with q4
 obtain ⟨x5, h5⟩ := piece hx (by omega) (hf 5 _ rfl)
 have e5 : Tryz.prog.cellsOf 3 = 1 := by kernel_rfl
 change DataW.trod enc Tryz.prog w base spare held n' 3 (([c0, c1, c2, c3, c4, c5, c6, c7].drop 5).take (Tryz.prog.cellsOf 3)) = some x5 at h5
 rw [e5] at h5
 change DataW.trod enc Tryz.prog w base spare held n' 3 [c5] = some x5 at h5
 obtain ⟨v5, q5, w5⟩ := zza h5
 injection q5 with q5
 obtain ⟨x6, h6⟩ := piece hx (by omega) (hf 6 _ rfl)
 have e6 : Tryz.prog.cellsOf 3 = 1 := by kernel_rfl
 change DataW.trod enc Tryz.prog w base spare held n' 3 (([c0, c1, c2, c3, c4, c5, c6, c7].drop 6).take (Tryz.prog.cellsOf 3)) = some x6 at h6
 rw [e6] at h6
 change DataW.trod enc Tryz.prog w base spare held n' 3 [c6] = some x6 at h6
 obtain ⟨v6, q6, w6⟩ := zza h6
 injection q6 with q6
 obtain ⟨x7, h7⟩ := piece hx (by omega) (hf 7 _ rfl)
 have e7 : Tryz.prog.cellsOf 3 = 1 := by kernel_rfl
 change DataW.trod enc Tryz.prog w base spare held n' 3 (([c0, c1, c2, c3, c4, c5, c6, c7].drop 7).take (Tryz.prog.cellsOf 3)) = some x7 at h7
 rw [e7] at h7
 change DataW.trod enc Tryz.prog w base spare held n' 3 [c7] = some x7 at h7
 obtain ⟨v7, q7, w7⟩ := zza h7
 injection q7 with q7
 subst q0 q1 q2 q3 q4 q5 q6 q7
 exact ⟨⟨v0, v1, v2, v3, v4, v5, v6, v7⟩, rfl⟩
set_option maxRecDepth 100000 in
theorem pair_open {n : Nat} {cs : List Value} {x : DataW H × List MemPlace} (h : DataW.trod enc Tryz.prog w base spare held n 45 cs = some x) : ∃ a b : Int, cs = [.int .i64 a, .int .i64 b] ∧ I64 a ∧ I64 b := by
 obtain ⟨xs, n', hfu, _, hlen, hxs, hf⟩ := DataW.trod_array Tryz.underlying45 h
 have hc : cs.length = 2 := hlen.trans (by kernel_rfl)
 obtain ⟨c0, c1, rfl⟩ := len_2 hc
 have e0 : Tryz.prog.cellsOf 3 = 1 := by kernel_rfl
 obtain ⟨x0, h0⟩ := piece hxs (by omega) (hf 0 (by omega))
 obtain ⟨x1, h1⟩ := piece hxs (by omega) (hf 1 (by omega))
 rw [e0] at h0 h1
 change DataW.trod enc Tryz.prog w base spare held n' 3 [c0] = some x0 at h0
 change DataW.trod enc Tryz.prog w base spare held n' 3 [c1] = some x1 at h1
 obtain ⟨v0, q0, w0⟩ := zza h0
 obtain ⟨v1, q1, w1⟩ := zza h1
 injection q0 with q0
 injection q1 with q1
 subst q0 q1
 exact ⟨v0, v1, rfl, w0, w1⟩
end
end Go.Proofs.YtakgiamhdpgoeaaGreat
