/- Lemmas. -/
import Derived.Test.YtakgiamhdpgoeaaGreatP16
import Derived.Test.YtakgiamhdpgoeaaGreatP17
import Derived.Test.YtakgiamhdpgoeaaGreatP18
set_option linter.unusedSimpArgs false
namespace Go.Proofs.YtakgiamhdpgoeaaGreat
open Go.RowKit
set_option linter.unusedVariables false
def DiagE : Option Diag → Ending → Prop
 | none, e => e = .returned (.tuple #[])
 | some (c, p, i, s), e => e = .panicked [{ v := failV c p i s, recovered := false }]
theorem zlb {l : List (Option Diag)} : firstD (none :: l) = firstD l := rfl
theorem zJf {c : Int} (hc : c ≠ 0) (p i s : Int) : req c p i s = some (c, p, i, s) := if_neg hc
theorem Calls.ab_same {P : Program} {f : FuncId} {args : Array Value} {N : Nat} {w0 : World} {p : Ab N w0} {v : Value} (h : Calls P f args p.u fun e w' => e = .returned v ∧ p.u = w') : Calls P f args p.u fun e w'' => e = .returned v ∧ ∃ q : Ab N w0, w'' = q.u :=
 h.mono fun _ w'' ⟨he, hb⟩ => ⟨he, p, hb.symm⟩
theorem zrc (s : SL ByteArray) (i : Nat) (w : World) (hS : SLR w w.heap.size 1 strE (fun _ => True) s) (hi : i < s.l.length) :
  Calls Tryz.prog 48 #[.slice s.a s.l.length s.c, .int .i64 i] w fun e w' => e = .returned (.bool (decide (dupS s.l i = 7))) ∧ Below w.heap.size w w' := by
 obtain ⟨sa, sc, sl⟩ := s
 simp only at hi ⊢
 have HS := Hd hS
 have hlen := hS.len
 have hle := hS.le
 have hcap := hS.cap
 unfold maxLen at hcap
 simp only at hlen hle hcap
 obtain ⟨b, off, x, hA, hb, hx, _, hc⟩ := hS.at_ (fun _ => rfl) (by omega) hi
 have p0 := hc 0 _ rfl
 simp only [Nat.add_zero, Nat.mul_one] at p0
 simp only at hA hx
 have HC := Hd fun W (h : Below w.heap.size w W) => zXf ⟨sa, sc, sl.take i⟩ x W (((HS.out.take_ (fun _ => rfl) i (by simp only; omega)).below h).more h.size)
 simp only [List.length_take, Nat.min_eq_left (Nat.le_of_lt hi)] at HC
 have HV := Hd (show decide (dupS sl i = 7) = (sl.take i).any (fun y => x.toList == y.toList) by
  unfold dupS
  simp only [hx, show (fun t => sEq t x) = (fun y => x.toList == y.toList) from funext fun y => by unfold sEq; exact Bool.beq_comm]
  cases (sl.take i).any (fun y => x.toList == y.toList) <;> rfl)
 subst hA
 have h0 : (0 : Int) ≤ i := by omega
 have h1 : (i : Int) < sl.length := by omega
 have h2 : (i : Int) ≤ sc := by omega
 clear hS hc hx
 have hb0 : b < w.heap.size := hb
 obtain ⟨q, hq⟩ : ∃ q, (sl.take i).any (fun y => x.toList == y.toList) = q := ⟨_, rfl⟩
 rw [hq] at HV HC
 clear hq hb
 have HF := Hd (Fr.start w)
 go_enter Tryz.func48, Tryz.ntmps48
 go_wp2_with fail
 have hcl : ∀ (p : Ab w.heap.size w) (b i : Nat), b < w.heap.size → p.u.cell? ⟨b, i, none⟩ = w.cell? ⟨b, i, none⟩ := fun p b i h => p.h.cell (p := ⟨b, i, none⟩) h
 refine zia w.heap.size w (by kernel_rfl) (by kernel_rfl) (Below.refl _ _) ?_
 repeat (first
  | go_big_quiet_step ((go_at_call 79; exact Calls.ab_same (HC.out _ (Ab.h _)))))
 refine wpQuiet_nil ?_
 intro u hw'
 obtain ⟨pu, hpu⟩ := hw'
 have hu := pu.h
 rw [← hpu] at hu
 clear hcl hpu
 clear pu
 have HFu := Hd (HF.out.call hu)
 clear hu
 go_wp2_with fail
 go_returns
 exact ⟨by rw [HV.out]; try rfl, HFu.out.below⟩
set_option maxRecDepth 100000 in
set_option maxHeartbeats 2000000 in
theorem zVf (d : PrgD) (w : World) (hR : PrgR w w.heap.size d) :
  Calls Tryz.prog 28 #[PrgD.v d] w fun e w' => DiagE (zmb d) e ∧ Below w.heap.size w w' := by
 have hnm := hR.nm
 have HNm := Hd hnm
 have h1 := hR.hZ.len
 have h3 := hR.rZ.len
 have h4 := hR.aZ.len
 have h5 := hR.tZ.len
 obtain ⟨z, hz⟩ : ∃ z, ident d.name = z := ⟨_, rfl⟩
 have HZ := Hd hz
 obtain ⟨q1, hq1⟩ : ∃ q, decide ((8 : Int) < d.hZ.l.length) = q := ⟨_, rfl⟩
 obtain ⟨q2, hq2⟩ : ∃ q, decide ((4 : Int) < d.rZ.l.length) = q := ⟨_, rfl⟩
 obtain ⟨q3, hq3⟩ : ∃ q, decide ((16 : Int) < d.aZ.l.length) = q := ⟨_, rfl⟩
 obtain ⟨q4, hq4⟩ : ∃ q, decide ((12 : Int) < d.tZ.l.length) = q := ⟨_, rfl⟩
 have HV := Hd (show zmb d = firstD [req (if z then 0 else 6) 0 0 0, req (if q1 then 12 else 0) 0 1 0, req (if q2 then 12 else 0) 0 3 0, req (if q3 then 12 else 0) 0 4 0, req (if q4 then 12 else 0) 0 5 0] by
  unfold zmb
  rw [hz, ← hq1, ← hq2, ← hq3, ← hq4]
  simp only [decide_eq_true_eq, Int.ofNat_lt.symm]
  rfl)
 have HB := Hd (show Below w.heap.size w (w.alloc (.cells #[.string d.name, .slice d.hZ.a d.hZ.l.length d.hZ.c, .slice d.mZ.a d.mZ.l.length d.mZ.c, .slice d.rZ.a d.rZ.l.length d.rZ.c, .slice d.aZ.a d.aZ.l.length d.aZ.c, .slice d.tZ.a d.tZ.l.length d.tZ.c, .slice d.sZ.a d.sZ.l.length d.sZ.c, .slice d.cZ.a d.cZ.l.length d.cZ.c, .slice d.dep.a d.dep.l.length d.dep.c] 31)) from (Below.refl _ _).alloc (Nat.le_refl _) _)
 clear hR hnm hz
 unfold PrgD.v PrgD.vs
 go_enter Tryz.func28, Tryz.ntmps28
 go_wp2_with fail
 refine (zUd d.name HNm.out _).mono ?_
 rintro e w1 ⟨rfl, hw⟩
 subst hw
 rw [HZ.out]
 go_wp2_with fail
 refine (zEb _ _ _).mono ?_
 rintro e w1 ⟨rfl, hw⟩
 subst hw
 cases z with
 | false =>
  go_wp2_with fail
  refine (zla _ _ _ _ (by omega) _).mono ?_
  rintro e wq ⟨rfl, rfl⟩
  exact And.intro rfl (And.intro (by rw [HV.out]; rfl) HB.out)
 | true =>
  go_wp2_with fail
  refine (zva _ _ _ _).mono ?_
  rintro e wq ⟨rfl, hwq⟩
  subst hwq
  go_wp2_with fail
  refine (zEb _ _ _).mono ?_
  rintro e w1 ⟨rfl, hw⟩
  subst hw
  cases q1 with
  | true =>
   go_wp2_with fail
   refine (zla _ _ _ _ (by omega) _).mono ?_
   rintro e wq ⟨rfl, rfl⟩
   exact And.intro rfl (And.intro (by rw [HV.out]; rfl) HB.out)
  | false =>
   go_wp2_with fail
   refine (zva _ _ _ _).mono ?_
   rintro e wq ⟨rfl, hwq⟩
   subst hwq
   go_wp2_with fail
   refine (zEb _ _ _).mono ?_
   rintro e w1 ⟨rfl, hw⟩
   subst hw
   cases q2 with
   | true =>
    go_wp2_with fail
    refine (zla _ _ _ _ (by omega) _).mono ?_
    rintro e wq ⟨rfl, rfl⟩
    exact And.intro rfl (And.intro (by rw [HV.out]; rfl) HB.out)
   | false =>
    go_wp2_with fail
    refine (zva _ _ _ _).mono ?_
    rintro e wq ⟨rfl, hwq⟩
    subst hwq
    go_wp2_with fail
    refine (zEb _ _ _).mono ?_
    rintro e w1 ⟨rfl, hw⟩
    subst hw
    cases q3 with
    | true =>
     go_wp2_with fail
     refine (zla _ _ _ _ (by omega) _).mono ?_
     rintro e wq ⟨rfl, rfl⟩
     exact And.intro rfl (And.intro (by rw [HV.out]; rfl) HB.out)
    | false =>
     go_wp2_with fail
     refine (zva _ _ _ _).mono ?_
     rintro e wq ⟨rfl, hwq⟩
     subst hwq
     go_wp2_with fail
     refine (zEb _ _ _).mono ?_
     rintro e w1 ⟨rfl, hw⟩
     subst hw
     cases q4 with
     | true =>
      go_wp2_with fail
      refine (zla _ _ _ _ (by omega) _).mono ?_
      rintro e wq ⟨rfl, rfl⟩
      exact And.intro rfl (And.intro (by rw [HV.out]; rfl) HB.out)
     | false =>
      go_wp2_with fail
      refine (zva _ _ _ _).mono ?_
      rintro e wq ⟨rfl, hwq⟩
      subst hwq
      go_wp2_with fail
      go_returns
      exact ⟨by rw [HV.out]; rfl, HB.out⟩
set_option maxRecDepth 100000 in
set_option maxHeartbeats 2000000 in
theorem checkFlow_any (d : PrgD) (w : World) (hR : PrgR w w.heap.size d) (htl : d.tZ.l.length ≤ 1000000) :
  Calls Tryz.prog 32 #[PrgD.v d] w fun e w' => DiagE (zVc d) e ∧ Below w.heap.size w w' := by
 obtain ⟨N, hN⟩ : ∃ N, w.heap.size = N := ⟨_, rfl⟩
 rw [hN] at hR ⊢
 have F0 := Fr.start w
 rw [hN] at F0
 have HR := Hd hR
 have HF0 := Hd F0
 clear hR F0
 have HV := Hd (show zVc d = firstD [req (zTa d).2.2 6 (zTa d).1 (zTa d).2.1, req (zWa d).2 7 (zWa d).1 0, req (zDb d).2 8 (zDb d).1 0] from rfl)
 unfold PrgD.v PrgD.vs
 go_enter Tryz.func32, Tryz.ntmps32
 go_wp2_with fail
 refine Calls.named ?_
 intro W hW
 have F1 := (HF0.out.alloc _ _).of_eq hW
 simp only [hN] at F1
 obtain ⟨L, hL, F1⟩ := F1.name
 have HL := Hd hL
 have HF1 := Hd F1
 clear F1 hL hW
 with_reducible refine (parCheck_any d W (HF1.out.prg HR.out)).mono ?_
 rintro e w2 ⟨rfl, hb2⟩
 have HF2 := Hd (HF1.out.call hb2)
 obtain ⟨⟨a1, a2, a3⟩, ha⟩ : ∃ z, zTa d = z := ⟨_, rfl⟩
 have hv := HV.out
 rw [ha] at hv ⊢
 have HV2 := Hd hv
 clear hb2 ha hv HV
 obtain ⟨g0, l0, f0⟩ := HF2.out.c0 HL.out
 dsimp only at g0 l0 f0
 dsimp only
 by_cases e1 : a3 = 0
 ·subst e1
  have HV3 := Hd (HV2.out.trans zlb)
  go_wp2_with fail
  refine (zva _ _ _ _).mono ?_
  rintro e wq ⟨rfl, hwq⟩
  subst hwq
  go_wp2_with fail
  with_reducible refine (znf d w2 (HF2.out.prg HR.out) htl).mono ?_
  rintro e w3 ⟨rfl, hb3⟩
  have HF3 := Hd (HF2.out.call hb3)
  obtain ⟨⟨b1, b2⟩, hb⟩ : ∃ z, zWa d = z := ⟨_, rfl⟩
  have hv := HV3.out
  rw [hb] at hv ⊢
  have HV4 := Hd hv
  clear hb3 hb hv HV3 HV2
  clear g0 l0 f0
  obtain ⟨g0, l0, f0⟩ := HF3.out.c0 HL.out
  dsimp only at g0 l0 f0
  dsimp only
  by_cases e2 : b2 = 0
  ·subst e2
   have HV5 := Hd (HV4.out.trans zlb)
   go_wp2_with fail
   refine (zva _ _ _ _).mono ?_
   rintro e wq ⟨rfl, hwq⟩
   subst hwq
   go_wp2_with fail
   with_reducible refine (depCheck_any d w3 (HF3.out.prg HR.out)).mono ?_
   rintro e w4 ⟨rfl, hb4⟩
   have HF4 := Hd (HF3.out.call hb4)
   obtain ⟨⟨c1, c2⟩, hc⟩ : ∃ z, zDb d = z := ⟨_, rfl⟩
   have hv := HV5.out
   rw [hc] at hv ⊢
   have HV6 := Hd hv
   clear hb4 hc hv HV5 HV4
   clear g0 l0 f0
   dsimp only
   by_cases e3 : c2 = 0
   ·subst e3
    go_wp2_with fail
    refine (zva _ _ _ _).mono ?_
    rintro e wq ⟨rfl, hwq⟩
    subst hwq
    go_wp2_with fail
    go_returns
    exact ⟨by rw [HV6.out]; rfl, HF4.out.below⟩
   ·have HE := Hd e3
    clear e3
    go_wp2_with fail
    refine (zla _ _ _ _ HE.out _).mono ?_
    rintro e wq ⟨rfl, rfl⟩
    exact And.intro rfl (And.intro (by rw [HV6.out, zJf HE.out]; rfl) HF4.out.below)
  ·have HE := Hd e2
   clear e2
   go_wp2_with fail
   refine (zla _ _ _ _ HE.out _).mono ?_
   rintro e wq ⟨rfl, rfl⟩
   exact And.intro rfl (And.intro (by rw [HV4.out, zJf HE.out]; rfl) HF3.out.below)
 ·have HE := Hd e1
  clear e1
  go_wp2_with fail
  refine (zla _ _ _ _ HE.out _).mono ?_
  rintro e wq ⟨rfl, rfl⟩
  exact And.intro rfl (And.intro (by rw [HV2.out, zJf HE.out]; rfl) HF2.out.below)
open Go.RowKit
theorem dup_of {l : List ByteArray} {k : Nat} {q : Bool} (h : decide (dupS l k = 7) = q) : dupS l k = if q then 7 else 0 := by
 cases q with
 | true => exact of_decide_eq_true h
 | false =>
  have h1 := of_decide_eq_false h
  unfold dupS at h1 ⊢
  split
  ·rfl
  ·rename_i s hs
   rw [hs] at h1
   simp only at h1
   split at h1
   ·exact absurd rfl h1
   ·rename_i hn; rw [if_neg hn]; rfl
theorem Fr.hdr {N : Nat} {w W : World} {L : List (Nat × TypeId × Array Value)} {x : HdrD} (F : Fr N w W L) (h : x.ok w N) : x.ok W W.heap.size := (h.below F.below).more F.le
theorem prgHdr_at (d : PrgD) {k : Nat} {h : HdrD} (hx : d.hZ.l[k]? = some h) : zgd d k = firstD [req (zac h) 1 k 0, req (if sEq h.name metaName then 6 else 0) 1 k 0, req (dupS (d.hZ.l.map (·.name)) k) 1 k 0] := by
 unfold zgd
 rw [hx]
theorem metaName_eq (s : ByteArray) : (s.toList == [109, 101, 116, 97]) = sEq s metaName := by
 unfold sEq
 congr 1
 decide +kernel
set_option maxRecDepth 100000 in
set_option maxHeartbeats 4000000 in
theorem zif (d : PrgD) (w : World) (hR : PrgR w w.heap.size d) (hl : d.hZ.l.length ≤ 1000) :
  Calls Tryz.prog 29 #[PrgD.v d] w fun e w' => DiagE (scan d.hZ.l.length (zgd d)) e ∧ Below w.heap.size w w' := by
 obtain ⟨N, hN⟩ : ∃ N, w.heap.size = N := ⟨_, rfl⟩
 rw [hN] at hR ⊢
 have F0 := Fr.start w
 rw [hN] at F0
 have HR := Hd hR
 have HF0 := Hd F0
 clear hR F0
 obtain ⟨A0, hA0⟩ : ∃ A, d.hZ.a = A := ⟨_, rfl⟩
 have HA0 := Hd hA0
 unfold PrgD.v PrgD.vs
 rw [hA0]
 clear hA0
 go_enter Tryz.func29, Tryz.ntmps29
 go_wp2_with fail
 refine Calls.named ?_
 intro W hW
 have F1 := (HF0.out.alloc _ _).of_eq hW
 simp only [hN] at F1
 obtain ⟨L, hL, F1⟩ := F1.name
 have HL := Hd hL
 have HF1 := Hd F1
 clear F1 hL hW
 rw [← HA0.out]
 with_reducible refine (namesHdr_any d.hZ W (HF1.out.slr HR.out.hZ) hl).mono ?_
 rintro e w2 ⟨⟨A, c, rfl, hO2⟩, hb2⟩
 rw [HA0.out]
 have HF2 := Hd (HF1.out.call hb2)
 obtain ⟨base, hbase⟩ : ∃ b, W.heap.size = b := ⟨_, rfl⟩
 rw [hbase] at hO2
 have HO2 := Hd hO2
 simp only [List.length_map]
 clear hb2 hO2 hbase
 obtain ⟨g0, l0, f0⟩ := HF2.out.c0 HL.out
 dsimp only at g0 l0 f0
 go_wp2_with fail
 go_loopw [11] (fun i wr => ∃ k : Nat, k ≤ d.hZ.l.length ∧ i = .int .i64 k ∧ (∀ j, j < k → zgd d j = none) ∧ Fr N w wr L ∧ OwnS wr base A c (d.hZ.l.map (·.name))) (fun i _ => d.hZ.l.length - (intOf i).toNat)
 case atStart => exact ⟨0, Nat.zero_le _, rfl, fun j hj => absurd hj (by omega), HF2.out, HO2.out⟩
 case round =>
  obtain ⟨k, hk, rfl, hall, F, O⟩ := hrel
  have HAl := Hd hall
  have HF := Hd F
  have HO := Hd O
  clear F hall O
  clear g0 l0 f0
  obtain ⟨g0, l0, f0⟩ := HF.out.c0 HL.out
  dsimp only at g0 l0 f0
  by_cases hlt : k < d.hZ.l.length
  ·obtain ⟨b2, off2, x, hA2, hb2, hx, hxok, hc2⟩ := HF.out.at_ HR.out.hZ zgg (by omega) hlt
   have p0 := hc2 0 _ rfl
   have p1 := hc2 1 _ rfl
   simp only [Nat.add_zero] at p0
   have HSc := Hd (prgHdr_at d hx)
   have HXo := Hd hxok
   have hk1 : (k : Int) < d.hZ.l.length := by omega
   obtain rfl : A0 = some ⟨b2, off2, none⟩ := HA0.out.symm.trans hA2
   clear hA2 hc2 hx hxok
   go_wp2_with fail
   refine Calls.named ?_
   intro W4 hW4
   have hb4 : Below wr.heap.size wr W4 := by rw [hW4]; exact (Below.refl _ _).alloc (Nat.le_refl _) _
   obtain ⟨cB, hcB⟩ : ∃ c, wr.heap.size = c := ⟨_, rfl⟩
   have F4 := (HF.out.alloc _ _).of_eq hW4
   rw [hcB] at F4
   obtain ⟨L4, hL4, F4⟩ := F4.name
   have HF4 := Hd F4
   have HL4 := Hd (hL4.trans (by rw [HL.out]))
   have HO4 := Hd (HO.out.below hb4)
   have HSub := Hd (show ∀ W', Fr N w W' L4 → Fr N w W' L by rw [hL4]; intro W' h; exact h.skip)
   simp only [hcB] at l0 ⊢
   clear g0 l0 f0
   clear hW4 F4 hL4 hb4 p0 p1 HF HO hcB
   with_reducible refine (hdrCheck_any x W4 (HF4.out.hdr HXo.out)).mono ?_
   rintro e w5 ⟨rfl, hb5⟩
   have HF5 := Hd (HF4.out.call hb5)
   have HO5 := Hd (HO4.out.below hb5)
   obtain ⟨z, hz⟩ : ∃ z, zac x = z := ⟨_, rfl⟩
   have hv := HSc.out
   rw [hz] at hv ⊢
   have HSd := Hd hv
   clear hb5 hz hv HSc
   obtain ⟨g0, l0, f0⟩ := HF5.out.c0 HL4.out
   obtain ⟨g1, l1, f1⟩ := HF5.out.c1 HL4.out
   dsimp only at g0 l0 f0 g1 l1 f1
   by_cases z0 : z = 0
   ·subst z0
    have HSe := Hd (HSd.out.trans zlb)
    obtain ⟨q, hq⟩ : ∃ q, sEq x.name metaName = q := ⟨_, rfl⟩
    have hm := metaName_eq x.name
    rw [hq] at hm
    have hv := HSe.out
    rw [hq] at hv
    have HSf := Hd hv
    clear hq hv HSe HSd
    go_wp2_with fail
    refine (zva _ _ _ _).mono ?_
    rintro e wq ⟨rfl, hwq⟩
    subst hwq
    go_wp2_with fail
    refine (zEb q 6 _).mono ?_
    rintro e w6 ⟨rfl, hw6⟩
    subst hw6
    clear hm
    cases q with
    | true =>
     go_wp2_with fail
     refine (zla _ _ _ _ (by omega) _).mono ?_
     rintro e wq ⟨rfl, rfl⟩
     exact And.intro rfl (And.intro (by rw [zua hlt HAl.out HSf.out]; rfl) HF5.out.below)
    | false =>
     have HSg := Hd (HSf.out.trans zlb)
     go_wp2_with fail
     refine (zva _ _ _ _).mono ?_
     rintro e wq ⟨rfl, hwq⟩
     subst hwq
     have HRp := Hd (zrc ⟨A, c, d.hZ.l.map (·.name)⟩ k w5 HO5.out.slr (by simp only [List.length_map]; omega))
     simp only [List.length_map] at HRp
     go_wp2_with fail
     refine HRp.out.mono ?_
     rintro e w8 ⟨rfl, hb8⟩
     have HF8 := Hd (HF5.out.call hb8)
     have HO8 := Hd (HO5.out.below hb8)
     clear hb8
     obtain ⟨q8, hq8⟩ : ∃ q, decide (dupS (d.hZ.l.map (·.name)) k = 7) = q := ⟨_, rfl⟩
     have HD8 := Hd (dup_of hq8)
     rw [hq8]
     clear hq8 HRp
     go_wp2_with fail
     refine (zEb _ _ _).mono ?_
     rintro e w9 ⟨rfl, hw9⟩
     subst hw9
     have hv := HSg.out
     rw [HD8.out] at hv
     have HSh := Hd hv
     clear hv
     cases q8 with
     | true =>
      go_wp2_with fail
      refine (zla _ _ _ _ (by omega) _).mono ?_
      rintro e wq ⟨rfl, rfl⟩
      exact And.intro rfl (And.intro (by rw [zua hlt HAl.out HSh.out]; rfl) HF8.out.below)
     | false =>
      go_wp2_with fail
      refine (zva _ _ _ _).mono ?_
      rintro e wq ⟨rfl, hwq⟩
      subst hwq
      go_wp2_with fail
      have HNn := Hd (HSh.out.trans rfl)
      go_roundw
      case rel => exact ⟨k + 1, by omega, by go_num, fun j hj => by rcases Nat.lt_succ_iff_lt_or_eq.1 hj with h | h; exact HAl.out j h; rw [h]; exact HNn.out, HSub.out _ HF8.out, HO8.out⟩
      case measure => simp [intOf]; omega
   ·have HE := Hd z0
    clear z0
    go_wp2_with fail
    refine (zla _ _ _ _ HE.out _).mono ?_
    rintro e wq ⟨rfl, rfl⟩
    exact And.intro rfl (And.intro (by rw [zua hlt HAl.out (HSd.out.trans (by rw [zJf HE.out]; rfl))]; rfl) HF5.out.below)
  ·obtain rfl : k = d.hZ.l.length := by omega
   have HV2 := Hd (show scan d.hZ.l.length (zgd d) = none from znb (fun i hi => HAl.out i hi))
   clear hlt
   go_wp2_with fail
   go_returns
   exact ⟨by rw [HV2.out]; rfl, HF.out.below⟩
end Go.Proofs.YtakgiamhdpgoeaaGreat
