/- Lemmas. -/
import Derived.Test.YtakgiamhdpgoeaaGreatP8
set_option linter.unusedSimpArgs false
namespace Go.Proofs.YtakgiamhdpgoeaaGreat
open Go.RowKit
set_option linter.unusedVariables false
def badH (d : PrgD) (h : Int) : Bool := decide (h < 0) || decide ((d.hZ.l.length : Int) ≤ h)
theorem zff (d : PrgD) {st : Int} {s : StaD} {k : Nat} {c : CaseD} (h : s.cases.l[k]? = some c) : zyd d st s k = if zxc d st s c = 0 then none else some ((k : Int), zxc d st s c) := by
 unfold zyd
 rw [h]
theorem badH_any {d : PrgD} {l : List Int} (h : ∀ (i : Nat) (x : Int), i < l.length → l[i]? = some x → badH d x = false) : l.any (fun h => decide (h < 0) || decide ((d.hZ.l.length : Int) ≤ h)) = false := by
 rw [← Bool.not_eq_true, List.any_eq_true]
 rintro ⟨x, hx, hb⟩
 obtain ⟨i, hi⟩ := List.mem_iff_getElem?.1 hx
 have := h i x (List.getElem?_eq_some_iff.1 hi).1 hi
 unfold badH at this
 rw [hb] at this
 cases this
theorem badH_some {d : PrgD} {l : List Int} {k : Nat} {x : Int} (hx : l[k]? = some x) (hb : badH d x = true) : l.any (fun h => decide (h < 0) || decide ((d.hZ.l.length : Int) ≤ h)) = true :=
 List.any_eq_true.2 ⟨x, List.mem_of_getElem? hx, hb⟩
set_option maxRecDepth 100000 in
set_option maxHeartbeats 4000000 in
theorem checkState_any (d : PrgD) (j : Nat) (s : StaD) (w : World) (hR : PrgR w w.heap.size d) (hj : d.sZ.l[j]? = some s) :
  Calls Tryz.prog 86 #[PrgD.v d, .int .i64 j] w fun e w' => e = .returned (.tuple #[.int .i64 (zMb d j s).1, .int .i64 (zMb d j s).2]) ∧ Below w.heap.size w w' := by
 obtain ⟨N, hN⟩ : ∃ N, w.heap.size = N := ⟨_, rfl⟩
 have hlt : j < d.sZ.l.length := (List.getElem?_eq_some_iff.1 hj).1
 have HJ := Hd hj
 obtain ⟨b, off, x, hA, hb, hx, hok, hc⟩ := hR.sZ.at_ sta_len (by omega) hlt
 obtain rfl : x = s := by rw [hx] at hj; exact Option.some.inj hj
 have hlen := hR.sZ.len
 have HLen := Hd hlen
 have hhl := hR.hZ.len
 have hel := hok.extract.len
 have hcl := hok.cases.len
 have p0 : w.cell? ⟨b, off + j * 7, none⟩ = some (.string x.name) := by have := hc 0 _ rfl; simpa using this
 have p1 := hc 1 _ rfl
 have p2 := hc 2 _ rfl
 have p3 := hc 3 _ rfl
 have p4 := hc 4 _ rfl
 have p5 := hc 5 _ rfl
 have p6 := hc 6 _ rfl
 rw [hN] at hR hok hb ⊢
 have F0 := Fr.start w
 rw [hN] at F0
 have HR := Hd hR
 have HX := Hd hok
 have HF0 := Hd F0
 have hj0 : (0 : Int) ≤ j := by omega
 have hj1 : (j : Int) < d.sZ.l.length := by omega
 have HV := Hd (show zMb d j x = if 4 < x.extract.l.length ∨ 8 < x.cases.l.length then (-1, 12)
  else if x.extract.l.any (fun h => decide (h < 0) || decide ((d.hZ.l.length : Int) ≤ h)) then (-1, 8)
  else if x.sel = true ∧ zQa d x.onh x.onf = 0 then (-1, 8)
  else if x.sel = false ∧ 0 < x.cases.l.length then (-1, 11)
  else match scan x.cases.l.length (zyd d j x) with
   | some e => e
   | none => if zHe d j x.dfl then (0, 0) else (-1, 14) from rfl)
 clear hc hx hj hR hok hlt F0
 unfold PrgD.v PrgD.vs
 rw [hA]
 by_cases c1 : 4 < x.extract.l.length
 ·have c1' : decide ((4 : Int) < x.extract.l.length) = true := by simp; omega
  have HV2 := Hd (HV.out.trans (if_pos (.inl c1)))
  clear c1
  go_enter Tryz.func86, Tryz.ntmps86
  go_wp2_with fail
  go_returns
  rw [← hN]
  exact ⟨by rw [HV2.out]; try rfl, by (first | (refine zca ?_ _; go_grown; done) | (go_grown; done))⟩
 ·have c1' : decide ((4 : Int) < x.extract.l.length) = false := by simp; omega
  by_cases c2 : 8 < x.cases.l.length
  ·have c2' : decide ((8 : Int) < x.cases.l.length) = true := by simp; omega
   have HV2 := Hd (HV.out.trans (if_pos (.inr c2)))
   clear c2 c1
   go_enter Tryz.func86, Tryz.ntmps86
   go_wp2_with fail
   go_returns
   rw [← hN]
   exact ⟨by rw [HV2.out]; try rfl, by (first | (refine zca ?_ _; go_grown; done) | (go_grown; done))⟩
  ·have c2' : decide ((8 : Int) < x.cases.l.length) = false := by simp; omega
   have HV1 := Hd (HV.out.trans (if_neg (by omega)))
   clear c1 c2 HV
   go_enter Tryz.func86, Tryz.ntmps86
   go_wp2_with fail
   refine zfa ?_
   intro W hW
   have F1 := ((HF0.out.alloc _ _).alloc _ _).of_eq hW
   simp only [World.size_alloc, hN] at F1
   obtain ⟨L, hL, F1⟩ := F1.name
   have HL := Hd hL
   have HF1 := Hd F1
   clear F1 hL hW
   clear p0 p1 p2 p3 p4 p5 p6
   go_loopw [30] (fun i wr => ∃ k : Nat, k ≤ x.extract.l.length ∧ i = .int .i64 k ∧ (∀ (j : Nat) (h : Int), j < k → x.extract.l[j]? = some h → badH d h = false) ∧ Fr N w wr L) (fun i _ => x.extract.l.length - (intOf i).toNat)
   case atStart => exact ⟨0, Nat.zero_le _, rfl, fun j h hj => absurd hj (by omega), HF1.out⟩
   case round =>
    obtain ⟨k, hk, rfl, hall, F⟩ := hrel
    have HAl := Hd hall
    have HF := Hd F
    clear F hall
    obtain ⟨g0, l0, f0⟩ := HF.out.c0 HL.out
    obtain ⟨g1, l1, f1⟩ := HF.out.c1 HL.out
    dsimp only at g0 l0 f0 g1 l1 f1
    by_cases hlt : k < x.extract.l.length
    ·obtain ⟨b2, off2, h, hA2, hb2, hx, hhok, hc2⟩ := HF.out.at_ HX.out.extract (fun _ => rfl) (by omega) hlt
     have p0 := hc2 0 _ rfl
     simp only [Nat.add_zero, Nat.mul_one] at p0
     have HHx := Hd hx
     have hk1 : (k : Int) < x.extract.l.length := by omega
     rw [hA2]
     clear hc2 hx hhok
     by_cases c3 : h < 0
     ·have HV2 := Hd (HV1.out.trans (if_pos (badH_some HHx.out (by unfold badH; simp [c3]))))
      go_wp2_with fail
      go_returns
      exact ⟨by rw [HV2.out]; try rfl, HF.out.below⟩
     ·have c3' : decide (h < 0) = false := by simp; omega
      by_cases c4 : (d.hZ.l.length : Int) ≤ h
      ·have HV2 := Hd (HV1.out.trans (if_pos (badH_some HHx.out (by unfold badH; simp [c4]))))
       go_wp2_with fail
       go_returns
       exact ⟨by rw [HV2.out]; try rfl, HF.out.below⟩
      ·have c4' : decide ((d.hZ.l.length : Int) ≤ h) = false := by simp; omega
       have HBd := Hd (show badH d h = false by unfold badH; rw [c3', c4']; rfl)
       go_wp2_with fail
       go_roundw
       case rel => exact ⟨k + 1, by omega, by go_num, fun j h' hj hh => by
        rcases Nat.lt_succ_iff_lt_or_eq.1 hj with hjk | hjk
        ·exact HAl.out j h' hjk hh
        ·rw [hjk, HHx.out] at hh; injection hh with hh; rw [← hh]; exact HBd.out, HF.out⟩
       case measure => simp [intOf]; omega
    ·obtain rfl : k = x.extract.l.length := by omega
     have HV2 := Hd (HV1.out.trans (if_neg (by rw [badH_any (fun i x hi hx => HAl.out i x hi hx)]; simp)))
     clear hlt
     obtain ⟨q, hq⟩ : ∃ q, x.sel = q := ⟨_, rfl⟩
     have hv := HV2.out
     rw [hq] at hv g0
     have HQ := Hd hq
     have HV3 := Hd hv
     clear hv hq HV2
     cases q with
     | true =>
      go_wp2_with fail
      first | rw [← hA] | skip
      with_reducible refine (zSc d x.onh x.onf wr (HF.out.prg HR.out)).mono ?_
      rintro e w2 ⟨rfl, hb2⟩
      have HF2 := Hd (HF.out.call hb2)
      obtain ⟨wd, hwd⟩ : ∃ r, zQa d x.onh x.onf = r := ⟨_, rfl⟩
      have hv := HV3.out
      rw [hwd] at hv ⊢
      have HV4 := Hd hv
      clear hb2 hwd hv HV3
      clear g0 l0 f0 g1 l1 f1
      obtain ⟨g0, l0, f0⟩ := HF2.out.c0 HL.out
      obtain ⟨g1, l1, f1⟩ := HF2.out.c1 HL.out
      dsimp only at g0 l0 f0 g1 l1 f1
      rw [HQ.out] at g0
      by_cases w0 : wd = 0
      ·subst w0
       have HV5 := Hd (HV4.out.trans (if_pos (by simp)))
       go_wp2_with fail
       go_returns
       exact ⟨by rw [HV5.out]; try rfl, HF2.out.below⟩
      ·have w0' := neq_b w0
       have HV5 := Hd ((HV4.out.trans (if_neg (fun h => w0 h.2))).trans (if_neg (by simp)))
       clear w0
       go_wp2_with fail
       go_loopw [67] (fun i wr => ∃ k : Nat, k ≤ x.cases.l.length ∧ i = .int .i64 k ∧ (∀ i, i < k → zyd d j x i = none) ∧ Fr N w wr L) (fun i _ => x.cases.l.length - (intOf i).toNat)
       case atStart => exact ⟨0, Nat.zero_le _, rfl, fun j hj => absurd hj (by omega), HF2.out⟩
       case round =>
        obtain ⟨k, hk, rfl, hall, F⟩ := hrel
        have HAl := Hd hall
        have HF := Hd F
        clear F hall
        clear g0 l0 f0 g1 l1 f1
        obtain ⟨g0, l0, f0⟩ := HF.out.c0 HL.out
        obtain ⟨g1, l1, f1⟩ := HF.out.c1 HL.out
        dsimp only at g0 l0 f0 g1 l1 f1
        by_cases hlt : k < x.cases.l.length
        ·obtain ⟨b2, off2, c, hA2, hb2, hcx, hcok, hc2⟩ := HF.out.at_ HX.out.cases case_len (by omega) hlt
         have p0 := hc2 0 _ rfl
         have p1 := hc2 1 _ rfl
         have p2 := hc2 2 _ rfl
         simp only [Nat.add_zero] at p0
         have HCo := Hd hcok
         have HSt := Hd (zff d (st := j) hcx)
         have hk1 : (k : Int) < x.cases.l.length := by omega
         rw [hA2]
         clear hc2 hcok hcx
         go_wp2_with fail
         refine Calls.named ?_
         intro W4 hW4
         have HF4 := Hd ((HF.out.alloc _ _).of_eq hW4)
         clear hW4
         first | rw [← hA] | skip
         with_reducible refine (zue d j x c W4 (HF4.out.prg HR.out) HJ.out HCo.out).mono ?_
         rintro e w5 ⟨rfl, hb5⟩
         have HF5 := Hd (HF4.out.call hb5).skip
         obtain ⟨r, hr⟩ : ∃ r, zxc d j x c = r := ⟨_, rfl⟩
         have HSr := HSt.out
         rw [hr] at HSr ⊢
         have HSt2 := Hd HSr
         clear hb5 hr HSr HSt
         clear g0 l0 f0 g1 l1 f1
         clear p0 p1 p2
         by_cases r0 : r = 0
         ·subst r0
          have HN := Hd (HSt2.out.trans (if_pos rfl))
          go_wp2_with fail
          go_roundw
          case rel => exact ⟨k + 1, by omega, by go_num, fun j hj => by rcases Nat.lt_succ_iff_lt_or_eq.1 hj with h | h; exact HAl.out j h; rw [h]; exact HN.out, HF5.out⟩
          case measure => simp [intOf]; omega
         ·have r1 : (r == 0) = false := neq_b r0
          have r2 : (r != 0) = true := by simp [r0]
          have HV9 := Hd (show zMb d j x = ((k : Int), r) by rw [HV5.out, zua hlt HAl.out (HSt2.out.trans (if_neg r0))])
          clear r0
          go_wp2_with fail
          go_returns
          exact ⟨by rw [HV9.out]; try rfl, HF5.out.below⟩
        ·obtain rfl : k = x.cases.l.length := by omega
         have HV8 := Hd (show zMb d j x = if zHe d j x.dfl then (0, 0) else (-1, 14) by rw [HV5.out, znb (fun i hi => HAl.out i hi)])
         clear hlt
         go_wp2_with fail
         first | rw [← hA] | skip
         with_reducible refine (leads_any d j x.dfl wr HLen.out).mono ?_
         rintro e w4 ⟨rfl, hb4⟩
         have HF4 := Hd (HF.out.call hb4)
         obtain ⟨q3, hq3⟩ : ∃ q, zHe d j x.dfl = q := ⟨_, rfl⟩
         have hv := HV8.out
         rw [hq3] at hv ⊢
         have HV3 := Hd hv
         clear hb4 hq3 hv
         cases q3
         all_goals
          go_wp2_with fail
          go_returns
          exact ⟨by rw [HV3.out]; try rfl, HF4.out.below⟩
     | false =>
      have HV4 := Hd (HV3.out.trans (if_neg (by simp)))
      by_cases c5 : 0 < x.cases.l.length
      ·have c5' : decide ((0 : Int) < x.cases.l.length) = true := decide_eq_true (by omega)
       have c5'' : decide (0 < x.cases.l.length) = true := decide_eq_true c5
       have HV5 := Hd (HV4.out.trans (if_pos ⟨rfl, c5⟩))
       go_wp2_with fail
       go_returns
       exact ⟨by rw [HV5.out]; try rfl, HF.out.below⟩
      ·have c6 : x.cases.l.length = 0 := by omega
       have c5' : decide ((0 : Int) < x.cases.l.length) = false := by rw [c6]; rfl
       have c5'' : decide (0 < x.cases.l.length) = false := by rw [c6]; rfl
       clear c6
       have HV5 := Hd (HV4.out.trans (if_neg (fun h => c5 h.2)))
       clear c5
       go_wp2_with fail
       go_loopw [67] (fun i wr => ∃ k : Nat, k ≤ x.cases.l.length ∧ i = .int .i64 k ∧ (∀ i, i < k → zyd d j x i = none) ∧ Fr N w wr L) (fun i _ => x.cases.l.length - (intOf i).toNat)
       case atStart => exact ⟨0, Nat.zero_le _, rfl, fun j hj => absurd hj (by omega), HF.out⟩
       case round =>
        obtain ⟨k, hk, rfl, hall, F⟩ := hrel
        have HAl := Hd hall
        have HF := Hd F
        clear F hall
        clear g0 l0 f0 g1 l1 f1
        obtain ⟨g0, l0, f0⟩ := HF.out.c0 HL.out
        obtain ⟨g1, l1, f1⟩ := HF.out.c1 HL.out
        dsimp only at g0 l0 f0 g1 l1 f1
        by_cases hlt : k < x.cases.l.length
        ·obtain ⟨b2, off2, c, hA2, hb2, hcx, hcok, hc2⟩ := HF.out.at_ HX.out.cases case_len (by omega) hlt
         have p0 := hc2 0 _ rfl
         have p1 := hc2 1 _ rfl
         have p2 := hc2 2 _ rfl
         simp only [Nat.add_zero] at p0
         have HCo := Hd hcok
         have HSt := Hd (zff d (st := j) hcx)
         have hk1 : (k : Int) < x.cases.l.length := by omega
         rw [hA2]
         clear hc2 hcok hcx
         go_wp2_with fail
         refine Calls.named ?_
         intro W4 hW4
         have HF4 := Hd ((HF.out.alloc _ _).of_eq hW4)
         clear hW4
         first | rw [← hA] | skip
         with_reducible refine (zue d j x c W4 (HF4.out.prg HR.out) HJ.out HCo.out).mono ?_
         rintro e w5 ⟨rfl, hb5⟩
         have HF5 := Hd (HF4.out.call hb5).skip
         obtain ⟨r, hr⟩ : ∃ r, zxc d j x c = r := ⟨_, rfl⟩
         have HSr := HSt.out
         rw [hr] at HSr ⊢
         have HSt2 := Hd HSr
         clear hb5 hr HSr HSt
         clear g0 l0 f0 g1 l1 f1
         clear p0 p1 p2
         by_cases r0 : r = 0
         ·subst r0
          have HN := Hd (HSt2.out.trans (if_pos rfl))
          go_wp2_with fail
          go_roundw
          case rel => exact ⟨k + 1, by omega, by go_num, fun j hj => by rcases Nat.lt_succ_iff_lt_or_eq.1 hj with h | h; exact HAl.out j h; rw [h]; exact HN.out, HF5.out⟩
          case measure => simp [intOf]; omega
         ·have r1 : (r == 0) = false := neq_b r0
          have r2 : (r != 0) = true := by simp [r0]
          have HV9 := Hd (show zMb d j x = ((k : Int), r) by rw [HV5.out, zua hlt HAl.out (HSt2.out.trans (if_neg r0))])
          clear r0
          go_wp2_with fail
          go_returns
          exact ⟨by rw [HV9.out]; try rfl, HF5.out.below⟩
        ·obtain rfl : k = x.cases.l.length := by omega
         have HV8 := Hd (show zMb d j x = if zHe d j x.dfl then (0, 0) else (-1, 14) by rw [HV5.out, znb (fun i hi => HAl.out i hi)])
         clear hlt
         go_wp2_with fail
         first | rw [← hA] | skip
         with_reducible refine (leads_any d j x.dfl wr HLen.out).mono ?_
         rintro e w4 ⟨rfl, hb4⟩
         have HF4 := Hd (HF.out.call hb4)
         obtain ⟨q3, hq3⟩ : ∃ q, zHe d j x.dfl = q := ⟨_, rfl⟩
         have hv := HV8.out
         rw [hq3] at hv ⊢
         have HV3 := Hd hv
         clear hb4 hq3 hv
         cases q3
         all_goals
          go_wp2_with fail
          go_returns
          exact ⟨by rw [HV3.out]; try rfl, HF4.out.below⟩
end Go.Proofs.YtakgiamhdpgoeaaGreat
