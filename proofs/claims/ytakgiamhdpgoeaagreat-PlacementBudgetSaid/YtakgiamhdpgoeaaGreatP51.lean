/- Lemmas. -/
import Derived.Test.YtakgiamhdpgoeaaGreatP46
import Derived.Test.YtakgiamhdpgoeaaGreatP50
set_option linter.unusedSimpArgs false
namespace Go.Proofs.YtakgiamhdpgoeaaGreat
open Go.RowKit
set_option linter.unusedVariables false
set_option maxRecDepth 100000 in
set_option maxHeartbeats 8000000 in
theorem zse (d : PrgD) (w : World) (hR : PrgR w w.heap.size d) :
  Calls Tryz.prog 11 #[PrgD.v d] w fun e w' => SmQ (PrgS d) e ∧ Below w.heap.size w w' := by
 obtain ⟨N, hN⟩ : ∃ N, w.heap.size = N := ⟨_, rfl⟩
 rw [hN] at hR ⊢
 have F0 := Fr.start w
 rw [hN] at F0
 have HF0 := Hd F0
 have l1 := hR.tZ.len
 have l2 := hR.sZ.len
 have l3 := hR.dep.len
 have HR := Hd hR
 obtain ⟨A5, hA5⟩ : ∃ z, d.tZ.a = z := ⟨_, rfl⟩
 obtain ⟨A6, hA6⟩ : ∃ z, d.sZ.a = z := ⟨_, rfl⟩
 have HA5 := Hd hA5
 have HA6 := Hd hA6
 unfold PrgD.v PrgD.vs
 rw [hA5, hA6]
 clear hR F0 hA5 hA6
 go_enter Tryz.func11, Tryz.ntmps11
 go_wp2_with fail
 refine Calls.named ?_
 intro W1 hW1
 have F1 := (HF0.out.alloc _ _).of_eq hW1
 simp only [hN] at F1 ⊢
 obtain ⟨L, hL, F1⟩ := F1.name
 have HL := Hd hL
 have HF1 := Hd F1
 clear F1 hW1 hL
 have hcon := small16_any d W1 (HF1.out.prg HR.out)
 unfold PrgD.v PrgD.vs at hcon
 rw [HA5.out, HA6.out] at hcon
 with_reducible refine hcon.mono ?_
 clear hcon
 rintro e w3 ⟨⟨q, rfl, hq⟩, hb3⟩
 have HF3 := Hd (HF1.out.call hb3)
 have HQ := Hd hq
 clear hb3 hq
 obtain ⟨g0, l0, f0⟩ := HF3.out.c0 HL.out
 dsimp only at g0 l0 f0
 cases q with
 | false =>
  go_wp2_with fail
  go_returns
  exact ⟨⟨false, rfl, fun h => by cases h⟩, HF3.out.below⟩
 | true =>
  have hbk := blkTop_any _ d.cZ 0 w3 (Nat.lt_succ_self _) (HF3.out.prg HR.out).cZ (by omega)
  rw [show ((0 : Nat) : Int) = 0 from rfl] at hbk
  have HBk := Hd hbk
  clear hbk
  have HPr0 := Hd (show zHb wz d.cZ.l 0 ≤ 60 → d.tZ.l.length ≤ 30 → PrgS d from fun hb ht => by
   obtain ⟨h1, h2, h3, h4⟩ := HQ.out rfl
   refine ⟨by omega, by omega, by omega, by omega, by omega, fun h0 => ?_⟩
   have := few_nodes h0 hb (nods_conds _ d.cZ.l (Nat.lt_succ_self _) HR.out.cZ.ok)
   exact prgCheckW_eq (by omega))
  obtain ⟨rb, hrb⟩ : ∃ z, zHb wz d.cZ.l 0 = z := ⟨_, rfl⟩
  rw [hrb] at HBk HPr0
  clear hrb
  by_cases c1 : 30 < d.tZ.l.length
  ·have c1d : decide (30 < d.tZ.l.length) = true := decide_eq_true c1
   have c1i : (30 : Int) < (d.tZ.l.length : Nat) := by omega
   have c1j : decide ((30 : Int) < (d.tZ.l.length : Nat)) = true := decide_eq_true c1i
   go_wp2_with fail
   go_returns
   exact ⟨⟨false, rfl, fun h => by cases h⟩, HF3.out.below⟩
  ·have c1d : decide (30 < d.tZ.l.length) = false := decide_eq_false c1
   have c1i : ¬ (30 : Int) < (d.tZ.l.length : Nat) := by omega
   have c1j : decide ((30 : Int) < (d.tZ.l.length : Nat)) = false := decide_eq_false c1i
   by_cases c2 : 30 < d.sZ.l.length
   ·have c2d : decide (30 < d.sZ.l.length) = true := decide_eq_true c2
    have c2i : (30 : Int) < (d.sZ.l.length : Nat) := by omega
    have c2j : decide ((30 : Int) < (d.sZ.l.length : Nat)) = true := decide_eq_true c2i
    go_wp2_with fail
    go_returns
    exact ⟨⟨false, rfl, fun h => by cases h⟩, HF3.out.below⟩
   ·have c2d : decide (30 < d.sZ.l.length) = false := decide_eq_false c2
    have c2i : ¬ (30 : Int) < (d.sZ.l.length : Nat) := by omega
    have c2j : decide ((30 : Int) < (d.sZ.l.length : Nat)) = false := decide_eq_false c2i
    by_cases c3 : 30 < d.dep.l.length
    ·have c3d : decide (30 < d.dep.l.length) = true := decide_eq_true c3
     have c3i : (30 : Int) < (d.dep.l.length : Nat) := by omega
     have c3j : decide ((30 : Int) < (d.dep.l.length : Nat)) = true := decide_eq_true c3i
     go_wp2_with fail
     go_returns
     exact ⟨⟨false, rfl, fun h => by cases h⟩, HF3.out.below⟩
    ·have c3d : decide (30 < d.dep.l.length) = false := decide_eq_false c3
     have c3i : ¬ (30 : Int) < (d.dep.l.length : Nat) := by omega
     have c3j : decide ((30 : Int) < (d.dep.l.length : Nat)) = false := decide_eq_false c3i
     have HPr := Hd (fun h => HPr0.out h (show d.tZ.l.length ≤ 30 by omega))
     go_wp2_with fail
     with_reducible refine HBk.out.mono ?_
     rintro e w4 ⟨rfl, hb4⟩
     have HF := Hd (HF3.out.call hb4)
     clear g0 l0 f0
     clear hb4 HBk
     by_cases cb : 60 < rb
     ·have cbd : decide (60 < rb) = true := decide_eq_true cb
      obtain ⟨g0, l0, f0⟩ := HF.out.c0 HL.out
      dsimp only at g0 l0 f0
      go_wp2_with fail
      go_returns
      exact ⟨⟨false, rfl, fun h => by cases h⟩, HF.out.below⟩
     ·have cbd : decide (60 < rb) = false := decide_eq_false cb
      have HRes := Hd (HPr.out (by omega))
      go_wp2_with fail
      go_loopw [3] (fun i' wv => ∃ i : Nat, i ≤ d.tZ.l.length ∧ i' = .int .i64 i ∧ Fr N w wv L) (fun i' _ => d.tZ.l.length - (intOf i').toNat)
      case atStart => exact ⟨0, Nat.zero_le _, rfl, HF.out⟩
      case round =>
       obtain ⟨i, hi, rfl, hF⟩ := hrel
       have HF := Hd hF
       clear hF
       obtain ⟨g0, l0, f0⟩ := HF.out.c0 HL.out
       dsimp only at g0 l0 f0
       by_cases hli : i < d.tZ.l.length
       ·have hlid : decide (i < d.tZ.l.length) = true := decide_eq_true hli
        have hlii : (i : Int) < (d.tZ.l.length : Nat) := by omega
        obtain ⟨b2, off2, x, hA2, hb2, hx, hxok, hc2⟩ := HF.out.at_ HR.out.tZ (fun _ => rfl) (by omega) hli
        have q1 := hc2 1 _ rfl
        have q2 := hc2 2 _ rfl
        have q4 := hc2 4 _ rfl
        have hk1 := hxok.keys.len
        have hk2 := hxok.aZ.len
        have hk3 := hxok.args.len
        rw [HA5.out] at hA2
        subst hA2
        clear hc2 hx hxok
        by_cases e1 : 20 < x.keys.l.length
        ·have e1d : decide (20 < x.keys.l.length) = true := decide_eq_true e1
         have e1i : (20 : Int) < (x.keys.l.length : Nat) := by omega
         have e1j : decide ((20 : Int) < (x.keys.l.length : Nat)) = true := decide_eq_true e1i
         go_wp2_with fail
         go_returns
         exact ⟨⟨false, rfl, fun h => by cases h⟩, HF.out.below⟩
        ·have e1d : decide (20 < x.keys.l.length) = false := decide_eq_false e1
         have e1i : ¬ (20 : Int) < (x.keys.l.length : Nat) := by omega
         have e1j : decide ((20 : Int) < (x.keys.l.length : Nat)) = false := decide_eq_false e1i
         by_cases e2 : 40 < x.aZ.l.length
         ·have e2d : decide (40 < x.aZ.l.length) = true := decide_eq_true e2
          have e2i : (40 : Int) < (x.aZ.l.length : Nat) := by omega
          have e2j : decide ((40 : Int) < (x.aZ.l.length : Nat)) = true := decide_eq_true e2i
          go_wp2_with fail
          go_returns
          exact ⟨⟨false, rfl, fun h => by cases h⟩, HF.out.below⟩
         ·have e2d : decide (40 < x.aZ.l.length) = false := decide_eq_false e2
          have e2i : ¬ (40 : Int) < (x.aZ.l.length : Nat) := by omega
          have e2j : decide ((40 : Int) < (x.aZ.l.length : Nat)) = false := decide_eq_false e2i
          by_cases e3 : 40 < x.args.l.length
          ·have e3d : decide (40 < x.args.l.length) = true := decide_eq_true e3
           have e3i : (40 : Int) < (x.args.l.length : Nat) := by omega
           have e3j : decide ((40 : Int) < (x.args.l.length : Nat)) = true := decide_eq_true e3i
           go_wp2_with fail
           go_returns
           exact ⟨⟨false, rfl, fun h => by cases h⟩, HF.out.below⟩
          ·have e3d : decide (40 < x.args.l.length) = false := decide_eq_false e3
           have e3i : ¬ (40 : Int) < (x.args.l.length : Nat) := by omega
           have e3j : decide ((40 : Int) < (x.args.l.length : Nat)) = false := decide_eq_false e3i
           go_wp2_with fail
           go_roundw
           case rel => exact ⟨i + 1, by omega, by go_num, HF.out⟩
           case measure => simp [intOf]; omega
       ·have hlid : decide (i < d.tZ.l.length) = false := decide_eq_false hli
        obtain rfl : i = d.tZ.l.length := by omega
        clear hlid
        go_wp2_with fail
        clear g0 l0 f0
        go_loopw [4] (fun i' wv => ∃ j : Nat, j ≤ d.sZ.l.length ∧ i' = .int .i64 j ∧ Fr N w wv L) (fun i' _ => d.sZ.l.length - (intOf i').toNat)
        case atStart => exact ⟨0, Nat.zero_le _, rfl, HF.out⟩
        case round =>
         obtain ⟨j, hj, rfl, hF⟩ := hrel
         have HF := Hd hF
         clear hF
         obtain ⟨g0, l0, f0⟩ := HF.out.c0 HL.out
         dsimp only at g0 l0 f0
         by_cases hlj : j < d.sZ.l.length
         ·have hljd : decide (j < d.sZ.l.length) = true := decide_eq_true hlj
          have hlji : (j : Int) < (d.sZ.l.length : Nat) := by omega
          obtain ⟨b2, off2, x, hA2, hb2, hx, hxok, hc2⟩ := HF.out.at_ HR.out.sZ (fun _ => rfl) (by omega) hlj
          have q1 := hc2 1 _ rfl
          have q5 := hc2 5 _ rfl
          have hk1 := hxok.extract.len
          have hk2 := hxok.cases.len
          rw [HA6.out] at hA2
          subst hA2
          clear hc2 hx hxok
          by_cases e4 : 20 < x.extract.l.length
          ·have e4d : decide (20 < x.extract.l.length) = true := decide_eq_true e4
           have e4i : (20 : Int) < (x.extract.l.length : Nat) := by omega
           have e4j : decide ((20 : Int) < (x.extract.l.length : Nat)) = true := decide_eq_true e4i
           go_wp2_with fail
           go_returns
           exact ⟨⟨false, rfl, fun h => by cases h⟩, HF.out.below⟩
          ·have e4d : decide (20 < x.extract.l.length) = false := decide_eq_false e4
           have e4i : ¬ (20 : Int) < (x.extract.l.length : Nat) := by omega
           have e4j : decide ((20 : Int) < (x.extract.l.length : Nat)) = false := decide_eq_false e4i
           by_cases e5 : 20 < x.cases.l.length
           ·have e5d : decide (20 < x.cases.l.length) = true := decide_eq_true e5
            have e5i : (20 : Int) < (x.cases.l.length : Nat) := by omega
            have e5j : decide ((20 : Int) < (x.cases.l.length : Nat)) = true := decide_eq_true e5i
            go_wp2_with fail
            go_returns
            exact ⟨⟨false, rfl, fun h => by cases h⟩, HF.out.below⟩
           ·have e5d : decide (20 < x.cases.l.length) = false := decide_eq_false e5
            have e5i : ¬ (20 : Int) < (x.cases.l.length : Nat) := by omega
            have e5j : decide ((20 : Int) < (x.cases.l.length : Nat)) = false := decide_eq_false e5i
            go_wp2_with fail
            go_roundw
            case rel => exact ⟨j + 1, by omega, by go_num, HF.out⟩
            case measure => simp [intOf]; omega
         ·have hljd : decide (j < d.sZ.l.length) = false := decide_eq_false hlj
          obtain rfl : j = d.sZ.l.length := by omega
          go_wp2_with fail
          go_returns
          exact ⟨⟨true, rfl, fun _ => HRes.out⟩, HF.out.below⟩
end Go.Proofs.YtakgiamhdpgoeaaGreat
