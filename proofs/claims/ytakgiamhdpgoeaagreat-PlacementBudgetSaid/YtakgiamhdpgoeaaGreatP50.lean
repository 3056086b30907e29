/- Lemmas. -/
import Derived.Test.YtakgiamhdpgoeaaGreatP44
set_option linter.unusedSimpArgs false
namespace Go.Proofs.YtakgiamhdpgoeaaGreat
open Go.RowKit
set_option linter.unusedVariables false
theorem nods_conds {w : World} {B : Nat} : ∀ (n : Nat) (l : List NodD), (zda l).length < n → (∀ x ∈ l, NodD.ok w B x) → ∀ y ∈ zda l, y.cond.l.length ≤ 9223372036854775807 := by
 intro n
 induction n with
 | zero => intro l h; omega
 | succ n ih =>
  intro l h hok y hy
  cases l with
  | nil => rw [zda] at hy; cases hy
  | cons x l =>
   have h0 : zda (x :: l) = x :: (zda x.thn.l ++ zda x.els.l) ++ zda l := by rw [zda, zjc]
   rw [h0] at h hy
   simp only [List.length_append, List.length_cons] at h
   obtain ⟨_, _, hc, ht, he⟩ := NodD.open (hok x (List.mem_cons_self ..))
   simp only [List.mem_append, List.mem_cons] at hy
   rcases hy with (hy | hy | hy) | hy
   ·subst hy; exact hc.len
   ·exact ih _ (by omega) ht.ok y hy
   ·exact ih _ (by omega) he.ok y hy
   ·exact ih _ (by omega) (fun z hz => hok z (List.mem_cons_of_mem _ hz)) y hy
def SmQ (P : Prop) (e : Ending) : Prop := ∃ q, e = .returned (.bool q) ∧ (q = true → P)
set_option maxRecDepth 100000 in
set_option maxHeartbeats 8000000 in
theorem small16_any (d : PrgD) (w : World) (hR : PrgR w w.heap.size d) :
  Calls Tryz.prog 24 #[PrgD.v d] w fun e w' => SmQ (d.hZ.l.length ≤ 20 ∧ d.mZ.l.length ≤ 30 ∧ d.rZ.l.length ≤ 20 ∧ d.aZ.l.length ≤ 40) e ∧ Below w.heap.size w w' := by
 obtain ⟨N, hN⟩ : ∃ N, w.heap.size = N := ⟨_, rfl⟩
 rw [hN] at hR ⊢
 have F0 := Fr.start w
 rw [hN] at F0
 have HF0 := Hd F0
 have l1 := hR.hZ.len
 have l2 := hR.mZ.len
 have l3 := hR.rZ.len
 have l4 := hR.aZ.len
 have HR := Hd hR
 obtain ⟨A1, hA1⟩ : ∃ z, d.hZ.a = z := ⟨_, rfl⟩
 obtain ⟨A3, hA3⟩ : ∃ z, d.rZ.a = z := ⟨_, rfl⟩
 obtain ⟨A4, hA4⟩ : ∃ z, d.aZ.a = z := ⟨_, rfl⟩
 have HA1 := Hd hA1
 have HA3 := Hd hA3
 have HA4 := Hd hA4
 unfold PrgD.v PrgD.vs
 rw [hA1, hA3, hA4]
 clear hR F0 hA1 hA3 hA4
 go_enter Tryz.func24, Tryz.ntmps24
 go_upto_region 1 with (fail)
 refine zfa ?_
 intro W1 hW1
 have F1 := (HF0.out.alloc _ _).of_eq hW1
 simp only [hN] at F1 ⊢
 obtain ⟨L, hL, F1⟩ := F1.name
 have HL := Hd hL
 have HF1 := Hd F1
 clear F1 hW1 hL
 obtain ⟨g0, l0, f0⟩ := HF1.out.c0 HL.out
 dsimp only at g0 l0 f0
 by_cases c1 : 20 < d.hZ.l.length
 ·have c1d : decide (20 < d.hZ.l.length) = true := decide_eq_true c1
  have c1i : (20 : Int) < (d.hZ.l.length : Nat) := by omega
  have c1j : decide ((20 : Int) < (d.hZ.l.length : Nat)) = true := decide_eq_true c1i
  go_wp2_with fail
  go_returns
  exact ⟨⟨false, rfl, fun h => by cases h⟩, HF1.out.below⟩
 ·have c1d : decide (20 < d.hZ.l.length) = false := decide_eq_false c1
  have c1i : ¬ (20 : Int) < (d.hZ.l.length : Nat) := by omega
  have c1j : decide ((20 : Int) < (d.hZ.l.length : Nat)) = false := decide_eq_false c1i
  by_cases c2 : 30 < d.mZ.l.length
  ·have c2d : decide (30 < d.mZ.l.length) = true := decide_eq_true c2
   have c2i : (30 : Int) < (d.mZ.l.length : Nat) := by omega
   have c2j : decide ((30 : Int) < (d.mZ.l.length : Nat)) = true := decide_eq_true c2i
   go_wp2_with fail
   go_returns
   exact ⟨⟨false, rfl, fun h => by cases h⟩, HF1.out.below⟩
  ·have c2d : decide (30 < d.mZ.l.length) = false := decide_eq_false c2
   have c2i : ¬ (30 : Int) < (d.mZ.l.length : Nat) := by omega
   have c2j : decide ((30 : Int) < (d.mZ.l.length : Nat)) = false := decide_eq_false c2i
   by_cases c3 : 20 < d.rZ.l.length
   ·have c3d : decide (20 < d.rZ.l.length) = true := decide_eq_true c3
    have c3i : (20 : Int) < (d.rZ.l.length : Nat) := by omega
    have c3j : decide ((20 : Int) < (d.rZ.l.length : Nat)) = true := decide_eq_true c3i
    go_wp2_with fail
    go_returns
    exact ⟨⟨false, rfl, fun h => by cases h⟩, HF1.out.below⟩
   ·have c3d : decide (20 < d.rZ.l.length) = false := decide_eq_false c3
    have c3i : ¬ (20 : Int) < (d.rZ.l.length : Nat) := by omega
    have c3j : decide ((20 : Int) < (d.rZ.l.length : Nat)) = false := decide_eq_false c3i
    by_cases c4 : 40 < d.aZ.l.length
    ·have c4d : decide (40 < d.aZ.l.length) = true := decide_eq_true c4
     have c4i : (40 : Int) < (d.aZ.l.length : Nat) := by omega
     have c4j : decide ((40 : Int) < (d.aZ.l.length : Nat)) = true := decide_eq_true c4i
     go_wp2_with fail
     go_returns
     exact ⟨⟨false, rfl, fun h => by cases h⟩, HF1.out.below⟩
    ·have c4d : decide (40 < d.aZ.l.length) = false := decide_eq_false c4
     have c4i : ¬ (40 : Int) < (d.aZ.l.length : Nat) := by omega
     have c4j : decide ((40 : Int) < (d.aZ.l.length : Nat)) = false := decide_eq_false c4i
     have HRes := Hd (show d.hZ.l.length ≤ 20 ∧ d.mZ.l.length ≤ 30 ∧ d.rZ.l.length ≤ 20 ∧ d.aZ.l.length ≤ 40 by omega)
     have HF := HF1
     go_wp2_with fail
     clear g0 l0 f0
     clear c1d c1i c1j c2d c2i c2j c3d c3i c3j c4d c4i c4j
     go_loopw [3] (fun i' wv => ∃ i : Nat, i ≤ d.aZ.l.length ∧ i' = .int .i64 i ∧ Fr N w wv L) (fun i' _ => d.aZ.l.length - (intOf i').toNat)
     case atStart => exact ⟨0, Nat.zero_le _, rfl, HF.out⟩
     case round =>
      obtain ⟨i, hi, rfl, hF⟩ := hrel
      have HF := Hd hF
      clear hF
      obtain ⟨g0, l0, f0⟩ := HF.out.c0 HL.out
      dsimp only at g0 l0 f0
      by_cases hli : i < d.aZ.l.length
      ·have hlid : decide (i < d.aZ.l.length) = true := decide_eq_true hli
       have hlii : (i : Int) < (d.aZ.l.length : Nat) := by omega
       obtain ⟨b2, off2, x, hA2, hb2, hx, hxok, hc2⟩ := HF.out.at_ HR.out.aZ zdg (by omega) hli
       have q1 := hc2 1 _ rfl
       have q2 := hc2 2 _ rfl
       rw [HA4.out] at hA2
       obtain ⟨xn, xp, ⟨xa, xc, xl⟩⟩ := x
       have hbl := hxok.body.len
       have hpl := hxok.params.len
       have HXb := Hd hxok.body
       have HQ2 := Hd (show ∀ u, Below wr.heap.size wr u → u.cell? ⟨b2, off2 + i * 3 + 2, none⟩ = some (.slice xa xl.length xc) from fun u hb => (hb.cell (p := ⟨b2, off2 + i * 3 + 2, none⟩) (Nat.lt_of_lt_of_le hb2 HF.out.le)).trans q2)
       simp only at q1 q2 hbl hpl HXb
       subst hA2
       clear hc2 hx hxok
       by_cases e1 : 20 < xp.l.length
       ·have e1d : decide (20 < xp.l.length) = true := decide_eq_true e1
        have e1i : (20 : Int) < (xp.l.length : Nat) := by omega
        have e1j : decide ((20 : Int) < (xp.l.length : Nat)) = true := decide_eq_true e1i
        go_wp2_with fail
        go_returns
        exact ⟨⟨false, rfl, fun h => by cases h⟩, HF.out.below⟩
       ·have e1d : decide (20 < xp.l.length) = false := decide_eq_false e1
        have e1i : ¬ (20 : Int) < (xp.l.length : Nat) := by omega
        have e1j : decide ((20 : Int) < (xp.l.length : Nat)) = false := decide_eq_false e1i
        by_cases e2 : 30 < xl.length
        ·have e2d : decide (30 < xl.length) = true := decide_eq_true e2
         have e2i : (30 : Int) < (xl.length : Nat) := by omega
         have e2j : decide ((30 : Int) < (xl.length : Nat)) = true := decide_eq_true e2i
         go_wp2_with fail
         go_returns
         exact ⟨⟨false, rfl, fun h => by cases h⟩, HF.out.below⟩
        ·have e2d : decide (30 < xl.length) = false := decide_eq_false e2
         have e2i : ¬ (30 : Int) < (xl.length : Nat) := by omega
         have e2j : decide ((30 : Int) < (xl.length : Nat)) = false := decide_eq_false e2i
         have HFo := HF
         go_wp2_with fail
         clear g0 l0 f0
         clear q1 q2
         go_loopw [4] (fun i' wv => ∃ k : Nat, k ≤ xl.length ∧ i' = .int .i64 k ∧ Fr N w wv L ∧ Below wr.heap.size wr wv) (fun i' _ => xl.length - (intOf i').toNat)
         case atStart => exact ⟨0, Nat.zero_le _, rfl, HFo.out, Below.refl _ _⟩
         case round =>
          obtain ⟨k, hk, rfl, hF, hB⟩ := hrel
          have HF := Hd hF
          have HB := Hd hB
          clear hF hB
          obtain ⟨g0, l0, f0⟩ := HF.out.c0 HL.out
          dsimp only at g0 l0 f0
          have q2 := HQ2.out wr HB.out
          by_cases hlk : k < xl.length
          ·have hlkd : decide (k < xl.length) = true := decide_eq_true hlk
           have hlki : (k : Int) < (xl.length : Nat) := by omega
           obtain ⟨b3, off3, y, hA3, hb3, hy, hyok, hc3⟩ := HF.out.at_ HXb.out st_len (by omega) hlk
           have r5 := hc3 5 _ rfl
           have r6 := hc3 6 _ rfl
           have hil := hyok.index.len
           have hvl := hyok.value.len
           simp only at hA3
           subst hA3
           clear hc3 hy hyok
           by_cases e5 : 60 < y.index.l.length
           ·have e5d : decide (60 < y.index.l.length) = true := decide_eq_true e5
            have e5i : (60 : Int) < (y.index.l.length : Nat) := by omega
            have e5j : decide ((60 : Int) < (y.index.l.length : Nat)) = true := decide_eq_true e5i
            go_wp2_with fail
            go_returns
            exact ⟨⟨false, rfl, fun h => by cases h⟩, HF.out.below⟩
           ·have e5d : decide (60 < y.index.l.length) = false := decide_eq_false e5
            have e5i : ¬ (60 : Int) < (y.index.l.length : Nat) := by omega
            have e5j : decide ((60 : Int) < (y.index.l.length : Nat)) = false := decide_eq_false e5i
            by_cases e6 : 60 < y.value.l.length
            ·have e6d : decide (60 < y.value.l.length) = true := decide_eq_true e6
             have e6i : (60 : Int) < (y.value.l.length : Nat) := by omega
             have e6j : decide ((60 : Int) < (y.value.l.length : Nat)) = true := decide_eq_true e6i
             go_wp2_with fail
             go_returns
             exact ⟨⟨false, rfl, fun h => by cases h⟩, HF.out.below⟩
            ·have e6d : decide (60 < y.value.l.length) = false := decide_eq_false e6
             have e6i : ¬ (60 : Int) < (y.value.l.length : Nat) := by omega
             have e6j : decide ((60 : Int) < (y.value.l.length : Nat)) = false := decide_eq_false e6i
             go_wp2_with fail
             go_roundw
             case rel => exact ⟨k + 1, by omega, by go_num, HF.out, HB.out⟩
             case measure => simp [intOf]; omega
          ·have hlkd : decide (k < xl.length) = false := decide_eq_false hlk
           obtain rfl : k = xl.length := by omega
           go_wp2_with fail
           go_roundw
           case rel => exact ⟨i + 1, by omega, by go_num, HF.out⟩
           case measure => simp [intOf]; omega
      ·have hlid : decide (i < d.aZ.l.length) = false := decide_eq_false hli
       obtain rfl : i = d.aZ.l.length := by omega
       clear hlid
       go_wp2_with fail
       clear g0 l0 f0
       go_loopw [5] (fun i' wv => ∃ j : Nat, j ≤ d.hZ.l.length ∧ i' = .int .i64 j ∧ Fr N w wv L) (fun i' _ => d.hZ.l.length - (intOf i').toNat)
       case atStart => exact ⟨0, Nat.zero_le _, rfl, HF.out⟩
       case round =>
        obtain ⟨j, hj, rfl, hF⟩ := hrel
        have HF := Hd hF
        clear hF
        obtain ⟨g0, l0, f0⟩ := HF.out.c0 HL.out
        dsimp only at g0 l0 f0
        by_cases hlj : j < d.hZ.l.length
        ·have hljd : decide (j < d.hZ.l.length) = true := decide_eq_true hlj
         have hlji : (j : Int) < (d.hZ.l.length : Nat) := by omega
         obtain ⟨b2, off2, x, hA2, hb2, hx, hxok, hc2⟩ := HF.out.at_ HR.out.hZ (fun _ => rfl) (by omega) hlj
         have q1 := hc2 1 _ rfl
         have hfl := hxok.fields.len
         rw [HA1.out] at hA2
         subst hA2
         clear hc2 hx hxok
         by_cases e3 : 40 < x.fields.l.length
         ·have e3d : decide (40 < x.fields.l.length) = true := decide_eq_true e3
          have e3i : (40 : Int) < (x.fields.l.length : Nat) := by omega
          have e3j : decide ((40 : Int) < (x.fields.l.length : Nat)) = true := decide_eq_true e3i
          go_wp2_with fail
          go_returns
          exact ⟨⟨false, rfl, fun h => by cases h⟩, HF.out.below⟩
         ·have e3d : decide (40 < x.fields.l.length) = false := decide_eq_false e3
          have e3i : ¬ (40 : Int) < (x.fields.l.length : Nat) := by omega
          have e3j : decide ((40 : Int) < (x.fields.l.length : Nat)) = false := decide_eq_false e3i
          go_wp2_with fail
          go_roundw
          case rel => exact ⟨j + 1, by omega, by go_num, HF.out⟩
          case measure => simp [intOf]; omega
        ·have hljd : decide (j < d.hZ.l.length) = false := decide_eq_false hlj
         obtain rfl : j = d.hZ.l.length := by omega
         clear hljd
         go_wp2_with fail
         clear g0 l0 f0
         go_loopw [6] (fun i' wv => ∃ k : Nat, k ≤ d.rZ.l.length ∧ i' = .int .i64 k ∧ Fr N w wv L) (fun i' _ => d.rZ.l.length - (intOf i').toNat)
         case atStart => exact ⟨0, Nat.zero_le _, rfl, HF.out⟩
         case round =>
          obtain ⟨k, hk, rfl, hF⟩ := hrel
          have HF := Hd hF
          clear hF
          obtain ⟨g0, l0, f0⟩ := HF.out.c0 HL.out
          dsimp only at g0 l0 f0
          by_cases hlk : k < d.rZ.l.length
          ·have hlkd : decide (k < d.rZ.l.length) = true := decide_eq_true hlk
           have hlki : (k : Int) < (d.rZ.l.length : Nat) := by omega
           obtain ⟨b2, off2, x, hA2, hb2, hx, hxok, hc2⟩ := HF.out.at_ HR.out.rZ (fun _ => rfl) (by omega) hlk
           have q2 := hc2 2 _ rfl
           rw [HA3.out] at hA2
           subst hA2
           clear hc2 hx hxok
           by_cases e4 : 200 < x.size
           ·have e4d : decide (200 < x.size) = true := decide_eq_true e4
            go_wp2_with fail
            go_returns
            exact ⟨⟨false, rfl, fun h => by cases h⟩, HF.out.below⟩
           ·have e4d : decide (200 < x.size) = false := decide_eq_false e4
            go_wp2_with fail
            go_roundw
            case rel => exact ⟨k + 1, by omega, by go_num, HF.out⟩
            case measure => simp [intOf]; omega
          ·have hlkd : decide (k < d.rZ.l.length) = false := decide_eq_false hlk
           obtain rfl : k = d.rZ.l.length := by omega
           go_wp2_with fail
           go_returns
           exact ⟨⟨true, rfl, fun _ => HRes.out⟩, HF.out.below⟩
end Go.Proofs.YtakgiamhdpgoeaaGreat
