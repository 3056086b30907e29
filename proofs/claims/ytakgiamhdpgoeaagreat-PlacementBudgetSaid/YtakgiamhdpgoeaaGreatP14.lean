/- Lemmas. -/
import Derived.Test.YtakgiamhdpgoeaaGreatP9
import Derived.Test.YtakgiamhdpgoeaaGreatP13
set_option linter.unusedSimpArgs false
namespace Go.Proofs.YtakgiamhdpgoeaaGreat
open Go.RowKit
set_option linter.unusedVariables false
theorem tblCheck_in_eq (d : PrgD) (j : Nat) (a : TblD) (hj : d.tZ.l[j]? = some a) : zJa d j = zlc d a := by
 unfold zJa
 rw [if_neg (by omega), Int.toNat_natCast, hj]
set_option maxRecDepth 100000 in
set_option maxHeartbeats 2000000 in
theorem tblCheck_in (d : PrgD) (j : Nat) (a : TblD) (w : World) (hR : PrgR w w.heap.size d) (hj : d.tZ.l[j]? = some a) :
  Calls Tryz.prog 60 #[PrgD.v d, .int .i64 j] w fun e w' => e = .returned (.tuple #[.int .i64 (zlc d a).1, .int .i64 (zlc d a).2]) ∧ Below w.heap.size w w' := by
 obtain ⟨N, hN⟩ : ∃ N, w.heap.size = N := ⟨_, rfl⟩
 have hlt : j < d.tZ.l.length := (List.getElem?_eq_some_iff.1 hj).1
 obtain ⟨b, off, x, hA, hb, hx, hok, hc⟩ := hR.tZ.at_ tbl_len (by omega) hlt
 obtain rfl : x = a := by rw [hx] at hj; exact Option.some.inj hj
 have hlen := hR.tZ.len
 have hkl := hok.keys.len
 have hal := hok.aZ.len
 have p0 : w.cell? ⟨b, off + j * 6, none⟩ = some (.string x.name) := by have := hc 0 _ rfl; simpa using this
 have p1 := hc 1 _ rfl
 have p2 := hc 2 _ rfl
 have p3 := hc 3 _ rfl
 have p4 := hc 4 _ rfl
 have p5 := hc 5 _ rfl
 have p6 := hc 6
 rw [hN] at hR hok hb ⊢
 have F0 := Fr.start w
 rw [hN] at F0
 have HR := Hd hR
 have HX := Hd hok
 have HF0 := Hd F0
 have hj0 : (0 : Int) ≤ j := by omega
 have hj1 : (j : Int) < d.tZ.l.length := by omega
 have hj2 : ¬ ((d.tZ.l.length : Int) ≤ j) := by omega
 have hj3 : ¬ ((j : Int) < 0) := by omega
 have HV := Hd (show zlc d x = if !ident x.name then (-1, 6) else if 6 < x.keys.l.length ∨ 16 < x.aZ.l.length then (-1, 12) else if x.size < 1 ∨ 256 < x.size then (-1, 9)
  else if (zKb d x.keys.l).2 ≠ 0 then zKb d x.keys.l else if zHd d x ≠ 0 then (-3, zHd d x) else (0, 0) from rfl)
 clear hc hx hj hR hok hlt F0 p6
 obtain ⟨z, hz⟩ : ∃ z, ident x.name = z := ⟨_, rfl⟩
 rw [hz] at HV
 have HZ := Hd hz
 unfold PrgD.v PrgD.vs
 rw [hA]
 clear hz
 go_enter Tryz.func60, Tryz.ntmps60
 go_wp2_with fail
 refine Calls.named ?_
 intro W hW
 have F1 := ((HF0.out.alloc _ _).alloc _ _).of_eq hW
 simp only [World.size_alloc, hN] at F1
 obtain ⟨L, hL, F1⟩ := F1.name
 have HL := Hd hL
 have HF1 := Hd F1
 clear F1 hL hW
 obtain ⟨g0, l0, f0⟩ := HF1.out.c0 HL.out
 obtain ⟨g1, l1, f1⟩ := HF1.out.c1 HL.out
 dsimp only at g0 l0 f0 g1 l1 f1
 clear p0 p1 p2 p3 p4 p5
 with_reducible refine (zGa x.name HX.out.nm W).mono ?_
 rintro e w1 ⟨rfl, hw1⟩
 subst hw1
 rw [HZ.out]
 cases z with
 | false =>
  have HV2 := Hd (HV.out.trans (if_pos rfl))
  go_wp2_with fail
  go_returns
  exact ⟨by rw [HV2.out]; try rfl, HF1.out.below⟩
 | true =>
  have HV1 := Hd (HV.out.trans (if_neg (by simp)))
  clear HV
  by_cases c1 : 6 < x.keys.l.length
  ·have c1' : decide ((6 : Int) < x.keys.l.length) = true := by simp; omega
   have HV2 := Hd (HV1.out.trans (if_pos (.inl c1)))
   clear c1
   go_wp2_with fail
   go_returns
   exact ⟨by rw [HV2.out]; try rfl, HF1.out.below⟩
  ·have c1' : decide ((6 : Int) < x.keys.l.length) = false := by simp; omega
   by_cases c2 : 16 < x.aZ.l.length
   ·have c2' : decide ((16 : Int) < x.aZ.l.length) = true := by simp; omega
    have HV2 := Hd (HV1.out.trans (if_pos (.inr c2)))
    clear c1 c2
    go_wp2_with fail
    go_returns
    exact ⟨by rw [HV2.out]; try rfl, HF1.out.below⟩
   ·have c2' : decide ((16 : Int) < x.aZ.l.length) = false := by simp; omega
    have HV2 := Hd (HV1.out.trans (if_neg (by omega)))
    clear HV1
    have hk6 : x.keys.l.length ≤ 6 := by omega
    have ha16 : x.aZ.l.length ≤ 16 := by omega
    clear c1 c2
    by_cases c3 : x.size < 1
    ·have HV3 := Hd (HV2.out.trans (if_pos (.inl c3)))
     go_wp2_with fail
     go_returns
     exact ⟨by rw [HV3.out]; try rfl, HF1.out.below⟩
    ·have c3' : decide (x.size < 1) = false := by simp; omega
     by_cases c4 : 256 < x.size
     ·have HV3 := Hd (HV2.out.trans (if_pos (.inr c4)))
      go_wp2_with fail
      go_returns
      exact ⟨by rw [HV3.out]; try rfl, HF1.out.below⟩
     ·have c4' : decide (256 < x.size) = false := by simp; omega
      have HV3 := Hd (HV2.out.trans (if_neg (by omega)))
      clear HV2
      go_wp2_with fail
      rw [← hA]
      with_reducible refine (checkKeys_any d x W (HF1.out.prg HR.out) (HF1.out.tbl HX.out) (by omega)).mono ?_
      rintro e w2 ⟨rfl, hb2⟩
      have HF2 := Hd (HF1.out.call hb2)
      obtain ⟨⟨z1, z2⟩, hz⟩ : ∃ z, zKb d x.keys.l = z := ⟨_, rfl⟩
      have hv := HV3.out
      rw [hz] at hv ⊢
      have HV4 := Hd hv
      clear g0 l0 f0 g1 l1 f1
      clear hb2 hz hv
      obtain ⟨g0, l0, f0⟩ := HF2.out.c0 HL.out
      obtain ⟨g1, l1, f1⟩ := HF2.out.c1 HL.out
      dsimp only at g0 l0 f0 g1 l1 f1
      dsimp only
      by_cases e0 : z2 = 0
      ·have e0' : (z2 != 0) = false := by simp [e0]
       have HV5 := Hd (HV4.out.trans (if_neg (by simp [e0])))
       clear e0
       go_wp2_with fail
       rw [← hA]
       with_reducible refine (zhf d x w2 (HF2.out.prg HR.out) (HF2.out.tbl HX.out) (by omega)).mono ?_
       rintro e w3 ⟨rfl, hb3⟩
       have HF3 := Hd (HF2.out.call hb3)
       obtain ⟨z, hz⟩ : ∃ z, zHd d x = z := ⟨_, rfl⟩
       have hv := HV5.out
       rw [hz] at hv ⊢
       have HV6 := Hd hv
       clear hb3 hz hv
       by_cases e1 : z = 0
       ·have e1' : (z != 0) = false := by simp [e1]
        have HV7 := Hd (HV6.out.trans (if_neg (by simp [e1])))
        clear e1
        go_wp2_with fail
        go_returns
        exact ⟨by rw [HV7.out]; try rfl, HF3.out.below⟩
       ·have e1' : (z != 0) = true := by simp [e1]
        have HV7 := Hd (HV6.out.trans (if_pos e1))
        clear e1
        go_wp2_with fail
        go_returns
        exact ⟨by rw [HV7.out]; try rfl, HF3.out.below⟩
      ·have e0' : (z2 != 0) = true := by simp [e0]
       have HV5 := Hd (HV4.out.trans (if_pos e0))
       clear e0
       go_wp2_with fail
       go_returns
       exact ⟨by rw [HV5.out]; try rfl, HF2.out.below⟩
set_option maxRecDepth 100000 in
theorem zNf (d : PrgD) (i : Int) (w : World) (hR : PrgR w w.heap.size d) :
  Calls Tryz.prog 60 #[PrgD.v d, .int .i64 i] w fun e w' => e = .returned (.tuple #[.int .i64 (zJa d i).1, .int .i64 (zJa d i).2]) ∧ Below w.heap.size w w' := by
 have hlen := hR.tZ.len
 by_cases h : 0 ≤ i ∧ i < d.tZ.l.length
 ·obtain ⟨j, rfl⟩ := Int.eq_ofNat_of_zero_le h.1
  have hj : d.tZ.l[j]? = some d.tZ.l[j] := List.getElem?_eq_getElem (by omega)
  rw [tblCheck_in_eq d j _ hj]
  exact tblCheck_in d j _ w hR hj
 ·have HV := Hd (show zJa d i = (-1, 8) by
   unfold zJa
   by_cases h1 : i < 0
   ·rw [if_pos h1]
   ·rw [if_neg h1, List.getElem?_eq_none (by omega)])
  clear hR
  unfold PrgD.v PrgD.vs
  by_cases h1 : i < 0
  ·clear h
   go_enter Tryz.func60, Tryz.ntmps60
   go_wp2_with fail
   go_returns
   exact ⟨by rw [HV.out]; try rfl, by (first | (refine zca ?_ _; go_grown; done) | (go_grown; done))⟩
  ·have h2 : (d.tZ.l.length : Int) ≤ i := by omega
   clear h
   go_enter Tryz.func60, Tryz.ntmps60
   go_wp2_with fail
   go_returns
   exact ⟨by rw [HV.out]; try rfl, by (first | (refine zca ?_ _; go_grown; done) | (go_grown; done))⟩
open Go.RowKit
def zcc (a b : List Int) : Bool := a.any fun x => b.any fun y => x == y
set_option maxRecDepth 100000 in
set_option maxHeartbeats 1000000 in
theorem zlf {ok ok' : Int → Prop} (a b : SL Int) (w : World) (hA : SLR w w.heap.size 1 intE ok a) (hB : SLR w w.heap.size 1 intE ok' b) :
  Calls Tryz.prog 72 #[.slice a.a a.l.length a.c, .slice b.a b.l.length b.c] w fun e w' => e = .returned (.bool (zcc a.l b.l)) ∧ w = w' := by
 obtain ⟨aa, ac, al⟩ := a
 obtain ⟨ba, bc, bl⟩ := b
 have HA := Hd hA
 have HB := Hd hB
 have hla := hA.len
 have hlb := hB.len
 simp only at hla hlb ⊢
 have HV := Hd (show zcc al bl = al.any fun x => bl.any fun y => x == y from rfl)
 clear hA hB
 go_enter Tryz.func72, Tryz.ntmps72
 go_wp2_with fail
 go_loop [11] (fun i => ∃ k : Nat, k ≤ al.length ∧ i = .int .i64 k ∧ (∀ (j : Nat) (x : Int), j < k → al[j]? = some x → (bl.any fun y => x == y) = false)) (fun i => al.length - (intOf i).toNat)
 case atStart => exact ⟨0, Nat.zero_le _, rfl, fun j x hj => absurd hj (by omega)⟩
 case round =>
  obtain ⟨k, hk, rfl, hall⟩ := hrel
  have HAl := Hd hall
  clear hall
  by_cases hlt : k < al.length
  ·obtain ⟨b2, off2, x, hA2, hb2, hx, _, hc2⟩ := HA.out.at_ zna (by omega) hlt
   have p0 := hc2 0 _ rfl
   simp only [Nat.add_zero, Nat.mul_one] at p0
   simp only at hA2
   have HX := Hd hx
   have hk1 : (k : Int) < al.length := by omega
   subst hA2
   clear hc2 hx
   go_wp2_with fail
   go_loop [17] (fun i => ∃ m : Nat, m ≤ bl.length ∧ i = .int .i64 m ∧ (∀ (j : Nat) (y : Int), j < m → bl[j]? = some y → (x == y) = false)) (fun i => bl.length - (intOf i).toNat)
   case atStart => exact ⟨0, Nat.zero_le _, rfl, fun j y hj => absurd hj (by omega)⟩
   case round =>
    obtain ⟨m, hm, rfl, hall⟩ := hrel
    have HBl := Hd hall
    clear hall
    by_cases hlt2 : m < bl.length
    ·obtain ⟨b3, off3, y, hA3, hb3, hy, _, hc3⟩ := HB.out.at_ zna (by omega) hlt2
     have p1 := hc3 0 _ rfl
     simp only [Nat.add_zero, Nat.mul_one] at p1
     simp only at hA3
     have HY := Hd hy
     have hm1 : (m : Int) < bl.length := by omega
     obtain ⟨q, hq⟩ : ∃ q, (x == y) = q := ⟨_, rfl⟩
     have HQ := Hd hq
     subst hA3
     clear hc3 hy
     cases q with
     | true =>
      have HV2 := Hd (show zcc al bl = true by rw [HV.out]; exact zie HX.out (zie HY.out HQ.out))
      go_wp2_with fail
      go_returns
      exact ⟨by rw [HV2.out]; try rfl, rfl⟩
     | false =>
      go_wp2_with fail
      go_round
      case rel => exact ⟨m + 1, by omega, by go_num, fun j y' hj hy' => by
       rcases Nat.lt_succ_iff_lt_or_eq.1 hj with h | h
       ·exact HBl.out j y' h hy'
       ·rw [h, HY.out] at hy'; injection hy' with hy'; rw [← hy']; exact HQ.out⟩
      case measure => simp [intOf]; omega
    ·obtain rfl : m = bl.length := by omega
     have HN := Hd (zkd HBl.out)
     clear hlt2
     go_wp2_with fail
     go_round
     case rel => exact ⟨k + 1, by omega, by go_num, fun j x' hj hx' => by
      rcases Nat.lt_succ_iff_lt_or_eq.1 hj with h | h
      ·exact HAl.out j x' h hx'
      ·rw [h, HX.out] at hx'; injection hx' with hx'; rw [← hx']; exact HN.out⟩
     case measure => simp [intOf]; omega
  ·obtain rfl : k = al.length := by omega
   have HV2 := Hd (show zcc al bl = false by rw [HV.out]; exact zkd HAl.out)
   clear hlt
   go_wp2_with fail
   go_returns
   exact ⟨by rw [HV2.out]; try rfl, rfl⟩
end Go.Proofs.YtakgiamhdpgoeaaGreat
