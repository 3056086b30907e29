/- Lemmas. -/
import Derived.Test.YtakgiamhdpgoeaaGreatP10
set_option linter.unusedSimpArgs false
namespace Go.Proofs.YtakgiamhdpgoeaaGreat
open Go.RowKit
set_option linter.unusedVariables false
theorem contains_take {l : List Int} {t : Int} (h : ∀ (i : Nat) (x : Int), i < l.length → l[i]? = some x → (x == t) = false) : l.contains t = false := by
 rw [← Bool.not_eq_true]
 intro hc
 have hm : t ∈ l := by simpa using hc
 obtain ⟨i, hi⟩ := List.mem_iff_getElem?.1 hm
 have := h i t (List.getElem?_eq_some_iff.1 hi).1 hi
 simp at this
theorem contains_some {l : List Int} {t x : Int} {k : Nat} (hx : l[k]? = some x) (h : (x == t) = true) : l.contains t = true := by
 obtain rfl : x = t := by simpa using h
 simpa using List.mem_of_getElem? hx
set_option maxRecDepth 100000 in
set_option maxHeartbeats 4000000 in
theorem checkNode_any (d : PrgD) (x : NodD) (u : SL Int) (w : World) (hR : PrgR w w.heap.size d) (hX : NodD.ok w w.heap.size x) (hU : SLR w w.heap.size 1 intE (fun _ => True) u) :
  Calls Tryz.prog 91 #[PrgD.v d, nodV x, .slice u.a u.l.length u.c] w fun e w' => e = .returned (.int .i64 (zXa d x u.l)) ∧ Below w.heap.size w w' := by
 obtain ⟨N, hN⟩ : ∃ N, w.heap.size = N := ⟨_, rfl⟩
 rw [hN] at hR hX hU ⊢
 have F0 := Fr.start w
 rw [hN] at F0
 obtain ⟨hk0, ht0, hcond, _, _⟩ := NodD.open hX
 have HR := Hd hR
 have HU := Hd hU
 have HC := Hd hcond
 have HF0 := Hd F0
 have htl := hR.tZ.len
 have hul := hU.len
 have HV := Hd (show zXa d x u.l = if x.kind = 1 ∨ x.kind = 3 then
  if x.table < 0 ∨ (d.tZ.l.length : Int) ≤ x.table then 8
  else if u.l.contains x.table then 7
  else if x.kind = 1 ∧ 0 < wr ((x.thn.l.length : Int) + x.els.l.length) then 5 else 0
 else if x.kind = 2 then
  if (zMa d [] x.cond.l).2 ≠ 0 then (zMa d [] x.cond.l).2 else if (zMa d [] x.cond.l).1 ≠ 1 then 10 else 0
 else 11 from rfl)
 obtain ⟨ua, uc, ul⟩ := u
 simp only at HU HV hul ⊢
 clear hR hX hU hcond F0 hk0
 unfold PrgD.v PrgD.vs nodV
 by_cases k13 : x.kind = 1 ∨ x.kind = 3
 ·have HV1 := Hd (HV.out.trans (if_pos k13))
  clear HV
  by_cases c1 : x.table < 0
  ·have HV2 := Hd (HV1.out.trans (if_pos (.inl c1)))
   rcases k13 with k | k
   all_goals
    rw [k]
    go_enter Tryz.func91, Tryz.ntmps91
    go_wp2_with fail
    go_returns
    rw [← hN]
    exact ⟨by rw [HV2.out]; try rfl, by (first | (refine zca ?_ _; go_grown; done) | (go_grown; done))⟩
  ·have c1' : decide (x.table < 0) = false := by simp; omega
   by_cases c2 : (d.tZ.l.length : Int) ≤ x.table
   ·have c2' : decide ((d.tZ.l.length : Int) ≤ x.table) = true := by simp; omega
    have HV2 := Hd (HV1.out.trans (if_pos (.inr c2)))
    rcases k13 with k | k
    all_goals
     rw [k]
     go_enter Tryz.func91, Tryz.ntmps91
     go_wp2_with fail
     go_returns
     rw [← hN]
     exact ⟨by rw [HV2.out]; try rfl, by (first | (refine zca ?_ _; go_grown; done) | (go_grown; done))⟩
   ·have c2' : decide ((d.tZ.l.length : Int) ≤ x.table) = false := by simp; omega
    have HV2 := Hd (HV1.out.trans (if_neg (by omega)))
    clear HV1 c1 c2
    obtain ⟨q5, hq5⟩ : ∃ q, decide (0 < wr ((x.thn.l.length : Int) + x.els.l.length)) = q := ⟨_, rfl⟩
    have HQ5 := Hd hq5
    rw [wr_64] at hq5
    have HB5 := Hd hq5
    clear hq5
    rcases k13 with k | k
    all_goals
     have HK := Hd k
     rw [k]
     clear k
     go_enter Tryz.func91, Tryz.ntmps91
     go_wp2_with fail
     refine zfa ?_
     intro W1 hW1
     have F1 := ((HF0.out.alloc _ _).alloc _ _).of_eq hW1
     simp only [World.size_alloc, hN] at F1
     obtain ⟨L, hL, F1⟩ := F1.name
     have HL := Hd hL
     have HF1 := Hd F1
     clear hW1 F1 hL
     go_loopw [29] (fun i wr => ∃ k : Nat, k ≤ ul.length ∧ i = .int .i64 k ∧ (∀ (j : Nat) (y : Int), j < k → ul[j]? = some y → (y == x.table) = false) ∧ Fr N w wr L) (fun i _ => ul.length - (intOf i).toNat)
     case atStart => exact ⟨0, Nat.zero_le _, rfl, fun j y hj => absurd hj (by omega), HF1.out⟩
     case round =>
      obtain ⟨k, hk, rfl, hall, F⟩ := hrel
      have HAl := Hd hall
      have HF := Hd F
      clear F hall
      obtain ⟨g0, l0, f0⟩ := HF.out.c0 HL.out
      obtain ⟨g1, l1, f1⟩ := HF.out.c1 HL.out
      dsimp only at g0 l0 f0 g1 l1 f1
      by_cases hlt : k < ul.length
      ·obtain ⟨b2, off2, y, hA2, hb2, hy, _, hc2⟩ := HF.out.at_ HU.out (fun _ => rfl) (by omega) hlt
       have p0 := hc2 0 _ rfl
       simp only [Nat.add_zero, Nat.mul_one] at p0
       simp only at hA2
       have HY := Hd hy
       have hk1 : (k : Int) < ul.length := by omega
       obtain ⟨q, hq⟩ : ∃ q, (y == x.table) = q := ⟨_, rfl⟩
       have HQ := Hd hq
       subst hA2
       clear hc2 hy
       cases q with
       | true =>
        have HV3 := Hd (HV2.out.trans (if_pos (contains_some HY.out HQ.out)))
        go_wp2_with fail
        go_returns
        exact ⟨by rw [HV3.out]; try rfl, HF.out.below⟩
       | false =>
        go_wp2_with fail
        go_roundw
        case rel => exact ⟨k + 1, by omega, by go_num, fun j y' hj hy' => by
         rcases Nat.lt_succ_iff_lt_or_eq.1 hj with h | h
         ·exact HAl.out j y' h hy'
         ·rw [h, HY.out] at hy'; injection hy' with hy'; rw [← hy']; exact HQ.out, HF.out⟩
        case measure => simp [intOf]; omega
      ·obtain rfl : k = ul.length := by omega
       have HV3 := Hd (HV2.out.trans (if_neg (by rw [contains_take HAl.out]; simp)))
       have hb5 := HB5.out
       clear hlt
       first
        | (have hK1 : x.kind = 1 := HK.out
           cases q5 with
           | true =>
            have HV4 := Hd (HV3.out.trans (if_pos ⟨HK.out, of_decide_eq_true HQ5.out⟩))
            clear hK1
            go_wp2_with fail
            go_returns
            exact ⟨by rw [HV4.out]; try rfl, HF.out.below⟩
           | false =>
            have HV4 := Hd (HV3.out.trans (if_neg (fun h => of_decide_eq_false HQ5.out h.2)))
            clear hK1
            go_wp2_with fail
            go_returns
            exact ⟨by rw [HV4.out]; try rfl, HF.out.below⟩)
        | (have HV4 := Hd (HV3.out.trans (if_neg (fun h => by have h1 := h.1; rw [HK.out] at h1; omega)))
           go_wp2_with fail
           go_returns
           exact ⟨by rw [HV4.out]; try rfl, HF.out.below⟩)
 ·have k1' := neq_b (show x.kind ≠ 1 by omega)
  have k3' := neq_b (show x.kind ≠ 3 by omega)
  have HV1 := Hd (HV.out.trans (if_neg k13))
  clear HV k13
  by_cases k2 : x.kind = 2
  ·have HV2 := Hd (HV1.out.trans (if_pos k2))
   clear k1' k3' HV1
   rw [k2]
   clear k2
   go_enter Tryz.func91, Tryz.ntmps91
   go_wp2_with fail
   refine Calls.named ?_
   intro W1 hW1
   have F1 := ((HF0.out.alloc _ _).alloc _ _).of_eq hW1
   have HF1 := Hd F1
   clear hW1 F1
   have HE := Hd (zzc d ⟨none, 0, []⟩ x.cond W1 (HF1.out.prg HR.out) (SLR.nil_ _) (HF1.out.slr HC.out))
   unfold ztc pairV at HE
   simp only [List.length_nil] at HE
   refine HE.out.mono ?_
   rintro e w2 ⟨rfl, hb2⟩
   have HF2 := Hd (HF1.out.call hb2)
   obtain ⟨⟨z1, z2⟩, hz⟩ : ∃ z, zMa d [] x.cond.l = z := ⟨_, rfl⟩
   have hv := HV2.out
   rw [hz] at hv ⊢
   have HV3 := Hd hv
   clear hb2 hz hv HV2
   dsimp only
   by_cases e0 : z2 = 0
   ·have e0' : (z2 != 0) = false := by simp [e0]
    have HV4 := Hd (HV3.out.trans (if_neg (by simp [e0])))
    clear e0
    by_cases e1 : z1 = 1
    ·have e1' : (z1 != 1) = false := by simp [e1]
     have HV5 := Hd (HV4.out.trans (if_neg (by simp [e1])))
     clear e1
     go_wp2_with fail
     go_returns
     exact ⟨by rw [HV5.out]; try rfl, HF2.out.below⟩
    ·have e1' : (z1 != 1) = true := by simp [e1]
     have HV5 := Hd (HV4.out.trans (if_pos e1))
     clear e1
     go_wp2_with fail
     go_returns
     exact ⟨by rw [HV5.out]; try rfl, HF2.out.below⟩
   ·have e0' : (z2 != 0) = true := by simp [e0]
    have HV4 := Hd (HV3.out.trans (if_pos e0))
    clear e0
    go_wp2_with fail
    go_returns
    exact ⟨by rw [HV4.out]; try rfl, HF2.out.below⟩
  ·have k2' := neq_b k2
   have HV2 := Hd (HV1.out.trans (if_neg k2))
   clear k2
   go_enter Tryz.func91, Tryz.ntmps91
   go_wp2_with fail
   go_returns
   rw [← hN]
   exact ⟨by rw [HV2.out]; try rfl, by (first | (refine zca ?_ _; go_grown; done) | (go_grown; done))⟩
end Go.Proofs.YtakgiamhdpgoeaaGreat
