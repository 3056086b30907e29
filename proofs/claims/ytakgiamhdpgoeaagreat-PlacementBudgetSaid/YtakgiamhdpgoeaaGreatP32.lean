/- Lemmas. -/
import Derived.Test.YtakgiamhdpgoeaaGreatP31
set_option linter.unusedSimpArgs false
namespace Go.Proofs.YtakgiamhdpgoeaaGreat
open Go.RowKit
set_option linter.unusedVariables false
def zKf (D : List (List Int)) (st : List Int) (j : Nat) : Bool := (List.range j).all fun i => depOk (kindM D i j) (st.getD i 0) (st.getD j 0)
def satD (D : List (List Int)) (st : List Int) : Bool := decide (st.length = D.length) && (List.range D.length).all (zKf D st)
theorem satRow_no {D : List (List Int)} {st : List Int} {i j : Nat} {x y : Int} (hi : i < j) (hx : st[i]? = some x) (hy : st[j]? = some y) (h : depOk (kindM D i j) x y = false) : zKf D st j = false := by
 unfold zKf
 rw [List.all_eq_false]
 exact ⟨i, List.mem_range.2 hi, by rw [zec hx, zec hy, h]; simp⟩
theorem satRow_yes {D : List (List Int)} {st : List Int} {j : Nat} (h : ∀ i, i < j → depOk (kindM D i j) (st.getD i 0) (st.getD j 0) = true) : zKf D st j = true := by
 unfold zKf
 rw [List.all_eq_true]
 exact fun i hi => h i (List.mem_range.1 hi)
theorem satD_no {D : List (List Int)} {st : List Int} {j : Nat} (hj : j < D.length) (h : zKf D st j = false) : satD D st = false := by
 unfold satD
 have : (List.range D.length).all (zKf D st) = false := List.all_eq_false.2 ⟨j, List.mem_range.2 hj, by rw [h]; simp⟩
 rw [this, Bool.and_false]
theorem satD_yes {D : List (List Int)} {st : List Int} (hl : st.length = D.length) (h : ∀ j, j < D.length → zKf D st j = true) : satD D st = true := by
 unfold satD
 rw [decide_eq_true hl, List.all_eq_true.2 fun j hj => h j (List.mem_range.1 hj)]
 rfl
set_option maxRecDepth 100000 in
set_option maxHeartbeats 4000000 in
theorem satisfied_any (d : SL (SL Int)) (st : SL Int) (w : World) (hS : MatR w w.heap.size d) (hT : SLR w w.heap.size 1 intE (fun _ => True) st) :
  Calls Tryz.prog 21 #[.slice d.a d.l.length d.c, .slice st.a st.l.length st.c] w fun e w' => e = .returned (.bool (satD d.rows st.l)) ∧ Below w.heap.size w w' := by
 obtain ⟨N, hN⟩ : ∃ N, w.heap.size = N := ⟨_, rfl⟩
 rw [hN] at hS hT ⊢
 have F0 := Fr.start w
 rw [hN] at F0
 have HF0 := Hd F0
 have HS := Hd hS
 have HT := Hd hT
 have hdl := hS.len
 have htl := hT.len
 obtain ⟨da, dc, dl⟩ := d
 obtain ⟨ta, tc, tl⟩ := st
 have HR := Hd (show (⟨da, dc, dl⟩ : SL (SL Int)).rows.length = dl.length from List.length_map ..)
 obtain ⟨D, hD⟩ : ∃ D, (⟨da, dc, dl⟩ : SL (SL Int)).rows = D := ⟨_, rfl⟩
 have HD := Hd hD
 rw [hD] at HR ⊢
 simp only at hdl htl ⊢
 clear hS hT F0 hD
 by_cases c0 : tl.length = dl.length
 ·have c0' : ((tl.length : Int) != dl.length) = false := by simp [c0]
  have HC0 := Hd c0
  clear c0
  go_enter Tryz.func21, Tryz.ntmps21
  go_wp2_with fail
  go_loopw [14] (fun i' wr => ∃ j : Nat, j ≤ dl.length ∧ i' = .int .i64 j ∧ (∀ j', j' < j → zKf D tl j' = true) ∧ Fr N w wr []) (fun i' _ => dl.length - (intOf i').toNat)
  case atStart => exact ⟨0, Nat.zero_le _, rfl, fun j hj => absurd hj (by omega), HF0.out⟩
  case round =>
   obtain ⟨j, hj, rfl, hall, F⟩ := hrel
   have HAl := Hd hall
   have HF := Hd F
   clear F hall
   by_cases hlt : j < dl.length
   ·have hj1 : (j : Int) < dl.length := by omega
    go_wp2_with fail
    go_loopw [18] (fun i' wr2 => ∃ i : Nat, i ≤ j ∧ i' = .int .i64 i ∧ (∀ i', i' < i → depOk (kindM D i' j) (tl.getD i' 0) (tl.getD j 0) = true) ∧ Fr N w wr2 []) (fun i' _ => j - (intOf i').toNat)
    case atStart => exact ⟨0, Nat.zero_le _, rfl, fun i hi => absurd hi (by omega), HF.out⟩
    case round =>
     obtain ⟨i, hi, rfl, hall2, F⟩ := hrel
     have HAl2 := Hd hall2
     have HF2 := Hd F
     clear F hall2
     by_cases hlt2 : i < j
     ·have hi1 : (i : Int) < j := by omega
      go_wp2_with fail
      refine Calls.named ?_
      intro W4 hW4
      have HF4 := Hd (HF2.out.of_eq hW4)
      clear hW4
      with_reducible refine (kind_any ⟨da, dc, dl⟩ i j (by show i < dl.length; omega) W4 (HF4.out.mat HS.out)).mono ?_
      rintro e w5 ⟨rfl, rfl⟩
      rw [HD.out]
      obtain ⟨b2, off2, x, hA2, hb2, hx, _, hc2⟩ := HF4.out.at_ HT.out zna (by omega) (show i < tl.length by have := HC0.out; omega)
      obtain ⟨b3, off3, y, hA3, hb3, hy, _, hc3⟩ := HF4.out.at_ HT.out zna (by omega) (show j < tl.length by have := HC0.out; omega)
      have p0 := hc2 0 _ rfl
      have p1 := hc3 0 _ rfl
      simp only [Nat.add_zero, Nat.mul_one] at p0 p1
      simp only at hA2 hA3
      rw [hA2] at hA3
      obtain ⟨rfl, rfl⟩ := addr_inj hA3
      have HX := Hd hx
      have HY := Hd hy
      have hi2 : (i : Int) < tl.length := by have := HC0.out; omega
      have hj2 : (j : Int) < tl.length := by have := HC0.out; omega
      subst hA2
      obtain ⟨k, hk⟩ : ∃ k, kindM D i j = k := ⟨_, rfl⟩
      have HK := Hd hk
      rw [hk]
      clear hc2 hx hc3 hy hk hA3
      have hb2' : b2 < W4.heap.size := Nat.lt_of_lt_of_le hb2 HF4.out.le
      by_cases k2 : k = 2
      ·subst k2
       go_wp2_with fail
       have hcl : ∀ (p : Ab W4.heap.size W4) (b i : Nat), b < W4.heap.size → p.u.cell? ⟨b, i, none⟩ = W4.cell? ⟨b, i, none⟩ := fun p b i h => p.h.cell (p := ⟨b, i, none⟩) h
       refine zia W4.heap.size W4 (by kernel_rfl) (by kernel_rfl) (Below.refl _ _) ?_
       repeat (first
        | go_big_quiet_step ((fail)))
       refine wpQuiet_nil ?_
       intro u hw'
       obtain ⟨pu, hpu⟩ := hw'
       have hu := pu.h
       rw [← hpu] at hu
       clear hcl hpu
       clear pu
       have HFu := Hd (HF4.out.call hu)
       clear hu
       by_cases c3 : y ≤ x
       ·have HV := Hd (satD_no (by rw [HR.out]; exact hlt) (satRow_no hlt2 HX.out HY.out (by rw [HK.out, depOk_2]; exact decide_eq_false (by omega))))
        go_wp2_with fail
        go_returns
        exact ⟨by rw [HV.out]; try rfl, HFu.out.below⟩
       ·have c3' : decide (y ≤ x) = false := decide_eq_false c3
        have HOk := Hd (show depOk (kindM D i j) (tl.getD i 0) (tl.getD j 0) = true by rw [HK.out, zec HX.out, zec HY.out, depOk_2]; exact decide_eq_true (by omega))
        go_wp2_with fail
        go_roundw
        case rel => exact ⟨i + 1, by omega, by go_num, fun i' hi' => by
         rcases Nat.lt_succ_iff_lt_or_eq.1 hi' with h | h
         ·exact HAl2.out i' h
         ·rw [h]; exact HOk.out, HFu.out⟩
        case measure => simp [intOf]; omega
      ·have k2' : (k == 2) = false := by simp [k2]
       by_cases k1 : k = 1
       ·subst k1
        go_wp2_with fail
        have hcl : ∀ (p : Ab W4.heap.size W4) (b i : Nat), b < W4.heap.size → p.u.cell? ⟨b, i, none⟩ = W4.cell? ⟨b, i, none⟩ := fun p b i h => p.h.cell (p := ⟨b, i, none⟩) h
        refine zia W4.heap.size W4 (by kernel_rfl) (by kernel_rfl) (Below.refl _ _) ?_
        repeat (first
         | go_big_quiet_step ((fail)))
        refine wpQuiet_nil ?_
        intro u hw'
        obtain ⟨pu, hpu⟩ := hw'
        have hu := pu.h
        rw [← hpu] at hu
        clear hcl hpu
        clear pu
        have HFu := Hd (HF4.out.call hu)
        clear hu
        by_cases c3 : y < x
        ·have HV := Hd (satD_no (by rw [HR.out]; exact hlt) (satRow_no hlt2 HX.out HY.out (by rw [HK.out, depOk_1]; exact decide_eq_false (by omega))))
         go_wp2_with fail
         go_returns
         exact ⟨by rw [HV.out]; try rfl, HFu.out.below⟩
        ·have c3' : decide (y < x) = false := decide_eq_false c3
         have HOk := Hd (show depOk (kindM D i j) (tl.getD i 0) (tl.getD j 0) = true by rw [HK.out, zec HX.out, zec HY.out, depOk_1]; exact decide_eq_true (by omega))
         go_wp2_with fail
         go_roundw
         case rel => exact ⟨i + 1, by omega, by go_num, fun i' hi' => by
          rcases Nat.lt_succ_iff_lt_or_eq.1 hi' with h | h
          ·exact HAl2.out i' h
          ·rw [h]; exact HOk.out, HFu.out⟩
         case measure => simp [intOf]; omega
       ·have k1' : (k == 1) = false := by simp [k1]
        have HOk := Hd (show depOk (kindM D i j) (tl.getD i 0) (tl.getD j 0) = true by rw [HK.out]; exact depOk_0 k1 k2)
        go_wp2_with fail
        go_roundw
        case rel => exact ⟨i + 1, by omega, by go_num, fun i' hi' => by
         rcases Nat.lt_succ_iff_lt_or_eq.1 hi' with h | h
         ·exact HAl2.out i' h
         ·rw [h]; exact HOk.out, HF4.out⟩
        case measure => simp [intOf]; omega
     ·obtain rfl : i = j := by omega
      have HRow := Hd (satRow_yes HAl2.out)
      clear hlt2
      go_wp2_with fail
      go_roundw
      case rel => exact ⟨i + 1, by omega, by go_num, fun j' hj' => by
       rcases Nat.lt_succ_iff_lt_or_eq.1 hj' with h | h
       ·exact HAl.out j' h
       ·rw [h]; exact HRow.out, HF2.out⟩
      case measure => simp [intOf]; omega
   ·obtain rfl : j = dl.length := by omega
    have HV := Hd (satD_yes (D := D) (st := tl) (by rw [HR.out]; exact HC0.out) (by rw [HR.out]; exact HAl.out))
    clear hlt
    go_wp2_with fail
    go_returns
    exact ⟨by rw [HV.out]; try rfl, HF.out.below⟩
 ·have c0' : ((tl.length : Int) != dl.length) = true := by simp; omega
  have HV := Hd (show satD D tl = false by unfold satD; rw [decide_eq_false (by rw [HR.out]; exact c0)]; rfl)
  go_enter Tryz.func21, Tryz.ntmps21
  go_wp2_with fail
  go_returns
  exact ⟨by rw [HV.out]; try rfl, HF0.out.below⟩
open Go.RowKit
structure JobM.Sq (J : JobM) : Prop where
 n : J.deps.length = J.n
 r : ∀ r ∈ J.deps, r.length = J.n
theorem JobM.kind_dep {J : JobM} (h : J.Sq) {i j : Nat} (hij : i < j) (hj : j < J.n) : kindM J.deps i j = if J.dep i j = 1 ∨ J.dep i j = 2 then J.dep i j else 0 := by
 obtain ⟨r, hr⟩ : ∃ r, J.deps[i]? = some r := ⟨_, List.getElem?_eq_getElem (by rw [h.n]; omega)⟩
 have hl := h.r r (List.mem_of_getElem? hr)
 unfold kindM JobM.dep
 have e : J.deps.getD i [] = r := by simp [List.getD, hr]
 rw [e, if_neg (by omega)]
theorem JobM.early_eq {J : JobM} (h : J.Sq) : ∀ j, j ≤ J.n → zfd J.deps j = J.earlyTo j := by
 intro j
 induction j with
 | zero => intro _; rfl
 | succ j ih =>
  intro hj
  rw [zfd, JobM.earlyTo, ih (by omega)]
  congr 2
  unfold ePart JobM.earlyRow
  have key : ∀ (l : List Nat) (m : Int), (∀ k ∈ l, k < j) → l.foldl (eStep J.deps (J.earlyTo j) j) m = l.foldl (fun m i => if J.dep i j = 2 then max m ((J.earlyTo j).getD i 0 + 1) else if J.dep i j = 1 then max m ((J.earlyTo j).getD i 0) else m) m := by
   intro l
   induction l with
   | nil => intro m _; rfl
   | cons k l ih2 =>
    intro m hk
    rw [List.foldl_cons, List.foldl_cons, ih2 _ fun x hx => hk x (List.mem_cons_of_mem _ hx)]
    congr 1
    unfold eStep
    rw [JobM.kind_dep h (hk k (List.mem_cons_self ..)) (by omega)]
    by_cases h2 : J.dep k j = 2
    ·rw [if_pos h2, if_pos (by rw [if_pos (.inr h2)]; exact h2)]
    ·by_cases h1 : J.dep k j = 1
     ·simp [h1]
     ·rw [if_neg (by omega : ¬ (J.dep k j = 1 ∨ J.dep k j = 2)), if_neg h2, if_neg h1]; simp
  exact key _ 0 fun k hk => List.mem_range.1 hk
theorem JobM.sat_eq {J : JobM} (h : J.Sq) (st : List Int) : satD J.deps st = J.sat st := by
 unfold satD JobM.sat
 rw [h.n]
 congr 1
 rw [Bool.eq_iff_iff, List.all_eq_true, List.all_eq_true]
 have key : ∀ j, j < J.n → zKf J.deps st j = J.follows st j (st.getD j 0) := by
  intro j hj
  unfold zKf JobM.follows
  rw [Bool.eq_iff_iff, List.all_eq_true, List.all_eq_true]
  have k2 : ∀ i, i < j → depOk (kindM J.deps i j) (st.getD i 0) (st.getD j 0) = depOk (J.dep i j) (st.getD i 0) (st.getD j 0) := by
   intro i hi
   rw [JobM.kind_dep h hi hj]
   by_cases h2 : J.dep i j = 1 ∨ J.dep i j = 2
   ·rw [if_pos h2]
   ·rw [if_neg h2, depOk_0 (by omega) (by omega), depOk_0 (by omega) (by omega)]
  constructor
  ·intro hh i hi
   rw [← k2 i (List.mem_range.1 hi)]; exact hh i hi
  ·intro hh i hi
   rw [k2 i (List.mem_range.1 hi)]; exact hh i hi
 constructor
 ·intro hh j hj
  rw [← key j (List.mem_range.1 hj)]; exact hh j hj
 ·intro hh j hj
  rw [key j (List.mem_range.1 hj)]; exact hh j hj
theorem JobR.sq {w : World} {B g : Nat} {J : JobD} (h : JobR w B g J) : J.m.Sq := by
 have e : J.m.n = J.us.l.length := by unfold JobM.n JobD.m; simp
 refine ⟨?_, fun r hr => ?_⟩
 ·rw [e]; show J.ds.rows.length = _; unfold SL.rows; rw [List.length_map]; exact h.n2
 ·rw [e]
  obtain ⟨s, hs, rfl⟩ := List.mem_map.1 hr
  exact h.n3 s hs
theorem JobD.m_n (J : JobD) : J.m.n = J.us.l.length := by unfold JobM.n JobD.m; simp
theorem any_getD_no {l : List Int} {p : Int → Bool} (h : ∀ k, k < l.length → p (l.getD k 0) = false) : l.any p = false := by
 rw [List.any_eq_false]
 intro x hx
 obtain ⟨k, hk, rfl⟩ := List.mem_iff_getElem.1 hx
 have := h k hk
 rw [zec (List.getElem?_eq_getElem hk)] at this
 rw [this]; simp
set_option maxRecDepth 100000 in
set_option maxHeartbeats 8000000 in
theorem obstacle_any (J : JobD) (g : Nat) (w : World) (hJ : JobR w w.heap.size g J) (hn : J.us.l.length ≤ 1000) (hc : ∀ x ∈ J.cs.l, I64 x.1 ∧ I64 x.2) :
  Calls Tryz.prog 19 #[.pointer (some ⟨g, 0, none⟩)] w fun e w' => (∃ A c, e = .returned (.tuple #[.int .i64 (J.m.obst (zgc J.m.deps)).1, .slice A (J.m.obst (zgc J.m.deps)).2.length c]) ∧ OwnZ w' w.heap.size A c (J.m.obst (zgc J.m.deps)).2) ∧ Below w.heap.size w w' := by
 obtain ⟨N, hN⟩ : ∃ N, w.heap.size = N := ⟨_, rfl⟩
 rw [hN] at hJ ⊢
 have F0 := Fr.start w
 rw [hN] at F0
 have HF0 := Hd F0
 have HJ := Hd hJ
 have HC := Hd hc
 have HSq := Hd hJ.sq
 have HMn := Hd J.m_n
 have hgN := hJ.lt
 have hg : ∀ i, w.cell? ⟨g, i, none⟩ = _ := fun i => hJ.blk.cell i
 unfold JobD.cells at hg
 have HG := Hd hg
 obtain ⟨n, hnn⟩ : ∃ n, J.us.l.length = n := ⟨_, rfl⟩
 have HN := Hd hnn
 have HN2 := Hd hJ.n2
 rw [hnn] at hn HMn HG HN2
 rw [HN2.out] at HG
 have hdl : n ≤ 9223372036854775807 := by omega
 obtain ⟨ob, hob⟩ : ∃ z, J.m.obst (zgc J.m.deps) = z := ⟨_, rfl⟩
 have HOb := Hd (show J.m.obst (zgc J.m.deps) = ob from hob)
 rw [hob]
 clear hJ F0 hc hg hob hnn
 go_enter Tryz.func19, Tryz.ntmps19
 have v0 := fun i => HG.out i
 have hgw : g < w.heap.size := by omega
 go_wp2_with fail
 clear v0 hgw
 go_loopw [12] (fun i' wr => ∃ i : Nat, i ≤ n ∧ i' = .int .i64 i ∧ (∀ k, k < i → (J.m.add Use.zero k).fits J.m.chip = true) ∧ Fr N w wr []) (fun i' _ => n - (intOf i').toNat)
 case atStart => exact ⟨0, Nat.zero_le _, rfl, fun k hk => absurd hk (by omega), HF0.out⟩
 case round =>
  obtain ⟨i, hi, rfl, hall, hF⟩ := hrel
  have HF := Hd hF
  have HAll := Hd hall
  clear hF hall
  have v0 : ∀ i, wr.cell? ⟨g, i, none⟩ = _ := fun i => (HF.out.below.cell (p := ⟨g, i, none⟩) hgN).trans (HG.out i)
  have hgw : g < wr.heap.size := Nat.lt_of_lt_of_le hgN HF.out.le
  by_cases hlt : i < n
  ·have hi1 : (i : Int) < n := by omega
   obtain ⟨v, hv⟩ : ∃ v, J.m.add Use.zero i = v := ⟨_, rfl⟩
   obtain ⟨fv, hfv⟩ : ∃ z, v.fits J.chip = z := ⟨_, rfl⟩
   have HAdd := Hd (show ∀ u, Below wr.heap.size wr u → Calls Tryz.prog 36 #[.pointer (some ⟨g, 0, none⟩), .agg #[.int .i64 0, .int .i64 0, .int .i64 0, .int .i64 0], .int .i64 i] u fun e w' => e = .returned (.agg #[.int .i64 v.tZ, .int .i64 v.gates, .int .i64 v.sram, .int .i64 v.tcam]) ∧ Below u.heap.size u w' from fun u hb => by
    have := zxf J g Use.zero i u ((HF.out.call hb).job HJ.out) (by rw [HN.out]; exact hlt) ⟨⟨by decide, by decide⟩, ⟨by decide, by decide⟩, by unfold I64; decide, by unfold I64; decide⟩ HC.out
    rw [hv] at this
    exact this)
   have HWi := Hd (show ∀ u : World, Calls Tryz.prog 23 #[.agg #[.int .i64 v.tZ, .int .i64 v.gates, .int .i64 v.sram, .int .i64 v.tcam], chipV J.chip] u fun e w' => e = .returned (.bool fv) ∧ Below u.heap.size u w' from fun u => by
    have := zQf v J.chip u
    rw [hfv] at this
    exact this)
   have HFv := Hd (show (J.m.add Use.zero i).fits J.m.chip = fv by rw [hv]; exact hfv)
   clear hv hfv
   go_wp2_with fail
   have hcl : ∀ (p : Ab wr.heap.size wr) (b i : Nat), b < wr.heap.size → p.u.cell? ⟨b, i, none⟩ = wr.cell? ⟨b, i, none⟩ := fun p b i h => p.h.cell (p := ⟨b, i, none⟩) h
   refine zia wr.heap.size wr (by kernel_rfl) (by kernel_rfl) (Below.refl _ _) ?_
   repeat (first
    | go_big_quiet_step ((first | (go_at_call 36; exact Calls.ab (Nat.le_refl _) (HAdd.out _ (Ab.h _))) | (go_at_call 23; exact Calls.ab (Nat.le_refl _) (HWi.out _)))))
   refine wpQuiet_nil ?_
   intro u hw'
   obtain ⟨pu, hpu⟩ := hw'
   have hu := pu.h
   rw [← hpu] at hu
   clear hcl hpu
   clear pu
   have HFu := Hd (HF.out.call hu)
   clear hu
   clear v0 hgw HAdd HWi
   cases fv with
   | false =>
    have HB := Hd (show J.m.bigs = some i by unfold JobM.bigs; rw [HMn.out]; exact find_range hlt (by rw [HFv.out]; rfl) fun k hk => by rw [HAll.out k hk]; rfl)
    have HV := Hd (show ob = (18, [(i : Int)]) by rw [← HOb.out]; unfold JobM.obst; rw [HB.out])
    go_wp2_with fail
    go_returns
    rw [HV.out]
    exact ⟨⟨_, _, rfl, Own.new u #[.int .i64 i] 1 _ HFu.out.le (by simp [maxLen]) rfl⟩, HFu.out.below.alloc HFu.out.le _⟩
   | true =>
    go_wp2_with fail
    go_roundw
    case rel => exact ⟨i + 1, by omega, by go_num, fun k hk => by
     rcases Nat.lt_succ_iff_lt_or_eq.1 hk with h | h
     ·exact HAll.out k h
     ·rw [h]; exact HFv.out, HFu.out⟩
    case measure => simp [intOf]; omega
  ·obtain rfl : i = n := by omega
   clear hlt
   have HB := Hd (show J.m.bigs = none by
    unfold JobM.bigs
    rw [HMn.out, List.find?_eq_none]
    intro k hk
    rw [HAll.out k (List.mem_range.1 hk)]
    simp)
   have hcon := earliest_any J.ds wr (HF.out.job HJ.out).ds (by rw [HN2.out]; exact hn)
   rw [HN2.out, show J.ds.rows = J.m.deps from rfl, JobM.early_eq HSq.out i (by rw [HMn.out]; exact Nat.le_refl _)] at hcon
   obtain ⟨el, hel⟩ : ∃ z, J.m.earlyTo i = z := ⟨_, rfl⟩
   have HEl := Hd (show el.length = i by rw [← hel, JobM.earlyTo_len])
   have HLa := Hd (show J.m.lates = el.any fun s => decide (J.chip.stages ≤ s) by unfold JobM.lates; rw [HMn.out, hel]; rfl)
   rw [hel] at hcon
   have HCon := Hd hcon
   clear hcon hel
   go_wp2_with fail
   with_reducible refine HCon.out.mono ?_
   rintro e w2 ⟨⟨ge, rfl, hbe⟩, hb2⟩
   have HBe := Hd hbe
   have HF2 := Hd (HF.out.call hb2)
   clear hbe hb2 HCon v0 hgw
   go_wp2_with fail
   go_loopw [34] (fun i' wr => ∃ k : Nat, k ≤ i ∧ i' = .int .i64 k ∧ (∀ q, q < k → decide (J.chip.stages ≤ el.getD q 0) = false) ∧ Blk wr ge 3 (rowZ i fun k => el.getD k 0) ∧ Fr N w wr []) (fun i' _ => i - (intOf i').toNat)
   case atStart => exact ⟨0, Nat.zero_le _, rfl, fun k hk => absurd hk (by omega), HBe.out, HF2.out⟩
   case round =>
    obtain ⟨k, hk, rfl, hall, hbe, hF⟩ := hrel
    have HF3 := Hd hF
    have HBe3 := Hd hbe
    have HAl3 := Hd hall
    clear hF hbe hall
    have v0 : ∀ i, wr.cell? ⟨g, i, none⟩ = _ := fun i => (HF3.out.below.cell (p := ⟨g, i, none⟩) hgN).trans (HG.out i)
    have hgw : g < wr.heap.size := Nat.lt_of_lt_of_le hgN HF3.out.le
    by_cases hlt : k < i
    ·have hk1 : (k : Int) < i := by omega
     have e0 : wr.cell? ⟨ge, k, none⟩ = some (.int .i64 (el.getD k 0)) := (HBe3.out.cell k).trans (zbb hlt)
     obtain ⟨s, hs⟩ : ∃ s, el.getD k 0 = s := ⟨_, rfl⟩
     have HS := Hd hs
     rw [hs] at e0
     clear hs
     by_cases hcs : J.chip.stages ≤ s
     ·have hcs' : decide (J.chip.stages ≤ s) = true := decide_eq_true hcs
      have HL2 := Hd (show J.m.lates = true by
       rw [HLa.out, List.any_eq_true]
       exact ⟨s, by rw [← HS.out]; simp [List.getD, List.getElem?_eq_getElem (show k < el.length by rw [HEl.out]; exact hlt)], hcs'⟩)
      have HV := Hd (show ob = (17, zgc J.m.deps) by rw [← HOb.out]; unfold JobM.obst; rw [HB.out, HL2.out]; rfl)
      have hcon := critical_any J.ds wr (HF3.out.job HJ.out).ds (by rw [HN2.out]; exact hn)
      rw [HN2.out, show J.ds.rows = J.m.deps from rfl] at hcon
      have HCon := Hd hcon
      clear hcon
      go_wp2_with fail
      with_reducible refine HCon.out.mono ?_
      rintro e w4 ⟨⟨A, c, rfl, hO⟩, hb4⟩
      have HO := Hd hO
      have HF4 := Hd (HF3.out.call hb4)
      have HNw := Hd HF3.out.le
      clear hO hb4 HCon v0 hgw e0
      go_wp2_with fail
      go_returns
      rw [HV.out]
      exact ⟨⟨A, c, rfl, Own.rebase HO.out HNw.out⟩, HF4.out.below⟩
     ·have hcs' : decide (J.chip.stages ≤ s) = false := decide_eq_false hcs
      go_wp2_with fail
      go_roundw
      case rel => exact ⟨k + 1, by omega, by go_num, fun q hq => by
       rcases Nat.lt_succ_iff_lt_or_eq.1 hq with h | h
       ·exact HAl3.out q h
       ·rw [h, HS.out]; exact hcs', HBe3.out, HF3.out⟩
      case measure => simp [intOf]; omega
    ·obtain rfl : k = i := by omega
     clear hlt
     have HL2 := Hd (show J.m.lates = false by
      rw [HLa.out]
      exact any_getD_no fun q hq => HAl3.out q (by rw [HEl.out] at hq; exact hq))
     have HV := Hd (show ob = (0, []) by rw [← HOb.out]; unfold JobM.obst; rw [HB.out, HL2.out]; rfl)
     go_wp2_with fail
     go_returns
     rw [HV.out]
     exact ⟨⟨none, 0, rfl, OwnZ.none_ _ _⟩, HF3.out.below⟩
end Go.Proofs.YtakgiamhdpgoeaaGreat
