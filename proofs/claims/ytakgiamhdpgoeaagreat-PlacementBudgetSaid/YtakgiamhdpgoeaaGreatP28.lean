/- Lemmas. -/
import Derived.Test.YtakgiamhdpgoeaaGreatP24
set_option linter.unusedSimpArgs false
namespace Go.Proofs.YtakgiamhdpgoeaaGreat
open Go.RowKit
set_option linter.unusedVariables false
def eqZ (a b : List Int) : Bool := decide (a = b)
theorem eqZ_no {a b : List Int} {k : Nat} {x y : Int} (hx : a[k]? = some x) (hy : b[k]? = some y) (h : x ≠ y) : eqZ a b = false := by
 unfold eqZ
 refine decide_eq_false fun e => h ?_
 rw [e, hy] at hx
 injection hx with hx
 exact hx.symm
theorem eqZ_yes {a b : List Int} (hl : a.length = b.length) (h : ∀ (k : Nat) (x y : Int), k < a.length → a[k]? = some x → b[k]? = some y → x = y) : eqZ a b = true := by
 unfold eqZ
 refine decide_eq_true (List.ext_getElem? fun k => ?_)
 by_cases hk : k < a.length
 ·obtain ⟨x, hx⟩ : ∃ x, a[k]? = some x := ⟨_, List.getElem?_eq_getElem hk⟩
  obtain ⟨y, hy⟩ : ∃ y, b[k]? = some y := ⟨_, List.getElem?_eq_getElem (by omega)⟩
  rw [hx, hy, h k x y hk hx hy]
 ·rw [List.getElem?_eq_none (by omega), List.getElem?_eq_none (by omega)]
set_option maxRecDepth 100000 in
set_option maxHeartbeats 2000000 in
theorem zxe {ok ok' : Int → Prop} (a b : SL Int) (w : World) (hA : SLR w w.heap.size 1 intE ok a) (hB : SLR w w.heap.size 1 intE ok' b) :
  Calls Tryz.prog 26 #[.slice a.a a.l.length a.c, .slice b.a b.l.length b.c] w fun e w' => e = .returned (.bool (eqZ a.l b.l)) ∧ Below w.heap.size w w' := by
 obtain ⟨N, hN⟩ : ∃ N, w.heap.size = N := ⟨_, rfl⟩
 rw [hN] at hA hB ⊢
 have F0 := Fr.start w
 rw [hN] at F0
 have HF0 := Hd F0
 have HA := Hd hA
 have HB := Hd hB
 have hal := hA.len
 have hbl := hB.len
 obtain ⟨aa, ac, al⟩ := a
 obtain ⟨ba, bc, bl⟩ := b
 simp only at hal hbl ⊢
 clear hA hB F0
 by_cases c0 : al.length = bl.length
 ·have c0' : ((al.length : Int) != bl.length) = false := by simp [c0]
  have HC0 := Hd c0
  clear c0
  go_enter Tryz.func26, Tryz.ntmps26
  go_wp2_with fail
  go_loopw [5] (fun i' wr => ∃ k : Nat, k ≤ al.length ∧ i' = .int .i64 k ∧ (∀ (j : Nat) (x y : Int), j < k → al[j]? = some x → bl[j]? = some y → x = y) ∧ Fr N w wr []) (fun i' _ => al.length - (intOf i').toNat)
  case atStart => exact ⟨0, Nat.zero_le _, rfl, fun j x y hj => absurd hj (by omega), HF0.out⟩
  case round =>
   obtain ⟨k, hk, rfl, hall, F⟩ := hrel
   have HAl := Hd hall
   have HF := Hd F
   clear F hall
   by_cases hlt : k < al.length
   ·obtain ⟨b2, off2, x, hA2, hb2, hx, _, hc2⟩ := HF.out.at_ HA.out zna (by omega) hlt
    obtain ⟨b3, off3, y, hA3, hb3, hy, _, hc3⟩ := HF.out.at_ HB.out zna (by omega) (show k < bl.length by have := HC0.out; omega)
    have p0 := hc2 0 _ rfl
    have p1 := hc3 0 _ rfl
    simp only [Nat.add_zero, Nat.mul_one] at p0 p1
    simp only at hA2 hA3
    have HX := Hd hx
    have HY := Hd hy
    have hk1 : (k : Int) < al.length := by omega
    have hk2 : (k : Int) < bl.length := by have := HC0.out; omega
    subst hA2 hA3
    clear hc2 hx hc3 hy
    have hb2' : b2 < wr.heap.size := Nat.lt_of_lt_of_le hb2 HF.out.le
    have hb3' : b3 < wr.heap.size := Nat.lt_of_lt_of_le hb3 HF.out.le
    by_cases c1 : x = y
    ·have c1' : (x != y) = false := by simp [c1]
     have HE := Hd c1
     clear c1
     go_wp2_with fail
     have hcl : ∀ (p : Ab wr.heap.size wr) (b i : Nat), b < wr.heap.size → p.u.cell? ⟨b, i, none⟩ = wr.cell? ⟨b, i, none⟩ := fun p b i h => p.h.cell (p := ⟨b, i, none⟩) h
     refine zia wr.heap.size wr (by kernel_rfl) (by kernel_rfl) (Below.refl _ _) ?_
     repeat (first
      | go_big_quiet_step ((fail)))
     refine wpQuiet_nil ?_
     intro u hw'
     obtain ⟨pu, hpu⟩ := hw'
     have hu := pu.h
     rw [← hpu] at hu
     clear hcl hpu
     clear pu
     have HFu := Hd (HF.out.call hu)
     clear hu
     go_wp2_with fail
     go_roundw
     case rel => exact ⟨k + 1, by omega, by go_num, fun j x' y' hj hx' hy' => by
      rcases Nat.lt_succ_iff_lt_or_eq.1 hj with h | h
      ·exact HAl.out j x' y' h hx' hy'
      ·rw [h, HX.out] at hx'; rw [h, HY.out] at hy'; injection hx' with hx'; injection hy' with hy'; rw [← hx', ← hy']; exact HE.out, HFu.out⟩
     case measure => simp [intOf]; omega
    ·have c1' : (x != y) = true := by simp [c1]
     have HV := Hd (eqZ_no HX.out HY.out c1)
     clear c1
     go_wp2_with fail
     have hcl : ∀ (p : Ab wr.heap.size wr) (b i : Nat), b < wr.heap.size → p.u.cell? ⟨b, i, none⟩ = wr.cell? ⟨b, i, none⟩ := fun p b i h => p.h.cell (p := ⟨b, i, none⟩) h
     refine zia wr.heap.size wr (by kernel_rfl) (by kernel_rfl) (Below.refl _ _) ?_
     repeat (first
      | go_big_quiet_step ((fail)))
     refine wpQuiet_nil ?_
     intro u hw'
     obtain ⟨pu, hpu⟩ := hw'
     have hu := pu.h
     rw [← hpu] at hu
     clear hcl hpu
     clear pu
     have HFu := Hd (HF.out.call hu)
     clear hu
     go_wp2_with fail
     go_returns
     exact ⟨by rw [HV.out]; try rfl, HFu.out.below⟩
   ·obtain rfl : k = al.length := by omega
    have HV := Hd (eqZ_yes HC0.out HAl.out)
    clear hlt
    go_wp2_with fail
    go_returns
    exact ⟨by rw [HV.out]; try rfl, HF.out.below⟩
 ·have c0' : ((al.length : Int) != bl.length) = true := by simp; omega
  have HV := Hd (show eqZ al bl = false by unfold eqZ; exact decide_eq_false fun e => c0 (by rw [e]))
  go_enter Tryz.func26, Tryz.ntmps26
  go_wp2_with fail
  go_returns
  exact ⟨by rw [HV.out]; try rfl, HF0.out.below⟩
abbrev zRa (s : Int) : ChipD := ⟨s, 4, 4, 8, 8, 8, 8, 8⟩
theorem zld (s : Int) (w : World) : Calls Tryz.prog 15 #[.int .i64 s] w fun e w' => e = .returned (chipV (zRa s)) ∧ Below w.heap.size w w' := by
 go_enter Tryz.func15, Tryz.ntmps15
 go_wp2_with fail
 go_returns
 exact ⟨rfl, by (first | (refine zca ?_ _; go_grown; done) | (go_grown; done))⟩
open Go.RowKit
def eStep (D : List (List Int)) (out : List Int) (j : Nat) (m : Int) (i : Nat) : Int := if kindM D i j = 2 then max m (out.getD i 0 + 1) else if kindM D i j = 1 then max m (out.getD i 0) else m
def ePart (D : List (List Int)) (out : List Int) (j i : Nat) : Int := (List.range i).foldl (eStep D out j) 0
def zfd (D : List (List Int)) : Nat → List Int
 | 0 => []
 | j + 1 => zfd D j ++ [ePart D (zfd D j) j j]
theorem zWb (D : List (List Int)) (j : Nat) : (zfd D j).length = j := by
 induction j with
 | zero => rfl
 | succ j ih => rw [zfd, List.length_append, ih]; rfl
theorem ePart_succ (D : List (List Int)) (out : List Int) (j i : Nat) : ePart D out j (i + 1) = eStep D out j (ePart D out j i) i := by
 unfold ePart
 rw [List.range_succ, List.foldl_append]
 rfl
theorem ePart_bd {D : List (List Int)} {out : List Int} {B : Int} (h : ∀ k, 0 ≤ out.getD k 0 ∧ out.getD k 0 ≤ B) (j : Nat) : ∀ i, 0 ≤ ePart D out j i ∧ ePart D out j i ≤ B + 1 := by
 intro i
 induction i with
 | zero => have := h 0; unfold ePart; simp; omega
 | succ i ih =>
  rw [ePart_succ]
  have := h i
  unfold eStep
  split
  ·omega
  ·split <;> omega
theorem earlyD_bd (D : List (List Int)) (j : Nat) : ∀ k, 0 ≤ (zfd D j).getD k 0 ∧ (zfd D j).getD k 0 ≤ j := by
 induction j with
 | zero => intro k; simp [zfd]
 | succ j ih =>
  intro k
  rw [zfd]
  by_cases hk : k < j
  ·rw [zke (by rw [zWb]; exact hk)]
   have := ih k
   omega
  ·by_cases hk2 : k = j
   ·rw [zzd (by rw [zWb]; exact hk2)]
    have := ePart_bd (D := D) ih j j
    omega
   ·rw [zBc (by simp [zWb]; omega)]
    omega
theorem earlyD_succ (D : List (List Int)) (j k : Nat) : (zfd D (j + 1)).getD k 0 = if k = j then ePart D (zfd D j) j j else (zfd D j).getD k 0 := by
 rw [zfd]
 by_cases hk2 : k = j
 ·rw [if_pos hk2, zzd (by rw [zWb]; exact hk2)]
 ·rw [if_neg hk2]
  by_cases hk : k < j
  ·rw [zke (by rw [zWb]; exact hk)]
  ·rw [zBc (by simp [zWb]; omega), zBc (by rw [zWb]; omega)]
abbrev rowZ (n : Nat) (f : Nat → Int) : Array Value := rowF n fun k => .int .i64 (f k)
theorem rowZ_set {n i : Nat} {f : Nat → Int} {v : Int} : (rowZ n f).setIfInBounds i (.int .i64 v) = rowZ n (fun k => if k = i then v else f k) := by
 rw [zXc]
 refine zDa fun k _ => ?_
 by_cases h : k = i <;> simp [h]
theorem made_ints (n : Nat) : madeCells (Value.int .i64 0).cells (n * 1) = rowZ n (fun _ => 0) := by
 apply Array.ext
 ·simp [madeCells, rowF]
 ·intro k h1 h2
  simp [madeCells, rowF, Value.cells, Nat.mod_one]
theorem zRe (n : Nat) (hn : n ≤ 1000000) (w : World) : (Instr.makeSlice 29 (.int .i64 n) (.int .i64 n)).run Tryz.prog w = .ok (.slice (some ⟨w.heap.size, 0, none⟩) n n) (w.alloc (.cells (rowZ n fun _ => 0) 3)) := by
 obtain ⟨i0, hi, hz0, hz1, hz2⟩ := info_parts infoInt
 have := run_makeSlice (P := Tryz.prog) w 29 3 i0 _ Tryz.underlying29 hi hz0 .i64 .i64 n n (by omega) (Int.le_refl _) (by rw [hz1]; simp; omega) (by rw [hz2]; omega) (by omega)
 rw [hz1, Int.toNat_natCast, made_ints] at this
 exact this
set_option maxRecDepth 100000 in
set_option maxHeartbeats 4000000 in
theorem earliest_any (d : SL (SL Int)) (w : World) (hS : MatR w w.heap.size d) (hn : d.l.length ≤ 1000) :
  Calls Tryz.prog 37 #[.slice d.a d.l.length d.c] w fun e w' => (∃ g, e = .returned (.slice (some ⟨g, 0, none⟩) d.l.length d.l.length) ∧ Blk w' g 3 (rowZ d.l.length fun k => (zfd d.rows d.l.length).getD k 0)) ∧ Below w.heap.size w w' := by
 obtain ⟨N, hN⟩ : ∃ N, w.heap.size = N := ⟨_, rfl⟩
 rw [hN] at hS ⊢
 have F0 := Fr.start w
 rw [hN] at F0
 have HF0 := Hd F0
 have HS := Hd hS
 obtain ⟨da, dc, dl⟩ := d
 simp only at hn ⊢
 have hdl : dl.length ≤ 9223372036854775807 := by omega
 clear hS F0
 obtain ⟨D, hD⟩ : ∃ D, (⟨da, dc, dl⟩ : SL (SL Int)).rows = D := ⟨_, rfl⟩
 have HD := Hd hD
 rw [hD]
 clear hD
 have hmk := fun w => zRe dl.length (by omega) w
 go_enter Tryz.func37, Tryz.ntmps37
 go_wp2_with fail
 refine zfa ?_
 intro W hW
 have F1 := (HF0.out.alloc _ _).of_eq hW
 simp only [hN] at F1 ⊢
 have HF1 := Hd F1
 clear F1 hW hmk
 go_loopw [11] (fun i' wr => ∃ j : Nat, j ≤ dl.length ∧ i' = .int .i64 j ∧ Fr N w wr [(N, 3, rowZ dl.length fun k => (zfd D j).getD k 0)]) (fun i' _ => dl.length - (intOf i').toNat)
 case atStart => exact ⟨0, Nat.zero_le _, rfl, by simpa [zfd] using HF1.out⟩
 case round =>
  obtain ⟨j, hj, rfl, F⟩ := hrel
  have HF := Hd F
  clear F
  by_cases hlt : j < dl.length
  ·have hj1 : (j : Int) < dl.length := by omega
   have hOb := earlyD_bd D j
   have HOs := Hd (earlyD_succ D j)
   obtain ⟨O, hO⟩ : ∃ O, zfd D j = O := ⟨_, rfl⟩
   rw [hO] at HF hOb HOs
   have HOb := Hd hOb
   have HOl := Hd (show O.getD j 0 = 0 by rw [← hO]; exact zBc (by rw [zWb]; omega))
   clear hO hOb
   go_wp2_with fail
   go_loopw [15] (fun i' wr2 => ∃ i : Nat, i ≤ j ∧ i' = .int .i64 i ∧ Fr N w wr2 [(N, 3, rowZ dl.length fun k => if k = j then ePart D O j i else O.getD k 0)]) (fun i' _ => j - (intOf i').toNat)
   case atStart =>
    refine ⟨0, Nat.zero_le _, rfl, ?_⟩
    have e : (rowZ dl.length fun k => if k = j then ePart D O j 0 else O.getD k 0) = rowZ dl.length fun k => O.getD k 0 := zDa fun k _ => by
     dsimp only
     by_cases h : k = j
     ·subst h; rw [if_pos rfl, HOl.out]; rfl
     ·rw [if_neg h]
    rw [e]
    exact HF.out
   case round =>
    obtain ⟨i, hi, rfl, F⟩ := hrel
    have HF2 := Hd F
    clear F
    by_cases hlt2 : i < j
    ·have hi1 : (i : Int) < j := by omega
     have hi2 : (i : Int) < dl.length := by omega
     have hpb := ePart_bd (D := D) HOb.out j i
     have hyb := HOb.out i
     have HSt := Hd (ePart_succ D O j i)
     go_wp2_with fail
     refine Calls.named ?_
     intro W4 hW4
     have HF4 := Hd (HF2.out.of_eq hW4)
     clear hW4
     with_reducible refine (kind_any ⟨da, dc, dl⟩ i j (by show i < dl.length; omega) W4 (HF4.out.mat HS.out)).mono ?_
     rintro e w5 ⟨rfl, rfl⟩
     rw [HD.out]
     obtain ⟨m, hm⟩ : ∃ m, ePart D O j i = m := ⟨_, rfl⟩
     obtain ⟨y, hy⟩ : ∃ y, O.getD i 0 = y := ⟨_, rfl⟩
     have hcj : W4.cell? ⟨N, j, none⟩ = some (.int .i64 m) := by
      rw [(HF4.out.blk _ (.head _)).2.cell j, zbb hlt]
      dsimp only
      rw [if_pos rfl, hm]
     have hci : W4.cell? ⟨N, i, none⟩ = some (.int .i64 y) := by
      rw [(HF4.out.blk _ (.head _)).2.cell i, zbb (by omega)]
      dsimp only
      rw [if_neg (by omega), hy]
     have hfz : W4.frozen? ⟨N, j, none⟩ = false := (HF4.out.blk _ (.head _)).2.frozen j
     have hNl : N < W4.heap.size := (HF4.out.blk _ (.head _)).2.lt
     rw [hm] at hpb
     rw [hy] at hyb
     obtain ⟨q, hq⟩ : ∃ q, kindM D i j = q := ⟨_, rfl⟩
     have hst := HSt.out
     unfold eStep at hst
     rw [hm, hy, hq] at hst
     have HSt2 := Hd hst
     rw [hq]
     have HM := Hd hm
     clear hm hy hq hst HSt
     have hne : ∀ x ∈ ([] : List (Nat × TypeId × Array Value)), x.1 ≠ N := fun x hx => absurd hx (by simp)
     by_cases k2 : q = 2
     ·subst k2
      have HS3 := Hd (HSt2.out.trans (if_pos rfl))
      obtain ⟨z, hz⟩ : ∃ z, (if m < y + 1 then y + 1 else m) = z := ⟨_, rfl⟩
      have HZ := Hd (show max m (y + 1) = z by rw [← hz]; split <;> omega)
      have hz2 : max m (y + 1) = z := HZ.out
      have HF9 := Hd (HF4.out.drew.set0 hne j (.int .i64 z))
      clear hne
      go_wp2_with fail
      refine wp_region_still_tail 13 (by kernel_rfl) (by kernel_rfl) ?_
      simp only [List.take_succ_cons, List.take_zero, List.drop_succ_cons, List.drop_zero]
      iterate 13 ((with_reducible refine wpStill_step (fun K hK => ?_)); go_simp; refine hK _ ?_; clear hK K)
      with_reducible refine wpStill_nil ?_
      change wpList _ _ _ _ _ W4.drew
      go_wp2_with fail
      go_roundw
      case rel => exact ⟨i + 1, by omega, by go_num, by
       have := HF9.out
       rw [rowZ_set] at this
       refine Eq.mp (congrArg (fun c => Fr N w _ [(N, _, c)]) (zDa fun k _ => ?_)) this
       dsimp only
       by_cases h : k = j
       ·simp only [h, if_true]; rw [HS3.out, HZ.out]
       ·simp only [if_neg h]⟩
      case measure => simp [intOf]; omega
     ·have k2' : (q == 2) = false := by simp [k2]
      by_cases k1 : q = 1
      ·subst k1
       have HS3 := Hd (HSt2.out.trans ((if_neg (by omega)).trans (if_pos rfl)))
       obtain ⟨z, hz⟩ : ∃ z, (if m < y then y else m) = z := ⟨_, rfl⟩
       have HZ := Hd (show max m y = z by rw [← hz]; split <;> omega)
       have hz2 : max m y = z := HZ.out
       have HF9 := Hd (HF4.out.drew.set0 hne j (.int .i64 z))
       clear hne
       go_wp2_with fail
       refine wp_region_still_tail 12 (by kernel_rfl) (by kernel_rfl) ?_
       simp only [List.take_succ_cons, List.take_zero, List.drop_succ_cons, List.drop_zero]
       iterate 12 ((with_reducible refine wpStill_step (fun K hK => ?_)); go_simp; refine hK _ ?_; clear hK K)
       with_reducible refine wpStill_nil ?_
       change wpList _ _ _ _ _ W4.drew
       go_wp2_with fail
       go_roundw
       case rel => exact ⟨i + 1, by omega, by go_num, by
        have := HF9.out
        rw [rowZ_set] at this
        refine Eq.mp (congrArg (fun c => Fr N w _ [(N, _, c)]) (zDa fun k _ => ?_)) this
        dsimp only
        by_cases h : k = j
        ·simp only [h, if_true]; rw [HS3.out, HZ.out]
        ·simp only [if_neg h]⟩
       case measure => simp [intOf]; omega
      ·have k1' : (q == 1) = false := by simp [k1]
       have HS3 := Hd (HSt2.out.trans ((if_neg k2).trans (if_neg k1)))
       go_wp2_with fail
       go_roundw
       case rel => exact ⟨i + 1, by omega, by go_num, by
        refine Eq.mp (congrArg (fun c => Fr N w _ [(N, _, c)]) (zDa fun k _ => ?_)) HF4.out
        dsimp only
        by_cases h : k = j
        ·simp only [h, if_true]; rw [HS3.out, HM.out]
        ·simp only [if_neg h]⟩
       case measure => simp [intOf]; omega
    ·obtain rfl : i = j := by omega
     clear hlt2
     go_wp2_with fail
     go_roundw
     case rel => exact ⟨i + 1, by omega, by go_num, by
      refine Eq.mp (congrArg (fun c => Fr N w _ [(N, _, c)]) (zDa fun k _ => ?_)) HF2.out
      dsimp only
      rw [HOs.out k]⟩
     case measure => simp [intOf]; omega
  ·obtain rfl : j = dl.length := by omega
   clear hlt
   go_wp2_with fail
   go_returns
   exact ⟨⟨N, rfl, (HF.out.blk _ (.head _)).2⟩, HF.out.below⟩
open Go.ChangeShapes Go.WideShapes Go.ChangeAt Go.RowKit Go.Deep
theorem i64_of {n : Int} (h : (Lit.int .i64 n).wf = true) : I64 n := by
 simp [Lit.wf, IntKind.min, IntKind.max, IntKind.signed, IntKind.bits] at h
 unfold I64
 omega
theorem u32_of {n : Int} (h : (Lit.int .u32 n).wf = true) : U32 n := by
 simp [Lit.wf, IntKind.min, IntKind.max, IntKind.signed, IntKind.bits] at h
 unfold U32
 omega
theorem piece {α : Type} {xs : List α} {o : Option α} {i k : Nat} (hx : xs.length = k) (hi : i < k) (h : o = xs[i]?) : ∃ x, o = some x := by
 subst hx
 rw [List.getElem?_eq_getElem hi] at h
 exact ⟨_, h⟩
theorem flat_inv {α : Type} {enc : α → List Value} {size : Nat} (h : ∀ x, (enc x).length = size) : ∀ {l : List α} {j : Nat} {u : Value}, (l.flatMap enc)[j]? = some u → ∃ k y i, l[k]? = some y ∧ (enc y)[i]? = some u ∧ j = k * size + i
 | [], j, u, hu => by simp at hu
 | x :: l, j, u, hu => by
  rw [List.flatMap_cons] at hu
  by_cases hj : j < size
  ·rw [List.getElem?_append_left (by rw [h]; exact hj)] at hu
   exact ⟨0, x, j, rfl, hu, by omega⟩
  ·rw [List.getElem?_append_right (by rw [h]; omega), h] at hu
   obtain ⟨k, y, i, h1, h2, h3⟩ := flat_inv h hu
   exact ⟨k + 1, y, i, h1, h2, by rw [Nat.add_mul]; omega⟩
theorem len_2 {cs : List Value} (h : cs.length = 2) : ∃ c0 c1, cs = [c0, c1] := by
 match cs, h with
 | [c0, c1], _ => exact ⟨c0, c1, rfl⟩
theorem len_3 {cs : List Value} (h : cs.length = 3) : ∃ c0 c1 c2, cs = [c0, c1, c2] := by
 match cs, h with
 | [c0, c1, c2], _ => exact ⟨c0, c1, c2, rfl⟩
theorem len_5 {cs : List Value} (h : cs.length = 5) : ∃ c0 c1 c2 c3 c4, cs = [c0, c1, c2, c3, c4] := by
 match cs, h with
 | [c0, c1, c2, c3, c4], _ => exact ⟨c0, c1, c2, c3, c4, rfl⟩
theorem len_6 {cs : List Value} (h : cs.length = 6) : ∃ c0 c1 c2 c3 c4 c5, cs = [c0, c1, c2, c3, c4, c5] := by
 match cs, h with
 | [c0, c1, c2, c3, c4, c5], _ => exact ⟨c0, c1, c2, c3, c4, c5, rfl⟩
theorem len_7 {cs : List Value} (h : cs.length = 7) : ∃ c0 c1 c2 c3 c4 c5 c6, cs = [c0, c1, c2, c3, c4, c5, c6] := by
 match cs, h with
 | [c0, c1, c2, c3, c4, c5, c6], _ => exact ⟨c0, c1, c2, c3, c4, c5, c6, rfl⟩
theorem len_8 {cs : List Value} (h : cs.length = 8) : ∃ c0 c1 c2 c3 c4 c5 c6 c7, cs = [c0, c1, c2, c3, c4, c5, c6, c7] := by
 match cs, h with
 | [c0, c1, c2, c3, c4, c5, c6, c7], _ => exact ⟨c0, c1, c2, c3, c4, c5, c6, c7, rfl⟩
theorem len_9 {cs : List Value} (h : cs.length = 9) : ∃ c0 c1 c2 c3 c4 c5 c6 c7 c8, cs = [c0, c1, c2, c3, c4, c5, c6, c7, c8] := by
 match cs, h with
 | [c0, c1, c2, c3, c4, c5, c6, c7, c8], _ => exact ⟨c0, c1, c2, c3, c4, c5, c6, c7, c8, rfl⟩
section
variable {H : Type} {enc : TypeId × Value → H} {w : World} {base : Nat} {spare : Nat → Bool} {held : Bool}
theorem zwb {t e : TypeId} {size : Nat} {α : Type} {enc' : α → List Value} {ok : α → Prop} (ht : Tryz.prog.underlying t = some (.slice e)) (hc : Tryz.prog.cellsOf e = size) (hs : 0 < size) (hl : ∀ x, (enc' x).length = size)
  {fuel : Nat} {cs : List Value} {x : DataW H × List MemPlace} (h : DataW.trod enc Tryz.prog w base spare held fuel t cs = some x)
  (hE : ∀ n cs x, n < fuel → DataW.trod enc Tryz.prog w base spare held n e cs = some x → ∃ y : α, cs = enc' y ∧ ok y) :
  ∃ s : SL α, cs = [.slice s.a s.l.length s.c] ∧ SLR w w.heap.size size enc' ok s := by
 rcases DataW.trod_slice ht h with ⟨rfl, _⟩ | ⟨a, len, cap, elems, rest, n, rfl, rfl, _, _, hle, hcap, hlen, hel, _, _⟩
 ·exact ⟨⟨none, 0, []⟩, rfl, SLR.nil_ _⟩
 ·rw [hc] at hel
  have each : ∀ m, m ≤ len → ∃ l : List α, l.length = m ∧ ∀ i y, l[i]? = some y → ok y ∧ ∀ j v, (enc' y)[j]? = some v → w.cell? (a.add (i * size + j)) = some v := by
   intro m
   induction m with
   | zero => intro _; exact ⟨[], rfl, fun i y hy => by simp at hy⟩
   | succ m ih =>
    intro hm
    obtain ⟨l, h1, h2⟩ := ih (by omega)
    have h3 := hel m (by omega)
    rw [List.getElem?_eq_getElem (by omega)] at h3
    cases hcs : w.cells? base (a.add (m * size)) size with
    | none => rw [hcs] at h3; simp at h3
    | some cs' =>
     rw [hcs] at h3
     obtain ⟨y, rfl, hy⟩ := hE n cs' _ (Nat.lt_succ_self _) h3
     obtain ⟨_, _, hcell⟩ := World.cells?_some hcs
     refine ⟨l ++ [y], by simp [h1], fun i z hz => ?_⟩
     by_cases hi : i < m
     ·rw [List.getElem?_append_left (by omega)] at hz
      exact h2 i z hz
     ·have hi2 : i = m := by
       have := (List.getElem?_eq_some_iff.1 hz).1
       simp at this
       omega
      subst hi2
      rw [List.getElem?_append_right (by omega), h1] at hz
      simp at hz
      subst hz
      refine ⟨hy, fun j v hv => ?_⟩
      have hj : j < size := by have := (List.getElem?_eq_some_iff.1 hv).1; rw [hl] at this; exact this
      have := hcell j hj
      rw [Go.Proofs.YtakgiamhdpgoeaaGreat.add_add] at this
      exact this.trans hv
  obtain ⟨l, h1, h2⟩ := each len (Nat.le_refl _)
  have hflat : ∀ j u, (l.flatMap enc')[j]? = some u → w.cell? (a.add j) = some u := by
   intro j u hu
   obtain ⟨k, y, i, g1, g2, g3⟩ := flat_inv hl hu
   rw [g3]
   exact (h2 k y g1).2 i u g2
  refine ⟨⟨some a, cap, l⟩, by show _ = [Value.slice (some a) l.length cap]; rw [h1], by show l.length ≤ cap; omega, hcap, ⟨zyb hl l, fun hn => ⟨a, rfl, ?_, hflat⟩⟩, fun y hy => ?_⟩
  ·show a.block < w.heap.size
   obtain ⟨y, hy⟩ : ∃ y, l[0]? = some y := ⟨_, List.getElem?_eq_getElem hn⟩
   obtain ⟨v, hv⟩ : ∃ v, (enc' y)[0]? = some v := ⟨_, List.getElem?_eq_getElem (by rw [hl]; exact hs)⟩
   have := World.block_lt_of_cell? _ _ ((h2 0 y hy).2 0 v hv)
   rwa [zMe] at this
  ·obtain ⟨i, hi, rfl⟩ := List.mem_iff_getElem.1 hy
   exact (h2 i _ (List.getElem?_eq_getElem hi)).1
theorem zza {n : Nat} {cs : List Value} {x : DataW H × List MemPlace} (h : DataW.trod enc Tryz.prog w base spare held n 3 cs = some x) : ∃ y : Int, cs = intE y ∧ I64 y := by
 obtain ⟨y, rfl, _, hw⟩ := DataW.trod_int Tryz.underlying3 h
 exact ⟨y, rfl, i64_of hw⟩
theorem u32_open {n : Nat} {cs : List Value} {x : DataW H × List MemPlace} (h : DataW.trod enc Tryz.prog w base spare held n 162 cs = some x) : ∃ y : Int, cs = u32E y ∧ U32 y := by
 obtain ⟨y, rfl, _, hw⟩ := DataW.trod_int Tryz.underlying162 h
 exact ⟨y, rfl, u32_of hw⟩
theorem fr_open {n : Nat} {cs : List Value} {x : DataW H × List MemPlace} (h : DataW.trod enc Tryz.prog w base spare held n 82 cs = some x) : ∃ a b : Int, cs = [.int .i64 a, .int .i64 b] ∧ I64 a ∧ I64 b := by
 obtain ⟨xs, n', hfu, _, hlen, hxs, hf⟩ := DataW.trod_struct Tryz.underlying82 h
 have hx : xs.length = 2 := hxs
 have hc : cs.length = 2 := hlen.trans (by kernel_rfl)
 obtain ⟨c0, c1, rfl⟩ := len_2 hc
 obtain ⟨x0, h0⟩ := piece hx (by omega) (hf 0 _ rfl)
 have e0 : Tryz.prog.cellsOf 3 = 1 := by kernel_rfl
 change DataW.trod enc Tryz.prog w base spare held n' 3 (([c0, c1].drop 0).take (Tryz.prog.cellsOf 3)) = some x0 at h0
 rw [e0] at h0
 change DataW.trod enc Tryz.prog w base spare held n' 3 [c0] = some x0 at h0
 obtain ⟨v0, q0, w0⟩ := zza h0
 unfold intE at q0
 injection q0 with q0
 obtain ⟨x1, h1⟩ := piece hx (by omega) (hf 1 _ rfl)
 have e1 : Tryz.prog.cellsOf 3 = 1 := by kernel_rfl
 change DataW.trod enc Tryz.prog w base spare held n' 3 (([c0, c1].drop 1).take (Tryz.prog.cellsOf 3)) = some x1 at h1
 rw [e1] at h1
 change DataW.trod enc Tryz.prog w base spare held n' 3 [c1] = some x1 at h1
 obtain ⟨v1, q1, w1⟩ := zza h1
 unfold intE at q1
 injection q1 with q1
 subst q0 q1
 exact ⟨v0, v1, rfl, w0, w1⟩
theorem call_open {n : Nat} {cs : List Value} {x : DataW H × List MemPlace} (h : DataW.trod enc Tryz.prog w base spare held n 78 cs = some x) : ∃ (a : Int) (s : SL Int), cs = [.int .i64 a, .slice s.a s.l.length s.c] ∧ I64 a ∧ SLR w w.heap.size 1 u32E U32 s := by
 obtain ⟨xs, n', hfu, _, hlen, hxs, hf⟩ := DataW.trod_struct Tryz.underlying78 h
 have hx : xs.length = 2 := hxs
 have hc : cs.length = 2 := hlen.trans (by kernel_rfl)
 obtain ⟨c0, c1, rfl⟩ := len_2 hc
 obtain ⟨x0, h0⟩ := piece hx (by omega) (hf 0 _ rfl)
 have e0 : Tryz.prog.cellsOf 3 = 1 := by kernel_rfl
 change DataW.trod enc Tryz.prog w base spare held n' 3 (([c0, c1].drop 0).take (Tryz.prog.cellsOf 3)) = some x0 at h0
 rw [e0] at h0
 change DataW.trod enc Tryz.prog w base spare held n' 3 [c0] = some x0 at h0
 obtain ⟨v0, q0, w0⟩ := zza h0
 unfold intE at q0
 injection q0 with q0
 obtain ⟨x1, h1⟩ := piece hx (by omega) (hf 1 _ rfl)
 have e1 : Tryz.prog.cellsOf 76 = 1 := by kernel_rfl
 change DataW.trod enc Tryz.prog w base spare held n' 76 (([c0, c1].drop 1).take (Tryz.prog.cellsOf 76)) = some x1 at h1
 rw [e1] at h1
 change DataW.trod enc Tryz.prog w base spare held n' 76 [c1] = some x1 at h1
 obtain ⟨v1, q1, w1⟩ := zwb (size := 1) Tryz.underlying76 (by kernel_rfl) (by omega) (fun _ => rfl) h1 (fun _ _ _ _ h => u32_open h)
 injection q1 with q1
 subst q0 q1
 exact ⟨v0, v1, rfl, w0, w1⟩
theorem fld_open {n : Nat} {cs : List Value} {x : DataW H × List MemPlace} (h : DataW.trod enc Tryz.prog w base spare held n 88 cs = some x) : ∃ y : FldD, cs = FldD.enc y ∧ FldD.ok y := by
 obtain ⟨xs, n', hfu, _, hlen, hxs, hf⟩ := DataW.trod_struct Tryz.underlying88 h
 have hx : xs.length = 2 := hxs
 have hc : cs.length = 2 := hlen.trans (by kernel_rfl)
 obtain ⟨c0, c1, rfl⟩ := len_2 hc
 obtain ⟨x0, h0⟩ := piece hx (by omega) (hf 0 _ rfl)
 have e0 : Tryz.prog.cellsOf 9 = 1 := by kernel_rfl
 change DataW.trod enc Tryz.prog w base spare held n' 9 (([c0, c1].drop 0).take (Tryz.prog.cellsOf 9)) = some x0 at h0
 rw [e0] at h0
 change DataW.trod enc Tryz.prog w base spare held n' 9 [c0] = some x0 at h0
 obtain ⟨v0, q0, _, w0⟩ := DataW.trod_string Tryz.underlying9 h0
 injection q0 with q0
 obtain ⟨x1, h1⟩ := piece hx (by omega) (hf 1 _ rfl)
 have e1 : Tryz.prog.cellsOf 3 = 1 := by kernel_rfl
 change DataW.trod enc Tryz.prog w base spare held n' 3 (([c0, c1].drop 1).take (Tryz.prog.cellsOf 3)) = some x1 at h1
 rw [e1] at h1
 change DataW.trod enc Tryz.prog w base spare held n' 3 [c1] = some x1 at h1
 obtain ⟨v1, q1, w1⟩ := zza h1
 unfold intE at q1
 injection q1 with q1
 subst q0 q1
 exact ⟨⟨v0, v1⟩, rfl, w0, w1⟩
theorem hdr_open {n : Nat} {cs : List Value} {x : DataW H × List MemPlace} (h : DataW.trod enc Tryz.prog w base spare held n 118 cs = some x) : ∃ y : HdrD, cs = HdrD.enc y ∧ HdrD.ok w w.heap.size y := by
 obtain ⟨xs, n', hfu, _, hlen, hxs, hf⟩ := DataW.trod_struct Tryz.underlying118 h
 have hx : xs.length = 2 := hxs
 have hc : cs.length = 2 := hlen.trans (by kernel_rfl)
 obtain ⟨c0, c1, rfl⟩ := len_2 hc
 obtain ⟨x0, h0⟩ := piece hx (by omega) (hf 0 _ rfl)
 have e0 : Tryz.prog.cellsOf 9 = 1 := by kernel_rfl
 change DataW.trod enc Tryz.prog w base spare held n' 9 (([c0, c1].drop 0).take (Tryz.prog.cellsOf 9)) = some x0 at h0
 rw [e0] at h0
 change DataW.trod enc Tryz.prog w base spare held n' 9 [c0] = some x0 at h0
 obtain ⟨v0, q0, _, w0⟩ := DataW.trod_string Tryz.underlying9 h0
 injection q0 with q0
 obtain ⟨x1, h1⟩ := piece hx (by omega) (hf 1 _ rfl)
 have e1 : Tryz.prog.cellsOf 23 = 1 := by kernel_rfl
 change DataW.trod enc Tryz.prog w base spare held n' 23 (([c0, c1].drop 1).take (Tryz.prog.cellsOf 23)) = some x1 at h1
 rw [e1] at h1
 change DataW.trod enc Tryz.prog w base spare held n' 23 [c1] = some x1 at h1
 obtain ⟨v1, q1, w1⟩ := zwb (size := 2) Tryz.underlying23 (by kernel_rfl) (by omega) zFb h1 (fun _ _ _ _ h => fld_open h)
 injection q1 with q1
 subst q0 q1
 exact ⟨⟨v0, v1⟩, rfl, w0, w1⟩
theorem reg_open {n : Nat} {cs : List Value} {x : DataW H × List MemPlace} (h : DataW.trod enc Tryz.prog w base spare held n 120 cs = some x) : ∃ y : RegD, cs = RegD.enc y ∧ RegD.ok y := by
 obtain ⟨xs, n', hfu, _, hlen, hxs, hf⟩ := DataW.trod_struct Tryz.underlying120 h
 have hx : xs.length = 3 := hxs
 have hc : cs.length = 3 := hlen.trans (by kernel_rfl)
 obtain ⟨c0, c1, c2, rfl⟩ := len_3 hc
 obtain ⟨x0, h0⟩ := piece hx (by omega) (hf 0 _ rfl)
 have e0 : Tryz.prog.cellsOf 9 = 1 := by kernel_rfl
 change DataW.trod enc Tryz.prog w base spare held n' 9 (([c0, c1, c2].drop 0).take (Tryz.prog.cellsOf 9)) = some x0 at h0
 rw [e0] at h0
 change DataW.trod enc Tryz.prog w base spare held n' 9 [c0] = some x0 at h0
 obtain ⟨v0, q0, _, w0⟩ := DataW.trod_string Tryz.underlying9 h0
 injection q0 with q0
 obtain ⟨x1, h1⟩ := piece hx (by omega) (hf 1 _ rfl)
 have e1 : Tryz.prog.cellsOf 3 = 1 := by kernel_rfl
 change DataW.trod enc Tryz.prog w base spare held n' 3 (([c0, c1, c2].drop 1).take (Tryz.prog.cellsOf 3)) = some x1 at h1
 rw [e1] at h1
 change DataW.trod enc Tryz.prog w base spare held n' 3 [c1] = some x1 at h1
 obtain ⟨v1, q1, w1⟩ := zza h1
 unfold intE at q1
 injection q1 with q1
 obtain ⟨x2, h2⟩ := piece hx (by omega) (hf 2 _ rfl)
 have e2 : Tryz.prog.cellsOf 3 = 1 := by kernel_rfl
 change DataW.trod enc Tryz.prog w base spare held n' 3 (([c0, c1, c2].drop 2).take (Tryz.prog.cellsOf 3)) = some x2 at h2
 rw [e2] at h2
 change DataW.trod enc Tryz.prog w base spare held n' 3 [c2] = some x2 at h2
 obtain ⟨v2, q2, w2⟩ := zza h2
 unfold intE at q2
 injection q2 with q2
 subst q0 q1 q2
 exact ⟨⟨v0, v1, v2⟩, rfl, w0, w1, w2⟩
theorem ex_open {n : Nat} {cs : List Value} {x : DataW H × List MemPlace} (h : DataW.trod enc Tryz.prog w base spare held n 90 cs = some x) : ∃ y : ExD, cs = ExD.enc y ∧ ExD.ok y := by
 obtain ⟨xs, n', hfu, _, hlen, hxs, hf⟩ := DataW.trod_struct Tryz.underlying90 h
 have hx : xs.length = 3 := hxs
 have hc : cs.length = 3 := hlen.trans (by kernel_rfl)
 obtain ⟨c0, c1, c2, rfl⟩ := len_3 hc
 obtain ⟨x0, h0⟩ := piece hx (by omega) (hf 0 _ rfl)
 have e0 : Tryz.prog.cellsOf 3 = 1 := by kernel_rfl
 change DataW.trod enc Tryz.prog w base spare held n' 3 (([c0, c1, c2].drop 0).take (Tryz.prog.cellsOf 3)) = some x0 at h0
 rw [e0] at h0
 change DataW.trod enc Tryz.prog w base spare held n' 3 [c0] = some x0 at h0
 obtain ⟨v0, q0, w0⟩ := zza h0
 unfold intE at q0
 injection q0 with q0
 obtain ⟨x1, h1⟩ := piece hx (by omega) (hf 1 _ rfl)
 have e1 : Tryz.prog.cellsOf 3 = 1 := by kernel_rfl
 change DataW.trod enc Tryz.prog w base spare held n' 3 (([c0, c1, c2].drop 1).take (Tryz.prog.cellsOf 3)) = some x1 at h1
 rw [e1] at h1
 change DataW.trod enc Tryz.prog w base spare held n' 3 [c1] = some x1 at h1
 obtain ⟨v1, q1, w1⟩ := zza h1
 unfold intE at q1
 injection q1 with q1
 obtain ⟨x2, h2⟩ := piece hx (by omega) (hf 2 _ rfl)
 have e2 : Tryz.prog.cellsOf 3 = 1 := by kernel_rfl
 change DataW.trod enc Tryz.prog w base spare held n' 3 (([c0, c1, c2].drop 2).take (Tryz.prog.cellsOf 3)) = some x2 at h2
 rw [e2] at h2
 change DataW.trod enc Tryz.prog w base spare held n' 3 [c2] = some x2 at h2
 obtain ⟨v2, q2, w2⟩ := zza h2
 unfold intE at q2
 injection q2 with q2
 subst q0 q1 q2
 exact ⟨⟨v0, v1, v2⟩, rfl, w0, w1, w2⟩
theorem st_open {n : Nat} {cs : List Value} {x : DataW H × List MemPlace} (h : DataW.trod enc Tryz.prog w base spare held n 93 cs = some x) : ∃ y : StD, cs = StD.enc y ∧ StD.ok w w.heap.size y := by
 obtain ⟨xs, n', hfu, _, hlen, hxs, hf⟩ := DataW.trod_struct Tryz.underlying93 h
 have hx : xs.length = 6 := hxs
 have hc : cs.length = 7 := hlen.trans (by kernel_rfl)
 obtain ⟨c0, c1, c2, c3, c4, c5, c6, rfl⟩ := len_7 hc
 obtain ⟨x0, h0⟩ := piece hx (by omega) (hf 0 _ rfl)
 have e0 : Tryz.prog.cellsOf 3 = 1 := by kernel_rfl
 change DataW.trod enc Tryz.prog w base spare held n' 3 (([c0, c1, c2, c3, c4, c5, c6].drop 0).take (Tryz.prog.cellsOf 3)) = some x0 at h0
 rw [e0] at h0
 change DataW.trod enc Tryz.prog w base spare held n' 3 [c0] = some x0 at h0
 obtain ⟨v0, q0, w0⟩ := zza h0
 unfold intE at q0
 injection q0 with q0
 obtain ⟨x1, h1⟩ := piece hx (by omega) (hf 1 _ rfl)
 have e1 : Tryz.prog.cellsOf 82 = 2 := by kernel_rfl
 change DataW.trod enc Tryz.prog w base spare held n' 82 (([c0, c1, c2, c3, c4, c5, c6].drop 1).take (Tryz.prog.cellsOf 82)) = some x1 at h1
 rw [e1] at h1
 change DataW.trod enc Tryz.prog w base spare held n' 82 [c1, c2] = some x1 at h1
 obtain ⟨v1, u1, q1, w1, z1⟩ := fr_open h1
 injection q1 with q1 r1; injection r1 with r1
 obtain ⟨x2, h2⟩ := piece hx (by omega) (hf 2 _ rfl)
 have e2 : Tryz.prog.cellsOf 3 = 1 := by kernel_rfl
 change DataW.trod enc Tryz.prog w base spare held n' 3 (([c0, c1, c2, c3, c4, c5, c6].drop 3).take (Tryz.prog.cellsOf 3)) = some x2 at h2
 rw [e2] at h2
 change DataW.trod enc Tryz.prog w base spare held n' 3 [c3] = some x2 at h2
 obtain ⟨v2, q2, w2⟩ := zza h2
 unfold intE at q2
 injection q2 with q2
 obtain ⟨x3, h3⟩ := piece hx (by omega) (hf 3 _ rfl)
 have e3 : Tryz.prog.cellsOf 3 = 1 := by kernel_rfl
 change DataW.trod enc Tryz.prog w base spare held n' 3 (([c0, c1, c2, c3, c4, c5, c6].drop 4).take (Tryz.prog.cellsOf 3)) = some x3 at h3
 rw [e3] at h3
 change DataW.trod enc Tryz.prog w base spare held n' 3 [c4] = some x3 at h3
 obtain ⟨v3, q3, w3⟩ := zza h3
 unfold intE at q3
 injection q3 with q3
 obtain ⟨x4, h4⟩ := piece hx (by omega) (hf 4 _ rfl)
 have e4 : Tryz.prog.cellsOf 91 = 1 := by kernel_rfl
 change DataW.trod enc Tryz.prog w base spare held n' 91 (([c0, c1, c2, c3, c4, c5, c6].drop 5).take (Tryz.prog.cellsOf 91)) = some x4 at h4
 rw [e4] at h4
 change DataW.trod enc Tryz.prog w base spare held n' 91 [c5] = some x4 at h4
 obtain ⟨v4, q4, w4⟩ := zwb (size := 3) Tryz.underlying91 (by kernel_rfl) (by omega) ex_len h4 (fun _ _ _ _ h => ex_open h)
 injection q4 with q4
 obtain ⟨x5, h5⟩ := piece hx (by omega) (hf 5 _ rfl)
 have e5 : Tryz.prog.cellsOf 91 = 1 := by kernel_rfl
 change DataW.trod enc Tryz.prog w base spare held n' 91 (([c0, c1, c2, c3, c4, c5, c6].drop 6).take (Tryz.prog.cellsOf 91)) = some x5 at h5
 rw [e5] at h5
 change DataW.trod enc Tryz.prog w base spare held n' 91 [c6] = some x5 at h5
 obtain ⟨v5, q5, w5⟩ := zwb (size := 3) Tryz.underlying91 (by kernel_rfl) (by omega) ex_len h5 (fun _ _ _ _ h => ex_open h)
 injection q5 with q5
 subst q0 q1 r1 q2 q3 q4 q5
 exact ⟨⟨v0, v1, u1, v2, v3, v4, v5⟩, rfl, w0, w1, z1, w2, w3, w4, w5⟩
theorem act_open {n : Nat} {cs : List Value} {x : DataW H × List MemPlace} (h : DataW.trod enc Tryz.prog w base spare held n 96 cs = some x) : ∃ y : ActD, cs = ActD.enc y ∧ ActD.ok w w.heap.size y := by
 obtain ⟨xs, n', hfu, _, hlen, hxs, hf⟩ := DataW.trod_struct Tryz.underlying96 h
 have hx : xs.length = 3 := hxs
 have hc : cs.length = 3 := hlen.trans (by kernel_rfl)
 obtain ⟨c0, c1, c2, rfl⟩ := len_3 hc
 obtain ⟨x0, h0⟩ := piece hx (by omega) (hf 0 _ rfl)
 have e0 : Tryz.prog.cellsOf 9 = 1 := by kernel_rfl
 change DataW.trod enc Tryz.prog w base spare held n' 9 (([c0, c1, c2].drop 0).take (Tryz.prog.cellsOf 9)) = some x0 at h0
 rw [e0] at h0
 change DataW.trod enc Tryz.prog w base spare held n' 9 [c0] = some x0 at h0
 obtain ⟨v0, q0, _, w0⟩ := DataW.trod_string Tryz.underlying9 h0
 injection q0 with q0
 obtain ⟨x1, h1⟩ := piece hx (by omega) (hf 1 _ rfl)
 have e1 : Tryz.prog.cellsOf 23 = 1 := by kernel_rfl
 change DataW.trod enc Tryz.prog w base spare held n' 23 (([c0, c1, c2].drop 1).take (Tryz.prog.cellsOf 23)) = some x1 at h1
 rw [e1] at h1
 change DataW.trod enc Tryz.prog w base spare held n' 23 [c1] = some x1 at h1
 obtain ⟨v1, q1, w1⟩ := zwb (size := 2) Tryz.underlying23 (by kernel_rfl) (by omega) zFb h1 (fun _ _ _ _ h => fld_open h)
 injection q1 with q1
 obtain ⟨x2, h2⟩ := piece hx (by omega) (hf 2 _ rfl)
 have e2 : Tryz.prog.cellsOf 94 = 1 := by kernel_rfl
 change DataW.trod enc Tryz.prog w base spare held n' 94 (([c0, c1, c2].drop 2).take (Tryz.prog.cellsOf 94)) = some x2 at h2
 rw [e2] at h2
 change DataW.trod enc Tryz.prog w base spare held n' 94 [c2] = some x2 at h2
 obtain ⟨v2, q2, w2⟩ := zwb (size := 7) Tryz.underlying94 (by kernel_rfl) (by omega) st_len h2 (fun _ _ _ _ h => st_open h)
 injection q2 with q2
 subst q0 q1 q2
 exact ⟨⟨v0, v1, v2⟩, rfl, w0, w1, w2⟩
theorem key_open {n : Nat} {cs : List Value} {x : DataW H × List MemPlace} (h : DataW.trod enc Tryz.prog w base spare held n 98 cs = some x) : ∃ y : KeyD, cs = KeyD.enc y ∧ KeyD.ok y := by
 obtain ⟨xs, n', hfu, _, hlen, hxs, hf⟩ := DataW.trod_struct Tryz.underlying98 h
 have hx : xs.length = 2 := hxs
 have hc : cs.length = 3 := hlen.trans (by kernel_rfl)
 obtain ⟨c0, c1, c2, rfl⟩ := len_3 hc
 obtain ⟨x0, h0⟩ := piece hx (by omega) (hf 0 _ rfl)
 have e0 : Tryz.prog.cellsOf 82 = 2 := by kernel_rfl
 change DataW.trod enc Tryz.prog w base spare held n' 82 (([c0, c1, c2].drop 0).take (Tryz.prog.cellsOf 82)) = some x0 at h0
 rw [e0] at h0
 change DataW.trod enc Tryz.prog w base spare held n' 82 [c0, c1] = some x0 at h0
 obtain ⟨v0, u0, q0, w0, z0⟩ := fr_open h0
 injection q0 with q0 r0; injection r0 with r0
 obtain ⟨x1, h1⟩ := piece hx (by omega) (hf 1 _ rfl)
 have e1 : Tryz.prog.cellsOf 3 = 1 := by kernel_rfl
 change DataW.trod enc Tryz.prog w base spare held n' 3 (([c0, c1, c2].drop 2).take (Tryz.prog.cellsOf 3)) = some x1 at h1
 rw [e1] at h1
 change DataW.trod enc Tryz.prog w base spare held n' 3 [c2] = some x1 at h1
 obtain ⟨v1, q1, w1⟩ := zza h1
 unfold intE at q1
 injection q1 with q1
 subst q0 r0 q1
 exact ⟨⟨v0, u0, v1⟩, rfl, w0, z0, w1⟩
theorem tbl_open {n : Nat} {cs : List Value} {x : DataW H × List MemPlace} (h : DataW.trod enc Tryz.prog w base spare held n 80 cs = some x) : ∃ y : TblD, cs = TblD.enc y ∧ TblD.ok w w.heap.size y := by
 obtain ⟨xs, n', hfu, _, hlen, hxs, hf⟩ := DataW.trod_struct Tryz.underlying80 h
 have hx : xs.length = 5 := hxs
 have hc : cs.length = 6 := hlen.trans (by kernel_rfl)
 obtain ⟨c0, c1, c2, c3, c4, c5, rfl⟩ := len_6 hc
 obtain ⟨x0, h0⟩ := piece hx (by omega) (hf 0 _ rfl)
 have e0 : Tryz.prog.cellsOf 9 = 1 := by kernel_rfl
 change DataW.trod enc Tryz.prog w base spare held n' 9 (([c0, c1, c2, c3, c4, c5].drop 0).take (Tryz.prog.cellsOf 9)) = some x0 at h0
 rw [e0] at h0
 change DataW.trod enc Tryz.prog w base spare held n' 9 [c0] = some x0 at h0
 obtain ⟨v0, q0, _, w0⟩ := DataW.trod_string Tryz.underlying9 h0
 injection q0 with q0
 obtain ⟨x1, h1⟩ := piece hx (by omega) (hf 1 _ rfl)
 have e1 : Tryz.prog.cellsOf 75 = 1 := by kernel_rfl
 change DataW.trod enc Tryz.prog w base spare held n' 75 (([c0, c1, c2, c3, c4, c5].drop 1).take (Tryz.prog.cellsOf 75)) = some x1 at h1
 rw [e1] at h1
 change DataW.trod enc Tryz.prog w base spare held n' 75 [c1] = some x1 at h1
 obtain ⟨v1, q1, w1⟩ := zwb (size := 3) Tryz.underlying75 (by kernel_rfl) (by omega) key_len h1 (fun _ _ _ _ h => key_open h)
 injection q1 with q1
 obtain ⟨x2, h2⟩ := piece hx (by omega) (hf 2 _ rfl)
 have e2 : Tryz.prog.cellsOf 29 = 1 := by kernel_rfl
 change DataW.trod enc Tryz.prog w base spare held n' 29 (([c0, c1, c2, c3, c4, c5].drop 2).take (Tryz.prog.cellsOf 29)) = some x2 at h2
 rw [e2] at h2
 change DataW.trod enc Tryz.prog w base spare held n' 29 [c2] = some x2 at h2
 obtain ⟨v2, q2, w2⟩ := zwb (size := 1) Tryz.underlying29 (by kernel_rfl) (by omega) zna h2 (fun _ _ _ _ h => zza h)
 injection q2 with q2
 obtain ⟨x3, h3⟩ := piece hx (by omega) (hf 3 _ rfl)
 have e3 : Tryz.prog.cellsOf 78 = 2 := by kernel_rfl
 change DataW.trod enc Tryz.prog w base spare held n' 78 (([c0, c1, c2, c3, c4, c5].drop 3).take (Tryz.prog.cellsOf 78)) = some x3 at h3
 rw [e3] at h3
 change DataW.trod enc Tryz.prog w base spare held n' 78 [c3, c4] = some x3 at h3
 obtain ⟨v3, u3, q3, w3, z3⟩ := call_open h3
 injection q3 with q3 r3; injection r3 with r3
 obtain ⟨x4, h4⟩ := piece hx (by omega) (hf 4 _ rfl)
 have e4 : Tryz.prog.cellsOf 3 = 1 := by kernel_rfl
 change DataW.trod enc Tryz.prog w base spare held n' 3 (([c0, c1, c2, c3, c4, c5].drop 5).take (Tryz.prog.cellsOf 3)) = some x4 at h4
 rw [e4] at h4
 change DataW.trod enc Tryz.prog w base spare held n' 3 [c5] = some x4 at h4
 obtain ⟨v4, q4, w4⟩ := zza h4
 unfold intE at q4
 injection q4 with q4
 subst q0 q1 q2 q3 r3 q4
 exact ⟨⟨v0, v1, v2, v3, u3, v4⟩, rfl, w0, w1, w2, w3, z3, w4⟩
theorem cas_open {n : Nat} {cs : List Value} {x : DataW H × List MemPlace} (h : DataW.trod enc Tryz.prog w base spare held n 211 cs = some x) : ∃ y : CaseD, cs = CaseD.enc y ∧ CaseD.ok y := by
 obtain ⟨xs, n', hfu, _, hlen, hxs, hf⟩ := DataW.trod_struct Tryz.underlying211 h
 have hx : xs.length = 3 := hxs
 have hc : cs.length = 3 := hlen.trans (by kernel_rfl)
 obtain ⟨c0, c1, c2, rfl⟩ := len_3 hc
 obtain ⟨x0, h0⟩ := piece hx (by omega) (hf 0 _ rfl)
 have e0 : Tryz.prog.cellsOf 162 = 1 := by kernel_rfl
 change DataW.trod enc Tryz.prog w base spare held n' 162 (([c0, c1, c2].drop 0).take (Tryz.prog.cellsOf 162)) = some x0 at h0
 rw [e0] at h0
 change DataW.trod enc Tryz.prog w base spare held n' 162 [c0] = some x0 at h0
 obtain ⟨v0, q0, w0⟩ := u32_open h0
 unfold u32E at q0
 injection q0 with q0
 obtain ⟨x1, h1⟩ := piece hx (by omega) (hf 1 _ rfl)
 have e1 : Tryz.prog.cellsOf 162 = 1 := by kernel_rfl
 change DataW.trod enc Tryz.prog w base spare held n' 162 (([c0, c1, c2].drop 1).take (Tryz.prog.cellsOf 162)) = some x1 at h1
 rw [e1] at h1
 change DataW.trod enc Tryz.prog w base spare held n' 162 [c1] = some x1 at h1
 obtain ⟨v1, q1, w1⟩ := u32_open h1
 unfold u32E at q1
 injection q1 with q1
 obtain ⟨x2, h2⟩ := piece hx (by omega) (hf 2 _ rfl)
 have e2 : Tryz.prog.cellsOf 3 = 1 := by kernel_rfl
 change DataW.trod enc Tryz.prog w base spare held n' 3 (([c0, c1, c2].drop 2).take (Tryz.prog.cellsOf 3)) = some x2 at h2
 rw [e2] at h2
 change DataW.trod enc Tryz.prog w base spare held n' 3 [c2] = some x2 at h2
 obtain ⟨v2, q2, w2⟩ := zza h2
 unfold intE at q2
 injection q2 with q2
 subst q0 q1 q2
 exact ⟨⟨v0, v1, v2⟩, rfl, w0, w1, w2⟩
theorem sta_open {n : Nat} {cs : List Value} {x : DataW H × List MemPlace} (h : DataW.trod enc Tryz.prog w base spare held n 85 cs = some x) : ∃ y : StaD, cs = StaD.enc y ∧ StaD.ok w w.heap.size y := by
 obtain ⟨xs, n', hfu, _, hlen, hxs, hf⟩ := DataW.trod_struct Tryz.underlying85 h
 have hx : xs.length = 6 := hxs
 have hc : cs.length = 7 := hlen.trans (by kernel_rfl)
 obtain ⟨c0, c1, c2, c3, c4, c5, c6, rfl⟩ := len_7 hc
 obtain ⟨x0, h0⟩ := piece hx (by omega) (hf 0 _ rfl)
 have e0 : Tryz.prog.cellsOf 9 = 1 := by kernel_rfl
 change DataW.trod enc Tryz.prog w base spare held n' 9 (([c0, c1, c2, c3, c4, c5, c6].drop 0).take (Tryz.prog.cellsOf 9)) = some x0 at h0
 rw [e0] at h0
 change DataW.trod enc Tryz.prog w base spare held n' 9 [c0] = some x0 at h0
 obtain ⟨v0, q0, _, w0⟩ := DataW.trod_string Tryz.underlying9 h0
 injection q0 with q0
 obtain ⟨x1, h1⟩ := piece hx (by omega) (hf 1 _ rfl)
 have e1 : Tryz.prog.cellsOf 29 = 1 := by kernel_rfl
 change DataW.trod enc Tryz.prog w base spare held n' 29 (([c0, c1, c2, c3, c4, c5, c6].drop 1).take (Tryz.prog.cellsOf 29)) = some x1 at h1
 rw [e1] at h1
 change DataW.trod enc Tryz.prog w base spare held n' 29 [c1] = some x1 at h1
 obtain ⟨v1, q1, w1⟩ := zwb (size := 1) Tryz.underlying29 (by kernel_rfl) (by omega) zna h1 (fun _ _ _ _ h => zza h)
 injection q1 with q1
 obtain ⟨x2, h2⟩ := piece hx (by omega) (hf 2 _ rfl)
 have e2 : Tryz.prog.cellsOf 4 = 1 := by kernel_rfl
 change DataW.trod enc Tryz.prog w base spare held n' 4 (([c0, c1, c2, c3, c4, c5, c6].drop 2).take (Tryz.prog.cellsOf 4)) = some x2 at h2
 rw [e2] at h2
 change DataW.trod enc Tryz.prog w base spare held n' 4 [c2] = some x2 at h2
 obtain ⟨v2, q2, _⟩ := DataW.trod_bool Tryz.underlying4 h2
 injection q2 with q2
 obtain ⟨x3, h3⟩ := piece hx (by omega) (hf 3 _ rfl)
 have e3 : Tryz.prog.cellsOf 82 = 2 := by kernel_rfl
 change DataW.trod enc Tryz.prog w base spare held n' 82 (([c0, c1, c2, c3, c4, c5, c6].drop 3).take (Tryz.prog.cellsOf 82)) = some x3 at h3
 rw [e3] at h3
 change DataW.trod enc Tryz.prog w base spare held n' 82 [c3, c4] = some x3 at h3
 obtain ⟨v3, u3, q3, w3, z3⟩ := fr_open h3
 injection q3 with q3 r3; injection r3 with r3
 obtain ⟨x4, h4⟩ := piece hx (by omega) (hf 4 _ rfl)
 have e4 : Tryz.prog.cellsOf 83 = 1 := by kernel_rfl
 change DataW.trod enc Tryz.prog w base spare held n' 83 (([c0, c1, c2, c3, c4, c5, c6].drop 5).take (Tryz.prog.cellsOf 83)) = some x4 at h4
 rw [e4] at h4
 change DataW.trod enc Tryz.prog w base spare held n' 83 [c5] = some x4 at h4
 obtain ⟨v4, q4, w4⟩ := zwb (size := 3) Tryz.underlying83 (by kernel_rfl) (by omega) case_len h4 (fun _ _ _ _ h => cas_open h)
 injection q4 with q4
 obtain ⟨x5, h5⟩ := piece hx (by omega) (hf 5 _ rfl)
 have e5 : Tryz.prog.cellsOf 3 = 1 := by kernel_rfl
 change DataW.trod enc Tryz.prog w base spare held n' 3 (([c0, c1, c2, c3, c4, c5, c6].drop 6).take (Tryz.prog.cellsOf 3)) = some x5 at h5
 rw [e5] at h5
 change DataW.trod enc Tryz.prog w base spare held n' 3 [c6] = some x5 at h5
 obtain ⟨v5, q5, w5⟩ := zza h5
 unfold intE at q5
 injection q5 with q5
 subst q0 q1 q2 q3 r3 q4 q5
 exact ⟨⟨v0, v1, v2, v3, u3, v4, v5⟩, rfl, w0, w1, w3, z3, w4, w5⟩
theorem nod_open : ∀ (n : Nat) (cs : List Value) (x : DataW H × List MemPlace), DataW.trod enc Tryz.prog w base spare held n 100 cs = some x → ∃ y : NodD, cs = NodD.enc y ∧ NodD.ok w w.heap.size y := by
 intro n
 induction n using Nat.strongRecOn with
 | _ n ih =>
  intro cs x h
  obtain ⟨xs, n', hfu, _, hlen, hxs, hf⟩ := DataW.trod_struct Tryz.underlying100 h
  have hx : xs.length = 5 := hxs
  have hc : cs.length = 5 := hlen.trans (by kernel_rfl)
  obtain ⟨c0, c1, c2, c3, c4, rfl⟩ := len_5 hc
  obtain ⟨x0, h0⟩ := piece hx (by omega) (hf 0 _ rfl)
  have e0 : Tryz.prog.cellsOf 3 = 1 := by kernel_rfl
  change DataW.trod enc Tryz.prog w base spare held n' 3 (([c0, c1, c2, c3, c4].drop 0).take (Tryz.prog.cellsOf 3)) = some x0 at h0
  rw [e0] at h0
  change DataW.trod enc Tryz.prog w base spare held n' 3 [c0] = some x0 at h0
  obtain ⟨v0, q0, w0⟩ := zza h0
  unfold intE at q0
  injection q0 with q0
  obtain ⟨x1, h1⟩ := piece hx (by omega) (hf 1 _ rfl)
  have e1 : Tryz.prog.cellsOf 3 = 1 := by kernel_rfl
  change DataW.trod enc Tryz.prog w base spare held n' 3 (([c0, c1, c2, c3, c4].drop 1).take (Tryz.prog.cellsOf 3)) = some x1 at h1
  rw [e1] at h1
  change DataW.trod enc Tryz.prog w base spare held n' 3 [c1] = some x1 at h1
  obtain ⟨v1, q1, w1⟩ := zza h1
  unfold intE at q1
  injection q1 with q1
  obtain ⟨x2, h2⟩ := piece hx (by omega) (hf 2 _ rfl)
  have e2 : Tryz.prog.cellsOf 91 = 1 := by kernel_rfl
  change DataW.trod enc Tryz.prog w base spare held n' 91 (([c0, c1, c2, c3, c4].drop 2).take (Tryz.prog.cellsOf 91)) = some x2 at h2
  rw [e2] at h2
  change DataW.trod enc Tryz.prog w base spare held n' 91 [c2] = some x2 at h2
  obtain ⟨v2, q2, w2⟩ := zwb (size := 3) Tryz.underlying91 (by kernel_rfl) (by omega) ex_len h2 (fun _ _ _ _ h => ex_open h)
  injection q2 with q2
  obtain ⟨x3, h3⟩ := piece hx (by omega) (hf 3 _ rfl)
  have e3 : Tryz.prog.cellsOf 28 = 1 := by kernel_rfl
  change DataW.trod enc Tryz.prog w base spare held n' 28 (([c0, c1, c2, c3, c4].drop 3).take (Tryz.prog.cellsOf 28)) = some x3 at h3
  rw [e3] at h3
  change DataW.trod enc Tryz.prog w base spare held n' 28 [c3] = some x3 at h3
  obtain ⟨v3, q3, w3⟩ := zwb (size := 5) Tryz.underlying28 (by kernel_rfl) (by omega) zCe h3 (fun n2 cs2 x2 hn h2 => ih n2 (by omega) cs2 x2 h2)
  injection q3 with q3
  obtain ⟨x4, h4⟩ := piece hx (by omega) (hf 4 _ rfl)
  have e4 : Tryz.prog.cellsOf 28 = 1 := by kernel_rfl
  change DataW.trod enc Tryz.prog w base spare held n' 28 (([c0, c1, c2, c3, c4].drop 4).take (Tryz.prog.cellsOf 28)) = some x4 at h4
  rw [e4] at h4
  change DataW.trod enc Tryz.prog w base spare held n' 28 [c4] = some x4 at h4
  obtain ⟨v4, q4, w4⟩ := zwb (size := 5) Tryz.underlying28 (by kernel_rfl) (by omega) zCe h4 (fun n2 cs2 x2 hn h2 => ih n2 (by omega) cs2 x2 h2)
  injection q4 with q4
  subst q0 q1 q2 q3 q4
  exact ⟨.mk v0 v1 v2 v3.a v3.c v3.l v4.a v4.c v4.l, by unfold NodD.enc; rfl, by unfold NodD.ok; exact ⟨w0, w1, w2, ⟨w3.le, w3.cap, w3.rd⟩, nods_mem.2 w3.ok, ⟨w4.le, w4.cap, w4.rd⟩, nods_mem.2 w4.ok⟩⟩
theorem prg_open {n : Nat} {cs : List Value} {x : DataW H × List MemPlace} (h : DataW.trod enc Tryz.prog w base spare held n 31 cs = some x) : ∃ d : PrgD, cs = d.vs.toList ∧ PrgR w w.heap.size d := by
 obtain ⟨xs, n', hfu, _, hlen, hxs, hf⟩ := DataW.trod_struct Tryz.underlying31 h
 have hx : xs.length = 9 := hxs
 have hc : cs.length = 9 := hlen.trans (by kernel_rfl)
 obtain ⟨c0, c1, c2, c3, c4, c5, c6, c7, c8, rfl⟩ := len_9 hc
 obtain ⟨x0, h0⟩ := piece hx (by omega) (hf 0 _ rfl)
 have e0 : Tryz.prog.cellsOf 9 = 1 := by kernel_rfl
 change DataW.trod enc Tryz.prog w base spare held n' 9 (([c0, c1, c2, c3, c4, c5, c6, c7, c8].drop 0).take (Tryz.prog.cellsOf 9)) = some x0 at h0
 rw [e0] at h0
 change DataW.trod enc Tryz.prog w base spare held n' 9 [c0] = some x0 at h0
 obtain ⟨v0, q0, _, w0⟩ := DataW.trod_string Tryz.underlying9 h0
 injection q0 with q0
 obtain ⟨x1, h1⟩ := piece hx (by omega) (hf 1 _ rfl)
 have e1 : Tryz.prog.cellsOf 22 = 1 := by kernel_rfl
 change DataW.trod enc Tryz.prog w base spare held n' 22 (([c0, c1, c2, c3, c4, c5, c6, c7, c8].drop 1).take (Tryz.prog.cellsOf 22)) = some x1 at h1
 rw [e1] at h1
 change DataW.trod enc Tryz.prog w base spare held n' 22 [c1] = some x1 at h1
 obtain ⟨v1, q1, w1⟩ := zwb (size := 2) Tryz.underlying22 (by kernel_rfl) (by omega) zgg h1 (fun _ _ _ _ h => hdr_open h)
 injection q1 with q1
 obtain ⟨x2, h2⟩ := piece hx (by omega) (hf 2 _ rfl)
 have e2 : Tryz.prog.cellsOf 23 = 1 := by kernel_rfl
 change DataW.trod enc Tryz.prog w base spare held n' 23 (([c0, c1, c2, c3, c4, c5, c6, c7, c8].drop 2).take (Tryz.prog.cellsOf 23)) = some x2 at h2
 rw [e2] at h2
 change DataW.trod enc Tryz.prog w base spare held n' 23 [c2] = some x2 at h2
 obtain ⟨v2, q2, w2⟩ := zwb (size := 2) Tryz.underlying23 (by kernel_rfl) (by omega) zFb h2 (fun _ _ _ _ h => fld_open h)
 injection q2 with q2
 obtain ⟨x3, h3⟩ := piece hx (by omega) (hf 3 _ rfl)
 have e3 : Tryz.prog.cellsOf 24 = 1 := by kernel_rfl
 change DataW.trod enc Tryz.prog w base spare held n' 24 (([c0, c1, c2, c3, c4, c5, c6, c7, c8].drop 3).take (Tryz.prog.cellsOf 24)) = some x3 at h3
 rw [e3] at h3
 change DataW.trod enc Tryz.prog w base spare held n' 24 [c3] = some x3 at h3
 obtain ⟨v3, q3, w3⟩ := zwb (size := 3) Tryz.underlying24 (by kernel_rfl) (by omega) reg_len h3 (fun _ _ _ _ h => reg_open h)
 injection q3 with q3
 obtain ⟨x4, h4⟩ := piece hx (by omega) (hf 4 _ rfl)
 have e4 : Tryz.prog.cellsOf 25 = 1 := by kernel_rfl
 change DataW.trod enc Tryz.prog w base spare held n' 25 (([c0, c1, c2, c3, c4, c5, c6, c7, c8].drop 4).take (Tryz.prog.cellsOf 25)) = some x4 at h4
 rw [e4] at h4
 change DataW.trod enc Tryz.prog w base spare held n' 25 [c4] = some x4 at h4
 obtain ⟨v4, q4, w4⟩ := zwb (size := 3) Tryz.underlying25 (by kernel_rfl) (by omega) zdg h4 (fun _ _ _ _ h => act_open h)
 injection q4 with q4
 obtain ⟨x5, h5⟩ := piece hx (by omega) (hf 5 _ rfl)
 have e5 : Tryz.prog.cellsOf 26 = 1 := by kernel_rfl
 change DataW.trod enc Tryz.prog w base spare held n' 26 (([c0, c1, c2, c3, c4, c5, c6, c7, c8].drop 5).take (Tryz.prog.cellsOf 26)) = some x5 at h5
 rw [e5] at h5
 change DataW.trod enc Tryz.prog w base spare held n' 26 [c5] = some x5 at h5
 obtain ⟨v5, q5, w5⟩ := zwb (size := 6) Tryz.underlying26 (by kernel_rfl) (by omega) tbl_len h5 (fun _ _ _ _ h => tbl_open h)
 injection q5 with q5
 obtain ⟨x6, h6⟩ := piece hx (by omega) (hf 6 _ rfl)
 have e6 : Tryz.prog.cellsOf 27 = 1 := by kernel_rfl
 change DataW.trod enc Tryz.prog w base spare held n' 27 (([c0, c1, c2, c3, c4, c5, c6, c7, c8].drop 6).take (Tryz.prog.cellsOf 27)) = some x6 at h6
 rw [e6] at h6
 change DataW.trod enc Tryz.prog w base spare held n' 27 [c6] = some x6 at h6
 obtain ⟨v6, q6, w6⟩ := zwb (size := 7) Tryz.underlying27 (by kernel_rfl) (by omega) sta_len h6 (fun _ _ _ _ h => sta_open h)
 injection q6 with q6
 obtain ⟨x7, h7⟩ := piece hx (by omega) (hf 7 _ rfl)
 have e7 : Tryz.prog.cellsOf 28 = 1 := by kernel_rfl
 change DataW.trod enc Tryz.prog w base spare held n' 28 (([c0, c1, c2, c3, c4, c5, c6, c7, c8].drop 7).take (Tryz.prog.cellsOf 28)) = some x7 at h7
 rw [e7] at h7
 change DataW.trod enc Tryz.prog w base spare held n' 28 [c7] = some x7 at h7
 obtain ⟨v7, q7, w7⟩ := zwb (size := 5) Tryz.underlying28 (by kernel_rfl) (by omega) zCe h7 (fun n2 cs2 x2 _ h2 => nod_open n2 cs2 x2 h2)
 injection q7 with q7
 obtain ⟨x8, h8⟩ := piece hx (by omega) (hf 8 _ rfl)
 have e8 : Tryz.prog.cellsOf 29 = 1 := by kernel_rfl
 change DataW.trod enc Tryz.prog w base spare held n' 29 (([c0, c1, c2, c3, c4, c5, c6, c7, c8].drop 8).take (Tryz.prog.cellsOf 29)) = some x8 at h8
 rw [e8] at h8
 change DataW.trod enc Tryz.prog w base spare held n' 29 [c8] = some x8 at h8
 obtain ⟨v8, q8, w8⟩ := zwb (size := 1) Tryz.underlying29 (by kernel_rfl) (by omega) zna h8 (fun _ _ _ _ h => zza h)
 injection q8 with q8
 subst q0 q1 q2 q3 q4 q5 q6 q7 q8
 exact ⟨⟨v0, v1, v2, v3, v4, v5, v6, v7, v8⟩, rfl, w0, w1, w2, w3, w4, w5, w6, w7, w8⟩
end
end Go.Proofs.YtakgiamhdpgoeaaGreat
