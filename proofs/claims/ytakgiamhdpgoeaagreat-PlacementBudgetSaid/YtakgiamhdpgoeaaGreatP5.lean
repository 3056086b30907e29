/- Lemmas. -/
import Derived.Test.YtakgiamhdpgoeaaGreatP2
set_option linter.unusedSimpArgs false
namespace Go.Proofs.YtakgiamhdpgoeaaGreat
open Go.RowKit
set_option linter.unusedVariables false
abbrev PrgD.v (d : PrgD) : Value := .agg d.vs
abbrev refV (h i : Int) : Value := .agg #[.int .i64 h, .int .i64 i]
abbrev widV : Option FldD → Value
 | some f => .tuple #[.int .i64 f.width, .bool true]
 | none => .tuple #[.int .i64 0, .bool false]
set_option maxRecDepth 100000 in
set_option maxHeartbeats 1000000 in
theorem width_any (d : PrgD) (h i : Int) (w : World) (hR : PrgR w w.heap.size d) :
  Calls Tryz.prog 117 #[PrgD.v d, refV h i] w fun e w' => e = .returned (widV (fldAt d h i)) ∧ Below w.heap.size w w' := by
 have HR := Hd hR
 clear hR
 unfold PrgD.v PrgD.vs refV
 by_cases c1 : h = -1
 ·subst c1
  have HF := Hd (show zoc d (-1) = d.mZ.l by unfold zoc; rw [if_pos rfl])
  have HS := Hd HR.out.mZ
  obtain ⟨mm, hmm⟩ : ∃ m, m = d.mZ := ⟨_, rfl⟩
  rw [← hmm] at HF HS ⊢
  clear hmm
  obtain ⟨ma, mc, ml⟩ := mm
  simp only at HF HS ⊢
  by_cases c3 : i < 0
  ·have HV := Hd (show fldAt d (-1) i = none from (zQe d (-1) i c3).trans rfl)
   go_enter Tryz.func117, Tryz.ntmps117
   go_wp2_with fail
   go_returns
   exact ⟨by rw [HV.out]; try rfl, by (first | (refine zca ?_ _; go_grown; done) | (go_grown; done))⟩
  ·obtain ⟨n, rfl⟩ := Int.eq_ofNat_of_zero_le (show 0 ≤ i by omega)
   have h0 : (0 : Int) ≤ n := by omega
   by_cases c4 : n < ml.length
   ·obtain ⟨b, off, x, hA, hb, hx, hok, hc⟩ := HS.out.at_ zFb (by omega) c4
    have HV := Hd (show fldAt d (-1) n = some x by rw [zAc, HF.out]; exact hx)
    have q0 : w.cell? ⟨b, off + n * 2, none⟩ = some (.string x.name) := by have := hc 0 _ rfl; simpa using this
    have q1 : w.cell? ⟨b, off + n * 2 + 1, none⟩ = some (.int .i64 x.width) := hc 1 _ rfl
    have c4' : (n : Int) < ml.length := by omega
    simp only at hA
    subst hA
    clear hx hok hc c3
    go_enter Tryz.func117, Tryz.ntmps117
    go_wp2_with fail
    go_returns
    exact ⟨by rw [HV.out]; try rfl, by (first | (refine zca ?_ _; go_grown; done) | (go_grown; done))⟩
   ·have HV := Hd (show fldAt d (-1) n = none by rw [zAc, HF.out]; exact List.getElem?_eq_none (by omega))
    have c4' : (ml.length : Int) ≤ n := by omega
    clear c3
    go_enter Tryz.func117, Tryz.ntmps117
    go_wp2_with fail
    go_returns
    exact ⟨by rw [HV.out]; try rfl, by (first | (refine zca ?_ _; go_grown; done) | (go_grown; done))⟩
 ·have c1' := neq_b c1
  by_cases c2 : h < 0
  ·have HV := Hd (show fldAt d h i = none by unfold fldAt zoc; rw [if_neg c1, if_pos (Or.inl c2)]; simp)
   clear c1
   go_enter Tryz.func117, Tryz.ntmps117
   go_wp2_with fail
   go_returns
   exact ⟨by rw [HV.out]; try rfl, by (first | (refine zca ?_ _; go_grown; done) | (go_grown; done))⟩
  ·obtain ⟨j, rfl⟩ := Int.eq_ofNat_of_zero_le (show 0 ≤ h by omega)
   have g0 : (0 : Int) ≤ j := by omega
   have HH := Hd HR.out.hZ
   obtain ⟨hh, hhh⟩ : ∃ m, m = d.hZ := ⟨_, rfl⟩
   have HE := Hd hhh
   rw [← hhh] at HH ⊢
   clear hhh
   obtain ⟨ha, hc_, hl⟩ := hh
   simp only at HH ⊢
   by_cases c5 : j < hl.length
   ·obtain ⟨hb_, hoff, hx_, hA_, hlt_, hget, hok_, hc2⟩ := HH.out.at_ zgg (by omega) c5
    have HF := Hd (show zoc d j = hx_.fields.l by unfold zoc; rw [if_neg c1, if_neg (by rw [← HE.out]; simp only; omega), ← HE.out, Int.toNat_natCast, hget])
    have HS := Hd hok_.fields
    have q2 : w.cell? ⟨hb_, hoff + j * 2 + 1, none⟩ = some (.slice hx_.fields.a hx_.fields.l.length hx_.fields.c) := hc2 1 _ rfl
    have c5' : (j : Int) < hl.length := by omega
    simp only at hA_
    subst hA_
    clear hget hok_ hc2 c1 c2
    obtain ⟨nm, ma, mc, ml⟩ := hx_
    simp only at HF HS q2 ⊢
    by_cases c3 : i < 0
    ·have HV := Hd (show fldAt d j i = none from (zQe d j i c3).trans rfl)
     go_enter Tryz.func117, Tryz.ntmps117
     go_wp2_with fail
     go_returns
     exact ⟨by rw [HV.out]; try rfl, by (first | (refine zca ?_ _; go_grown; done) | (go_grown; done))⟩
    ·obtain ⟨n, rfl⟩ := Int.eq_ofNat_of_zero_le (show 0 ≤ i by omega)
     have h0 : (0 : Int) ≤ n := by omega
     by_cases c4 : n < ml.length
     ·obtain ⟨b, off, x, hA, hb, hx, hok, hc⟩ := HS.out.at_ zFb (by omega) c4
      have HV := Hd (show fldAt d j n = some x by rw [zAc, HF.out]; exact hx)
      have q0 : w.cell? ⟨b, off + n * 2, none⟩ = some (.string x.name) := by have := hc 0 _ rfl; simpa using this
      have q1 : w.cell? ⟨b, off + n * 2 + 1, none⟩ = some (.int .i64 x.width) := hc 1 _ rfl
      have c4' : (n : Int) < ml.length := by omega
      simp only at hA
      subst hA
      clear hx hok hc c3
      go_enter Tryz.func117, Tryz.ntmps117
      go_wp2_with fail
      go_returns
      exact ⟨by rw [HV.out]; try rfl, by (first | (refine zca ?_ _; go_grown; done) | (go_grown; done))⟩
     ·have HV := Hd (show fldAt d j n = none by rw [zAc, HF.out]; exact List.getElem?_eq_none (by omega))
      have c4' : (ml.length : Int) ≤ n := by omega
      clear c3
      go_enter Tryz.func117, Tryz.ntmps117
      go_wp2_with fail
      go_returns
      exact ⟨by rw [HV.out]; try rfl, by (first | (refine zca ?_ _; go_grown; done) | (go_grown; done))⟩
   ·have HV := Hd (show fldAt d j i = none by unfold fldAt; rw [show zoc d j = [] by unfold zoc; rw [if_neg c1, if_pos (by rw [← HE.out]; right; simp only; omega)]]; simp)
    have c5' : (hl.length : Int) ≤ j := by omega
    clear c1 c2
    go_enter Tryz.func117, Tryz.ntmps117
    go_wp2_with fail
    go_returns
    exact ⟨by rw [HV.out]; try rfl, by (first | (refine zca ?_ _; go_grown; done) | (go_grown; done))⟩
open Go.RowKit
abbrev fldA : Option FldD → Value
 | some f => .agg #[.string f.name, .int .i64 f.width]
 | none => .agg #[.string ⟨#[]⟩, .int .i64 0]
abbrev hdrA : Option HdrD → Value
 | some h => .agg #[.string h.name, .slice h.fields.a h.fields.l.length h.fields.c]
 | none => .agg #[.string ⟨#[]⟩, .slice none 0 0]
def atI {α : Type} (l : List α) (i : Int) : Option α := if i < 0 then none else l[i.toNat]?
theorem atI_neg {α : Type} (l : List α) (i : Int) (h : i < 0) : atI l i = none := if_pos h
theorem atI_nat {α : Type} (l : List α) (n : Nat) : atI l n = l[n]? := by unfold atI; rw [if_neg (by omega)]; rfl
set_option maxRecDepth 100000 in
set_option maxHeartbeats 1000000 in
theorem atFld_any (s : SL FldD) (i : Int) (w : World) (hS : SLR w w.heap.size 2 FldD.enc FldD.ok s) :
  Calls Tryz.prog 146 #[.slice s.a s.l.length s.c, .int .i64 i] w fun e w' => e = .returned (fldA (atI s.l i)) ∧ Below w.heap.size w w' := by
 have HS := Hd hS
 have hlen := hS.len
 clear hS
 obtain ⟨sa, sc, sl⟩ := s
 simp only at HS hlen ⊢
 by_cases c3 : i < 0
 ·have HV := Hd (atI_neg sl i c3)
  go_enter Tryz.func146, Tryz.ntmps146
  go_wp2_with fail
  go_returns
  exact ⟨by rw [HV.out], by (first | (refine zca ?_ _; go_grown; done) | (go_grown; done))⟩
 ·obtain ⟨n, rfl⟩ := Int.eq_ofNat_of_zero_le (show 0 ≤ i by omega)
  have h0 : (0 : Int) ≤ n := by omega
  by_cases c4 : n < sl.length
  ·obtain ⟨b, off, x, hA, hb, hx, hok, hc⟩ := HS.out.at_ zFb (by omega) c4
   have HV := Hd (show atI sl n = some x by rw [atI_nat]; exact hx)
   have q0 : w.cell? ⟨b, off + n * 2, none⟩ = some (.string x.name) := by have := hc 0 _ rfl; simpa using this
   have q1 : w.cell? ⟨b, off + n * 2 + 1, none⟩ = some (.int .i64 x.width) := hc 1 _ rfl
   have c4' : (n : Int) < sl.length := by omega
   simp only at hA
   subst hA
   clear hx hok hc c3
   go_enter Tryz.func146, Tryz.ntmps146
   go_wp2_with fail
   go_returns
   exact ⟨by rw [HV.out], by (first | (refine zca ?_ _; go_grown; done) | (go_grown; done))⟩
  ·have HV := Hd (show atI sl n = none by rw [atI_nat]; exact List.getElem?_eq_none (by omega))
   have c4' : (sl.length : Int) ≤ n := by omega
   clear c3
   go_enter Tryz.func146, Tryz.ntmps146
   go_wp2_with fail
   go_returns
   exact ⟨by rw [HV.out], by (first | (refine zca ?_ _; go_grown; done) | (go_grown; done))⟩
set_option maxRecDepth 100000 in
set_option maxHeartbeats 1000000 in
theorem atHdr_any (s : SL HdrD) (i : Int) (w : World) (hS : SLR w w.heap.size 2 HdrD.enc (HdrD.ok w w.heap.size) s) :
  Calls Tryz.prog 158 #[.slice s.a s.l.length s.c, .int .i64 i] w fun e w' => e = .returned (hdrA (atI s.l i)) ∧ Below w.heap.size w w' := by
 have HS := Hd hS
 have hlen := hS.len
 clear hS
 obtain ⟨sa, sc, sl⟩ := s
 simp only at HS hlen ⊢
 by_cases c3 : i < 0
 ·have HV := Hd (atI_neg sl i c3)
  go_enter Tryz.func158, Tryz.ntmps158
  go_wp2_with fail
  go_returns
  exact ⟨by rw [HV.out], by (first | (refine zca ?_ _; go_grown; done) | (go_grown; done))⟩
 ·obtain ⟨n, rfl⟩ := Int.eq_ofNat_of_zero_le (show 0 ≤ i by omega)
  have h0 : (0 : Int) ≤ n := by omega
  by_cases c4 : n < sl.length
  ·obtain ⟨b, off, x, hA, hb, hx, hok, hc⟩ := HS.out.at_ zgg (by omega) c4
   have HV := Hd (show atI sl n = some x by rw [atI_nat]; exact hx)
   have q0 : w.cell? ⟨b, off + n * 2, none⟩ = some (.string x.name) := by have := hc 0 _ rfl; simpa using this
   have q1 : w.cell? ⟨b, off + n * 2 + 1, none⟩ = some (.slice x.fields.a x.fields.l.length x.fields.c) := hc 1 _ rfl
   have c4' : (n : Int) < sl.length := by omega
   simp only at hA
   subst hA
   clear hx hok hc c3
   go_enter Tryz.func158, Tryz.ntmps158
   go_wp2_with fail
   go_returns
   exact ⟨by rw [HV.out], by (first | (refine zca ?_ _; go_grown; done) | (go_grown; done))⟩
  ·have HV := Hd (show atI sl n = none by rw [atI_nat]; exact List.getElem?_eq_none (by omega))
   have c4' : (sl.length : Int) ≤ n := by omega
   clear c3
   go_enter Tryz.func158, Tryz.ntmps158
   go_wp2_with fail
   go_returns
   exact ⟨by rw [HV.out], by (first | (refine zca ?_ _; go_grown; done) | (go_grown; done))⟩
theorem hdrFieldOf (a b : Value) (w : World) : (Instr.field 118 (.agg #[a, b]) 1).run Tryz.prog w = .ok b w := by kernel_rfl
theorem fldFieldOf (a b : Value) (w : World) : (Instr.field 88 (.agg #[a, b]) 1).run Tryz.prog w = .ok b w := by kernel_rfl
def zGe (d : PrgD) (h : Int) : SL FldD := if h = -1 then d.mZ else match atI d.hZ.l h with | some x => x.fields | none => ⟨none, 0, []⟩
theorem fldsSL_l (d : PrgD) (h : Int) : (zGe d h).l = zoc d h := by
 unfold zGe zoc atI
 by_cases h1 : h = -1
 ·simp [h1]
 ·rw [if_neg h1, if_neg h1]
  by_cases h2 : h < 0
  ·simp [h2]
  ·simp only [h2, if_false, false_or]
   by_cases h3 : (d.hZ.l.length : Int) ≤ h
   ·rw [if_pos h3, List.getElem?_eq_none (by omega)]
   ·rw [if_neg h3]
    cases d.hZ.l[h.toNat]? <;> rfl
theorem fldsSL_ok (d : PrgD) (h : Int) (w : World) (B : Nat) (hR : PrgR w B d) : SLR w B 2 FldD.enc FldD.ok (zGe d h) := by
 unfold zGe
 split
 ·exact hR.mZ
 ·cases hx : atI d.hZ.l h with
  | none => exact SLR.nil_ _
  | some x =>
   unfold atI at hx
   split at hx
   ·cases hx
   ·exact (hR.hZ.ok x (List.mem_of_getElem? hx)).fields
theorem fldAt_atI (d : PrgD) (h i : Int) : atI (zGe d h).l i = fldAt d h i := by rw [fldsSL_l]; rfl
set_option maxRecDepth 100000 in
set_option maxHeartbeats 1000000 in
theorem fields_any (d : PrgD) (h : Int) (w : World) (hR : PrgR w w.heap.size d) :
  Calls Tryz.prog 147 #[PrgD.v d, .int .i64 h] w fun e w' => e = .returned (.slice (zGe d h).a (zGe d h).l.length (zGe d h).c) ∧ Below w.heap.size w w' := by
 have HR := Hd hR
 clear hR
 by_cases h1 : h = -1
 ·have HV := Hd (show zGe d h = d.mZ from if_pos h1)
  subst h1
  unfold PrgD.v PrgD.vs
  go_enter Tryz.func147, Tryz.ntmps147
  go_wp2_with fail
  go_returns
  exact ⟨by rw [HV.out]; rfl, by (first | (refine zca ?_ _; go_grown; done) | (go_grown; done))⟩
 ·have h1' := neq_b h1
  have HV := Hd (show zGe d h = match atI d.hZ.l h with | some x => x.fields | none => ⟨none, 0, []⟩ from if_neg h1)
  have HC := Hd fun W hW => atHdr_any d.hZ h W hW
  obtain ⟨o, ho⟩ : ∃ o, atI d.hZ.l h = o := ⟨_, rfl⟩
  rw [ho] at HV HC
  clear ho
  have hfd := hdrFieldOf
  unfold PrgD.v PrgD.vs
  go_enter Tryz.func147, Tryz.ntmps147
  go_wp2_with fail
  refine (HC.out _ (HR.out.step (by (first | (refine zca ?_ _; go_grown; done) | (go_grown; done)))).hZ).mono ?_
  rintro e w1 ⟨rfl, hb1⟩
  have HB1 := Hd (((Below.refl _ w).alloc (Nat.le_refl _) _).trans (hb1.mono (by simp)))
  clear hb1
  cases o
  all_goals
   dsimp only [hdrA]
   go_wp2_with fail
   go_returns
   exact ⟨by rw [HV.out]; rfl, HB1.out⟩
open Go.RowKit
abbrev fldW : Option FldD → Int
 | some f => f.width
 | none => 0
theorem widthOf_eq (d : PrgD) (h f : Int) : zQa d h f = if badW (fldW (fldAt d h f)) then 0 else fldW (fldAt d h f) := by
 unfold zQa
 cases fldAt d h f <;> rfl
theorem fldW_ok (d : PrgD) (h f : Int) (w : World) (B : Nat) (hR : PrgR w B d) : I64 (fldW (fldAt d h f)) := by
 cases ho : fldAt d h f with
 | none => exact ⟨by simp [fldW], by simp [fldW]⟩
 | some x =>
  rw [← fldAt_atI] at ho
  unfold atI at ho
  split at ho
  ·cases ho
  ·exact ((fldsSL_ok d h w B hR).ok x (List.mem_of_getElem? ho)).2
set_option maxRecDepth 100000 in
set_option maxHeartbeats 2000000 in
theorem zSc (d : PrgD) (h f : Int) (w : World) (hR : PrgR w w.heap.size d) :
  Calls Tryz.prog 120 #[PrgD.v d, refV h f] w fun e w' => e = .returned (.int .i64 (zQa d h f)) ∧ Below w.heap.size w w' := by
 have HR := Hd hR
 have HV0 := widthOf_eq d h f
 have HI := Hd (fldW_ok d h f w _ hR)
 have HF := Hd fun W hW => fields_any d h W hW
 have HT := Hd fun W hW => atFld_any (zGe d h) f W hW
 have HS := Hd fun W (hW : PrgR W W.heap.size d) => fldsSL_ok d h W W.heap.size hW
 rw [fldAt_atI] at HT
 obtain ⟨o, ho⟩ : ∃ o, fldAt d h f = o := ⟨_, rfl⟩
 rw [ho] at HV0 HT HI
 obtain ⟨wd, hwd⟩ : ∃ x, fldW o = x := ⟨_, rfl⟩
 have HT2 := Hd (show ∃ nm, fldA o = .agg #[.string nm, .int .i64 wd] by rw [← hwd]; cases o <;> exact ⟨_, rfl⟩)
 obtain ⟨nm, hnm⟩ := HT2.out
 rw [hwd] at HV0 HI
 rw [hnm] at HT
 clear ho hwd hR HT2 hnm
 obtain ⟨q, hq⟩ : ∃ q, badW wd = q := ⟨_, rfl⟩
 rw [hq] at HV0
 have HV := Hd HV0
 have HM := Hd ((mask_zero wd).trans hq)
 have hfd := fldFieldOf
 clear HV0 hq
 obtain ⟨fa, hfa⟩ : ∃ s, zGe d h = s := ⟨_, rfl⟩
 rw [hfa] at HF HT HS
 clear hfa
 unfold PrgD.v PrgD.vs refV at *
 go_enter Tryz.func120, Tryz.ntmps120
 go_upto_region 1 with (fail)
 go_cut [5] (fun s5 wx => s5 = .int .i64 wd ∧ Below w.heap.size w wx)
 case first =>
  go_region_with (first
   | (go_at_call 147; refine (HF.out _ (HR.out.step (by (first | (refine zca ?_ _; go_grown; done) | (go_grown; done))))).mono ?_; rintro e w1 ⟨rfl, hb1⟩; obtain ⟨hc1, hf1⟩ := zmc hb1; have HB1 := Hd hb1)
   | (go_at_call 146; refine (HT.out _ ?_).mono ?_; (exact HS.out _ ((HR.out.step (w' := _) (by (first | (refine zca ?_ _; go_grown; done) | (go_grown; done)))).step HB1.out)); rintro e w2 ⟨rfl, hb2⟩; obtain ⟨hc2, hf2⟩ := zmc hb2; have HB2 := Hd hb2))
  all_goals
   go_wp2_with fail
   go_meet
   exact ⟨rfl, (zLe w _ _ _ (undrew HB1.out)).trans (HB2.out.mono (zLe w _ _ _ (undrew HB1.out)).size)⟩
 case rest =>
  obtain ⟨rfl, hB⟩ := hcut
  have HB := Hd hB
  clear hB
  go_wp2_with fail
  refine (Mask_any wd HI.out _).mono ?_
  rintro e w3 ⟨rfl, hb3⟩
  have HB3 := Hd (HB.out.trans (hb3.mono HB.out.size))
  have hm := HM.out
  obtain ⟨m, hm'⟩ : ∃ m, zLd wd = m := ⟨_, rfl⟩
  rw [hm'] at hm ⊢
  clear hb3 hm'
  cases q
  all_goals
   go_wp2_with fail
   go_returns
   exact ⟨by rw [HV.out]; rfl, HB3.out⟩
/-! parser -/
def zHe (d : PrgD) (st nx : Int) : Bool := nx == -1 || nx == -2 || (decide (st < nx) && decide (nx < d.sZ.l.length))
def andNotU (a b : Int) : Int := ((a.toNat &&& (4294967295 - b.toNat) : Nat) : Int)
def zxc (d : PrgD) (st : Int) (s : StaD) (c : CaseD) : Int :=
 if (!fitsW c.value (zQa d s.onh s.onf)) || !fitsW c.mask (zQa d s.onh s.onf) then 9
 else if andNotU c.value c.mask ≠ 0 then 5
 else if !zHe d st c.next then 14 else 0
def zyd (d : PrgD) (st : Int) (s : StaD) (i : Nat) : Option (Int × Int) :=
 match s.cases.l[i]? with
 | none => none
 | some c => if zxc d st s c = 0 then none else some ((i : Int), zxc d st s c)
def zMb (d : PrgD) (st : Int) (s : StaD) : Int × Int :=
 if 4 < s.extract.l.length ∨ 8 < s.cases.l.length then (-1, 12)
 else if s.extract.l.any (fun h => decide (h < 0) || decide ((d.hZ.l.length : Int) ≤ h)) then (-1, 8)
 else if s.sel = true ∧ zQa d s.onh s.onf = 0 then (-1, 8)
 else if s.sel = false ∧ 0 < s.cases.l.length then (-1, 11)
 else match scan s.cases.l.length (zyd d st s) with
  | some e => e
  | none => if zHe d st s.dfl then (0, 0) else (-1, 14)
def zMf (d : PrgD) (i : Nat) : Option (Int × Int × Int) :=
 match d.sZ.l[i]? with
 | none => none
 | some s => if !ident s.name then some ((i : Int), -1, 6) else if (d.sZ.l.take i).any (fun t => sEq t.name s.name) then some ((i : Int), -1, 7)
  else if (zMb d i s).2 = 0 then none else some ((i : Int), (zMb d i s).1, (zMb d i s).2)
def zTa (d : PrgD) : Int × Int × Int :=
 if d.sZ.l.length = 0 then (-1, -1, 8) else if 12 < d.sZ.l.length then (-1, -1, 12) else (scan d.sZ.l.length (zMf d)).getD (0, 0, 0)
/-! cZ -/
mutual
def nodPre : NodD → List NodD
 | .mk k t c ta tc tl ea ec el => .mk k t c ta tc tl ea ec el :: (zda tl ++ zda el)
def zda : List NodD → List NodD
 | [] => []
 | x :: l => nodPre x ++ zda l
end
mutual
def zBe : NodD → Nat
 | .mk _ _ _ _ _ tl _ _ el => Nat.max (zqc tl) (zqc el)
def zFc : List NodD → Nat
 | [] => 0
 | x :: l => Nat.max (zBe x) (zFc l)
def zqc : List NodD → Nat
 | [] => 0
 | x :: l => Nat.max (zBe x) (zFc l) + 1
end
def zqa (x : NodD) : Bool := x.kind == 1 || x.kind == 3
def zle (d : PrgD) (x : NodD) (used : List Int) : Int :=
 if x.kind = 1 ∨ x.kind = 3 then
  if x.table < 0 ∨ (d.tZ.l.length : Int) ≤ x.table then 8
  else if used.contains x.table then 7
  else if x.kind = 1 ∧ 0 < x.thn.l.length + x.els.l.length then 5 else 0
 else if x.kind = 2 then
  if (zMa d [] x.cond.l).2 ≠ 0 then (zMa d [] x.cond.l).2 else if (zMa d [] x.cond.l).1 ≠ 1 then 10 else 0
 else 11
def ctlGo (d : PrgD) : List NodD → List Int → Nat → Nat × Int
 | [], _, n => (n, 0)
 | x :: l, used, n => if zle d x used ≠ 0 then (n, zle d x used) else ctlGo d l (if zqa x then used ++ [x.table] else used) (n + 1)
def zEc (d : PrgD) : Int × Int :=
 if 24 < (zda d.cZ.l).length then (-1, 12)
 else if 6 < zqc d.cZ.l then (-1, 14)
 else if (ctlGo d (zda d.cZ.l) [] 0).2 ≠ 0 then (((ctlGo d (zda d.cZ.l) [] 0).1 : Int), (ctlGo d (zda d.cZ.l) [] 0).2) else (0, 0)
/-! deparser -/
def zpf (d : PrgD) (i : Nat) : Option (Int × Int) :=
 match d.dep.l[i]? with
 | none => none
 | some h => if h < 0 ∨ (d.hZ.l.length : Int) ≤ h then some ((i : Int), 8) else if (d.dep.l.take i).contains h then some ((i : Int), 7) else none
def zDb (d : PrgD) : Int × Int := if 8 < d.dep.l.length then (-1, 12) else (scan d.dep.l.length (zpf d)).getD (0, 0)
/-! the program -/
def zYa (d : PrgD) (i : Int) : Int × Int := match (if i < 0 then none else d.aZ.l[i.toNat]?) with | none => (-1, 8) | some a => zgb d a
def zJa (d : PrgD) (i : Int) : Int × Int := match (if i < 0 then none else d.tZ.l[i.toNat]?) with | none => (-1, 8) | some t => zlc d t
abbrev Diag := Int × Int × Int × Int
def req (code part item sub : Int) : Option Diag := if code = 0 then none else some (code, part, item, sub)
def dupS (l : List ByteArray) (i : Nat) : Int := match l[i]? with | none => 0 | some s => if (l.take i).any (fun t => sEq t s) then 7 else 0
def firstD : List (Option Diag) → Option Diag
 | [] => none
 | x :: l => match x with | some e => some e | none => firstD l
def metaName : ByteArray := "meta".toUTF8
def zmb (d : PrgD) : Option Diag :=
 firstD [req (if ident d.name then 0 else 6) 0 0 0, req (if 8 < d.hZ.l.length then 12 else 0) 0 1 0, req (if 4 < d.rZ.l.length then 12 else 0) 0 3 0,
  req (if 16 < d.aZ.l.length then 12 else 0) 0 4 0, req (if 12 < d.tZ.l.length then 12 else 0) 0 5 0]
def zgd (d : PrgD) (i : Nat) : Option Diag :=
 match d.hZ.l[i]? with
 | none => none
 | some h => firstD [req (zac h) 1 i 0, req (if sEq h.name metaName then 6 else 0) 1 i 0, req (dupS (d.hZ.l.map (·.name)) i) 1 i 0]
def zEf (d : PrgD) (i : Nat) : Option Diag :=
 match d.mZ.l[i]? with
 | none => none
 | some f => firstD [req (if ident f.name then 0 else 6) 2 i 0, req (if badW f.width then 10 else 0) 2 i 0, req (dupS (d.mZ.l.map (·.name)) i) 2 i 0]
def zIe (l : List FldD) (i : Nat) (s : ByteArray) (w : Int) : Bool := match l[i]? with | none => false | some f => sEq f.name s && f.width == w
def zUb (d : PrgD) : Option Diag :=
 firstD [req (if 12 < d.mZ.l.length then 12 else 0) 2 0 0, scan d.mZ.l.length (zEf d),
  req (if zIe d.mZ.l 0 "in".toUTF8 8 then 0 else 5) 2 0 0, req (if zIe d.mZ.l 1 "out".toUTF8 8 then 0 else 5) 2 1 0, req (if zIe d.mZ.l 2 "drop".toUTF8 1 then 0 else 5) 2 2 0]
def prgReg (d : PrgD) (i : Nat) : Option Diag :=
 match d.rZ.l[i]? with
 | none => none
 | some r => firstD [req (zre r) 3 i 0, req (dupS (d.rZ.l.map (·.name)) i) 3 i 0]
def prgAct (d : PrgD) (i : Nat) : Option Diag := firstD [req (zYa d i).2 4 i (zYa d i).1, req (dupS (d.aZ.l.map (·.name)) i) 4 i 0]
def prgTbl (d : PrgD) (i : Nat) : Option Diag := firstD [req (zJa d i).2 5 i (zJa d i).1, req (dupS (d.tZ.l.map (·.name)) i) 5 i 0]
def zdd (d : PrgD) : Option Diag := firstD [scan d.rZ.l.length (prgReg d), scan d.aZ.l.length (prgAct d), scan d.tZ.l.length (prgTbl d)]
def zng (d : PrgD) : Option Diag := firstD [req (zTa d).2.2 6 (zTa d).1 (zTa d).2.1, req (zEc d).2 7 (zEc d).1 0, req (zDb d).2 8 (zDb d).1 0]
def zUa (d : PrgD) : Diag := (firstD [zmb d, scan d.hZ.l.length (zgd d), zUb d, zdd d, zng d]).getD (0, 0, 0, 0)
def wr (x : Int) : Int := IntKind.i64.wrap x
theorem wr_id {x : Int} (h0 : -9223372036854775808 ≤ x) (h1 : x ≤ 9223372036854775807) : wr x = x := by
 unfold wr
 simp [IntKind.wrap, IntKind.bits, IntKind.signed]
 omega
def zXa (d : PrgD) (x : NodD) (used : List Int) : Int :=
 if x.kind = 1 ∨ x.kind = 3 then
  if x.table < 0 ∨ (d.tZ.l.length : Int) ≤ x.table then 8
  else if used.contains x.table then 7
  else if x.kind = 1 ∧ 0 < wr ((x.thn.l.length : Int) + x.els.l.length) then 5 else 0
 else if x.kind = 2 then
  if (zMa d [] x.cond.l).2 ≠ 0 then (zMa d [] x.cond.l).2 else if (zMa d [] x.cond.l).1 ≠ 1 then 10 else 0
 else 11
def zSd (d : PrgD) : List NodD → List Int → Nat → Nat × Int
 | [], _, n => (n, 0)
 | x :: l, used, n => if zXa d x used ≠ 0 then (n, zXa d x used) else zSd d l (if zqa x then used ++ [x.table] else used) (n + 1)
mutual
def zMd : NodD → Int
 | .mk _ _ _ _ _ tl _ _ el => max (zOa tl) (zOa el)
def zPa : List NodD → Int
 | [] => 0
 | x :: l => max (zMd x) (zPa l)
def zOa : List NodD → Int
 | [] => 0
 | x :: l => wr (max (zMd x) (zPa l) + 1)
end
def zWa (d : PrgD) : Int × Int :=
 if 24 < wr (zda d.cZ.l).length then (-1, 12)
 else if 6 < zOa d.cZ.l then (-1, 14)
 else if (zSd d (zda d.cZ.l) [] 0).2 ≠ 0 then (wr (zSd d (zda d.cZ.l) [] 0).1, (zSd d (zda d.cZ.l) [] 0).2) else (0, 0)
def zVc (d : PrgD) : Option Diag := firstD [req (zTa d).2.2 6 (zTa d).1 (zTa d).2.1, req (zWa d).2 7 (zWa d).1 0, req (zDb d).2 8 (zDb d).1 0]
def zra (d : PrgD) : Diag := (firstD [zmb d, scan d.hZ.l.length (zgd d), zUb d, zdd d, zVc d]).getD (0, 0, 0, 0)
theorem wr_64 (x : Int) : wr x = Go.RowKit.wrap64 x := by
 unfold wr
 rw [IntKind.wrap_i64]
 unfold Go.RowKit.wrap64
 rfl
theorem wr_add (x y : Int) : wr (wr x + y) = wr (x + y) := by
 unfold wr
 simp [IntKind.wrap, IntKind.bits, IntKind.signed]
 omega
open Go.RowKit
structure Ab (N : Nat) (w0 : World) where
 u : World
 h : Below N w0 u
instance (N : Nat) (w0 : World) : Nonempty (Ab N w0) := ⟨⟨w0, Below.refl _ _⟩⟩
theorem zia {P : Program} {id : Nat} {Q : Exit → Act → World → Prop} {a : Act} {w : World} {l : List Oper} (N : Nat) (w0 : World) (hm : P.follows .mixedOrders = true) (hB : Region.lexB .any l.toArray = true)
  (hw : Below N w0 w) (h : wpQuiet P l.toArray (fun u => ∃ p : Ab N w0, u = p.u) (fun a' => ∀ w', (∃ p : Ab N w0, w' = p.u) → Q .normal a' w') l a) : (Code.region id l.toArray true).wp P Q a w :=
 wp_region_quiet (C := fun u => ∃ p : Ab N w0, u = p.u) hm hB ⟨⟨w.drew, zca hw 1⟩, rfl⟩ (by simpa using h)
theorem Calls.ab {P : Program} {f : FuncId} {args : Array Value} {N : Nat} {w0 : World} {p : Ab N w0} {v : Value} (hN : N ≤ w0.heap.size)
  (h : Calls P f args p.u fun e w' => e = .returned v ∧ Below p.u.heap.size p.u w') : Calls P f args p.u fun e w'' => e = .returned v ∧ ∃ q : Ab N w0, w'' = q.u :=
 h.mono fun _ w'' ⟨he, hb⟩ => ⟨he, ⟨w'', p.h.trans (hb.mono (Nat.le_trans hN p.h.size))⟩, rfl⟩
structure Fr (N : Nat) (w W : World) (l : List (Nat × TypeId × Array Value)) : Prop where
 base : N ≤ w.heap.size
 below : Below N w W
 blk : ∀ x ∈ l, N ≤ x.1 ∧ Blk W x.1 x.2.1 x.2.2
section
variable {N : Nat} {w W W' : World} {l : List (Nat × TypeId × Array Value)}
theorem Fr.start (w : World) : Fr w.heap.size w w [] := ⟨Nat.le_refl _, Below.refl _ _, fun x hx => absurd hx (by simp)⟩
theorem Fr.le (h : Fr N w W l) : N ≤ W.heap.size := Nat.le_trans h.base h.below.size
theorem Fr.call (h : Fr N w W l) (hb : Below W.heap.size W W') : Fr N w W' l :=
 ⟨h.base, h.below.trans (hb.mono h.le), fun x hx => ⟨(h.blk x hx).1, (h.blk x hx).2.below hb (h.blk x hx).2.lt⟩⟩
theorem Fr.alloc (h : Fr N w W l) (cs : Array Value) (t : TypeId) : Fr N w (W.alloc (.cells cs t)) ((W.heap.size, t, cs) :: l) := by
 have h2 := h.call ((Below.refl _ W).alloc (Nat.le_refl _) (.cells cs t))
 refine ⟨h.base, h2.below, fun x hx => ?_⟩
 rcases List.mem_cons.1 hx with rfl | hx
 ·exact ⟨h.le, Blk.new _ _ _⟩
 ·exact h2.blk x hx
theorem Fr.drew (h : Fr N w W l) : Fr N w W.drew l := h.call (Below.refl _ W).drew
theorem Fr.of_eq (h : Fr N w W l) (e : W' = W) : Fr N w W' l := e ▸ h
theorem Fr.skip {x : Nat × TypeId × Array Value} (h : Fr N w W (x :: l)) : Fr N w W l := ⟨h.base, h.below, fun y hy => h.blk y (List.mem_cons_of_mem _ hy)⟩
theorem Fr.cell {g : Nat} {t : TypeId} {cs : Array Value} (h : Fr N w W l) (hm : (g, t, cs) ∈ l) (i : Nat) : W.cell? ⟨g, i, none⟩ = cs[i]? := (h.blk _ hm).2.cell i
theorem Fr.frozen {g : Nat} {t : TypeId} {cs : Array Value} (h : Fr N w W l) (hm : (g, t, cs) ∈ l) (i : Nat) : W.frozen? ⟨g, i, none⟩ = false := (h.blk _ hm).2.frozen i
theorem Fr.lt {g : Nat} {t : TypeId} {cs : Array Value} (h : Fr N w W l) (hm : (g, t, cs) ∈ l) : g < W.heap.size := (h.blk _ hm).2.lt
end
theorem Calls.named {P : Program} {f : FuncId} {args : Array Value} {w : World} {Q : Ending → World → Prop} (h : ∀ W, W = w → Calls P f args W Q) : Calls P f args w Q := h w rfl
open Go.RowKit
open Go.Maps (Keyed)
set_option linter.unusedVariables false
def Sett (P : Program) (w : World) (k e : TypeId) (g n : Nat) (ks : List Lit) : Prop :=
 ∃ D : DataW Unit, w.ownsMap P k (plainElem P e) g n D ∧ (∀ kl, (kl ∈ ks → D.atKey kl (.lit (.bool false)) = .lit (.bool true)) ∧ (kl ∉ ks → D.atKey kl (.lit (.bool false)) = .lit (.bool false)))
section
variable {P : Program} {w w' : World} {k e t : TypeId} {g n : Nat} {ks : List Lit}
theorem Sett.made (w : World) : Sett P (w.alloc (.map #[] 0)) k e w.heap.size 0 [] := ⟨.map [], World.ownsMap_made _ _ _ _, fun kl => ⟨fun h => absurd h (by simp), fun _ => by simp [DataW.atKey]⟩⟩
theorem Sett.lt (h : Sett P w k e g n ks) : g < w.heap.size := h.choose_spec.1.lt
theorem Sett.kept {row : Option Nat} (h : Sett P w k e g n ks) (hg : w.grownBy w' row) (hne : some g ≠ row) : Sett P w' k e g n ks := by
 obtain ⟨D, h1, h2⟩ := h
 exact ⟨D, h1.kept hg hne, h2⟩
theorem Sett.below (h : Sett P w k e g n ks) (hb : Below w.heap.size w w') : Sett P w' k e g n ks :=
 h.kept (row := none) ⟨hb.os, hb.tape, hb.output, hb.size, fun k hk _ => hb.block k hk⟩ (by simp)
theorem zKc {v : Value} {x : Bool} {ps : List MemPlace} (he : P.underlying e = some .bool) (h : plainElem (H := Unit) P e v = some (.lit (.bool x), ps)) : v = .bool x := by
 unfold plainElem at h
 rw [he] at h
 cases v <;> simp at h
 rw [h.1]
theorem Sett.look (h : Sett P w k e g n ks) (K : Keyed P k) (ht : P.underlying t = some (.map k e)) (he : P.underlying e = some .bool) (hz : (zeroValue e).run P w = .ok (.bool false) w)
  {key : Value} {kl : Lit} (hkey : keyOf P k key = some kl) {b : Bool} (hb : b = true ↔ kl ∈ ks) : (Instr.lookup t (.map (some g)) key false).run P w = .ok (.bool b) w := by
 obtain ⟨D, h1, h2⟩ := h
 obtain ⟨v, ps, hrun, hv⟩ := h1.lookup K ht hz (plainElem_bool he false) hkey
 cases b with
 | true =>
  rw [(h2 kl).1 (hb.1 rfl)] at hv
  rw [zKc he hv] at hrun
  exact hrun
 | false =>
  rw [(h2 kl).2 (fun h => by have := hb.2 h; cases this)] at hv
  rw [zKc he hv] at hrun
  exact hrun
theorem Sett.put_ (h : Sett P w k e g n ks) (K : Keyed P k) (ht : P.underlying t = some (.map k e)) (he : P.underlying e = some .bool) (hn : n < maxLen)
  {key : Value} {kl : Lit} (hkey : keyOf P k key = some kl) (hkl : WideAt.IsKeyLit kl) : ∃ w', (Instr.mapUpdate t (.map (some g)) key (.bool true)).run P w = .ok () w' ∧ Sett P w' k e g (n + 1) (kl :: ks) ∧ w.grownBy w' (some g) := by
 obtain ⟨D, h1, h2⟩ := h
 obtain ⟨w', hrun, h3, h4⟩ := h1.update K ht hn hkey (plainElem_bool he true)
 refine ⟨w', hrun, ⟨_, h3, fun kl' => ?_⟩, h4⟩
 by_cases hk : kl' = kl
 ·subst hk
  rw [Maps.atKey_put_same h1.isMap hkl]
  simp
 ·rw [Maps.atKey_put_other hk]
  simp only [List.mem_cons, hk, false_or]
  exact h2 kl'
end
theorem zge {P : Program} (w : World) {ops : Array Oper} {rest : List Oper} {o : Oper} {a : Act} {Q : Exit → Act → World → Prop}
  (hg : o.guard = none) (m x v : Operand) (t : TypeId) (hop : o.op = Op.mapUpdate t m x v) (k e : TypeId) (K : Keyed P k) (ht : P.underlying t = some (.map k e)) (he : P.underlying e = some .bool) (g n : Nat) (ks : List Lit)
  (hm : a.eval m = .map (some g)) (hown : Sett P w k e g n ks) (hn : n < maxLen) (key : Value) (kl : Lit) (hx : a.eval x = key) (hv : a.eval v = .bool true) (hkey : keyOf P k key = some kl) (hkl : WideAt.IsKeyLit kl)
  (hK : ∀ w', Sett P w' k e g (n + 1) (kl :: ks) → w.grownBy w' (some g) → wpList P ops Q rest (a.put o.dst undef) w') : wpList P ops Q (o :: rest) a w := by
 refine wpList_plain hg fun K' hK' => ?_
 obtain ⟨w', hrun, r1, r2⟩ := hown.put_ K ht he hn hkey hkl
 unfold Oper.wp
 simp [execOp, hop, hm, hx, hv, hrun, Result.andThen]
 exact hK' _ _ (hK w' r1 r2)
abbrev kInt (x : Int) : Lit := .int .i64 x
abbrev kStr (s : ByteArray) : Lit := .string s.data.toList
theorem kInt_wf {x : Int} (h : I64 x) : (Lit.int .i64 x).wf = true := WalkArith.wf_i64 h
theorem mem_kInt (x : Int) (l : List Int) : l.contains x = true ↔ kInt x ∈ l.map kInt := by
 simp [kInt, List.mem_map]
theorem mem_kStr (s : ByteArray) (l : List ByteArray) : l.any (fun t => sEq t s) = true ↔ kStr s ∈ l.map kStr := by
 simp only [List.any_eq_true, List.mem_map, sEq, beq_iff_eq, ByteArray.toList_eq]
 constructor
 ·rintro ⟨x, hx, h⟩
  exact ⟨x, hx, by unfold kStr; rw [h]⟩
 ·rintro ⟨x, hx, h⟩
  exact ⟨x, hx, by unfold kStr at h; injection h⟩
open Go.RowKit
def zIb (n size : Int) : Int := (n + size - 1) / size
theorem zdf (n size : Int) (hn : 0 ≤ n ∧ n ≤ 1000000000) (hs : 1 ≤ size ∧ size ≤ 1000000) (w : World) :
  Calls Tryz.prog 107 #[.int .i64 n, .int .i64 size] w fun e w' => e = .returned (.int .i64 (zIb n size)) ∧ w = w' := by
 obtain ⟨hn0, hn1⟩ := hn
 obtain ⟨hs0, hs1⟩ := hs
 have hz : ¬ size = 0 := by omega
 have hp : 0 ≤ n + size - 1 := by omega
 have HV := Hd (show zIb n size = (n + size - 1) / size from rfl)
 go_enter Tryz.func107, Tryz.ntmps107
 go_wp2_with fail
 go_returns
 exact ⟨by rw [HV.out]; try rfl, rfl⟩
end Go.Proofs.YtakgiamhdpgoeaaGreat
