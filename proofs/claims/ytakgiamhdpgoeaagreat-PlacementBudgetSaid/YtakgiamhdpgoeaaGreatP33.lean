/- Lemmas. -/
import Derived.Test.YtakgiamhdpgoeaaGreatP25
set_option linter.unusedSimpArgs false
namespace Go.Proofs.YtakgiamhdpgoeaaGreat
open Go.RowKit
set_option linter.unusedVariables false
def zvc (d : PrgD) (m a : Int) : Int := match (if a < 0 then none else d.aZ.l[a.toNat]?) with | none => m | some x => max m (sumW x.params.l)
theorem zZe (d : PrgD) (t : TblD) : zYe d t = t.aZ.l.foldl (zvc d) 0 := rfl
theorem argStep_out {d : PrgD} {m a : Int} (h : a < 0 ∨ (d.aZ.l.length : Int) ≤ a) : zvc d m a = m := by
 unfold zvc
 by_cases h0 : a < 0
 ·rw [if_pos h0]
 ·rw [if_neg h0, List.getElem?_eq_none (by omega)]
theorem argStep_in {d : PrgD} {m a : Int} {x : ActD} (h0 : 0 ≤ a) (h : d.aZ.l[a.toNat]? = some x) : zvc d m a = max m (sumW x.params.l) := by
 unfold zvc
 rw [if_neg (by omega), h]
def WidthsOk (d : PrgD) : Prop := ∀ x ∈ d.aZ.l, x.params.l.length ≤ 1000 ∧ ∀ f ∈ x.params.l, 0 ≤ f.width ∧ f.width ≤ 1000
theorem sumW_take {l : List FldD} {k : Nat} {f : FldD} (h : l[k]? = some f) : sumW (l.take (k + 1)) = sumW (l.take k) + f.width := by
 unfold sumW
 have := isum_takeK (l := l.map (·.width)) (k := k) (x := f.width) (by rw [List.getElem?_map, h]; rfl)
 rwa [← List.map_take, ← List.map_take] at this
theorem sumW_bd {l : List FldD} (h : ∀ f ∈ l, 0 ≤ f.width ∧ f.width ≤ 1000) (hl : l.length ≤ 1000) : 0 ≤ sumW l ∧ sumW l ≤ 1000000 := by
 unfold sumW
 have := isum_bdK (K := 1000) (l.map (·.width)) (fun x hx => by obtain ⟨f, hf, rfl⟩ := List.mem_map.1 hx; exact h f hf)
 rw [List.length_map] at this
 omega
theorem foldl_take {α β : Type} {f : β → α → β} {l : List α} {k : Nat} {x : α} {b : β} (h : l[k]? = some x) : (l.take (k + 1)).foldl f b = f ((l.take k).foldl f b) x := by
 rw [List.take_add_one, h, List.foldl_append]
 rfl
theorem argStep_bd {d : PrgD} (hw : WidthsOk d) {m a : Int} (hm : 0 ≤ m ∧ m ≤ 1000000) : 0 ≤ zvc d m a ∧ zvc d m a ≤ 1000000 := by
 unfold zvc
 split
 ·exact hm
 ·rename_i x hx
  have hx2 : x ∈ d.aZ.l := by
   split at hx
   ·cases hx
   ·exact List.mem_of_getElem? hx
  have := sumW_bd (hw x hx2).2 (hw x hx2).1
  omega
theorem zaf {d : PrgD} (hw : WidthsOk d) (l : List Int) : ∀ m, 0 ≤ m ∧ m ≤ 1000000 → 0 ≤ l.foldl (zvc d) m ∧ l.foldl (zvc d) m ≤ 1000000 := by
 induction l with
 | nil => exact fun m h => h
 | cons a l ih => exact fun m h => ih _ (argStep_bd hw h)
set_option maxRecDepth 100000 in
set_option maxHeartbeats 4000000 in
theorem argBits_any (d : PrgD) (t : TblD) (w : World) (hR : PrgR w w.heap.size d) (hA : SLR w w.heap.size 1 intE I64 t.aZ) (hw : WidthsOk d) :
  Calls Tryz.prog 105 #[PrgD.v d, tblV t] w fun e w' => e = .returned (.int .i64 (zYe d t)) ∧ Below w.heap.size w w' := by
 obtain ⟨N, hN⟩ : ∃ N, w.heap.size = N := ⟨_, rfl⟩
 rw [hN] at hR hA ⊢
 have F0 := Fr.start w
 rw [hN] at F0
 have HF0 := Hd F0
 have HR := Hd hR
 have HA := Hd hA
 have HW := Hd hw
 have hal := hA.len
 have hdl := hR.aZ.len
 obtain ⟨tn, tk, ⟨ta, tac, tal⟩, td, tg, ts⟩ := t
 have HV := Hd (zZe d ⟨tn, tk, ⟨ta, tac, tal⟩, td, tg, ts⟩)
 obtain ⟨z, hz⟩ : ∃ z, zYe d ⟨tn, tk, ⟨ta, tac, tal⟩, td, tg, ts⟩ = z := ⟨_, rfl⟩
 rw [hz] at HV ⊢
 obtain ⟨A0, hA0⟩ : ∃ z, d.aZ.a = z := ⟨_, rfl⟩
 simp only at HV HA hal
 clear hR hA F0 hw hz
 unfold PrgD.v PrgD.vs tblV
 dsimp only
 rw [hA0]
 have HA0 := Hd hA0
 clear hA0
 go_enter Tryz.func105, Tryz.ntmps105
 go_wp2_with fail
 refine zfa ?_
 intro W hW
 have F1 := ((HF0.out.alloc _ _).alloc _ _).of_eq hW
 simp only [World.size_alloc, hN] at F1
 obtain ⟨L, hL, F1⟩ := F1.name
 have HL := Hd hL
 have HF1 := Hd F1
 clear F1 hL hW
 obtain ⟨g0, l0, f0⟩ := HF1.out.c0 HL.out
 obtain ⟨g1, l1, f1⟩ := HF1.out.c1 HL.out
 dsimp only at g0 l0 f0 g1 l1 f1
 go_step3
 go_wp2_with fail
 go_step3
 go_wp2_with fail
 clear g0 l0 f0 g1 l1 f1
 go_loopw [5, 14] (fun m i wr => ∃ k : Nat, k ≤ tal.length ∧ i = .int .i64 k ∧ m = .int .i64 ((tal.take k).foldl (zvc d) 0) ∧ Fr N w wr L) (fun _ i _ => tal.length - (intOf i).toNat)
 case atStart => exact ⟨0, Nat.zero_le _, rfl, rfl, HF1.out⟩
 case round =>
  obtain ⟨k, hk, rfl, rfl, F⟩ := hrel
  have HF := Hd F
  clear F
  obtain ⟨g0, l0, f0⟩ := HF.out.c0 HL.out
  obtain ⟨g1, l1, f1⟩ := HF.out.c1 HL.out
  dsimp only at g0 l0 f0 g1 l1 f1
  have hmb := zaf HW.out (tal.take k) 0 (by omega)
  obtain ⟨m, hm⟩ : ∃ m, (tal.take k).foldl (zvc d) 0 = m := ⟨_, rfl⟩
  have HM := Hd hm
  rw [hm] at hmb ⊢
  clear hm
  by_cases hlt : k < tal.length
  ·obtain ⟨b2, off2, a, hA2, hb2, ha, _, hc2⟩ := HF.out.at_ HA.out zna (by omega) hlt
   have p0 := hc2 0 _ rfl
   simp only [Nat.add_zero, Nat.mul_one] at p0
   have HX := Hd ha
   have hk1 : (k : Int) < tal.length := by omega
   simp only at hA2
   subst hA2
   clear hc2 ha
   by_cases ca : a < 0 ∨ (d.aZ.l.length : Int) ≤ a
   ·have HS := Hd (show (tal.take (k + 1)).foldl (zvc d) 0 = m by rw [foldl_take HX.out, argStep_out ca]; exact HM.out)
    by_cases c1 : a < 0
    ·go_wp2_with fail
     go_roundw
     case rel => exact ⟨k + 1, by omega, by go_num, by rw [HS.out], HF.out⟩
     case measure => simp [intOf]; omega
    ·have c1' : decide (a < 0) = false := decide_eq_false c1
     have c2 : (d.aZ.l.length : Int) ≤ a := by omega
     go_wp2_with fail
     go_roundw
     case rel => exact ⟨k + 1, by omega, by go_num, by rw [HS.out], HF.out⟩
     case measure => simp [intOf]; omega
   ·have c1 : ¬ a < 0 := by omega
    have c2 : ¬ (d.aZ.l.length : Int) ≤ a := by omega
    have c1' : decide (a < 0) = false := decide_eq_false c1
    have c2' : decide ((d.aZ.l.length : Int) ≤ a) = false := decide_eq_false c2
    obtain ⟨n, rfl⟩ : ∃ n : Nat, a = n := ⟨a.toNat, by omega⟩
    have hn : n < d.aZ.l.length := by omega
    have hn1 : (n : Int) < d.aZ.l.length := by omega
    obtain ⟨b3, off3, x, hA3, hb3, hx, hxok, hc3⟩ := HF.out.at_ HR.out.aZ zdg (by omega) hn
    have p1 := hc3 1 _ rfl
    have HP := Hd hxok.params
    have HXa := Hd hx
    have hpw := HW.out x (List.mem_of_getElem? hx)
    have HPw := Hd hpw.2
    have hpl := hpw.1
    have HS := Hd (show (tal.take (k + 1)).foldl (zvc d) 0 = max m (sumW x.params.l) by rw [foldl_take HX.out, HM.out]; exact argStep_in (by omega) (by simpa using hx))
    rw [HA0.out] at hA3
    subst hA3
    obtain ⟨nm, ⟨pa, pc, pl⟩, bd⟩ := x
    simp only at p1 HP HPw hpl HS
    clear hc3 hx hxok hpw ca
    go_wp2_with fail
    go_loopw [9, 35] (fun s i wr2 => ∃ q : Nat, q ≤ pl.length ∧ i = .int .i64 q ∧ s = .int .i64 (sumW (pl.take q)) ∧ Fr N w wr2 L) (fun _ i _ => pl.length - (intOf i).toNat)
    case atStart => exact ⟨0, Nat.zero_le _, rfl, rfl, HF.out⟩
    case round =>
     obtain ⟨q, hq, rfl, rfl, F⟩ := hrel
     have HF2 := Hd F
     clear F
     have hsb := sumW_bd (l := pl.take q) (fun f hf => HPw.out f (List.mem_of_mem_take hf)) (by rw [List.length_take]; omega)
     obtain ⟨s, hs⟩ : ∃ s, sumW (pl.take q) = s := ⟨_, rfl⟩
     have HSm := Hd hs
     rw [hs] at hsb ⊢
     clear hs
     by_cases hlt2 : q < pl.length
     ·obtain ⟨b4, off4, f, hA4, hb4, hf, _, hc4⟩ := HF2.out.at_ HP.out zFb (by omega) hlt2
      have p2 := hc4 1 _ rfl
      simp only at hA4
      have hfw := HPw.out f (List.mem_of_getElem? hf)
      have HN := Hd (show sumW (pl.take (q + 1)) = s + f.width by rw [sumW_take hf, HSm.out])
      have hq1 : (q : Int) < pl.length := by omega
      obtain ⟨jf, hjf⟩ : ∃ z, f.width = z := ⟨_, rfl⟩
      rw [hjf] at p2 hfw HN
      subst hA4
      clear hc4 hf hjf
      go_wp2_with fail
      go_roundw
      case rel => exact ⟨q + 1, by omega, by go_num, by rw [HN.out], HF2.out⟩
      case measure => simp [intOf]; omega
     ·obtain rfl : q = pl.length := by omega
      have HS2 := Hd (show s = sumW pl by have := HSm.out; rw [List.take_length] at this; exact this.symm)
      clear hlt2
      go_wp2_with fail
      go_roundw
      case rel => exact ⟨k + 1, by omega, by go_num, by first | (rw [HS.out, ← HS2.out]; done) | (rw [HS.out, ← HS2.out]; congr 1; (try simp only [Int.max_def]); (try split) <;> (try split) <;> (try omega) <;> (try rfl)), HF2.out⟩
      case measure => simp [intOf]; omega
  ·obtain rfl : k = tal.length := by omega
   have HV2 := Hd (show z = m by rw [HV.out, ← HM.out, List.take_length])
   clear hlt
   go_wp2_with fail
   first
    | (go_returns; exact ⟨by rw [HV2.out]; try rfl, HF.out.below⟩)
    | (rw [Exit.noGoto_ret]; go_returns; exact ⟨by rw [HV2.out]; try rfl, HF.out.below⟩)
    | (refine bodyPost_ret (v := .int .i64 m) (by simp [results, Tryz.results105, go_sem]) rfl ?_; exact ⟨by rw [HV2.out]; try rfl, HF.out.below⟩)
open Go.RowKit
theorem cellCnt_bd {d : PrgD} (hb : PrgB d) (k : Int) : 0 ≤ zgf d k ∧ zgf d k ≤ 1000000 := by
 have h1 := zAf hb
 have h2 := hb.h
 have h3 := hb.m
 have h4 := hb.r
 unfold zgf
 split
 ·exact h1
 ·split
  ·omega
  ·split
   ·omega
   ·split <;> omega
set_option maxRecDepth 100000 in
set_option maxHeartbeats 4000000 in
theorem cell_any (d : PrgD) (kind : Nat) (i : Int) (w : World) (hR : PrgR w w.heap.size d) (hB : PrgB d) (h1 : 1 ≤ kind) (h2 : kind ≤ 3) :
  Calls Tryz.prog 149 #[PrgD.v d, .int .i64 kind, .int .i64 i] w fun e w' => e = .returned (.int .i64 (zOb d kind i)) ∧ Below w.heap.size w w' := by
 obtain ⟨N, hN⟩ : ∃ N, w.heap.size = N := ⟨_, rfl⟩
 rw [hN] at hR ⊢
 have F0 := Fr.start w
 rw [hN] at F0
 have HF0 := Hd F0
 have HR := Hd hR
 have HV := Hd (show zOb d kind i = if i < 0 ∨ zgf d kind ≤ i then -1 else zRd d kind + i from rfl)
 have hc := cellCnt_bd hB kind
 have hf := cellFst_bd hB kind
 have HCon := Hd (fun (W : World) (h : PrgR W W.heap.size d) => counts_any d W h hB)
 have HFst := Hd (fun (W : World) (h : PrgR W W.heap.size d) => first_any d kind W h hB h1 h2)
 have hix : ∀ w, (Instr.index 246 (.agg #[.int .i64 (zCc d), .int .i64 d.hZ.l.length, .int .i64 d.mZ.l.length, .int .i64 d.rZ.l.length]) (.int .i64 kind)).run Tryz.prog w = .ok (.int .i64 (zgf d kind)) w := by
  intro w
  rcases (show kind = 1 ∨ kind = 2 ∨ kind = 3 by omega) with rfl | rfl | rfl <;> kernel_rfl
 obtain ⟨cnt, hcnt⟩ : ∃ z, zgf d kind = z := ⟨_, rfl⟩
 obtain ⟨fst, hfst⟩ : ∃ z, zRd d kind = z := ⟨_, rfl⟩
 obtain ⟨cv, hcv⟩ : ∃ z, (Value.agg #[.int .i64 (zCc d), .int .i64 d.hZ.l.length, .int .i64 d.mZ.l.length, .int .i64 d.rZ.l.length]) = z := ⟨_, rfl⟩
 rw [hcv] at HCon hix
 rw [hcnt] at HV hc hix
 rw [hfst] at HV hf HFst
 obtain ⟨cl, hcl⟩ : ∃ z, zOb d kind i = z := ⟨_, rfl⟩
 rw [hcl] at HV ⊢
 clear hR F0 hB hcnt hfst hcv hcl
 unfold PrgD.v PrgD.vs at *
 by_cases c1 : i < 0
 ·have HV2 := Hd (HV.out.trans (if_pos (.inl c1)))
  go_enter Tryz.func149, Tryz.ntmps149
  go_wp2_with fail
  go_returns
  exact ⟨by rw [HV2.out]; try rfl, by have := HF0.out.alloc #[.string d.name, .slice d.hZ.a d.hZ.l.length d.hZ.c, .slice d.mZ.a d.mZ.l.length d.mZ.c, .slice d.rZ.a d.rZ.l.length d.rZ.c, .slice d.aZ.a d.aZ.l.length d.aZ.c, .slice d.tZ.a d.tZ.l.length d.tZ.c, .slice d.sZ.a d.sZ.l.length d.sZ.c, .slice d.cZ.a d.cZ.l.length d.cZ.c, .slice d.dep.a d.dep.l.length d.dep.c] 31; exact this.below⟩
 ·have c1' : decide (i < 0) = false := decide_eq_false c1
  go_enter Tryz.func149, Tryz.ntmps149
  go_wp2_with fail
  refine Calls.named ?_
  intro W hW
  have F1 := (HF0.out.alloc _ _).of_eq hW
  simp only [hN] at F1
  obtain ⟨L, hL, F1⟩ := F1.name
  have HL := Hd hL
  have HF1 := Hd F1
  clear F1 hL hW
  with_reducible refine (HCon.out W (HF1.out.prg HR.out)).mono ?_
  rintro e w1 ⟨rfl, hb1⟩
  have HF2 := Hd (HF1.out.call hb1)
  clear hb1 HF1
  by_cases c2 : cnt ≤ i
  ·have HV2 := Hd (HV.out.trans (if_pos (.inr c2)))
   go_wp2_with fail
   go_returns
   exact ⟨by rw [HV2.out]; try rfl, HF2.out.below⟩
  ·have c2' : decide (cnt ≤ i) = false := decide_eq_false c2
   have HV2 := Hd (HV.out.trans (if_neg (by omega)))
   obtain ⟨g0, l0, f0⟩ := HF2.out.c0 HL.out
   dsimp only at g0 l0 f0
   go_wp2_with fail
   clear g0 l0 f0
   with_reducible refine (HFst.out w1 (HF2.out.prg HR.out)).mono ?_
   rintro e w2 ⟨rfl, hb2⟩
   have HF3 := Hd (HF2.out.call hb2)
   clear hb2 HF2
   go_wp2_with fail
   go_returns
   exact ⟨by rw [HV2.out]; try rfl, HF3.out.below⟩
set_option maxRecDepth 100000 in
set_option maxHeartbeats 4000000 in
theorem validCell_any (d : PrgD) (i : Int) (w : World) (hR : PrgR w w.heap.size d) (hB : PrgB d) :
  Calls Tryz.prog 128 #[PrgD.v d, .int .i64 i] w fun e w' => e = .returned (.int .i64 (zOb d 1 i)) ∧ Below w.heap.size w w' := by
 obtain ⟨N, hN⟩ : ∃ N, w.heap.size = N := ⟨_, rfl⟩
 rw [hN] at hR ⊢
 have F0 := Fr.start w
 rw [hN] at F0
 have HF0 := Hd F0
 have HR := Hd hR
 have HCon := Hd (show ∀ (W : World), PrgR W W.heap.size d → Calls Tryz.prog 149 #[PrgD.v d, .int .i64 1, .int .i64 i] W (fun e w' => e = .returned (.int .i64 (zOb d 1 i)) ∧ Below W.heap.size W w') from fun W h => cell_any d 1 i W h hB (by omega) (by omega))
 clear hR F0 hB
 unfold PrgD.v PrgD.vs at *
 go_enter Tryz.func128, Tryz.ntmps128
 go_wp2_with fail
 refine Calls.named ?_
 intro W hW
 have F1 := (HF0.out.alloc _ _).of_eq hW
 simp only [hN] at F1
 obtain ⟨L, hL, F1⟩ := F1.name
 have HF1 := Hd F1
 clear F1 hL hW
 with_reducible refine (HCon.out W (HF1.out.prg HR.out)).mono ?_
 rintro e w1 ⟨rfl, hb1⟩
 have HF2 := Hd (HF1.out.call hb1)
 clear hb1 HF1
 go_wp2_with fail
 go_returns
 exact ⟨rfl, HF2.out.below⟩
set_option maxRecDepth 100000 in
set_option maxHeartbeats 4000000 in
theorem zHf (d : PrgD) (i : Int) (w : World) (hR : PrgR w w.heap.size d) (hB : PrgB d) :
  Calls Tryz.prog 129 #[PrgD.v d, .int .i64 i] w fun e w' => e = .returned (.int .i64 (zOb d 3 i)) ∧ Below w.heap.size w w' := by
 obtain ⟨N, hN⟩ : ∃ N, w.heap.size = N := ⟨_, rfl⟩
 rw [hN] at hR ⊢
 have F0 := Fr.start w
 rw [hN] at F0
 have HF0 := Hd F0
 have HR := Hd hR
 have HCon := Hd (show ∀ (W : World), PrgR W W.heap.size d → Calls Tryz.prog 149 #[PrgD.v d, .int .i64 3, .int .i64 i] W (fun e w' => e = .returned (.int .i64 (zOb d 3 i)) ∧ Below W.heap.size W w') from fun W h => cell_any d 3 i W h hB (by omega) (by omega))
 clear hR F0 hB
 unfold PrgD.v PrgD.vs at *
 go_enter Tryz.func129, Tryz.ntmps129
 go_wp2_with fail
 refine Calls.named ?_
 intro W hW
 have F1 := (HF0.out.alloc _ _).of_eq hW
 simp only [hN] at F1
 obtain ⟨L, hL, F1⟩ := F1.name
 have HF1 := Hd F1
 clear F1 hL hW
 with_reducible refine (HCon.out W (HF1.out.prg HR.out)).mono ?_
 rintro e w1 ⟨rfl, hb1⟩
 have HF2 := Hd (HF1.out.call hb1)
 clear hb1 HF1
 go_wp2_with fail
 go_returns
 exact ⟨rfl, HF2.out.below⟩
set_option maxRecDepth 100000 in
set_option maxHeartbeats 4000000 in
theorem fieldCell_any (d : PrgD) (h f : Int) (w : World) (hR : PrgR w w.heap.size d) (hB : PrgB d) :
  Calls Tryz.prog 127 #[PrgD.v d, .agg #[.int .i64 h, .int .i64 f]] w fun e w' => e = .returned (.int .i64 (zvb d h f)) ∧ Below w.heap.size w w' := by
 obtain ⟨N, hN⟩ : ∃ N, w.heap.size = N := ⟨_, rfl⟩
 rw [hN] at hR ⊢
 have F0 := Fr.start w
 rw [hN] at F0
 have HF0 := Hd F0
 have HR := Hd hR
 have HH := Hd hR.hZ
 have hl1 := hR.hZ.len
 have hle1 := hR.hZ.le
 have HPB := Hd hB
 have HBd := Hd (zvf hB)
 have HCon := Hd (show ∀ (W : World), PrgR W W.heap.size d → Calls Tryz.prog 149 #[PrgD.v d, .int .i64 2, .int .i64 f] W (fun e w' => e = .returned (.int .i64 (zOb d 2 f)) ∧ Below W.heap.size W w') from fun W h => cell_any d 2 f W h hB (by omega) (by omega))
 have HV := Hd (show zvb d h f = if h = -1 then zOb d 2 f else if h < 0 ∨ (d.hZ.l.length : Int) ≤ h then -1 else match d.hZ.l[h.toNat]? with
  | none => -1
  | some x => if f < 0 ∨ (x.fields.l.length : Int) ≤ f then -1 else f + isum ((d.hZ.l.take h.toNat).map fun h => (h.fields.l.length : Int)) from rfl)
 obtain ⟨z, hz⟩ : ∃ z, zvb d h f = z := ⟨_, rfl⟩
 rw [hz] at HV ⊢
 obtain ⟨A0, hA0⟩ : ∃ z, d.hZ.a = z := ⟨_, rfl⟩
 have HA0 := Hd hA0
 clear hR F0 hB hz
 unfold PrgD.v PrgD.vs at *
 rw [hA0] at HCon ⊢
 clear hA0
 go_enter Tryz.func127, Tryz.ntmps127
 by_cases c0 : h = -1
 ·have HV2 := Hd (HV.out.trans (if_pos c0))
  subst c0
  go_wp2_with fail
  refine Calls.named ?_
  intro W hW
  have F1 := ((HF0.out.alloc _ _).alloc _ _).of_eq hW
  simp only [World.size_alloc, hN] at F1
  obtain ⟨L, hL, F1⟩ := F1.name
  have HF1 := Hd F1
  clear F1 hL hW
  with_reducible refine (HCon.out W (HF1.out.prg HR.out)).mono ?_
  rintro e w1 ⟨rfl, hb1⟩
  have HF2 := Hd (HF1.out.call hb1)
  clear hb1 HF1
  go_wp2_with fail
  go_returns
  exact ⟨by rw [HV2.out]; try rfl, HF2.out.below⟩
 ·have c0' : (h == -1) = false := by simp [c0]
  have HV1 := Hd (HV.out.trans (if_neg c0))
  clear HCon
  go_wp2_with fail
  refine zfa ?_
  intro W hW
  have F1 := ((HF0.out.alloc _ _).alloc _ _).of_eq hW
  simp only [World.size_alloc, hN] at F1
  obtain ⟨L, hL, F1⟩ := F1.name
  have HL := Hd hL
  have HF1 := Hd F1
  clear F1 hL hW
  obtain ⟨g0, l0, f0⟩ := HF1.out.c0 HL.out
  obtain ⟨g1, l1, f1⟩ := HF1.out.c1 HL.out
  dsimp only at g0 l0 f0 g1 l1 f1
  by_cases c1 : h < 0
  ·have HV2 := Hd (HV1.out.trans (if_pos (.inl c1)))
   have c1' : decide (h < 0) = true := decide_eq_true c1
   clear c1
   go_quiet (fail)
   go_wp2_with fail
   go_returns
   exact ⟨by rw [HV2.out]; try rfl, zca HF1.out.below _⟩
  ·have c1' : decide (h < 0) = false := decide_eq_false c1
   by_cases c2 : (d.hZ.l.length : Int) ≤ h
   ·have HV2 := Hd (HV1.out.trans (if_pos (.inr c2)))
    have c2' : decide ((d.hZ.l.length : Int) ≤ h) = true := decide_eq_true c2
    go_quiet (fail)
    go_wp2_with fail
    go_returns
    exact ⟨by rw [HV2.out]; try rfl, zca HF1.out.below _⟩
   ·have hv := HV1.out.trans (if_neg (by omega))
    obtain ⟨n, rfl⟩ : ∃ n : Nat, h = n := ⟨h.toNat, by omega⟩
    have hn : n < d.hZ.l.length := by omega
    have hn1 : (n : Int) < d.hZ.l.length := by omega
    have hn3 : ¬ d.hZ.l.length ≤ n := by omega
    have hn3' : decide (d.hZ.l.length ≤ n) = false := decide_eq_false hn3
    have c2' : decide ((d.hZ.l.length : Int) ≤ n) = false := decide_eq_false c2
    obtain ⟨b2, off2, x, hA2, hb2, hx, hxok, hc2⟩ := HF1.out.at_ HH.out (fun _ => rfl) (by omega) hn
    have p1 := hc2 1 _ rfl
    rw [Int.toNat_natCast, hx] at hv
    simp only at hv
    have HV2 := Hd hv
    have hxl := hxok.fields.len
    have hx1000 := HPB.out.hf x (List.mem_of_getElem? hx)
    rw [HA0.out] at hA2
    clear hc2 hx hxok hv HV HV1
    obtain ⟨m, hm⟩ : ∃ z, x.fields.l.length = z := ⟨_, rfl⟩
    rw [hm] at HV2 p1 hxl hx1000
    clear hm
    subst hA2
    clear c0 c1 c2 hn F1
    by_cases c3 : f < 0
    ·have HV3 := Hd (HV2.out.trans (if_pos (.inl c3)))
     have c3' : decide (f < 0) = true := decide_eq_true c3
     go_quiet (fail)
     go_wp2_with fail
     go_returns
     exact ⟨by rw [HV3.out]; try rfl, zca HF1.out.below _⟩
    ·have c3' : decide (f < 0) = false := decide_eq_false c3
     by_cases c4 : (m : Int) ≤ f
     ·have HV3 := Hd (HV2.out.trans (if_pos (.inr c4)))
      have c4' : decide ((m : Int) ≤ f) = true := decide_eq_true c4
      go_quiet (fail)
      go_wp2_with fail
      go_returns
      exact ⟨by rw [HV3.out]; try rfl, zca HF1.out.below _⟩
     ·have c4' : decide ((m : Int) ≤ f) = false := decide_eq_false c4
      have HV3 := Hd (HV2.out.trans (if_neg (by omega)))
      have hm0 : 0 ≤ f ∧ f ≤ 9223372036854775807 := by omega
      have hc1 : n ≤ d.hZ.c := by omega
      have hc2 : (n : Int) ≤ d.hZ.c := by omega
      have c4'' : ¬ (m : Int) ≤ f := c4
      clear c4
      go_quiet (fail)
      go_wp2_with fail
      refine zfa ?_
      intro W2 hW2
      have HF2 := Hd (show Fr N w W2 L by rw [hW2]; exact HF1.out.call (zca (Below.refl _ _) _))
      clear hW2 HF1 l0 f0 g0 l1 f1 g1 p1
      go_loopw [5, 52] (fun s i wr => ∃ k : Nat, k ≤ n ∧ i = .int .i64 k ∧ s = .int .i64 (f + isum ((d.hZ.l.take k).map fun h => (h.fields.l.length : Int))) ∧ Fr N w wr L) (fun _ i _ => n - (intOf i).toNat)
      case atStart => exact ⟨0, Nat.zero_le _, rfl, by simp [isum], HF2.out⟩
      case round =>
       obtain ⟨k, hk, rfl, rfl, F⟩ := hrel
       have HF := Hd F
       have hb := HBd.out k
       obtain ⟨s, hs⟩ : ∃ z, isum ((d.hZ.l.take k).map fun h => (h.fields.l.length : Int)) = z := ⟨_, rfl⟩
       have HS := Hd hs
       rw [hs] at hb ⊢
       clear F hs
       by_cases hlt : k < n
       ·obtain ⟨b3, off3, y, hA3, hb3, hy, hyok, hc3⟩ := HF.out.at_ HH.out (fun _ => rfl) (by omega) (show k < d.hZ.l.length by omega)
        have q0 := hc3 0 _ rfl
        have q1 := hc3 1 _ rfl
        simp only [Nat.add_zero] at q0
        have HY := Hd (lens_step hy)
        have hb4 := HBd.out (k + 1)
        rw [HY.out, HS.out] at hb4
        have hk1 : (k : Int) < n := by omega
        obtain ⟨rfl, rfl⟩ := addr_inj (HA0.out.symm.trans hA3)
        obtain ⟨m2, hm2⟩ : ∃ z, y.fields.l.length = z := ⟨_, rfl⟩
        rw [hm2] at q1 hb4 HY
        clear hc3 hy hyok hA3 hm2
        have HF3 := Hd ((HF.out.alloc #[.string y.name, .slice y.fields.a m2 y.fields.c] 118).skip)
        go_wp2_with fail
        go_roundw
        case rel => exact ⟨k + 1, by omega, by go_num, by rw [HY.out, HS.out, Int.add_assoc], HF3.out⟩
        case measure => simp [intOf]; omega
       ·obtain rfl : k = n := by omega
        have HV4 := Hd (show z = f + s by rw [HV3.out, HS.out])
        clear hlt
        go_wp2_with fail
        go_returns
        exact ⟨by rw [HV4.out]; try rfl, HF.out.below⟩
end Go.Proofs.YtakgiamhdpgoeaaGreat
