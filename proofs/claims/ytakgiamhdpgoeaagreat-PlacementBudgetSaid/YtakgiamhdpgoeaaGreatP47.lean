/- Lemmas. -/
import Derived.Test.YtakgiamhdpgoeaaGreatP46
set_option linter.unusedSimpArgs false
namespace Go.Proofs.YtakgiamhdpgoeaaGreat
open Go.RowKit
set_option linter.unusedVariables false
theorem diagFieldOf' (a b c e : Value) (w : World) : (Instr.field 54 (.agg #[a, b, c, e]) 0).run Tryz.prog w = .ok a w := by kernel_rfl
theorem valid_no {e : Int} {J : JobM} {st : List Int} (h : e ≠ 0 ∨ zAa J.chip ≠ 0 ∨ J.valid st = false) : zRb e J st = false := by
 unfold zRb
 rcases h with h | h | h
 ·rw [decide_eq_false h]; rfl
 ·rw [decide_eq_false h]; simp
 ·rw [h]; simp
theorem valid_sat {J : JobM} {st : List Int} (h : J.sat st = false) : J.valid st = false := by unfold JobM.valid; rw [h]; rfl
theorem valid_rng {J : JobM} {st : List Int} {x : Int} (hx : x ∈ st) (h : ¬ (0 ≤ x ∧ x < J.chip.stages)) : J.valid st = false := by
 unfold JobM.valid
 have : st.all (fun s => decide (0 ≤ s) && decide (s < J.chip.stages)) = false := by
  rw [List.all_eq_false]
  refine ⟨x, hx, ?_⟩
  simp only [Bool.and_eq_true, decide_eq_true_eq]
  exact h
 rw [this]; simp
theorem valid_use {J : JobM} {st : List Int} {s : Nat} (hs : (s : Int) < J.chip.stages) (h : (J.use st s).fits J.chip = false) : J.valid st = false := by
 unfold JobM.valid
 have : (List.range J.chip.stages.toNat).all (fun (s : Nat) => (J.use st (s : Int)).fits J.chip) = false := by
  rw [List.all_eq_false]
  exact ⟨s, List.mem_range.2 (by omega), by rw [h]; simp⟩
 rw [this]; simp
theorem valid_yes {J : JobM} {st : List Int} (h1 : J.sat st = true) (h2 : ∀ x ∈ st, 0 ≤ x ∧ x < J.chip.stages) (h3 : ∀ s : Nat, (s : Int) < J.chip.stages → (J.use st s).fits J.chip = true) : J.valid st = true := by
 unfold JobM.valid
 rw [h1, List.all_eq_true.2 fun x hx => by have := h2 x hx; simp [this.1, this.2], List.all_eq_true.2 fun s hs => h3 s (by have := List.mem_range.1 hs; omega)]
 rfl
set_option maxRecDepth 100000 in
set_option maxHeartbeats 8000000 in
theorem zud (d : PrgD) (c : ChipD) (st : SL Int) (w : World) (hR : PrgR w w.heap.size d) (hS : PrgS d) (hT : SLR w w.heap.size 1 intE (fun _ => True) st) :
  Calls Tryz.prog 9 #[PrgD.v d, chipV c, .slice st.a st.l.length st.c] w fun e w' => e = .returned (.bool (zRb (zra d).1 (jobOf d c) st.l)) ∧ Below w.heap.size w w' := by
 obtain ⟨N, hN⟩ : ∃ N, w.heap.size = N := ⟨_, rfl⟩
 rw [hN] at hR hT ⊢
 have F0 := Fr.start w
 rw [hN] at F0
 have HF0 := Hd F0
 have HR := Hd hR
 have HS := Hd hS
 have HT := Hd hT
 have htl := hT.len
 obtain ⟨ta, tc, tl⟩ := st
 simp only at htl ⊢
 obtain ⟨vm, hvm⟩ : ∃ z, zRb (zra d).1 (jobOf d c) tl = z := ⟨_, rfl⟩
 have HVm := Hd hvm
 rw [hvm]
 clear hR F0 hS hT hvm
 unfold PrgD.v PrgD.vs chipV
 have hfd := diagFieldOf'
 go_enter Tryz.func9, Tryz.ntmps9
 go_wp2_with fail
 refine Calls.named ?_
 intro W1 hW1
 have F1 := ((HF0.out.alloc _ _).alloc _ _).of_eq hW1
 simp only [World.size_alloc, hN, Nat.add_assoc, Nat.reduceAdd] at F1 ⊢
 have HF1 := Hd F1
 clear F1 hW1
 have hcon := zOd d W1 (HF1.out.prg HR.out) HS.out.h HS.out.m HS.out.r HS.out.a HS.out.t
 obtain ⟨⟨g1, g2, g3, g4⟩, hg⟩ : ∃ z, zra d = z := ⟨_, rfl⟩
 have HG := Hd hg
 rw [hg] at hcon
 unfold PrgD.v PrgD.vs diagV at hcon
 have HCon := Hd hcon
 clear hcon hg
 with_reducible refine HCon.out.mono ?_
 rintro e w2 ⟨rfl, hb2⟩
 have HF2 := Hd (HF1.out.call hb2)
 clear hb2 HCon
 by_cases hg1 : g1 = 0
 ·subst hg1
  have a0 : ∀ i, w2.cell? ⟨N + 1, i, none⟩ = _ := fun i => HF2.out.cell (.head _) i
  have hNl : N + 1 < w2.heap.size := HF2.out.lt (.head _)
  obtain ⟨cc, hcc⟩ : ∃ z, zAa c = z := ⟨_, rfl⟩
  have HCc := Hd hcc
  have hcon := zyc c w2
  rw [hcc] at hcon
  have HCon := Hd hcon
  clear hcon hcc
  go_wp2_with fail
  with_reducible refine HCon.out.mono ?_
  rintro e w4 ⟨rfl, hb4⟩
  have HF4 := Hd (HF2.out.call hb4)
  clear hb4 HCon a0 hNl
  have a0 : ∀ i, w4.cell? ⟨N + 1, i, none⟩ = _ := fun i => HF4.out.cell (.head _) i
  have p0 : ∀ i, w4.cell? ⟨N, i, none⟩ = _ := fun i => HF4.out.cell (.tail _ (.head _)) i
  have hNl : N + 1 < w4.heap.size := HF4.out.lt (.head _)
  by_cases hc0 : cc = 0
  ·subst hc0
   have hEq := HS.out.n (by rw [HG.out])
   have hP0 : (zUa d).1 = 0 := by rw [← hEq, HG.out]
   have hcon := newJob_any d c w4 (HF4.out.prg HR.out) hP0 hEq
   unfold PrgD.v PrgD.vs at hcon
   have HCon := Hd hcon
   clear hcon
   go_wp2_with fail
   with_reducible refine HCon.out.mono ?_
   rintro e w5 ⟨⟨g, J, rfl, hJ, hJm, hJl, hJc⟩, hb5⟩
   have HF5 := Hd (HF4.out.call hb5)
   have HJ := Hd hJ
   have HJm := Hd hJm
   have HJc := Hd hJc
   have HVj := Hd (show vm = zRb 0 J.m tl by rw [← HVm.out, HG.out, HJm.out])
   have HVv := Hd (show ∀ b, J.m.valid tl = b → vm = b from fun b hb => by
    rw [HVj.out]
    unfold zRb
    rw [hb, HJm.out, show zAa (jobOf d c).chip = 0 from HCc.out]
    rfl)
   have hJc2 : J.chip = c := congrArg JobM.chip HJm.out
   have hcz := (zOe HCc.out).2
   have v0 : ∀ i, w5.cell? ⟨g, i, none⟩ = _ := fun i => HJ.out.blk.cell i
   unfold JobD.cells at v0
   have hgw : g < w5.heap.size := HJ.out.lt
   have hcon := satisfied_any J.ds ⟨ta, tc, tl⟩ w5 HJ.out.ds (HF5.out.slr HT.out)
   rw [show J.ds.rows = J.m.deps from rfl, JobM.sat_eq HJ.out.sq] at hcon
   obtain ⟨sb, hsb⟩ : ∃ z, J.m.sat tl = z := ⟨_, rfl⟩
   have HSb := Hd hsb
   simp only at hcon
   rw [hsb] at hcon
   have HCon := Hd hcon
   clear hcon hsb hJ hJm hJc hb5 a0 p0
   go_wp2_with fail
   with_reducible refine HCon.out.mono ?_
   rintro e w6 ⟨rfl, hb6⟩
   have HF6 := Hd (HF5.out.call hb6)
   have HJ6 := Hd ((HJ.out.below hb6).more hb6.size)
   clear hb6 HCon v0 hgw hNl
   cases sb with
   | false =>
    have HVal := Hd (HVv.out false (valid_sat HSb.out))
    go_wp2_with fail
    go_returns
    exact ⟨by rw [HVal.out]; try rfl, HF6.out.below⟩
   | true =>
    have hlen : tl.length = J.us.l.length := by
     have := HSb.out
     unfold JobM.sat at this
     rw [Bool.and_eq_true] at this
     rw [of_decide_eq_true this.1, JobD.m_n]
    have HLen := Hd hlen
    have htl1 : tl.length ≤ 1000 := by omega
    clear hlen
    go_wp2_with fail
    go_loopw [32] (fun i' wr => ∃ k : Nat, k ≤ tl.length ∧ i' = .int .i64 k ∧ (∀ (q : Nat) (x : Int), q < k → tl[q]? = some x → 0 ≤ x ∧ x < c.stages) ∧ Fr N w wr [(N + 1, 33, #[.int .i64 c.stages, .int .i64 c.tZ, .int .i64 c.gates, .int .i64 c.sram, .int .i64 c.tcam, .int .i64 c.c8, .int .i64 c.c16, .int .i64 c.c32]), (N, 31, d.vs)] ∧ JobR wr wr.heap.size g J) (fun i' _ => tl.length - (intOf i').toNat)
    case atStart => exact ⟨0, Nat.zero_le _, rfl, fun q x hq => absurd hq (by omega), HF6.out, HJ6.out⟩
    case round =>
     obtain ⟨k, hk, rfl, hall, hF, hJ7⟩ := hrel
     have HF7 := Hd hF
     have HAll := Hd hall
     have HJ7 := Hd hJ7
     clear hF hall hJ7
     have a0 : ∀ i, wr.cell? ⟨N + 1, i, none⟩ = _ := fun i => HF7.out.cell (.head _) i
     have hNl : N + 1 < wr.heap.size := HF7.out.lt (.head _)
     by_cases hlt : k < tl.length
     ·obtain ⟨b2, off2, x, hA2, hb2, hx, _, hc2⟩ := HF7.out.at_ HT.out zna (by omega) hlt
      have q0 := hc2 0 _ rfl
      simp only [Nat.add_zero, Nat.mul_one] at q0
      have hk1 : (k : Int) < tl.length := by omega
      have HX := Hd hx
      simp only at hA2
      subst hA2
      clear hc2 hx
      by_cases hx0 : x < 0
      ·have HVal := Hd (HVv.out false (valid_rng (List.mem_of_getElem? HX.out) (by omega)))
       have hx0' : decide (x < 0) = true := decide_eq_true hx0
       go_wp2_with fail
       go_returns
       exact ⟨by rw [HVal.out]; try rfl, HF7.out.below⟩
      ·have hx0' : decide (x < 0) = false := decide_eq_false hx0
       by_cases hx1 : c.stages ≤ x
       ·have HVal := Hd (HVv.out false (valid_rng (List.mem_of_getElem? HX.out) (by rw [show J.m.chip = c from hJc2]; omega)))
        have hx1' : decide (c.stages ≤ x) = true := decide_eq_true hx1
        go_wp2_with fail
        go_returns
        exact ⟨by rw [HVal.out]; try rfl, HF7.out.below⟩
       ·have hx1' : decide (c.stages ≤ x) = false := decide_eq_false hx1
        go_wp2_with fail
        go_roundw
        case rel => exact ⟨k + 1, by omega, by go_num, fun q y hq hy => by
         rcases Nat.lt_succ_iff_lt_or_eq.1 hq with h | h
         ·exact HAll.out q y h hy
         ·rw [h, HX.out] at hy; injection hy with hy; subst hy; exact ⟨by omega, by omega⟩, HF7.out, HJ7.out⟩
        case measure => simp [intOf]; omega
     ·obtain rfl : k = tl.length := by omega
      clear hlt
      have HRn := Hd (show ∀ x ∈ tl, 0 ≤ x ∧ x < c.stages from fun x hx => by
       obtain ⟨q, hq, rfl⟩ := List.mem_iff_getElem.1 hx
       exact HAll.out q _ hq (List.getElem?_eq_getElem hq))
      go_wp2_with fail
      clear a0 hNl
      go_loopw [47] (fun i' wr => ∃ s : Nat, (s : Int) ≤ c.stages ∧ i' = .int .i64 s ∧ (∀ q : Nat, q < s → (J.m.use tl q).fits c = true) ∧ Fr N w wr [(N + 1, 33, #[.int .i64 c.stages, .int .i64 c.tZ, .int .i64 c.gates, .int .i64 c.sram, .int .i64 c.tcam, .int .i64 c.c8, .int .i64 c.c16, .int .i64 c.c32]), (N, 31, d.vs)] ∧ JobR wr wr.heap.size g J) (fun i' _ => (c.stages - intOf i').toNat)
      case atStart => exact ⟨0, by omega, rfl, fun q hq => absurd hq (by omega), HF7.out, HJ7.out⟩
      case round =>
       obtain ⟨s, hs, rfl, hall, hF, hJ8⟩ := hrel
       have HF8 := Hd hF
       have HAl8 := Hd hall
       have HJ8 := Hd hJ8
       clear hF hall hJ8
       by_cases hlt : (s : Int) < c.stages
       ·have a0 : ∀ i, wr.cell? ⟨N + 1, i, none⟩ = _ := fun i => HF8.out.cell (.head _) i
        have hNl : N + 1 < wr.heap.size := HF8.out.lt (.head _)
        obtain ⟨v, hv⟩ : ∃ v, J.m.use tl s = v := ⟨_, rfl⟩
        obtain ⟨fv, hfv⟩ : ∃ z, v.fits c = z := ⟨_, rfl⟩
        have HFv := Hd (show (J.m.use tl s).fits c = fv by rw [hv]; exact hfv)
        have HUs := Hd (show ∀ u, Below wr.heap.size wr u → Calls Tryz.prog 22 #[.pointer (some ⟨g, 0, none⟩), .slice ta tl.length tc, .int .i64 s] u fun e w' => e = .returned (.agg #[.int .i64 v.tZ, .int .i64 v.gates, .int .i64 v.sram, .int .i64 v.tcam]) ∧ Below u.heap.size u w' from fun u hb => by
         have := zyf J g ⟨ta, tc, tl⟩ s u ((HJ8.out.below hb).more hb.size) ((HF8.out.call hb).slr HT.out) (by show tl.length ≤ _; rw [HLen.out]; exact Nat.le_refl _) hJl HJc.out
         simp only at this
         rw [hv] at this
         exact this)
        have HWi := Hd (show ∀ u : World, Calls Tryz.prog 23 #[.agg #[.int .i64 v.tZ, .int .i64 v.gates, .int .i64 v.sram, .int .i64 v.tcam], chipV c] u fun e w' => e = .returned (.bool fv) ∧ Below u.heap.size u w' from fun u => by
         have := zQf v c u
         rw [hfv] at this
         exact this)
        have HJb := Hd (show ∀ u, Below wr.heap.size wr u → JobR u u.heap.size g J from fun u hb => (HJ8.out.below hb).more hb.size)
        clear hv hfv
        go_wp2_with fail
        have hcl : ∀ (p : Ab wr.heap.size wr) (b i : Nat), b < wr.heap.size → p.u.cell? ⟨b, i, none⟩ = wr.cell? ⟨b, i, none⟩ := fun p b i h => p.h.cell (p := ⟨b, i, none⟩) h
        refine zia wr.heap.size wr (by kernel_rfl) (by kernel_rfl) (Below.refl _ _) ?_
        repeat (first
         | go_big_quiet_step ((first | (go_at_call 22; exact Calls.ab (Nat.le_refl _) (HUs.out _ (Ab.h _))) | (go_at_call 23; exact Calls.ab (Nat.le_refl _) (HWi.out _)))))
        refine wpQuiet_nil ?_
        intro u hw'
        obtain ⟨pu, hpu⟩ := hw'
        have hu := pu.h
        rw [← hpu] at hu
        clear hcl hpu
        clear pu
        have HFu := Hd (HF8.out.call hu)
        have HJu := Hd (HJb.out u hu)
        clear hu HUs HWi HJb a0 hNl
        cases fv with
        | false =>
         have HVal := Hd (HVv.out false (valid_use (s := s) (by rw [show J.m.chip = c from hJc2]; exact hlt) (by rw [show J.m.chip = c from hJc2]; exact HFv.out)))
         go_wp2_with fail
         go_returns
         exact ⟨by rw [HVal.out]; try rfl, HFu.out.below⟩
        | true =>
         go_wp2_with fail
         go_roundw
         case rel => exact ⟨s + 1, by omega, by go_num, fun q hq => by
          rcases Nat.lt_succ_iff_lt_or_eq.1 hq with h | h
          ·exact HAl8.out q h
          ·rw [h]; exact HFv.out, HFu.out, HJu.out⟩
         case measure => simp [intOf]; omega
       ·have hlt' : decide ((s : Int) < c.stages) = false := decide_eq_false hlt
        have HVal := Hd (HVv.out true (valid_yes HSb.out (by rw [show J.m.chip = c from hJc2]; exact HRn.out) (fun q hq => by rw [show J.m.chip = c from hJc2] at hq ⊢; exact HAl8.out q (by omega))))
        go_wp2_with fail
        go_returns
        exact ⟨by rw [HVal.out]; try rfl, HF8.out.below⟩
  ·have hc0' : (cc != 0) = true := by simp [hc0]
   have HVal := Hd (show vm = false by rw [← HVm.out]; exact valid_no (.inr (.inl (by show zAa c ≠ 0; rw [HCc.out]; exact hc0))))
   go_wp2_with fail
   go_returns
   exact ⟨by rw [HVal.out]; try rfl, HF4.out.below⟩
 ·have hg1' : (g1 != 0) = true := by simp [hg1]
  have HVal := Hd (show vm = false by rw [← HVm.out]; exact valid_no (.inl (by rw [HG.out]; exact hg1)))
  go_wp2_with fail
  go_returns
  exact ⟨by rw [HVal.out]; try rfl, HF2.out.below⟩
end Go.Proofs.YtakgiamhdpgoeaaGreat
