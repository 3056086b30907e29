/- Lemmas. -/
import Derived.Test.YtakgiamhdpgoeaaGreatP10
set_option linter.unusedSimpArgs false
namespace Go.Proofs.YtakgiamhdpgoeaaGreat
open Go.RowKit
set_option linter.unusedVariables false
theorem nodDeepW_eq2 : ∀ x : NodD, zMd x = max (zOa x.thn.l) (zOa x.els.l)
 | .mk .. => by rw [zMd]; rfl
theorem nodsDeepW_eq2 (l : List NodD) : zOa l = if l.length = 0 then 0 else wr (zPa l + 1) := by
 cases l with
 | nil => rw [zOa]; rfl
 | cons x l => rw [zOa, if_neg (by simp), zPa]
theorem nodsMostW_app (a : List NodD) (x : NodD) : zPa (a ++ [x]) = max (zPa a) (zMd x) := by
 induction a with
 | nil => simp only [List.nil_append, zPa]; omega
 | cons y a ih => rw [List.cons_append, zPa, ih, zPa]; omega
theorem nodsMostW_take {l : List NodD} {k : Nat} {x : NodD} (h : l[k]? = some x) : zPa (l.take (k + 1)) = max (zPa (l.take k)) (max (zOa x.thn.l) (zOa x.els.l)) := by
 rw [List.take_add_one, h, ← nodDeepW_eq2]
 exact nodsMostW_app _ _
mutual
theorem nodDeep_le : ∀ (x : NodD), zBe x + 1 ≤ (nodPre x).length
 | .mk k t c ta tc tl ea ec el => by
  have h1 := zme tl
  have h2 := zme el
  rw [zBe, nodPre]
  simp only [Nat.max_def, List.length_cons, List.length_append]
  split <;> omega
theorem zme : ∀ (l : List NodD), zqc l ≤ (zda l).length
 | [] => by rw [zqc, zda]; simp
 | x :: l => by
  have h1 := nodDeep_le x
  have h2 := zjg l
  rw [zqc, zda]
  simp only [Nat.max_def, List.length_append]
  split <;> omega
theorem zjg : ∀ (l : List NodD), zFc l ≤ (zda l).length
 | [] => by rw [zFc, zda]; simp
 | x :: l => by
  have h1 := nodDeep_le x
  have h2 := zjg l
  rw [zFc, zda]
  simp only [Nat.max_def, List.length_append]
  split <;> omega
end
set_option maxRecDepth 100000 in
set_option maxHeartbeats 2000000 in
theorem nesting_all : ∀ (n : Nat) (s : SL NodD) (w : World), (zda s.l).length < n → SLR w w.heap.size 5 NodD.enc (NodD.ok w w.heap.size) s →
  Calls Tryz.prog 88 #[.slice s.a s.l.length s.c] w fun e w' => e = .returned (.int .i64 (zOa s.l)) ∧ Below w.heap.size w w' := by
 intro n
 induction n with
 | zero => intro s w h; omega
 | succ n ih =>
  intro s w hn hS
  have HIh := Hd ih
  obtain ⟨N, hN⟩ : ∃ N, w.heap.size = N := ⟨_, rfl⟩
  rw [hN] at hS ⊢
  obtain ⟨sa, sc, sl⟩ := s
  simp only at hn hS ⊢
  have HS := Hd hS
  have hlen := hS.len
  simp only at hlen
  have F0 := Fr.start w
  rw [hN] at F0
  have HF0 := Hd F0
  have HV := Hd (nodsDeepW_eq2 sl)
  clear ih hS F0
  by_cases c0 : sl.length = 0
  ·have c0' : ((sl.length : Int) == 0) = true := by simp [c0]
   have HV1 := Hd (HV.out.trans (if_pos c0))
   clear c0
   go_enter Tryz.func88, Tryz.ntmps88
   go_wp2_with fail
   go_returns
   exact ⟨by rw [HV1.out]; try rfl, HF0.out.below⟩
  ·have c0' : ((sl.length : Int) == 0) = false := neq_b (by omega)
   have HV1 := Hd (HV.out.trans (if_neg c0))
   clear c0
   go_enter Tryz.func88, Tryz.ntmps88
   go_wp2_with fail
   go_loopw [3, 11] (fun m i wr => ∃ k : Nat, k ≤ sl.length ∧ i = .int .i64 k ∧ m = .int .i64 (zPa (sl.take k)) ∧ Fr N w wr []) (fun _ i _ => sl.length - (intOf i).toNat)
   case atStart => exact ⟨0, Nat.zero_le _, rfl, by rw [List.take_zero, zPa], HF0.out⟩
   case round =>
    obtain ⟨k, hk, rfl, rfl, F⟩ := hrel
    have HF := Hd F
    clear F
    by_cases hlt : k < sl.length
    ·obtain ⟨b2, off2, x, hA2, hb2, hx, hxok, hc2⟩ := HF.out.at_ HS.out zCe (by omega) hlt
     rw [nod_enc x] at hc2
     have p0 := hc2 0 _ rfl
     have p1 := hc2 1 _ rfl
     have p2 := hc2 2 _ rfl
     have p3 := hc2 3 _ rfl
     have p4 := hc2 4 _ rfl
     simp only [Nat.add_zero] at p0
     simp only at hA2
     have HX := Hd (nodsMostW_take hx)
     have hsz := zpd hx
     simp only at hsz
     obtain ⟨_, _, _, hthn, hels⟩ := NodD.open hxok
     have HThn := Hd hthn
     have HEls := Hd hels
     have hk1 : (k : Int) < sl.length := by omega
     subst hA2
     clear hc2 hx hxok hthn hels
     have HTh := Hd fun (W : World) (h : Below N w W) => HIh.out x.thn W (by omega) (((HThn.out.below h).imp fun y hy => NodD.ok_below y hy h).more (by have := h.size; have := HF0.out.base; omega) |>.imp fun y hy => NodD.ok_more y hy (by have := h.size; have := HF0.out.base; omega))
     have HEl := Hd fun (W : World) (h : Below N w W) => HIh.out x.els W (by omega) (((HEls.out.below h).imp fun y hy => NodD.ok_below y hy h).more (by have := h.size; have := HF0.out.base; omega) |>.imp fun y hy => NodD.ok_more y hy (by have := h.size; have := HF0.out.base; omega))
     obtain ⟨m, hm⟩ : ∃ m, zPa (sl.take k) = m := ⟨_, rfl⟩
     obtain ⟨m1, hm1⟩ : ∃ m, zOa x.thn.l = m := ⟨_, rfl⟩
     obtain ⟨m2, hm2⟩ : ∃ m, zOa x.els.l = m := ⟨_, rfl⟩
     rw [hm] at HX ⊢
     rw [hm1] at HX HTh
     rw [hm2] at HX HEl
     clear hm hm1 hm2
     go_wp2_with fail
     refine zfa ?_
     intro W4 hW4
     have F4 := (HF.out.alloc _ _).of_eq hW4
     obtain ⟨g, hg⟩ : ∃ g, wr.heap.size = g := ⟨_, rfl⟩
     simp only [hg] at F4 ⊢
     obtain ⟨L, hL, F4⟩ := F4.name
     have HL := Hd hL
     have HF4 := Hd F4
     clear hW4 F4 hL hg p0 p1 p2 p3 p4
     obtain ⟨g0, l0, f0⟩ := HF4.out.c0 HL.out
     dsimp only at g0 l0 f0
     have hcl : ∀ (p : Ab W4.heap.size W4) (b i : Nat), b < W4.heap.size → p.u.cell? ⟨b, i, none⟩ = W4.cell? ⟨b, i, none⟩ := fun p b i h => p.h.cell (p := ⟨b, i, none⟩) h
     refine zia W4.heap.size W4 (by kernel_rfl) (by kernel_rfl) (Below.refl _ _) ?_
     repeat (first
      | go_big_quiet_step ((first | (go_at_call_of 88 (Value.slice x.thn.a x.thn.l.length x.thn.c); refine Calls.ab (Nat.le_refl _) (HTh.out _ ?_); exact (HF4.out.call (Ab.h _)).below) | (go_at_call_of 88 (Value.slice x.els.a x.els.l.length x.els.c); refine Calls.ab (Nat.le_refl _) (HEl.out _ ?_); exact (HF4.out.call (Ab.h _)).below))))
     refine wpQuiet_nil ?_
     intro u hw'
     obtain ⟨pu, hpu⟩ := hw'
     have hu := pu.h
     rw [← hpu] at hu
     clear hcl hpu
     clear pu
     have HFu := Hd (HF4.out.call hu)
     clear hu
     have hmx : (if (if m < m1 then m1 else m) < m2 then m2 else if m < m1 then m1 else m) = max m (max m1 m2) := by
      (repeat' split) <;> omega
     rw [hmx, ← HX.out]
     clear hmx
     have HF9 := Hd (show Fr N w u [] from ⟨HFu.out.base, HFu.out.below, fun x hx => absurd hx (by simp)⟩)
     clear g0 l0 f0
     go_wp2_with fail
     go_roundw
     case rel => exact ⟨k + 1, by omega, by go_num, rfl, HF9.out⟩
     case measure => simp [intOf]; omega
    ·obtain rfl : k = sl.length := by omega
     rw [List.take_length] at *
     obtain ⟨z, hz⟩ : ∃ z, zPa sl = z := ⟨_, rfl⟩
     rw [hz] at HV1 ⊢
     clear hz
     clear hlt
     go_wp2_with fail
     go_returns
     exact ⟨by rw [HV1.out, wr_64]; try rfl, HF.out.below⟩
theorem nesting_any (s : SL NodD) (w : World) (hS : SLR w w.heap.size 5 NodD.enc (NodD.ok w w.heap.size) s) :
  Calls Tryz.prog 88 #[.slice s.a s.l.length s.c] w fun e w' => e = .returned (.int .i64 (zOa s.l)) ∧ Below w.heap.size w w' :=
 nesting_all ((zda s.l).length + 1) s w (by omega) hS
theorem applies_any (x : NodD) (w : World) : Calls Tryz.prog 92 #[nodV x] w fun e w' => e = .returned (.bool (zqa x)) ∧ Below w.heap.size w w' := by
 obtain ⟨q1, h1⟩ : ∃ q, (x.kind == 1) = q := ⟨_, rfl⟩
 obtain ⟨q2, h2⟩ : ∃ q, (x.kind == 3) = q := ⟨_, rfl⟩
 have HV := Hd (show zqa x = (q1 || q2) by unfold zqa; rw [h1, h2])
 cases q1
 all_goals
  go_enter Tryz.func92, Tryz.ntmps92
  go_wp2_with fail
  go_returns
  exact ⟨by rw [HV.out]; try rfl, by (first | (refine zca ?_ _; go_grown; done) | (go_grown; done))⟩
end Go.Proofs.YtakgiamhdpgoeaaGreat
