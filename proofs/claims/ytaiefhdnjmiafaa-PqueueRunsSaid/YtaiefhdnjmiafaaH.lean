/- Contracts of the reference's All and of the law's equal. -/
import Derived.Test.YtaiefhdnjmiafaaG
namespace Go.Proofs.Ytaiefhdnjmiafaa
open Go.RowKit
set_option linter.unusedVariables false

/-- the length that the queue's block tells -/
def lenOf (w : World) (n : Nat) : Nat := match w.cell? ⟨n, 1, none⟩ with | some (.slice _ m _) => m | _ => 0
structure RA (w : World) (n cap : Nat) (S : List PI) (o : Value) (wr : World) : Prop where
  ex : ∃ S' A' c' Ao co out, o = .slice Ao out.length co ∧ Blk wr n 30 #[.int .i64 cap, .slice A' S'.length c'] ∧ Rd wr wr.heap.size A' S' ∧ S'.length ≤ c' ∧ OwnI wr (n + 1) Ao co out ∧ out ++ ord S'.length S' = ord S.length S ∧ S'.length ≤ S.length ∧ Below n w wr ∧ n + 1 ≤ wr.heap.size
theorem ownB_ne {A B : Option Addr} {m : Nat} (h1 : ∀ k, ownB A = some k → m ≤ k) (h2 : ∀ k, ownB B = some k → k < m) : ownB A = none ∨ ownB A ≠ ownB B := by
  cases hA : ownB A with
  | none => exact .inl rfl
  | some k =>
    refine .inr fun e => ?_
    have := h1 k hA
    have := h2 k e.symm
    omega
theorem ord_step {S : List PI} (h : 0 < S.length) : ord S.length S = at_ S (fm S) :: ord (S.eraseIdx (fm S)).length (S.eraseIdx (fm S)) := by
  obtain ⟨m, hm⟩ : ∃ m, S.length = m + 1 := ⟨S.length - 1, by omega⟩
  have hl : (S.eraseIdx (fm S)).length = m := by rw [List.length_eraseIdx, if_pos (fm_lt h)]; omega
  rw [hl, hm]; rfl
set_option maxRecDepth 100000 in
theorem RAll_any (cap c : Nat) (A : Option Addr) (S : List PI) (w : World) (hR : Rd w w.heap.size A S) (hl : S.length ≤ 4096) (hc : S.length ≤ c) :
    Calls Try.prog 18 #[.agg #[.int .i64 cap, .slice A S.length c]] w fun e w' => ∃ A' c', e = .returned (.slice A' (ord S.length S).length c') ∧ OwnI w' w.heap.size A' c' (ord S.length S) ∧ Below w.heap.size w w' := by
  have HR := Lib.hid hR
  clear hR
  obtain ⟨n, hn⟩ : ∃ n, n = w.heap.size := ⟨_, rfl⟩
  have HM := Lib.hid hn
  rw [← hn]
  clear hn
  go_enter Try.func18, Try.ntmps18
  go_wp2_with fail
  rw [← HM.out]
  go_loopw [3] (fun o wr => RA w n cap S o wr) (fun _ wr => lenOf wr n)
  case atStart =>
    have hb : Below n w (w.alloc (.cells #[.int .i64 cap, .slice A S.length c] 30)) := by rw [HM.out]; exact (Below.refl _ w).alloc (Nat.le_refl _) _
    refine ⟨S, A, c, none, 0, [], rfl, by rw [HM.out]; exact Blk.new _ _ _, (HR.out.below (by rw [← HM.out]; exact hb)).more hb.size, hc, OwnI.none_ _ _, rfl, Nat.le_refl _, hb, by rw [HM.out]; simp⟩
  case round =>
    obtain ⟨S', A', c', Ao, co, out, rfl, hK, hR, hc', hO, hord, hle, hB, hs⟩ := hrel.ex
    clear hrel
    have HK := Lib.hid hK
    have HKr := Lib.hid hK
    have HR1 := Lib.hid hR
    have HO := Lib.hid hO
    have HB := Lib.hid hB
    have HC := Lib.hid hord
    have c1 : wr.cell? ⟨n, 1, none⟩ = some (.slice A' S'.length c') := hK.cell 1
    have c0 : wr.cell? ⟨n, 0, none⟩ = some (.int .i64 cap) := hK.cell 0
    clear hK hR hO hB hord HR
    by_cases hlt : 0 < S'.length
    · have hd : decide ((0 : Int) < (S'.length : Nat)) = true := by simp; omega
      go_wp2_with fail
      refine (RPop_any cap c' A' S' wr HR1.out hlt (by omega) hc').mono ?_
      rintro e w1 ⟨A1, c1', rfl, hO1, hb1⟩
      have HX := Lib.hid (ord_step hlt)
      have hlen : (S'.eraseIdx (fm S')).length + 1 = S'.length := by rw [List.length_eraseIdx, if_pos (fm_lt hlt)]; omega
      obtain ⟨T, hT⟩ : ∃ T, T = S'.eraseIdx (fm S') := ⟨_, rfl⟩
      obtain ⟨x, hx⟩ : ∃ x, x = at_ S' (fm S') := ⟨_, rfl⟩
      rw [← hT, ← hx] at HX
      rw [← hT] at hlen hO1
      rw [← hT, ← hx]
      clear hT hx
      have HO1 := Lib.hid hO1
      have HB1 := Lib.hid (HB.out.trans (hb1.mono (by omega)))
      have HK1 := Lib.hid (HK.out.below hb1 (by omega))
      have HO2 := Lib.hid (HO.out.below hb1)
      have hs1 : n + 1 ≤ w1.heap.size := by have := hb1.size; omega
      have HAo := Lib.hid (fun k (e : ownB Ao = some k) => (Own.lt HO.out k e).2)
      clear hO1 hb1 HO HR1 HB c1 c0
      go_upto_region 4 with (fail)
      obtain ⟨W2, hW2⟩ : ∃ W, W = w1.alloc (.cells #[.int .i64 cap, .slice A1 T.length c1'] 30) := ⟨_, rfl⟩
      obtain ⟨v, hv⟩ : ∃ v, v = w1.heap.size := ⟨_, rfl⟩
      rw [← hW2, ← hv]
      have hb2 : Below w1.heap.size w1 W2 := by rw [hW2]; exact (Below.refl _ w1).alloc (Nat.le_refl _) _
      have HV := Lib.hid (show Blk W2 v 30 #[.int .i64 cap, .slice A1 T.length c1'] by rw [hW2, hv]; exact Blk.new w1 _ _)
      have HS3 := Lib.hid (show W2.heap.size = v + 1 by rw [hW2, hv]; simp)
      have HS4 := Lib.hid (show n + 1 ≤ v by omega)
      have HB3 := Lib.hid (HB1.out.trans (hb2.mono (by omega)))
      have HK3 := Lib.hid (HK1.out.below hb2 (by omega))
      have HO3 := Lib.hid (HO2.out.below hb2)
      have HT3 := Lib.hid (HO1.out.below hb2)
      have d0 : W2.cell? ⟨v, 0, none⟩ = some (.int .i64 cap) := HV.out.cell 0
      have d1 : W2.cell? ⟨v, 1, none⟩ = some (.slice A1 T.length c1') := HV.out.cell 1
      have f0 := HK3.out.frozen 0
      have f1 := HK3.out.frozen 1
      have c0 : W2.cell? ⟨n, 0, none⟩ = some (.int .i64 cap) := HK3.out.cell 0
      have c1 : W2.cell? ⟨n, 1, none⟩ = some (.slice A' S'.length c') := HK3.out.cell 1
      clear hW2 hv hb2 HK HB1 HK1 HO2 HO1 hs1
      go_upto_region 5 with (fail)
      obtain ⟨W3, hW3⟩ : ∃ W, W = ((W2.setCell ⟨n, 0, none⟩ (.int .i64 cap)).setCell ⟨n, 1, none⟩ (.slice A1 T.length c1')) := ⟨_, rfl⟩
      rw [← hW3]
      have hgr := grown_setCell (grown_setCell (grown_refl W2 (some n)) 0 (.int .i64 cap)) 1 (.slice A1 T.length c1')
      rw [← hW3] at hgr
      have HB4 := Lib.hid (show Below n w W3 by rw [hW3]; exact (HB3.out.setCell (p := ⟨n, 0, none⟩) (by simp) _).setCell (p := ⟨n, 1, none⟩) (by simp) _)
      have HK4 := Lib.hid (show Blk W3 n 30 #[.int .i64 cap, .slice A1 T.length c1'] by rw [hW3]; exact (HK3.out.set_ 0 _).set_ 1 _)
      have HS5 := Lib.hid (show W3.heap.size = v + 1 by rw [hW3]; simp; exact HS3.out)
      have HO4 : Hid (OwnI W3 (n + 1) Ao co out) := Lib.hid (Own.grown HO3.out hgr (.inr fun e => by have := (Own.lt HO3.out _ e).1; omega))
      have HT4 : Hid (OwnI W3 wr.heap.size A1 c1' T) := Lib.hid (Own.grown HT3.out hgr (.inr fun e => by have := (Own.lt HT3.out _ e).1; omega))
      have HO5 := Lib.hid (HO4.out.below ((Below.refl _ W3).alloc (Nat.le_refl _) (.cells #[.int .i64 x.1, .int .i64 x.2.2] 52)))
      have HT5 := Lib.hid (HT4.out.below ((Below.refl _ W3).alloc (Nat.le_refl _) (.cells #[.int .i64 x.1, .int .i64 x.2.2] 52)))
      have HK5 := Lib.hid (HK4.out.below ((Below.refl _ W3).alloc (Nat.le_refl _) (.cells #[.int .i64 x.1, .int .i64 x.2.2] 52)) (by have := HS5.out; have := HS4.out; omega))
      have HB5 := Lib.hid (HB4.out.alloc (by have := HS5.out; have := HS4.out; omega) (.cells #[.int .i64 x.1, .int .i64 x.2.2] 52))
      have HOL := Lib.hid (show out.length + S'.length = S.length by have := congrArg List.length HC.out; rw [List.length_append, ord_len, ord_len] at this; exact this)
      clear hW3 hgr d0 d1 f0 f1 c0 c1 HV HS3 HB3 HK3 HO3 HT3 HO4 HT4 HK4 HB4
      go_wp2_with (at_builtin; refine wpList_append_im rfl (.tmp 20) (.tmp 24) rfl (n + 1) _ out.length _ out rfl rfl HO5.out _ _ _ _ [x] rfl rfl (Rd.one _ x) (by have := HOL.out; simp; omega) (by have := HS5.out; have := HS4.out; simp; omega) ?_; intro A2 k2 w3 hO2 hG2; go_loud (have HB6 := Lib.hid (HO5.out.step HB5.out hG2 (by omega) (by have := HS5.out; have := HS4.out; simp; omega)); have HK6 := Lib.hid (HK5.out.old hG2 (fun e => (by have := (Own.lt HO5.out _ e).1; omega))); have hne : ownB A1 = none ∨ ownB A1 ≠ ownB Ao := ownB_ne (fun k e => (Own.lt HT5.out k e).1) HAo.out; have HT6 : Hid (OwnI w3 wr.heap.size A1 c1' T) := Lib.hid (Own.grown HT5.out hG2 hne); have HO6 := Lib.hid hO2; have hs6 : n + 1 ≤ w3.heap.size := (by have := hG2.size; have := HS5.out; have := HS4.out; simp at *; omega); clear hO2 hG2 HB5 HK5 HT5 HO5))
      go_roundw
      case rel =>
        refine ⟨T, A1, c1', A2, k2, out ++ [x], by rw [List.length_append]; rfl, HK6.out, HT6.out.rd, HT6.out.len_cap, HO6.out, ?_, by omega, HB6.out, hs6⟩
        rw [← HC.out, HX.out, List.append_assoc]; rfl
      case measure =>
        unfold lenOf
        rw [HK6.out.cell 1, HKr.out.cell 1]
        show T.length < S'.length
        omega
    · have hl0 : S'.length = 0 := by omega
      have hSn := List.eq_nil_of_length_eq_zero hl0
      subst hSn
      go_wp2_with fail
      have e : out = ord S.length S := by have := HC.out; simpa [ord] using this
      subst e
      go_ret
      exact ⟨Ao, co, rfl, OwnI.less HO.out (by omega), HB.out⟩
end Go.Proofs.Ytaiefhdnjmiafaa
