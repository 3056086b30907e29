/- Contracts of the reference's Push, Pop, Peek, All. -/
import Derived.Test.YtaiefhdnjmiafaaE
namespace Go.Proofs.Ytaiefhdnjmiafaa
open Go.RowKit
set_option linter.unusedVariables false

set_option maxRecDepth 100000 in
theorem RPush_full (cap c : Nat) (A : Option Addr) (S : List PI) (key x : Int) (w : World) (h : cap ≤ S.length) :
    Calls Try.prog 10 #[.agg #[.int .i64 cap, .slice A S.length c], .int .i64 key, .int .i64 x] w fun e w' => e = .returned (.tuple #[.agg #[.int .i64 cap, .slice A S.length c], .int .i64 13]) ∧ Below w.heap.size w w' := by
  have hd : decide (cap ≤ S.length) = true := by simpa using h
  go_enter Try.func10, Try.ntmps10
  go_wp2_with fail
  exact bodyPost_ret (v := .tuple #[.agg #[.int .i64 cap, .slice A S.length c], .int .i64 13]) (by simp [results, go_sem]) rfl ⟨rfl, by repeat (first | exact Below.refl _ _ | refine Below.setCell ?_ (by simp) _ | refine Below.alloc ?_ (by simp) _)⟩

/-- a block that the append does not own stays -/
theorem Blk.old {w w' : World} {g : Nat} {t : TypeId} {cs : Array Value} {A : Option Addr} (h : Blk w g t cs) (hG : w.grownBy w' (ownB A)) (hA : ownB A ≠ some g) : Blk w' g t cs :=
  (hG.block g h.lt (fun e => hA e.symm)).trans h
theorem Rd.one (w : World) (x : PI) : Rd (w.alloc (.cells #[.int .i64 x.1, .int .i64 x.2.2] 52)) (w.heap.size + 1) (some ⟨w.heap.size, 0, none⟩) [x] :=
  ⟨rfl, fun _ => ⟨_, rfl, by simp, fun j v hv => by
    rw [show ((⟨w.heap.size, 0, none⟩ : Addr).add j) = ⟨w.heap.size, j, none⟩ from by unfold Addr.add; split <;> simp_all, (Blk.new w _ _).cell j]
    simpa [imRow, imCells] using hv⟩⟩

theorem OwnI.less {w : World} {b b' c : Nat} {A : Option Addr} {S : List PI} (h : OwnI w b A c S) (hb : b' ≤ b) : OwnI w b' A c S := by
  refine ⟨h.1, ?_⟩
  rcases h.2 with h' | ⟨g, cap, cur, h', hg, r⟩
  · exact .inl h'
  · exact .inr ⟨g, cap, cur, h', by omega, r⟩
set_option maxRecDepth 100000 in
theorem RPush_any (cap c : Nat) (A : Option Addr) (S : List PI) (key x : Int) (p : Int) (w : World) (h : S.length < cap) (hcap : cap ≤ 4096) (hR : Rd w w.heap.size A S) :
    Calls Try.prog 10 #[.agg #[.int .i64 cap, .slice A S.length c], .int .i64 key, .int .i64 x] w fun e w' => ∃ A' c', e = .returned (.tuple #[.agg #[.int .i64 cap, .slice A' (S ++ [(key, p, x)]).length c'], .int .i64 0]) ∧ OwnI w' w.heap.size A' c' (S ++ [(key, p, x)]) ∧ Below w.heap.size w w' := by
  have hd : decide (cap ≤ S.length) = false := by simp; omega
  have HR := Lib.hid hR
  clear hR
  go_enter Try.func10, Try.ntmps10
  go_upto_region 4 with (fail)
  obtain ⟨n, hn⟩ : ∃ n, n = w.heap.size := ⟨_, rfl⟩
  obtain ⟨W1, hW1⟩ : ∃ W, W = (w.alloc (.cells #[.int .i64 cap, .slice A S.length c] 30)).alloc (.cells #[.int .i64 0, .slice none 0 0] 30) := ⟨_, rfl⟩
  rw [← hW1, ← hn]
  have HB1 := Lib.hid (show Below n w W1 by rw [hW1, hn]; exact ((Below.refl _ w).alloc (Nat.le_refl _) _).alloc (by simp) _)
  have HK := Lib.hid (show Blk W1 n 30 #[.int .i64 cap, .slice A S.length c] by rw [hW1, hn]; exact (Blk.new w _ _).below ((Below.refl _ _).alloc (Nat.le_refl _) _) (by simp))
  have HZ := Lib.hid (show Blk W1 (n + 1) 30 #[.int .i64 0, .slice none 0 0] by rw [hW1, hn]; have := Blk.new (w.alloc (.cells #[.int .i64 cap, .slice A S.length c] 30)) 30 #[.int .i64 0, .slice none 0 0]; simpa using this)
  have HS1 := Lib.hid (show W1.heap.size = n + 2 by rw [hW1, hn]; simp)
  have HR1 := Lib.hid ((HR.out.below (by rw [← hn]; exact HB1.out)).more HB1.out.size)
  have HN := Lib.hid (OwnI.none_ W1 (n + 2))
  have c1 : W1.cell? ⟨n, 1, none⟩ = some (.slice A S.length c) := HK.out.cell 1
  have HM := Lib.hid hn
  clear hW1 HR hn
  go_wp2_with (first
    | (at_builtin; refine wpList_append_im rfl (.tmp 16) (.tmp 18) rfl (n + 2) _ 0 _ [] rfl rfl HN.out _ _ _ _ S rfl rfl HR1.out (by omega) (by have := HS1.out; omega) ?_
       intro A1 k1 w1 hO1 hG1
       go_loud (have HB2 := Lib.hid (HN.out.step HB1.out hG1 (by omega) (by have := HS1.out; omega)); have HO1 := Lib.hid (hO1.below ((Below.refl _ w1).alloc (Nat.le_refl _) (.cells #[.int .i64 key, .int .i64 x] 52))); have HS2 := Lib.hid (show n + 2 ≤ w1.heap.size by have := HS1.out; have := hG1.size; omega); have HK2 := Lib.hid ((HK.out.old hG1 (show ownB none ≠ some n by simp [ownB])).below ((Below.refl _ w1).alloc (Nat.le_refl _) (.cells #[.int .i64 key, .int .i64 x] 52)) (by have := HS2.out; omega)); have HZ2 := Lib.hid ((HZ.out.old hG1 (show ownB none ≠ some (n + 1) by simp [ownB])).below ((Below.refl _ w1).alloc (Nat.le_refl _) (.cells #[.int .i64 key, .int .i64 x] 52)) (by have := HS2.out; omega)); clear hO1 hG1 HB1 HN HS1 HK HZ HR1; simp only [Nat.zero_add, List.nil_append] at HO1 ⊢))
    | (at_builtin; refine wpList_append_im rfl (.tmp 20) (.tmp 24) rfl (n + 2) _ S.length _ S rfl rfl HO1.out _ _ _ _ [(key, p, x)] rfl rfl (Rd.one _ (key, p, x)) (by simp; omega) (by have := HS2.out; simp; omega) ?_
       intro A2 k2 w2 hO2 hG2
       go_loud (have HB3 := Lib.hid (HO1.out.step (HB2.out.alloc (by have := HS2.out; omega) _) hG2 (by omega) (by have := HS2.out; simp; omega)); have hn1 : ∀ k, k < n + 2 → ownB A1 ≠ some k := fun k hk e => (by have := (Own.lt HO1.out k e).1; omega); have HO2 := Lib.hid hO2; have HK3 := Lib.hid (HK2.out.old hG2 (hn1 n (by omega))); have HZ3 := Lib.hid (HZ2.out.old hG2 (hn1 (n + 1) (by omega))); have d0 : w2.cell? ⟨n, 0, none⟩ = some (.int .i64 cap) := HK3.out.cell 0; have f0 := HZ3.out.frozen 0; have f1 := HZ3.out.frozen 1; have z0 : w2.cell? ⟨n + 1, 0, none⟩ = some (.int .i64 0) := HZ3.out.cell 0;  have z1 : w2.cell? ⟨n + 1, 1, none⟩ = some (.slice none 0 0) := HZ3.out.cell 1; clear hO2 hG2 HB2 HS2 HO1 HK2 HZ2 hn1)))
  have hlen : (S ++ [(key, p, x)]).length = S.length + 1 := by simp
  have HZ4 : Blk ((w2.setCell ⟨n + 1, 0, none⟩ (.int .i64 cap)).setCell ⟨n + 1, 1, none⟩ (.slice A2 (S.length + 1) k2)) (n + 1) 30 #[.int .i64 cap, .slice A2 (S.length + 1) k2] := (HZ3.out.set_ 0 (.int .i64 cap)).set_ 1 (.slice A2 (S.length + 1) k2)
  have hne : ownB A2 ≠ some (n + 1) := fun e => (by have := (Own.lt HO2.out _ e).1; omega)
  have HO4 := Own.grown HO2.out (grown_setCell (grown_setCell (grown_refl w2 (some (n + 1))) 0 (.int .i64 cap)) 1 (.slice A2 (S.length + 1) k2)) (.inr hne)
  have HB4 : Below n w ((w2.setCell ⟨n + 1, 0, none⟩ (.int .i64 cap)).setCell ⟨n + 1, 1, none⟩ (.slice A2 (S.length + 1) k2)) := (HB3.out.setCell (p := ⟨n + 1, 0, none⟩) (by simp) _).setCell (p := ⟨n + 1, 1, none⟩) (by simp) _
  generalize hW : ((w2.setCell ⟨n + 1, 0, none⟩ (.int .i64 cap)).setCell ⟨n + 1, 1, none⟩ (.slice A2 (S.length + 1) k2)) = wf at HZ4 HO4 HB4 ⊢
  have e0 : wf.cell? ⟨n + 1, 0, none⟩ = some (.int .i64 cap) := HZ4.cell 0
  have e1 : wf.cell? ⟨n + 1, 1, none⟩ = some (.slice A2 (S.length + 1) k2) := HZ4.cell 1
  rw [← HM.out]
  exact bodyPost_ret (v := .tuple #[.agg #[.int .i64 cap, .slice A2 (S.length + 1) k2], .int .i64 0]) (by simp [results, go_sem, e0, e1]) rfl ⟨A2, k2, by rw [hlen], OwnI.less HO4 (by omega), HB4⟩
end Go.Proofs.Ytaiefhdnjmiafaa
