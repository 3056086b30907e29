/- The clone of a queue's row; the iterators' makers. -/
import Derived.Test.YtaiefhdnjmiafaaJ
namespace Go.Proofs.Ytaiefhdnjmiafaa
open Go.RowKit Go.Shelf
set_option linter.unusedVariables false

theorem wpList_append_it {w : World} {ops : Array Oper} {rest : List Oper} {o : Oper} {a : Act} {Q : Exit → Act → World → Prop} (hgd : o.guard = none) (s x : Operand)
    (ho : o.op = .call { callee := .builtin .append, args := #[s, x], argTypes := #[54, 54] })
    (base : Nat) (A0 : Option Addr) (n0 c0 : Nat) (S0 : List PI) (hn0 : S0.length = n0) (hs : a.eval s = .slice A0 n0 c0) (hown : OwnH w base A0 c0 S0)
    (B : Nat) (A : Option Addr) (m c : Nat) (S : List PI) (hm : S.length = m) (hx : a.eval x = .slice A m c) (hr : Reads w B 3 A S.length (rowCells S)) (hsz : n0 + m ≤ 1000000) (hbase : base ≤ w.heap.size)
    (h : ∀ A' c' w', OwnH w' base A' c' (S0 ++ S) → w.grownBy w' (ownB A0) → wpList Try.prog ops Q rest (a.put o.dst (.slice A' (n0 + m) c')) w') : wpList Try.prog ops Q (o :: rest) a w := by
  obtain ⟨i0, hi, hz0, hz1, hz2⟩ := info_parts infoIt
  subst hn0 hm
  refine wpList_append_any w hgd s x 54 ho base 60 i0 _ 3 24 Try.underlying54 hi hz0 hz1 hz2 rfl (by decide) A0 S0.length c0 _ hs hown B A S.length c _ hx hr (row_one S) (by unfold maxLen; omega) (by omega) hbase ?_
  intro A' c' w' h1 h2 h3
  exact h A' c' w' (by unfold OwnH; rw [row_app, List.length_append]; exact h1) h2
theorem OwnH.reads {w : World} {base c : Nat} {A : Option Addr} {l : List PI} (h : OwnH w base A c l) : Reads w w.heap.size 3 A l.length (rowCells l) := Own.reads h

/-- append onto a row of no capacity: one draw, one new block -/
theorem wpList_append_it0 {w : World} {ops : Array Oper} {rest : List Oper} {o : Oper} {a : Act} {Q : Exit → Act → World → Prop} (hgd : o.guard = none) (s x : Operand)
    (ho : o.op = .call { callee := .builtin .append, args := #[s, x], argTypes := #[54, 54] })
    (base : Nat) (g0 : Addr) (hs : a.eval s = .slice (some g0) 0 0) (hown : OwnH w base (some g0) 0 [])
    (B : Nat) (A : Addr) (c : Nat) (S : List PI) (hx : a.eval x = .slice (some A) S.length c) (hr : Reads w B 3 (some A) S.length (rowCells S)) (hS : 0 < S.length) (hsz : S.length ≤ 1000000) (hbase : base ≤ w.heap.size)
    (h : ∀ A' c' cs, OwnH (w.drew.alloc (.cells cs 60)) base A' c' S → wpList Try.prog ops Q rest (a.put o.dst (.slice A' S.length c')) (w.drew.alloc (.cells cs 60))) : wpList Try.prog ops Q (o :: rest) a w := by
  refine wpList_plain hgd fun K hK => ?_
  obtain ⟨i0, hi, hz0, hz1, hz2⟩ := info_parts infoIt
  obtain ⟨A', c', w', hrun, h2, h3, h4⟩ := run_append_any (P := Try.prog) w base 54 o.type 60 i0 _ 3 24 Try.underlying54 hi hz0 hz1 hz2 rfl (by decide) (some g0) 0 0 _ hown B (some A) S.length c _ hr (row_one S) (by unfold maxLen; omega) (by omega) hbase
  obtain ⟨ad, e, _, hc⟩ := hr.2 hS
  injection e with e
  subst e
  have hg := run_append_grow (P := Try.prog) w 54 o.type 60 i0 _ Try.underlying54 hi hz0 g0 0 0 [] (by simp) (by simp) A S.length c (rowCells S) (by rw [hz1]; exact row_len S) hc (by omega) (by omega) (growslice_fits (by omega) (by rw [hz2]; omega))
  have e := hrun.symm.trans hg
  injection e with e1 e2
  subst e2
  unfold Oper.wp execOp
  simp only [ho, resolve, invoke, builtin, Sem.run_bind, Sem.run_pure, Result.andThen_ok, List.map_toArray, List.map_cons, List.map_nil, hs, hx, hrun]
  rw [Nat.zero_add]
  refine hK _ _ (h A' c' _ ?_)
  unfold OwnH
  simpa [rowCells] using h2
set_option maxRecDepth 100000 in
theorem Clone_any (base g c : Nat) (l : List PI) (w : World) (hO : OwnH w base (some ⟨g, 0, none⟩) c l) (hl0 : 0 < l.length) (hl : l.length ≤ 4096) :
    Calls Try.prog 24 #[.slice (some ⟨g, 0, none⟩) l.length c] w fun e w' => ∃ A' c' cs, e = .returned (.slice A' l.length c') ∧ OwnH w' w.heap.size A' c' l ∧ w' = (w.alloc (.cells #[] 60)).drew.alloc (.cells cs 60) := by
  have hN := fun w => Lib.run_eql_slice_nil (P := Try.prog) w 54 60 (some ⟨g, 0, none⟩) l.length c 0 0 Try.underlying54
  have HO := Lib.hid hO
  clear hO
  have HR := Lib.hid ((HO.out.reads).below ((Below.refl _ w).alloc (Nat.le_refl _) (.cells #[] 60)))
  have HE := Lib.hid (show OwnH (w.alloc (.cells #[] 60)) w.heap.size (some ⟨w.heap.size, 0, none⟩) 0 [] from Own.new (size := 3) w #[] 0 60 (Nat.le_refl _) (by unfold maxLen; omega) (by simp))
  go_enter Try.func24, Try.ntmps24
  go_wp2_with (at_builtin; go_loud (refine wpList_append_it0 rfl (.tmp 5) (.tmp 6) rfl w.heap.size _ rfl HE.out _ _ _ l rfl HR.out hl0 (by omega) (by simp) ?_; intro A1 k1 cs hO1))
  go_ret
  exact ⟨A1, k1, cs, rfl, hO1, rfl⟩
theorem All_any (p : Option Addr) (w : World) :
    Calls Try.prog 22 #[.pointer p] w fun e w' => e = .returned (.func (.func 23) #[] #[.pointer (some ⟨w.heap.size, 0, none⟩)]) ∧ w' = w.alloc (.cells #[.pointer p] 24) := by
  go_enter Try.func22, Try.ntmps22
  go_wp2
  go_ret
  exact ⟨rfl, rfl⟩
theorem drain_any (p : Option Addr) (w : World) :
    Calls Try.prog 25 #[.pointer p] w fun e w' => e = .returned (.func (.func 26) #[] #[.pointer (some ⟨w.heap.size, 0, none⟩)]) ∧ w' = w.alloc (.cells #[.pointer p] 24) := by
  go_enter Try.func25, Try.ntmps25
  go_wp2
  go_ret
  exact ⟨rfl, rfl⟩
end Go.Proofs.Ytaiefhdnjmiafaa
