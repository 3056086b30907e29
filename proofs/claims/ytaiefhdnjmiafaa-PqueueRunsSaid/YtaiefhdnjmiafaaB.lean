/- Contract of Push. -/
import Derived.Test.YtaiefhdnjmiafaaA
namespace Go.Proofs.Ytaiefhdnjmiafaa
open Go.RowKit
set_option linter.unusedVariables false

section
variable {w w' : World} {base q c cap p : Nat} {A : Option Addr} {l : List PI}
theorem QAt.drew (h : QAt w base q A c l cap p) : QAt w.drew base q A c l cap p := h
theorem QAt.below (h : QAt w base q A c l cap p) (hb : Below w.heap.size w w') : QAt w' base q A c l cap p :=
  ⟨h.1, h.2.1.below hb h.2.1.lt, h.2.2.below hb⟩
theorem OwnH.cell {g : Nat} (h : OwnH w base (some ⟨g, 0, none⟩) c l) {k : Nat} (hk : k < l.length) :
    w.cell? ⟨g, k * 3, none⟩ = some (.int .i64 (at_ l k).1) ∧ w.cell? ⟨g, k * 3 + 1, none⟩ = some (.int .u64 (at_ l k).2.1) ∧ w.cell? ⟨g, k * 3 + 2, none⟩ = some (.int .i64 (at_ l k).2.2) := by
  obtain ⟨r1, r2, r3⟩ := row_get l k hk
  refine ⟨?_, ?_, ?_⟩
  · rw [World.ownsRow.cellAt h (k * 3) (by omega), r1]
  · rw [World.ownsRow.cellAt h (k * 3 + 1) (by omega), r2]
  · rw [World.ownsRow.cellAt h (k * 3 + 2) (by omega), r3]
theorem OwnH.addr (h : OwnH w base A c l) (hn : 0 < l.length) : ∃ g, A = some ⟨g, 0, none⟩ ∧ base ≤ g ∧ g < w.heap.size := by
  rcases h.2 with ⟨_, h0⟩ | ⟨g, cap, cur, hv, hb, hh, _⟩
  · omega
  · exact ⟨g, by injection hv, hb, (Array.getElem?_eq_some_iff.1 hh).1⟩
theorem OwnH.frozen {g : Nat} (h : OwnH w base (some ⟨g, 0, none⟩) c l) (k : Nat) : w.frozen? ⟨g, k, none⟩ = false := by
  rcases h.2 with ⟨h', _⟩ | ⟨g', cap', cur, h', hb, hg, _⟩
  · simp at h'
  · simp only [Value.slice.injEq, Option.some.injEq, Addr.mk.injEq, and_true, true_and] at h'
    obtain ⟨rfl, rfl⟩ := h'
    simp [World.frozen?, hg]
theorem OwnH.len_cap (h : OwnH w base A c l) : l.length ≤ c := by
  rcases h.2 with ⟨h1, h2⟩ | ⟨g, cap, cur, hv, _, _, hc, _⟩
  · omega
  · injection hv with _ _ hv; omega
/-- three cells stored: one item -/
def put3 (w : World) (g k : Nat) (x : PI) : World := ((w.setCell ⟨g, k * 3, none⟩ (.int .i64 x.1)).setCell ⟨g, k * 3 + 1, none⟩ (.int .u64 x.2.1)).setCell ⟨g, k * 3 + 2, none⟩ (.int .i64 x.2.2)
theorem OwnH.put {g : Nat} (h : OwnH w base (some ⟨g, 0, none⟩) c l) {k : Nat} (hk : k < l.length) (x : PI) : OwnH (put3 w g k x) base (some ⟨g, 0, none⟩) c (l.set k x) := by
  have h1 := (World.ownsRow.stored h (k * 3) (.int .i64 x.1)).1
  have h2 := (World.ownsRow.stored h1 (k * 3 + 1) (.int .u64 x.2.1)).1
  have h3 := (World.ownsRow.stored h2 (k * 3 + 2) (.int .i64 x.2.2)).1
  unfold OwnH Own put3
  rw [row_set l k x hk, List.length_set]
  exact h3
theorem blk_own_ne (hq : Blk w q 57 #[.slice A l.length c, .int .i64 cap, .int .u64 p, .bool true]) (h : OwnH w base A c l) : ownB A ≠ some q := by
  intro e
  rcases h.2 with ⟨h1, _⟩ | ⟨g, cp, cur, hv, _, hh, _⟩
  · injection h1 with h1; subst h1; cases e
  · injection hv with hv; subst hv
    injection e with e
    have : g = q := e
    subst this
    unfold Blk at hq
    rw [hq] at hh
    injection hh with hh
    injection hh with _ hh
    exact absurd hh (by decide)
theorem put3_other (w : World) (g k b : Nat) (x : PI) (h : b ≠ g) : (put3 w g k x).heap[b]? = w.heap[b]? := by
  unfold put3
  rw [Below.heap_setCell _ _ _ _ h, Below.heap_setCell _ _ _ _ h, Below.heap_setCell _ _ _ _ h]
theorem put3_size (w : World) (g k : Nat) (x : PI) : (put3 w g k x).heap.size = w.heap.size := by unfold put3; simp [World.setCell]
theorem put3_below {B : Nat} {w0 : World} (h : Below B w0 w) {g : Nat} (hg : B ≤ g) (k : Nat) (x : PI) : Below B w0 (put3 w g k x) := ((h.setCell (p := ⟨g, k * 3, none⟩) hg _).setCell (p := ⟨g, k * 3 + 1, none⟩) hg _).setCell (p := ⟨g, k * 3 + 2, none⟩) hg _
end

theorem opgood_append {P : Program} {F : Value → World → Prop} {S : World → Prop} {St : World → World → Prop} {u : World} {ρ : Operand → Value} {o : Oper} (s x : Operand) (t : TypeId)
    (ho : o.op = .call { callee := .builtin .append, args := #[s, x], argTypes := #[t, t] })
    (base : Nat) (e : TypeId) (i : TypeInfo) (z : Value) (size bytes : Nat) (ht : P.underlying t = some (.slice e)) (hi : P.info? e = some i) (hz : i.zero = some z)
    (hsize : i.size = size) (hby : i.bytes = bytes) (hzs : z.cells.size = size) (hsz : 0 < size)
    (A0 : Option Addr) (n c0 : Nat) (xs : List Value) (hs : ρ s = .slice A0 n c0) (hown : Own u base e size A0 n c0 xs)
    (B : Nat) (A : Option Addr) (m c : Nat) (news : List Value) (hx : ρ x = .slice A m c) (hr : Reads u B size A m news) (h1 : ∀ u ∈ news, u.oneCell' = true)
    (h63 : n + m ≤ maxLen) (hbytes : (n + m) * bytes ≤ 140737488355328) (hbase : base ≤ u.heap.size)
    (h : ∀ A' c' w', Own w' base e size A' (n + m) c' (xs ++ news) → u.grownBy w' (ownB A0) → (ownB A' = ownB A0 ∨ ownB A' = some u.heap.size) → F (.slice A' (n + m) c') w' ∧ S w' ∧ St u w') : OpGood P F S St u ((execOp ρ o).run P u) := by
  obtain ⟨A', c', w', hrun, h2, h3, h4⟩ := run_append_any (P := P) u base t o.type e i z size bytes ht hi hz hsize hby hzs hsz A0 n c0 xs hown B A m c news hr h1 h63 hbytes hbase
  unfold execOp
  simp only [ho, resolve, invoke, builtin, Sem.run_bind, Sem.run_pure, Result.andThen_ok, List.map_toArray, List.map_cons, List.map_nil, hs, hx, hrun]
  exact h A' c' w' h2 h3 h4
theorem infoIt : (Try.prog.info? 60).map (fun i => (i.zero, i.size, i.bytes)) = some (some (.agg #[.int .i64 0, .int .u64 0, .int .i64 0]), 3, 24) := by kernel_rfl

/-- the new row of one item that append reads from -/
def oneRow {S : Nat → World → Prop} {St : Nat → World → World → Prop} (N : Nat) (x : PI) (hst : ∀ j w w', St j w w' → w.heap.size ≤ w'.heap.size ∧ ∀ b, N ≤ b → b < w.heap.size → w'.heap[b]? = w.heap[b]?) : SFact S St :=
  ⟨fun v u => ∃ g, N ≤ g ∧ v = .slice (some ⟨g, 0, none⟩) 1 1 ∧ Blk u g 60 (itCells x).toArray, 0, fun j v w w' ⟨g, h1, h2, h3⟩ _ _ hs => ⟨g, h1, h2, by unfold Blk at *; rw [(hst j w w' hs).2 g h1 (Array.getElem?_eq_some_iff.1 h3).1]; exact h3⟩⟩

end Go.Proofs.Ytaiefhdnjmiafaa
