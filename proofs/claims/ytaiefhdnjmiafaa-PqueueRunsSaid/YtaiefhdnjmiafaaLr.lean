/- The law on sequences of calls: its argument opened, its ways joined. -/
import Derived.Test.YtaiefhdnjmiafaaZ
import Derived.Deep.Slices
import Derived.Deep.Fields
import Derived.ChangeSame
namespace Go.Proofs.Ytaiefhdnjmiafaa
open Go.ChangeShapes Go.WideShapes Go.ChangeAt Go.RowKit Go.Deep
set_option linter.unusedVariables false

section
variable {H : Type} {enc : TypeId × Value → H} {w : World} {base : Nat} {spare : Nat → Bool} {held : Bool}
/-- one call of the argument's list: three cells -/
theorem op_cells {n : Nat} {cs : List Value} {x : DataW H × List MemPlace} (h : DataW.trod enc Try.prog w base spare held n 34 cs = some x) :
    ∃ t : Int × Int × Int, cs[0]? = some (.int .i64 t.1) ∧ cs[1]? = some (.int .i64 t.2.1) ∧ cs[2]? = some (.int .i64 t.2.2) := by
  obtain ⟨xs, n', _, _, hlen, hxs, hf⟩ := DataW.trod_struct Try.underlying34 h
  have hc3 : Try.prog.cellsOf 34 = 3 := by kernel_rfl
  have hc1 : Try.prog.cellsOf 3 = 1 := by kernel_rfl
  have hx3 : xs.length = 3 := hxs
  have one : ∀ i, i < 3 → DataW.trod enc Try.prog w base spare held n' 3 ((cs.drop i).take 1) = xs[i]? → ∃ v : Int, cs[i]? = some (.int .i64 v) := by
    intro i hi h
    rw [List.getElem?_eq_getElem (by omega)] at h
    obtain ⟨v, hv, _⟩ := DataW.trod_int Try.underlying3 h
    refine ⟨v, ?_⟩
    have := congrArg (fun l : List Value => l[0]?) hv
    simpa [List.getElem?_take, List.getElem?_drop] using this
  have h0 : DataW.trod enc Try.prog w base spare held n' 3 ((cs.drop 0).take (Try.prog.cellsOf 3)) = xs[0]? := hf 0 _ rfl
  have h1 : DataW.trod enc Try.prog w base spare held n' 3 ((cs.drop 1).take (Try.prog.cellsOf 3)) = xs[1]? := hf 1 _ rfl
  have h2 : DataW.trod enc Try.prog w base spare held n' 3 ((cs.drop 2).take (Try.prog.cellsOf 3)) = xs[2]? := hf 2 _ rfl
  rw [hc1] at h0 h1 h2
  obtain ⟨a, ha⟩ := one 0 (by omega) h0
  obtain ⟨b, hb⟩ := one 1 (by omega) h1
  obtain ⟨c, hc⟩ := one 2 (by omega) h2
  exact ⟨(a, b, c), ha, hb, hc⟩
theorem ops_of {a : Option Addr} {len cap : Nat} {d : DataW H} {p : List MemPlace} (h : DataW.Trod enc Try.prog w base spare held 22 (.slice a len cap) d p) : ∃ o, OpsAt w a len o := by
  obtain ⟨fuel, hf⟩ := h
  rcases open_slice Try.underlying22 hf with ⟨hcs, _⟩ | ⟨x, l, c, m, n, D, Pl, hcs, _, hl, _, hmm, _, hi⟩
  · simp [Value.cells] at hcs
    obtain ⟨rfl, rfl, rfl⟩ := hcs
    exact ⟨fun _ => (0, 0, 0), fun k hk => absurd hk (by omega)⟩
  · simp [Value.cells] at hcs
    obtain ⟨rfl, rfl, rfl⟩ := hcs
    have hc3 : Try.prog.cellsOf 34 = 3 := by kernel_rfl
    rw [hc3] at hi
    have hlm : len ≤ m := by rw [hmm]; split <;> omega
    have hsp0 : 0 < len → x.spot = none := by
      intro h0
      obtain ⟨cs', h1, h2⟩ := hi 0 (by omega)
      obtain ⟨t, t0, _⟩ := op_cells h2
      obtain ⟨_, _, hc⟩ := World.cells?_some h1
      have c0 := (hc 0 (by omega)).trans t0
      rw [Go.Proofs.Ytaiefhdnjmiafaa.add_add] at c0
      have := World.cell?_spot c0
      simpa [Addr.add] using this
    have each : ∀ k, ∃ t : Int × Int × Int, k < len → ∃ b off, some x = some ⟨b, off, none⟩ ∧ b < w.heap.size ∧ w.cell? ⟨b, off + k * 3, none⟩ = some (.int .i64 t.1) ∧ w.cell? ⟨b, off + k * 3 + 1, none⟩ = some (.int .i64 t.2.1) ∧ w.cell? ⟨b, off + k * 3 + 2, none⟩ = some (.int .i64 t.2.2) := by
      intro k
      by_cases hk : k < len
      · obtain ⟨cs', h1, h2⟩ := hi k (by omega)
        obtain ⟨t, t0, t1, t2⟩ := op_cells h2
        obtain ⟨_, _, hc⟩ := World.cells?_some h1
        have c0 := (hc 0 (by omega)).trans t0
        have c1 := (hc 1 (by omega)).trans t1
        have c2 := (hc 2 (by omega)).trans t2
        obtain ⟨b, off, spot⟩ := x
        have hb := World.block_lt_of_cell? _ _ c0
        rw [block_add, block_add] at hb
        rw [Go.Proofs.Ytaiefhdnjmiafaa.add_add] at c0 c1 c2
        have hs : spot = none := hsp0 (by omega)
        subst hs
        have ea : ∀ j, (⟨b, off, none⟩ : Addr).add j = ⟨b, off + j, none⟩ := fun j => by unfold Addr.add; split <;> simp_all
        rw [ea] at c0 c1 c2
        exact ⟨t, fun _ => ⟨b, off, rfl, hb, c0, by rw [← Nat.add_assoc] at c1; exact c1, by rw [← Nat.add_assoc] at c2; exact c2⟩⟩
      · exact ⟨(0, 0, 0), fun h => absurd h hk⟩
    obtain ⟨o, ho⟩ := Classical.skolem.1 each
    exact ⟨o, fun k hk => ho k hk⟩
end
theorem runs_any (capacity : Int) (A : Option Addr) (n cp : Nat) (o : Nat → Int × Int × Int) (w : World) (hR : OpsAt w A n o) :
    Calls Try.prog 3 #[.int .i64 capacity, .slice A n cp] w fun e w' => e = .returned (.bool true) ∧ Below w.heap.size w w' := by
  by_cases hn : n ≤ 300
  · by_cases hc : capacity < 0 ∨ 4096 < capacity
    · exact runs_bad capacity A n cp w hc hn
    · obtain ⟨c, rfl⟩ : ∃ c : Nat, capacity = c := ⟨capacity.toNat, by omega⟩
      exact runs_walk c A n cp o w (by omega) hn hR
  · exact runs_long capacity A n cp w (by omega)
end Go.Proofs.Ytaiefhdnjmiafaa
