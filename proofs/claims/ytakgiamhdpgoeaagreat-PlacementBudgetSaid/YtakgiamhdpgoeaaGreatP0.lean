/- Lemmas. -/
import Derived.Test.YtakgiamhdpgoeaaGreatRows
import Derived.WalkKit
import Derived.Below
import Derived.Laws.OwnMore
import Derived.Deep.AppendLies
import Derived.Deep.Draws
import Derived.Deep.QuietTactic
import Derived.BigQuiet
import Derived.Maps.AppendAt
import Derived.Lib.Hide
import Derived.Deep.RegionWith
import Derived.Deep.RegionHeld3
import Derived.StillTailTactics
import Derived.IntWalk
import Derived.Deep.DeepFit
import Derived.WalkSpells
import Derived.Deep.DeepCutAuto
import Derived.Deep.CutBlock
import Derived.WalkLawsBesides
import Derived.Handy
import Derived.Maps.OwnSet
import Derived.Laws.BitsAllLaws
import Derived.RegionTactic
import Derived.ChangeAlike
import Derived.Recover
import Derived.Defers
import Derived.Lib.SliceRun
import Derived.WalkMore
import Derived.Deep.Slices
import Derived.Deep.Fields
import Derived.ChangeSame
import Derived.Laws.EntriesVeiled
import Derived.Lib.SlicesCompact
import Derived.Laws.StructEq
import Derived.BigRegion
import Derived.ScopeJumps
import Derived.ProofKit
import Derived.OpenShut
import Derived.ShutString
import Derived.ChangeOld
set_option linter.unusedSimpArgs false
namespace Go.Proofs.YtakgiamhdpgoeaaGreat
open Go.RowKit
set_option linter.unusedVariables false
theorem Hd {p : Prop} (h : p) : RowKit.Hid p := Lib.hid h
theorem zMe (a : Addr) (n : Nat) : (a.add n).block = a.block := by unfold Addr.add; split <;> rfl
theorem add_add (a : Addr) (i j : Nat) : (a.add i).add j = a.add (i + j) := by
  unfold Addr.add
  by_cases hi : i = 0 <;> by_cases hj : j = 0 <;> simp [hi, hj, Nat.add_assoc]
theorem addr_inj {b b' o o' : Nat} (h : (some ⟨b, o, none⟩ : Option Addr) = some ⟨b', o', none⟩) : b = b' ∧ o = o' := by
  injection h with h; injection h with h1 h2; exact ⟨h1, h2⟩
def Reads (w : World) (B size : Nat) (A : Option Addr) (n : Nat) (xs : List Value) : Prop :=
  xs.length = n * size ∧ (0 < n → ∃ ad, A = some ad ∧ ad.block < B ∧ ∀ j u, xs[j]? = some u → w.cell? (ad.add j) = some u)
section
variable {w w' : World} {B B' size n : Nat} {A : Option Addr} {xs : List Value}
theorem Reads.none_ : Reads w B size A 0 [] := ⟨by simp, fun h => absurd h (by omega)⟩
theorem Reads.keep (h : Reads w B size A n xs) (hk : ∀ p : Addr, p.block < B → w'.cell? p = w.cell? p) : Reads w' B size A n xs :=
  ⟨h.1, fun hn => by
    obtain ⟨ad, e, hb, hc⟩ := h.2 hn
    exact ⟨ad, e, hb, fun j u hu => (hk _ (by rw [zMe]; exact hb)).trans (hc j u hu)⟩⟩
theorem Reads.more (h : Reads w B size A n xs) (hB : B ≤ B') : Reads w B' size A n xs :=
  ⟨h.1, fun hn => by
    obtain ⟨ad, e, hb, hc⟩ := h.2 hn
    exact ⟨ad, e, by omega, hc⟩⟩
theorem Reads.below (h : Reads w B size A n xs) (hb : Below B w w') : Reads w' B size A n xs := h.keep fun _ hp => hb.cell hp
theorem Reads.take (h : Reads w B size A n xs) {k : Nat} (hk : k ≤ n) : Reads w B size A k (xs.take (k * size)) := by
  refine ⟨by rw [List.length_take, h.1]; exact Nat.min_eq_left (Nat.mul_le_mul_right _ hk), fun hn => ?_⟩
  obtain ⟨ad, rfl, hb, hcell⟩ := h.2 (by omega)
  refine ⟨ad, rfl, hb, fun j u hu => hcell j u ?_⟩
  rw [List.getElem?_take] at hu
  split at hu
  · exact hu
  · cases hu
theorem Reads.of_own {base : Nat} {e : TypeId} {c : Nat} (h : w.ownsRow base e size (.slice A n c) n xs) : Reads w w.heap.size size A n xs := by
  refine ⟨h.1, fun hn => ?_⟩
  rcases h.2 with ⟨_, h0⟩ | ⟨g, cap, cur, hv, _, hh, _⟩
  · omega
  · have hA : A = some ⟨g, 0, none⟩ := by injection hv
    subst hA
    exact ⟨_, rfl, (Array.getElem?_eq_some_iff.1 hh).1, h.cells (g := g) rfl⟩
end
def Blk (w : World) (g : Nat) (t : TypeId) (cs : Array Value) : Prop := w.heap[g]? = some (.cells cs t (0, 0))
section
variable {w w' : World} {g : Nat} {t : TypeId} {cs : Array Value}
theorem Blk.lt (h : Blk w g t cs) : g < w.heap.size := (Array.getElem?_eq_some_iff.1 h).1
theorem Blk.cell (h : Blk w g t cs) (i : Nat) : w.cell? ⟨g, i, none⟩ = cs[i]? := cell_of_row w g i cs t (0, 0) h
theorem Blk.frozen (h : Blk w g t cs) (i : Nat) : w.frozen? ⟨g, i, none⟩ = false := by
  unfold Blk at h
  simp [World.frozen?, h]
theorem Blk.new (w : World) (t : TypeId) (cs : Array Value) : Blk (w.alloc (.cells cs t)) w.heap.size t cs := heap_alloc_new w _
theorem Blk.set_ (h : Blk w g t cs) (i : Nat) (u : Value) : Blk (w.setCell ⟨g, i, none⟩ u) g t (cs.setIfInBounds i u) := by
  unfold Blk at h ⊢
  simp [World.setCell, Array.getElem?_modify, h]
theorem Blk.below {B : Nat} (h : Blk w g t cs) (hb : Below B w w') (hg : g < B) : Blk w' g t cs := (hb.block g hg).trans h
end
theorem zHa {w w' : World} {g : Nat} (h : w.grownBy w' (some g)) (i : Nat) (u : Value) : w.grownBy (w'.setCell ⟨g, i, none⟩ u) (some g) :=
  ⟨h.os, h.tape, h.output, by simpa [World.setCell] using h.size, fun k hk hne => (Below.heap_setCell w' ⟨g, i, none⟩ u k (fun e => hne (by rw [e]))).trans (h.block k hk hne)⟩
theorem zpb (w : World) (r : Option Nat) : w.grownBy w r := ⟨rfl, rfl, rfl, Nat.le_refl _, fun _ _ _ => rfl⟩
theorem zad {w w' : World} {o : Obj} (hg : (w.alloc o).grownBy w' (some w.heap.size)) : Below w.heap.size w w' :=
  ((Below.refl _ w).alloc (Nat.le_refl _) o).trans ⟨hg.os, hg.tape, hg.output, hg.size, fun k hk => hg.block k (by simp; omega) (fun e => by injection e; omega)⟩
def Own (w : World) (base : Nat) (e : TypeId) (size : Nat) (A : Option Addr) (n c : Nat) (xs : List Value) : Prop := w.ownsRow base e size (.slice A n c) n xs
def ownB (A : Option Addr) : Option Nat := A.map (·.block)
theorem zWd (A : Option Addr) (n c : Nat) : (Value.slice A n c).ownBlock = ownB A := by cases A <;> rfl
theorem own_form {w : World} {base : Nat} {e : TypeId} {size : Nat} {v : Value} {n : Nat} {xs : List Value} (h : w.ownsRow base e size v n xs) : ∃ A c, v = .slice A n c := by
  rcases h.2 with ⟨rfl, rfl⟩ | ⟨g, cap, cur, rfl, _⟩
  · exact ⟨none, 0, rfl⟩
  · exact ⟨_, _, rfl⟩
section
variable {w w' : World} {base : Nat} {e : TypeId} {size n c : Nat} {A : Option Addr} {xs : List Value}
theorem Own.reads (h : Own w base e size A n c xs) : Reads w w.heap.size size A n xs := Reads.of_own h
theorem Own.none_ (w : World) (base : Nat) (e : TypeId) (size : Nat) : Own w base e size none 0 0 [] := World.ownsRow_nil _ _ _ _
theorem Own.grown {row : Option Nat} (h : Own w base e size A n c xs) (hg : w.grownBy w' row) (hne : ownB A = none ∨ ownB A ≠ row) : Own w' base e size A n c xs :=
  World.ownsRow.kept h hg (by rw [zWd]; exact hne)
theorem Own.alloc (h : Own w base e size A n c xs) (o : Obj) : Own (w.alloc o) base e size A n c xs := World.ownsRow.alloc h o
theorem Own.below (h : Own w base e size A n c xs) (hb : Below w.heap.size w w') : Own w' base e size A n c xs :=
  h.grown (row := none) ⟨hb.os, hb.tape, hb.output, hb.size, fun k hk _ => hb.block k hk⟩ (by cases ownB A <;> simp)
theorem Own.rebase {base' : Nat} (h : Own w base e size A n c xs) (hb : base' ≤ base) : Own w base' e size A n c xs :=
  ⟨h.1, h.2.imp (fun h => h) (fun ⟨g, cap, cur, a, b, r⟩ => ⟨g, cap, cur, a, by omega, r⟩)⟩
theorem Own.lt (h : Own w base e size A n c xs) : ∀ k, ownB A = some k → base ≤ k ∧ k < w.heap.size := by
  have := World.ownsRow.lt h
  rwa [zWd] at this
theorem Own.new (w : World) (cs : Array Value) (n : Nat) (e : TypeId) (hb : base ≤ w.heap.size) (hm : n ≤ maxLen) (hs : cs.size = n * size) :
    Own (w.alloc (.cells cs e)) base e size (some ⟨w.heap.size, 0, none⟩) n n cs.toList :=
  ⟨by simpa using hs, .inr ⟨w.heap.size, n, cs, rfl, hb, heap_alloc_new w _, Nat.le_refl _, hm, hs, List.take_of_length_le (by simp [hs])⟩⟩
end
theorem undrew {B : Nat} {w w' : World} (h : Below B w.drew w') : Below B w w' := ⟨h.os, h.tape, h.output, h.size, h.block⟩
theorem zca {B : Nat} {w w' : World} (h : Below B w w') (n : Nat) : Below B w (w'.drewN n) := ⟨h.os, h.tape, h.output, h.size, h.block⟩
section
variable {P : Program} (w : World)
theorem run_append_nil (base : Nat) (t ty e : TypeId) (i : TypeInfo) (size : Nat) (ht : P.underlying t = some (.slice e)) (hi : P.info? e = some i)
    (v : Value) (n : Nat) (xs : List Value) (hown : w.ownsRow base e size v n xs) (c : Nat) : (Builtin.append_ #[t, t] ty #[v, .slice none 0 c]).run P w = .ok v w := by
  rcases hown.2 with ⟨rfl, rfl⟩ | ⟨g, cap, cur, rfl, _, _, hnc, _⟩
  · simp [Builtin.append_, run_underlying ht, sizeOf, typeInfo, hi, Builtin.lenOf, Builtin.firstCells]
  · simp [Builtin.append_, run_underlying ht, sizeOf, typeInfo, hi, Builtin.lenOf, Builtin.firstCells, hnc, storeCells]
theorem zZd (base : Nat) (t ty e : TypeId) (i : TypeInfo) (z : Value) (size bytes : Nat) (ht : P.underlying t = some (.slice e)) (hi : P.info? e = some i) (hz : i.zero = some z)
    (hsize : i.size = size) (hby : i.bytes = bytes) (hzs : z.cells.size = size) (hsz : 0 < size)
    (A0 : Option Addr) (n c0 : Nat) (xs : List Value) (hown : Own w base e size A0 n c0 xs)
    (B : Nat) (A : Option Addr) (m c : Nat) (news : List Value) (hr : Reads w B size A m news) (h1 : ∀ u ∈ news, u.oneCell' = true)
    (h63 : n + m ≤ maxLen) (hbytes : (n + m) * bytes ≤ 140737488355328) (hbase : base ≤ w.heap.size) :
    ∃ A' c' w', (Builtin.append_ #[t, t] ty #[.slice A0 n c0, .slice A m c]).run P w = .ok (.slice A' (n + m) c') w' ∧ Own w' base e size A' (n + m) c' (xs ++ news) ∧ w.grownBy w' (ownB A0) ∧
      (ownB A' = ownB A0 ∨ ownB A' = some w.heap.size) := by
  rcases A with _ | ad
  · have hm : m = 0 := by
      rcases Nat.eq_zero_or_pos m with h0 | h0
      · exact h0
      · obtain ⟨ad, h, _⟩ := hr.2 h0
        cases h
    subst hm
    have hn : news = [] := List.eq_nil_of_length_eq_zero (by simpa using hr.1)
    subst hn
    exact ⟨A0, c0, w, by simpa using run_append_nil w base t ty e i size ht hi _ n xs hown c, by simpa [Own] using hown, World.grownBy.refl w _, .inl rfl⟩
  · have hcells : ∀ j u, news[j]? = some u → w.cell? (ad.add j) = some u := by
      intro j u hu
      rcases Nat.eq_zero_or_pos m with h0 | h0
      · subst h0
        have hn : news = [] := List.eq_nil_of_length_eq_zero (by simpa using hr.1)
        subst hn
        simp at hu
      · obtain ⟨ad', h, _, hc⟩ := hr.2 h0
        injection h with h
        subst h
        exact hc j u hu
    obtain ⟨v', w', hrun, h2, h3, _, h5⟩ := run_append_own_at (P := P) w base t ty e i z size bytes ht hi hz hsize hby hzs hsz _ n xs hown ad m c news hr.1 hcells h1 h63 hbytes hbase
    obtain ⟨A', c', rfl⟩ := own_form h2
    rw [zWd] at h3
    rw [zWd, zWd] at h5
    exact ⟨A', c', w', hrun, h2, h3, h5⟩
theorem wp_append_any {o : Oper} {a : Act} {K : Act → World → Prop} {Q : Exit → Act → World → Prop} (s x : Operand) (t : TypeId)
    (ho : o.op = .call { callee := .builtin .append, args := #[s, x], argTypes := #[t, t] })
    (base : Nat) (e : TypeId) (i : TypeInfo) (z : Value) (size bytes : Nat) (ht : P.underlying t = some (.slice e)) (hi : P.info? e = some i) (hz : i.zero = some z)
    (hsize : i.size = size) (hby : i.bytes = bytes) (hzs : z.cells.size = size) (hsz : 0 < size)
    (A0 : Option Addr) (n c0 : Nat) (xs : List Value) (hs : a.eval s = .slice A0 n c0) (hown : Own w base e size A0 n c0 xs)
    (B : Nat) (A : Option Addr) (m c : Nat) (news : List Value) (hx : a.eval x = .slice A m c) (hr : Reads w B size A m news) (h1 : ∀ u ∈ news, u.oneCell' = true)
    (h63 : n + m ≤ maxLen) (hbytes : (n + m) * bytes ≤ 140737488355328) (hbase : base ≤ w.heap.size)
    (h : ∀ A' c' w', Own w' base e size A' (n + m) c' (xs ++ news) → w.grownBy w' (ownB A0) → (ownB A' = ownB A0 ∨ ownB A' = some w.heap.size) → K (a.put o.dst (.slice A' (n + m) c')) w') : o.wp P a w K Q := by
  obtain ⟨A', c', w', hrun, h2, h3, h4⟩ := zZd (P := P) w base t o.type e i z size bytes ht hi hz hsize hby hzs hsz A0 n c0 xs hown B A m c news hr h1 h63 hbytes hbase
  unfold Oper.wp execOp
  simp only [ho, resolve, invoke, builtin, Sem.run_bind, Sem.run_pure, Result.andThen_ok, List.map_toArray, List.map_cons, List.map_nil, hs, hx, hrun]
  exact h A' c' w' h2 h3 h4
theorem zNa {ops : Array Oper} {rest : List Oper} {o : Oper} {a : Act} {Q : Exit → Act → World → Prop} (hgd : o.guard = none) (s x : Operand) (t : TypeId)
    (ho : o.op = .call { callee := .builtin .append, args := #[s, x], argTypes := #[t, t] })
    (base : Nat) (e : TypeId) (i : TypeInfo) (z : Value) (size bytes : Nat) (ht : P.underlying t = some (.slice e)) (hi : P.info? e = some i) (hz : i.zero = some z)
    (hsize : i.size = size) (hby : i.bytes = bytes) (hzs : z.cells.size = size) (hsz : 0 < size)
    (A0 : Option Addr) (n c0 : Nat) (xs : List Value) (hs : a.eval s = .slice A0 n c0) (hown : Own w base e size A0 n c0 xs)
    (B : Nat) (A : Option Addr) (m c : Nat) (news : List Value) (hx : a.eval x = .slice A m c) (hr : Reads w B size A m news) (h1 : ∀ u ∈ news, u.oneCell' = true)
    (h63 : n + m ≤ maxLen) (hbytes : (n + m) * bytes ≤ 140737488355328) (hbase : base ≤ w.heap.size)
    (h : ∀ A' c' w', Own w' base e size A' (n + m) c' (xs ++ news) → w.grownBy w' (ownB A0) → (ownB A' = ownB A0 ∨ ownB A' = some w.heap.size) → wpList P ops Q rest (a.put o.dst (.slice A' (n + m) c')) w') : wpList P ops Q (o :: rest) a w :=
  wpList_plain hgd fun _ hK => wp_append_any w s x t ho base e i z size bytes ht hi hz hsize hby hzs hsz A0 n c0 xs hs hown B A m c news hx hr h1 h63 hbytes hbase fun A' c' w' h2 h3 h4 => hK _ _ (h A' c' w' h2 h3 h4)
end
open Go.RowKit
structure SL (α : Type) where
 a : Option Addr
 c : Nat
 l : List α
theorem zyb {α : Type} {enc : α → List Value} {size : Nat} (h : ∀ x, (enc x).length = size) (l : List α) : (l.flatMap enc).length = l.length * size := by
 induction l with
 | nil => simp
 | cons x l ih => rw [List.flatMap_cons, List.length_append, h, ih, List.length_cons, Nat.add_mul]; omega
theorem zsf {α : Type} {enc : α → List Value} {size : Nat} (h : ∀ x, (enc x).length = size) {l : List α} {k i : Nat} {x : α} {v : Value} (hk : l[k]? = some x) (hi : (enc x)[i]? = some v) : (l.flatMap enc)[k * size + i]? = some v := by
 induction l generalizing k with
 | nil => cases hk
 | cons y l ih =>
  cases k with
  | zero =>
   obtain rfl : y = x := by simpa using hk
   have hl : i < (enc y).length := (List.getElem?_eq_some_iff.1 hi).1
   rw [List.flatMap_cons, Nat.zero_mul, Nat.zero_add, List.getElem?_append_left hl]
   exact hi
  | succ k =>
   rw [List.flatMap_cons, List.getElem?_append_right (by rw [h, Nat.add_mul]; omega), h, show (k + 1) * size + i - size = k * size + i by rw [Nat.add_mul]; omega]
   exact ih (by simpa using hk)
structure SLR {α : Type} (w : World) (B size : Nat) (enc : α → List Value) (ok : α → Prop) (s : SL α) : Prop where
 le : s.l.length ≤ s.c
 cap : s.c ≤ maxLen
 rd : Reads w B size s.a s.l.length (s.l.flatMap enc)
 ok : ∀ x ∈ s.l, ok x
section
variable {α : Type} {w w' : World} {B B' size : Nat} {enc : α → List Value} {ok ok' : α → Prop} {s : SL α}
theorem SLR.below (h : SLR w B size enc ok s) (hb : Below B w w') : SLR w' B size enc ok s := ⟨h.le, h.cap, h.rd.below hb, h.ok⟩
theorem SLR.more (h : SLR w B size enc ok s) (hB : B ≤ B') : SLR w B' size enc ok s := ⟨h.le, h.cap, h.rd.more hB, h.ok⟩
theorem SLR.imp (h : SLR w B size enc ok s) (hi : ∀ x, ok x → ok' x) : SLR w B size enc ok' s := ⟨h.le, h.cap, h.rd, fun x hx => hi x (h.ok x hx)⟩
theorem SLR.len (h : SLR w B size enc ok s) : s.l.length ≤ 9223372036854775807 := by have := h.le; have := h.cap; unfold maxLen at *; omega
theorem SLR.at_ (h : SLR w B size enc ok s) (henc : ∀ x, (enc x).length = size) (hs : 0 < size) {k : Nat} (hk : k < s.l.length) :
  ∃ b off x, s.a = some ⟨b, off, none⟩ ∧ b < B ∧ s.l[k]? = some x ∧ ok x ∧ ∀ (i : Nat) (v : Value), (enc x)[i]? = some v → w.cell? ⟨b, off + k * size + i, none⟩ = some v := by
 obtain ⟨⟨b, off, spot⟩, e, hb, hc⟩ := h.rd.2 (by omega)
 obtain ⟨y, hy⟩ : ∃ y, s.l[0]? = some y := ⟨_, List.getElem?_eq_getElem (by omega)⟩
 obtain ⟨v0, hv0⟩ : ∃ v, (enc y)[0]? = some v := ⟨_, List.getElem?_eq_getElem (by rw [henc]; exact hs)⟩
 have h0 := hc 0 _ (by have := zsf henc hy hv0; simpa using this)
 have hspot : spot = none := by simpa [Addr.add] using World.cell?_spot h0
 subst hspot
 have ea : ∀ j, (⟨b, off, none⟩ : Addr).add j = ⟨b, off + j, none⟩ := fun j => by unfold Addr.add; split <;> simp_all
 obtain ⟨x, hx⟩ : ∃ x, s.l[k]? = some x := ⟨_, List.getElem?_eq_getElem hk⟩
 refine ⟨b, off, x, e, hb, hx, h.ok x (List.mem_of_getElem? hx), fun i v hi => ?_⟩
 have := hc _ _ (zsf henc hx hi)
 rw [ea, ← Nat.add_assoc] at this
 exact this
theorem SLR.nil_ (ok : α → Prop) : SLR w B size enc ok ⟨none, 0, []⟩ := ⟨Nat.le_refl _, Nat.zero_le _, by simpa using Reads.none_, fun x hx => absurd hx (by simp)⟩
theorem SLR.take_ (h : SLR w B size enc ok s) (henc : ∀ x, (enc x).length = size) (k : Nat) (hk : k ≤ s.l.length) : SLR w B size enc ok ⟨s.a, s.c, s.l.take k⟩ := by
 refine ⟨by have := h.le; simp; omega, h.cap, ?_, fun x hx => h.ok x (List.mem_of_mem_take hx)⟩
 have h1 := h.rd.take hk
 have e : (s.l.take k).flatMap enc = (s.l.flatMap enc).take (k * size) := by
  conv => rhs; rw [← List.take_append_drop k s.l, List.flatMap_append]
  rw [List.take_left' (by rw [zyb henc, List.length_take, Nat.min_eq_left hk])]
 rw [e]
 simpa [List.length_take, Nat.min_eq_left hk] using h1
end
structure FldD where
 name : ByteArray
 width : Int
structure HdrD where
 name : ByteArray
 fields : SL FldD
structure RegD where
 name : ByteArray
 width : Int
 size : Int
structure ExD where
 op : Int
 n : Int
 w : Int
structure StD where
 kind : Int
 dh : Int
 df : Int
 reg : Int
 hdr : Int
 index : SL ExD
 value : SL ExD
structure ActD where
 name : ByteArray
 params : SL FldD
 body : SL StD
structure KeyD where
 h : Int
 f : Int
 kind : Int
structure TblD where
 name : ByteArray
 keys : SL KeyD
 aZ : SL Int
 dfl : Int
 args : SL Int
 size : Int
structure CaseD where
 value : Int
 mask : Int
 next : Int
structure StaD where
 name : ByteArray
 extract : SL Int
 sel : Bool
 onh : Int
 onf : Int
 cases : SL CaseD
 dfl : Int
inductive NodD where
 | mk (kind table : Int) (cond : SL ExD) (ta : Option Addr) (tc : Nat) (tl : List NodD) (ea : Option Addr) (ec : Nat) (el : List NodD)
def FldD.enc (x : FldD) : List Value := [.string x.name, .int .i64 x.width]
def HdrD.enc (x : HdrD) : List Value := [.string x.name, .slice x.fields.a x.fields.l.length x.fields.c]
def RegD.enc (x : RegD) : List Value := [.string x.name, .int .i64 x.width, .int .i64 x.size]
def ExD.enc (x : ExD) : List Value := [.int .i64 x.op, .int .i64 x.n, .int .i64 x.w]
def StD.enc (x : StD) : List Value := [.int .i64 x.kind, .int .i64 x.dh, .int .i64 x.df, .int .i64 x.reg, .int .i64 x.hdr, .slice x.index.a x.index.l.length x.index.c, .slice x.value.a x.value.l.length x.value.c]
def ActD.enc (x : ActD) : List Value := [.string x.name, .slice x.params.a x.params.l.length x.params.c, .slice x.body.a x.body.l.length x.body.c]
def KeyD.enc (x : KeyD) : List Value := [.int .i64 x.h, .int .i64 x.f, .int .i64 x.kind]
def TblD.enc (x : TblD) : List Value := [.string x.name, .slice x.keys.a x.keys.l.length x.keys.c, .slice x.aZ.a x.aZ.l.length x.aZ.c, .int .i64 x.dfl, .slice x.args.a x.args.l.length x.args.c, .int .i64 x.size]
def CaseD.enc (x : CaseD) : List Value := [.int .u32 x.value, .int .u32 x.mask, .int .i64 x.next]
def StaD.enc (x : StaD) : List Value := [.string x.name, .slice x.extract.a x.extract.l.length x.extract.c, .bool x.sel, .int .i64 x.onh, .int .i64 x.onf, .slice x.cases.a x.cases.l.length x.cases.c, .int .i64 x.dfl]
def NodD.enc : NodD → List Value
 | .mk k t c ta tc tl ea ec el => [.int .i64 k, .int .i64 t, .slice c.a c.l.length c.c, .slice ta tl.length tc, .slice ea el.length ec]
def intE (x : Int) : List Value := [.int .i64 x]
def u32E (x : Int) : List Value := [.int .u32 x]
def I64 (x : Int) : Prop := -9223372036854775808 ≤ x ∧ x ≤ 9223372036854775807
def U32 (x : Int) : Prop := 0 ≤ x ∧ x ≤ 4294967295
def FldD.ok (x : FldD) : Prop := x.name.size ≤ maxLen ∧ I64 x.width
def ExD.ok (x : ExD) : Prop := I64 x.op ∧ I64 x.n ∧ I64 x.w
def KeyD.ok (x : KeyD) : Prop := I64 x.h ∧ I64 x.f ∧ I64 x.kind
def RegD.ok (x : RegD) : Prop := x.name.size ≤ maxLen ∧ I64 x.width ∧ I64 x.size
def CaseD.ok (x : CaseD) : Prop := U32 x.value ∧ U32 x.mask ∧ I64 x.next
structure HdrD.ok (w : World) (B : Nat) (x : HdrD) : Prop where
 nm : x.name.size ≤ maxLen
 fields : SLR w B 2 FldD.enc FldD.ok x.fields
structure StD.ok (w : World) (B : Nat) (x : StD) : Prop where
 kind : I64 x.kind
 dh : I64 x.dh
 df : I64 x.df
 reg : I64 x.reg
 hdr : I64 x.hdr
 index : SLR w B 3 ExD.enc ExD.ok x.index
 value : SLR w B 3 ExD.enc ExD.ok x.value
structure ActD.ok (w : World) (B : Nat) (x : ActD) : Prop where
 nm : x.name.size ≤ maxLen
 params : SLR w B 2 FldD.enc FldD.ok x.params
 body : SLR w B 7 StD.enc (StD.ok w B) x.body
structure TblD.ok (w : World) (B : Nat) (x : TblD) : Prop where
 nm : x.name.size ≤ maxLen
 keys : SLR w B 3 KeyD.enc KeyD.ok x.keys
 aZ : SLR w B 1 intE I64 x.aZ
 dfl : I64 x.dfl
 args : SLR w B 1 u32E U32 x.args
 size : I64 x.size
structure StaD.ok (w : World) (B : Nat) (x : StaD) : Prop where
 nm : x.name.size ≤ maxLen
 extract : SLR w B 1 intE I64 x.extract
 onh : I64 x.onh
 onf : I64 x.onf
 cases : SLR w B 3 CaseD.enc CaseD.ok x.cases
 dfl : I64 x.dfl
mutual
def NodD.ok (w : World) (B : Nat) : NodD → Prop
 | .mk k t c ta tc tl ea ec el => I64 k ∧ I64 t ∧ SLR w B 3 ExD.enc ExD.ok c ∧ (tl.length ≤ tc ∧ tc ≤ maxLen ∧ Reads w B 5 ta tl.length (tl.flatMap NodD.enc)) ∧ zSf w B tl ∧ (el.length ≤ ec ∧ ec ≤ maxLen ∧ Reads w B 5 ea el.length (el.flatMap NodD.enc)) ∧ zSf w B el
def zSf (w : World) (B : Nat) : List NodD → Prop
 | [] => True
 | x :: l => NodD.ok w B x ∧ zSf w B l
end
theorem nods_mem {w : World} {B : Nat} {l : List NodD} : zSf w B l ↔ ∀ x ∈ l, NodD.ok w B x := by
 induction l with
 | nil => simp [zSf]
 | cons x l ih => simp [zSf, ih]
def NodD.kind : NodD → Int | .mk k .. => k
def NodD.table : NodD → Int | .mk _ t .. => t
def NodD.cond : NodD → SL ExD | .mk _ _ c .. => c
def NodD.thn : NodD → SL NodD | .mk _ _ _ ta tc tl .. => ⟨ta, tc, tl⟩
def NodD.els : NodD → SL NodD | .mk _ _ _ _ _ _ ea ec el => ⟨ea, ec, el⟩
theorem NodD.open {w : World} {B : Nat} {x : NodD} (h : NodD.ok w B x) : I64 x.kind ∧ I64 x.table ∧ SLR w B 3 ExD.enc ExD.ok x.cond ∧ SLR w B 5 NodD.enc (NodD.ok w B) x.thn ∧ SLR w B 5 NodD.enc (NodD.ok w B) x.els := by
 obtain ⟨k, t, c, ta, tc, tl, ea, ec, el⟩ := x
 unfold NodD.ok at h
 obtain ⟨h1, h2, h3, ⟨h4, h5, h6⟩, h7, ⟨h8, h9, h10⟩, h11⟩ := h
 exact ⟨h1, h2, h3, ⟨h4, h5, h6, nods_mem.1 h7⟩, ⟨h8, h9, h10, nods_mem.1 h11⟩⟩
structure PrgD where
 name : ByteArray
 hZ : SL HdrD
 mZ : SL FldD
 rZ : SL RegD
 aZ : SL ActD
 tZ : SL TblD
 sZ : SL StaD
 cZ : SL NodD
 dep : SL Int
abbrev PrgD.vs (d : PrgD) : Array Value := #[.string d.name, .slice d.hZ.a d.hZ.l.length d.hZ.c, .slice d.mZ.a d.mZ.l.length d.mZ.c, .slice d.rZ.a d.rZ.l.length d.rZ.c, .slice d.aZ.a d.aZ.l.length d.aZ.c, .slice d.tZ.a d.tZ.l.length d.tZ.c, .slice d.sZ.a d.sZ.l.length d.sZ.c, .slice d.cZ.a d.cZ.l.length d.cZ.c, .slice d.dep.a d.dep.l.length d.dep.c]
structure PrgR (w : World) (B : Nat) (d : PrgD) : Prop where
 nm : d.name.size ≤ maxLen
 hZ : SLR w B 2 HdrD.enc (HdrD.ok w B) d.hZ
 mZ : SLR w B 2 FldD.enc FldD.ok d.mZ
 rZ : SLR w B 3 RegD.enc RegD.ok d.rZ
 aZ : SLR w B 3 ActD.enc (ActD.ok w B) d.aZ
 tZ : SLR w B 6 TblD.enc (TblD.ok w B) d.tZ
 sZ : SLR w B 7 StaD.enc (StaD.ok w B) d.sZ
 cZ : SLR w B 5 NodD.enc (NodD.ok w B) d.cZ
 dep : SLR w B 1 intE I64 d.dep
section
variable {w w' : World} {B B' : Nat}
theorem HdrD.ok.below {x : HdrD} (h : x.ok w B) (hb : Below B w w') : x.ok w' B := ⟨h.nm, h.fields.below hb⟩
theorem StD.ok.below {x : StD} (h : x.ok w B) (hb : Below B w w') : x.ok w' B := ⟨h.kind, h.dh, h.df, h.reg, h.hdr, h.index.below hb, h.value.below hb⟩
theorem ActD.ok.below {x : ActD} (h : x.ok w B) (hb : Below B w w') : x.ok w' B := ⟨h.nm, h.params.below hb, (h.body.below hb).imp fun x hx => hx.below hb⟩
theorem TblD.ok.below {x : TblD} (h : x.ok w B) (hb : Below B w w') : x.ok w' B := ⟨h.nm, h.keys.below hb, h.aZ.below hb, h.dfl, h.args.below hb, h.size⟩
theorem StaD.ok.below {x : StaD} (h : x.ok w B) (hb : Below B w w') : x.ok w' B := ⟨h.nm, h.extract.below hb, h.onh, h.onf, h.cases.below hb, h.dfl⟩
theorem HdrD.ok.more {x : HdrD} (h : x.ok w B) (hB : B ≤ B') : x.ok w B' := ⟨h.nm, h.fields.more hB⟩
theorem StD.ok.more {x : StD} (h : x.ok w B) (hB : B ≤ B') : x.ok w B' := ⟨h.kind, h.dh, h.df, h.reg, h.hdr, h.index.more hB, h.value.more hB⟩
theorem ActD.ok.more {x : ActD} (h : x.ok w B) (hB : B ≤ B') : x.ok w B' := ⟨h.nm, h.params.more hB, (h.body.more hB).imp fun x hx => hx.more hB⟩
theorem TblD.ok.more {x : TblD} (h : x.ok w B) (hB : B ≤ B') : x.ok w B' := ⟨h.nm, h.keys.more hB, h.aZ.more hB, h.dfl, h.args.more hB, h.size⟩
theorem StaD.ok.more {x : StaD} (h : x.ok w B) (hB : B ≤ B') : x.ok w B' := ⟨h.nm, h.extract.more hB, h.onh, h.onf, h.cases.more hB, h.dfl⟩
mutual
theorem NodD.ok_below : ∀ (x : NodD), NodD.ok w B x → Below B w w' → NodD.ok w' B x
 | .mk k t c ta tc tl ea ec el, h, hb => by
  unfold NodD.ok at h ⊢
  exact ⟨h.1, h.2.1, h.2.2.1.below hb, ⟨h.2.2.2.1.1, h.2.2.2.1.2.1, h.2.2.2.1.2.2.below hb⟩, zCf tl h.2.2.2.2.1 hb, ⟨h.2.2.2.2.2.1.1, h.2.2.2.2.2.1.2.1, h.2.2.2.2.2.1.2.2.below hb⟩, zCf el h.2.2.2.2.2.2 hb⟩
theorem zCf : ∀ (l : List NodD), zSf w B l → Below B w w' → zSf w' B l
 | [], _, _ => trivial
 | x :: l, h, hb => ⟨NodD.ok_below x h.1 hb, zCf l h.2 hb⟩
end
mutual
theorem NodD.ok_more : ∀ (x : NodD), NodD.ok w B x → B ≤ B' → NodD.ok w B' x
 | .mk k t c ta tc tl ea ec el, h, hb => by
  unfold NodD.ok at h ⊢
  exact ⟨h.1, h.2.1, h.2.2.1.more hb, ⟨h.2.2.2.1.1, h.2.2.2.1.2.1, h.2.2.2.1.2.2.more hb⟩, nods_more tl h.2.2.2.2.1 hb, ⟨h.2.2.2.2.2.1.1, h.2.2.2.2.2.1.2.1, h.2.2.2.2.2.1.2.2.more hb⟩, nods_more el h.2.2.2.2.2.2 hb⟩
theorem nods_more : ∀ (l : List NodD), zSf w B l → B ≤ B' → zSf w B' l
 | [], _, _ => trivial
 | x :: l, h, hb => ⟨NodD.ok_more x h.1 hb, nods_more l h.2 hb⟩
end
theorem PrgR.below {d : PrgD} (h : PrgR w B d) (hb : Below B w w') : PrgR w' B d :=
 ⟨h.nm, (h.hZ.below hb).imp fun x hx => hx.below hb, h.mZ.below hb, h.rZ.below hb, (h.aZ.below hb).imp fun x hx => hx.below hb, (h.tZ.below hb).imp fun x hx => hx.below hb, (h.sZ.below hb).imp fun x hx => hx.below hb, (h.cZ.below hb).imp fun x hx => NodD.ok_below x hx hb, h.dep.below hb⟩
theorem PrgR.more {d : PrgD} (h : PrgR w B d) (hB : B ≤ B') : PrgR w B' d :=
 ⟨h.nm, (h.hZ.more hB).imp fun x hx => hx.more hB, h.mZ.more hB, h.rZ.more hB, (h.aZ.more hB).imp fun x hx => hx.more hB, (h.tZ.more hB).imp fun x hx => hx.more hB, (h.sZ.more hB).imp fun x hx => hx.more hB, (h.cZ.more hB).imp fun x hx => NodD.ok_more x hx hB, h.dep.more hB⟩
theorem PrgR.step {d : PrgD} (h : PrgR w w.heap.size d) (hb : Below w.heap.size w w') : PrgR w' w'.heap.size d := (h.below hb).more hb.size
end
/-! identifiers -/
def isLet (c : UInt8) : Bool := (97 ≤ c.toNat && c.toNat ≤ 122) || (65 ≤ c.toNat && c.toNat ≤ 90)
def isDig (c : UInt8) : Bool := 48 ≤ c.toNat && c.toNat ≤ 57
def idc (c : UInt8) : Bool := isLet c || isDig c || c.toNat == 95
def idLen (l : List UInt8) : Nat := (l.takeWhile idc).length
def ident (s : ByteArray) : Bool := 0 < s.size && s.size ≤ 16 && isLet (s.data.toList.headD 0) && idLen s.data.toList == s.size
def scan {E : Type} (n : Nat) (f : Nat → Option E) : Option E := (List.range n).findSome? f
theorem znb {E : Type} {n : Nat} {f : Nat → Option E} (h : ∀ i, i < n → f i = none) : scan n f = none :=
 List.findSome?_eq_none_iff.2 fun i hi => h i (List.mem_range.1 hi)
theorem zua {E : Type} {n k : Nat} {f : Nat → Option E} {e : E} (hk : k < n) (h : ∀ i, i < k → f i = none) (hf : f k = some e) : scan n f = some e := by
 unfold scan
 obtain ⟨m, rfl⟩ : ∃ m, n = k + (m + 1) := ⟨n - k - 1, by omega⟩
 rw [List.range_add, List.findSome?_append, List.range_succ_eq_map]
 have h1 : (List.range k).findSome? f = none := List.findSome?_eq_none_iff.2 fun i hi => h i (List.mem_range.1 hi)
 rw [h1]
 simp [hf]
def sEq (a b : ByteArray) : Bool := a.toList == b.toList
def badW (w : Int) : Bool := decide (w < 1) || decide (32 < w)
/-! hZ -/
def zIa (l : List FldD) (i : Nat) : Option Int :=
 match l[i]? with
 | none => none
 | some f => if !ident f.name then some 6 else if badW f.width then some 10 else if (l.take i).any (fun g => sEq g.name f.name) then some 7 else none
def isum : List Int → Int
 | [] => 0
 | x :: l => x + isum l
def sumW (l : List FldD) : Int := isum (l.map (·.width))
def zac (h : HdrD) : Int :=
 if !ident h.name then 6 else if h.fields.l.length = 0 then 8 else if 12 < h.fields.l.length then 12 else
 match scan h.fields.l.length (zIa h.fields.l) with
 | some e => e
 | none => if sumW h.fields.l % 8 = 0 then 0 else 10
/-! registers -/
def zre (r : RegD) : Int := if !ident r.name then 6 else if badW r.width then 10 else if 1 ≤ r.size ∧ r.size ≤ 64 then 0 else 9
/-! fields of a program -/
def zoc (d : PrgD) (h : Int) : List FldD := if h = -1 then d.mZ.l else if h < 0 ∨ (d.hZ.l.length : Int) ≤ h then [] else match d.hZ.l[h.toNat]? with | some x => x.fields.l | none => []
def fldAt (d : PrgD) (h i : Int) : Option FldD := if i < 0 then none else (zoc d h)[i.toNat]?
/-! expressions -/
def arity (op : Int) : Int := if 1 ≤ op ∧ op ≤ 4 then 0 else if 5 ≤ op ∧ op ≤ 8 then 1 else if 9 ≤ op ∧ op ≤ 16 then 2 else if op = 17 then 3 else -1
def wide (w : Int) : Int × Int := if badW w then (0, 10) else (w, 0)
def zSa (d : PrgD) (ps : List FldD) (x : ExD) : Int × Int :=
 if x.op = 1 then if badW x.w then (0, 10) else if x.n < 0 ∨ (2 : Int) ^ x.w.toNat - 1 < x.n then (0, 9) else (x.w, 0)
 else if x.op = 2 then match fldAt d x.n x.w with | none => (0, 8) | some f => wide f.width
 else if x.op = 3 then if x.n < 0 then (0, 8) else match ps[x.n.toNat]? with | none => (0, 8) | some f => wide f.width
 else if x.n < 0 ∨ (d.hZ.l.length : Int) ≤ x.n then (0, 8) else (1, 0)
def zpa (x : ExD) (a b c : Int) : Int × Int :=
 if (x.op = 6 ∨ x.op = 7) ∧ (x.n < 0 ∨ 31 < x.n) then (0, 9)
 else if x.op = 8 then if x.n < 0 then (0, 9) else if badW x.w ∨ a - x.w < x.n then (0, 10) else (x.w, 0)
 else if x.op = 14 then wide (a + b)
 else if x.op = 17 then if a ≠ 1 ∨ b ≠ c then (0, 10) else (b, 0)
 else if arity x.op = 2 ∧ a ≠ b then (0, 10)
 else if x.op = 15 ∨ x.op = 16 then (1, 0) else (a, 0)
def exAt (d : PrgD) (ps : List FldD) (n : List ExD) : Nat → Nat → Int × Nat × Int
 | 0, _ => (0, 0, 3)
 | f + 1, i => match n[i]? with
  | none => (0, 0, 3)
  | some x =>
   if arity x.op < 0 then (0, 0, 11)
   else if arity x.op = 0 then ((zSa d ps x).1, i + 1, (zSa d ps x).2)
   else
    let r1 := exAt d ps n f (i + 1)
    if r1.2.2 ≠ 0 then (0, 0, r1.2.2)
    else if arity x.op = 1 then ((zpa x r1.1 0 0).1, r1.2.1, (zpa x r1.1 0 0).2)
    else
     let r2 := exAt d ps n f r1.2.1
     if r2.2.2 ≠ 0 then (0, 0, r2.2.2)
     else if arity x.op = 2 then ((zpa x r1.1 r2.1 0).1, r2.2.1, (zpa x r1.1 r2.1 0).2)
     else
      let r3 := exAt d ps n f r2.2.1
      if r3.2.2 ≠ 0 then (0, 0, r3.2.2)
      else ((zpa x r1.1 r2.1 r3.1).1, r3.2.1, (zpa x r1.1 r2.1 r3.1).2)
def zMa (d : PrgD) (ps : List FldD) (n : List ExD) : Int × Int :=
 if 24 < n.length then (0, 12) else
 let r := exAt d ps n (n.length + 1) 0
 if r.2.2 ≠ 0 then (0, r.2.2) else if r.2.1 < n.length then (0, 4) else (r.1, 0)
/-! actions -/
def znc (a : ActD) : Int :=
 if !ident a.name then 6 else if 4 < a.params.l.length ∨ 12 < a.body.l.length then 12 else
 (scan a.params.l.length (zIa a.params.l)).getD 0
def zVb (d : PrgD) (ps : List FldD) (n : List ExD) (w : Int) : Int := if (zMa d ps n).2 = 0 ∧ (zMa d ps n).1 ≠ w then 10 else (zMa d ps n).2
def zFa (d : PrgD) (ps : List FldD) (s : StD) : Int :=
 if s.kind = 1 then match fldAt d s.dh s.df with | none => 8 | some f => zVb d ps s.value.l f.width
 else if s.kind = 2 ∨ s.kind = 3 then if s.hdr < 0 ∨ (d.hZ.l.length : Int) ≤ s.hdr then 8 else 0
 else if s.kind = 4 ∨ s.kind = 5 then
  match (if s.reg < 0 then none else d.rZ.l[s.reg.toNat]?) with
  | none => 8
  | some r =>
   if s.kind = 4 ∧ (fldAt d s.dh s.df).isNone then 8
   else if (zMa d ps s.index.l).2 ≠ 0 then (zMa d ps s.index.l).2
   else if s.kind = 5 then zVb d ps s.value.l r.width
   else if (match fldAt d s.dh s.df with | none => 0 | some f => f.width) = r.width then 0 else 10
 else 11
def zgb (d : PrgD) (a : ActD) : Int × Int :=
 if znc a ≠ 0 then (-1, znc a) else
 (scan a.body.l.length fun i => match a.body.l[i]? with | none => none | some s => if zFa d a.params.l s = 0 then none else some ((i : Int), zFa d a.params.l s)).getD (0, 0)
/-! tZ -/
def fitsW (v w : Int) : Bool := !badW w && decide (v ≤ (2 : Int) ^ w.toNat - 1)
def zQa (d : PrgD) (h f : Int) : Int := match fldAt d h f with | none => 0 | some x => if badW x.width then 0 else x.width
def zAb (d : PrgD) (act : Int) (args : List Int) : Int :=
 match (if act < 0 then none else d.aZ.l[act.toNat]?) with
 | none => 8
 | some a => if args.length ≠ a.params.l.length then 2 else
  if (List.range args.length).all fun i => match args[i]?, a.params.l[i]? with | some v, some f => fitsW v f.width | _, _ => true then 0 else 9
def zzf (d : PrgD) (l : List KeyD) (i : Nat) : Option (Int × Int) :=
 match l[i]? with
 | none => none
 | some k => if zQa d k.h k.f = 0 then some ((i : Int), 8) else if 1 ≤ k.kind ∧ k.kind ≤ 3 then none else some ((i : Int), 11)
def zGd (d : PrgD) (l : List KeyD) : Int := isum (l.map fun k => zQa d k.h k.f)
def zYf (l : List KeyD) : Nat := l.countP fun k => k.kind == 2
def zKb (d : PrgD) (l : List KeyD) : Int × Int :=
 match scan l.length (zzf d l) with
 | some e => e
 | none => if 1 < zYf l then (-2, 7) else if 64 < zGd d l then (-2, 10) else (0, 0)
def zWe (d : PrgD) (l : List Int) (i : Nat) : Option Int :=
 match l[i]? with
 | none => none
 | some a => if a < 0 ∨ (d.aZ.l.length : Int) ≤ a then some 8 else if (l.take i).contains a then some 7 else none
def zHd (d : PrgD) (t : TblD) : Int :=
 match scan t.aZ.l.length (zWe d t.aZ.l) with
 | some e => e
 | none => if !t.aZ.l.contains t.dfl then 8 else zAb d t.dfl t.args.l
def zlc (d : PrgD) (t : TblD) : Int × Int :=
 if !ident t.name then (-1, 6) else if 6 < t.keys.l.length ∨ 16 < t.aZ.l.length then (-1, 12) else if t.size < 1 ∨ 256 < t.size then (-1, 9)
 else if (zKb d t.keys.l).2 ≠ 0 then zKb d t.keys.l else if zHd d t ≠ 0 then (-3, zHd d t) else (0, 0)
open Go.RowKit
theorem zWc {a b : Bool} (h : a = b) : Ending.returned (.bool a) = .returned (.bool b) := by rw [h]
theorem zfb {k : IntKind} {a b : Int} (h : a = b) : Ending.returned (.int k a) = .returned (.int k b) := by rw [h]
theorem zwf (c : UInt8) (w : World) : Calls Tryz.prog 109 #[.int .u8 (c.toNat : Int)] w fun e w' => e = .returned (.bool (isLet c)) ∧ w = w' := by
 have hc : (c.toNat : Int) ≤ 255 := by have := c.toNat_lt; omega
 go_enter Tryz.func109, Tryz.ntmps109
 go_wp2_with fail
 all_goals
  go_ret
  refine ⟨zWc ?_, rfl⟩
  unfold isLet
  rw [Bool.eq_iff_iff]
  simp
  omega
theorem isDigit_any (c : UInt8) (w : World) : Calls Tryz.prog 112 #[.int .u8 (c.toNat : Int)] w fun e w' => e = .returned (.bool (isDig c)) ∧ w = w' := by
 have hc : (c.toNat : Int) ≤ 255 := by have := c.toNat_lt; omega
 go_enter Tryz.func112, Tryz.ntmps112
 go_wp2_with fail
 all_goals
  go_ret
  refine ⟨zWc ?_, rfl⟩
  unfold isDig
  rw [Bool.eq_iff_iff]
  simp
  omega
theorem idc_any (c : UInt8) (w : World) : Calls Tryz.prog 111 #[.int .u8 (c.toNat : Int)] w fun e w' => e = .returned (.bool (idc c)) ∧ w = w' := by
 have hc : (c.toNat : Int) ≤ 255 := by have := c.toNat_lt; omega
 obtain ⟨q1, h1⟩ : ∃ q, isLet c = q := ⟨_, rfl⟩
 obtain ⟨q2, h2⟩ : ∃ q, isDig c = q := ⟨_, rfl⟩
 obtain ⟨q3, h3⟩ : ∃ q, ((c.toNat : Int) == 95) = q := ⟨_, rfl⟩
 have HL := Hd (show idc c = (q1 || q2 || q3) by unfold idc; rw [h1, h2]; congr 1; rw [← h3, Bool.eq_iff_iff]; simp; omega)
 have H1 := Hd h1
 have H2 := Hd h2
 clear h1 h2
 cases q1
 all_goals
  go_enter Tryz.func111, Tryz.ntmps111
  go_wp2_with fail
  refine (zwf c w).mono ?_
  rintro e w1 ⟨rfl, rfl⟩
  rw [H1.out]
  go_wp2_with fail
 ·refine (isDigit_any c w).mono ?_
  rintro e w1 ⟨rfl, rfl⟩
  rw [H2.out]
  cases q2
  all_goals
   go_wp2_with fail
   go_ret
   exact ⟨by rw [HL.out]; rfl, rfl⟩
 ·go_ret
  exact ⟨by rw [HL.out]; rfl, rfl⟩
theorem idLen_le (l : List UInt8) : idLen l ≤ l.length := by unfold idLen; exact (List.takeWhile_sublist _).length_le
theorem idLen_step {l : List UInt8} : ∀ {k : Nat} {c : UInt8}, k ≤ idLen l → l[k]? = some c → (idc c = true → k + 1 ≤ idLen l) ∧ (idc c = false → idLen l = k) := by
 unfold idLen
 induction l with
 | nil => intro k c _ h; cases h
 | cons x l ih =>
  intro k c hk hc
  rw [List.takeWhile_cons] at hk ⊢
  cases k with
  | zero =>
   obtain rfl : x = c := by simpa using hc
   constructor <;> intro h <;> simp [h]
  | succ k =>
   cases hx : idc x with
   | false => simp [hx] at hk
   | true =>
    simp only [hx, if_true, List.length_cons] at hk ⊢
    have := ih (k := k) (c := c) (by omega) (by simpa using hc)
    exact ⟨fun h => by have := this.1 h; omega, fun h => by have := this.2 h; omega⟩
theorem extent_any (s : ByteArray) (hs : s.size ≤ 9223372036854775807) (w : World) :
  Calls Tryz.prog 110 #[.string s, .func (.func 111) #[] #[]] w fun e w' => e = .returned (.int .i64 (idLen s.data.toList)) ∧ w = w' := by
 have hle : idLen s.data.toList ≤ s.size := idLen_le _
 obtain ⟨m, hm⟩ : ∃ m, idLen s.data.toList = m := ⟨_, rfl⟩
 rw [hm] at hle ⊢
 have HM := Hd hm
 clear hm
 go_enter Tryz.func110, Tryz.ntmps110
 go_wp2_with fail
 go_loop [5] (fun n => ∃ k : Nat, k ≤ m ∧ n = .int .i64 k) (fun n => s.size - (intOf n).toNat)
 case atStart => exact ⟨0, Nat.zero_le _, rfl⟩
 case round =>
  obtain ⟨k, hk, rfl⟩ := hrel
  by_cases hlt : k < s.size
  ·have hst := idLen_step (l := s.data.toList) (k := k) (c := s[k]) (by rw [HM.out]; exact hk) (List.getElem?_eq_getElem (by simpa using hlt))
   rw [HM.out] at hst
   obtain ⟨q, hq⟩ : ∃ q, idc s[k] = q := ⟨_, rfl⟩
   rw [hq] at hst
   have HST := Hd hst
   have HQ := Hd hq
   clear hst hq
   go_wp2_with fail
   refine (idc_any s[k] w).mono ?_
   rintro e w1 ⟨rfl, h1⟩
   subst h1
   rw [HQ.out]
   cases q
   ·go_wp2_with fail
    go_ret
    exact ⟨zfb (by rw [HST.out.2 (by simp)]), rfl⟩
   ·have hk2 := HST.out.1 (by simp)
    go_wp2_with fail
    go_round
    case rel => exact ⟨k + 1, hk2, by go_num⟩
    case measure => simp [intOf]; omega
  ·go_wp2_with fail
   go_ret
   exact ⟨zfb (by omega), rfl⟩
theorem zGa (s : ByteArray) (hs : s.size ≤ maxLen) (w : World) :
  Calls Tryz.prog 76 #[.string s] w fun e w' => e = .returned (.bool (ident s)) ∧ w = w' := by
 unfold maxLen at hs
 by_cases h0 : s.size = 0
 ·have b0 : ((s.size : Int) == 0) = true := by simp [h0]
  have HI := Hd (show ident s = false by unfold ident; simp [h0])
  clear h0
  go_enter Tryz.func76, Tryz.ntmps76
  go_wp2_with fail
  go_ret
  exact ⟨zWc HI.out.symm, rfl⟩
 ·have b0 : ((s.size : Int) == 0) = false := by simp [h0]
  by_cases h16 : 16 < s.size
  ·have b1 : decide ((16 : Int) < s.size) = true := by simp; omega
   have HI := Hd (show ident s = false by unfold ident; simp; intro _ h; omega)
   go_enter Tryz.func76, Tryz.ntmps76
   go_wp2_with fail
   go_ret
   exact ⟨zWc HI.out.symm, rfl⟩
  ·have b1 : decide ((16 : Int) < s.size) = false := by simp; omega
   have hp : 0 < s.size := by omega
   have hh : s.data.toList.headD 0 = s[0] := by
    have : s.data.toList[0]? = some s[0] := List.getElem?_eq_getElem (by simpa using hp)
    rw [List.headD_eq_head?_getD, List.head?_eq_getElem?, this]; rfl
   obtain ⟨q, hq⟩ : ∃ q, isLet s[0] = q := ⟨_, rfl⟩
   have HI := Hd (show ident s = (q && (idLen s.data.toList == s.size)) by unfold ident; rw [hh, hq, decide_eq_true hp, decide_eq_true (show s.size ≤ 16 by omega)]; rfl)
   have HQ := Hd hq
   clear hq hh
   go_enter Tryz.func76, Tryz.ntmps76
   go_wp2_with fail
   refine (zwf s[0] w).mono ?_
   rintro e w1 ⟨rfl, h1⟩
   subst h1
   rw [HQ.out]
   cases q
   ·go_wp2_with fail
    go_ret
    exact ⟨zWc (by rw [HI.out]; rfl), rfl⟩
   ·go_wp2_with fail
    refine (extent_any s (by omega) w).mono ?_
    rintro e w1 ⟨rfl, h1⟩
    subst h1
    go_wp2_with fail
    go_ret
    refine ⟨zWc ?_, rfl⟩
    rw [HI.out, Bool.eq_iff_iff]
    simp
    try omega
open Go.RowKit
theorem zmc {W W1 : World} (hb : Below W.heap.size W W1) : (∀ b i, b < W.heap.size → W1.cell? ⟨b, i, none⟩ = W.cell? ⟨b, i, none⟩) ∧ (∀ b i, b < W.heap.size → W1.frozen? ⟨b, i, none⟩ = W.frozen? ⟨b, i, none⟩) :=
 ⟨fun b i h => hb.cell (p := ⟨b, i, none⟩) h, fun b i h => hb.frozen (p := ⟨b, i, none⟩) h⟩
theorem zbf (x : Int) : badW x = true ↔ x < 1 ∨ 32 < x := by unfold badW; simp
theorem zSb (x : Int) : badW x = false ↔ 1 ≤ x ∧ x ≤ 32 := by
 rw [← Bool.not_eq_true, zbf]; omega
theorem valid_one (g : Nat) (x : Int) (hx : I64 x) (w : World) (hc : w.cell? ⟨g, 0, none⟩ = some (.int .i64 x)) :
  Calls Tryz.prog 114 #[.slice (some ⟨g, 0, none⟩) 1 1] w fun e w' => e = .returned (.bool (!badW x)) ∧ w = w' := by
 obtain ⟨hx1, hx2⟩ := hx
 obtain ⟨q, hq⟩ : ∃ q, badW x = q := ⟨_, rfl⟩
 have HQ := Hd hq
 have d1 : q = false → 1 ≤ x ∧ x ≤ 32 := fun h => (zSb x).1 (hq.trans h)
 have d2 : q = true → x < 1 ∨ 32 < x := fun h => (zbf x).1 (hq.trans h)
 rw [hq]
 clear hq
 go_enter Tryz.func114, Tryz.ntmps114
 go_wp2_with fail
 go_loop [7] (fun n => ∃ k : Nat, k ≤ 1 ∧ n = .int .i64 k ∧ (k = 1 → q = false)) (fun n => 1 - (intOf n).toNat)
 case atStart => exact ⟨0, by omega, rfl, fun h => absurd h (by omega)⟩
 case round =>
  obtain ⟨k, hk, rfl, hkq⟩ := hrel
  by_cases hlt : k < 1
  ·obtain rfl : k = 0 := by omega
   clear hkq hlt hk
   cases q
   ·obtain ⟨h1, h2⟩ := d1 rfl
    clear d1 d2
    go_wp2_with fail
    go_round
    case rel => exact ⟨1, by omega, rfl, by simp⟩
    case measure => simp [intOf]
   ·have h := d2 rfl
    clear d1 d2
    rcases h with h | h
    ·go_wp2_with fail
     go_ret
     exact ⟨rfl, rfl⟩
    ·have h1 : decide (x < 1) = false := by simp; omega
     go_wp2_with fail
     go_ret
     exact ⟨rfl, rfl⟩
  ·obtain rfl : k = 1 := by omega
   have hf := hkq rfl
   clear hkq hlt hk d1 d2
   subst hf
   go_wp2_with fail
   go_ret
   exact ⟨rfl, rfl⟩
theorem mask_eq (x : Int) (h1 : 1 ≤ x) (h2 : x ≤ 32) : (4294967295 : Int) / 2 ^ (32 - x).toNat = 2 ^ x.toNat - 1 := by
 obtain ⟨n, rfl⟩ := Int.eq_ofNat_of_zero_le (show 0 ≤ x by omega)
 have h : ∀ n : Nat, n < 33 → (4294967295 : Int) / 2 ^ (32 - n) = 2 ^ n - 1 := by decide
 rw [show (32 - (n : Int)).toNat = 32 - n by omega, Int.toNat_natCast]
 exact h n (by omega)
def zLd (x : Int) : Int := if badW x then 0 else (2 : Int) ^ x.toNat - 1
theorem Mask_any (x : Int) (hx : I64 x) (w : World) :
  Calls Tryz.prog 80 #[.int .i64 x] w fun e w' => e = .returned (.int .u32 (zLd x)) ∧ Below w.heap.size w w' := by
 obtain ⟨hx1, hx2⟩ := hx
 obtain ⟨q, hq⟩ : ∃ q, badW x = q := ⟨_, rfl⟩
 have HQ := Hd hq
 have d1 : q = false → 1 ≤ x ∧ x ≤ 32 := fun h => (zSb x).1 (hq.trans h)
 have HM := Hd (show zLd x = if q then 0 else (2 : Int) ^ x.toNat - 1 by unfold zLd; rw [hq])
 clear hq
 go_enter Tryz.func80, Tryz.ntmps80
 go_wp2_with fail
 refine (valid_one w.heap.size x ⟨hx1, hx2⟩ _ ((Blk.new w _ _).cell 0)).mono ?_
 rintro e w1 ⟨rfl, h1⟩
 subst h1
 rw [HQ.out]
 cases q
 ·obtain ⟨h1, h2⟩ := d1 rfl
  clear d1
  go_wp2_with fail
  go_ret
  exact ⟨zfb (by rw [HM.out]; exact mask_eq x h1 h2), (Below.refl _ _).alloc (Nat.le_refl _) _⟩
 ·clear d1
  go_wp2_with fail
  go_ret
  exact ⟨zfb (by rw [HM.out]; rfl), (Below.refl _ _).alloc (Nat.le_refl _) _⟩
theorem mask_lt (x : Int) : 0 ≤ zLd x ∧ zLd x ≤ 4294967295 := by
 unfold zLd
 cases h : badW x with
 | true => simp
 | false =>
  obtain ⟨h1, h2⟩ := (zSb x).1 h
  obtain ⟨n, rfl⟩ := Int.eq_ofNat_of_zero_le (show 0 ≤ x by omega)
  have h : ∀ n : Nat, n < 33 → 0 ≤ (2 : Int) ^ n - 1 ∧ (2 : Int) ^ n - 1 ≤ 4294967295 := by decide
  simpa using h n (by omega)
theorem mask_zero (x : Int) : (zLd x == 0) = badW x := by
 unfold zLd
 cases h : badW x with
 | true => rfl
 | false =>
  obtain ⟨h1, h2⟩ := (zSb x).1 h
  obtain ⟨n, rfl⟩ := Int.eq_ofNat_of_zero_le (show 0 ≤ x by omega)
  have h : ∀ n : Nat, n < 33 → 1 ≤ n → (((2 : Int) ^ n - 1) == 0) = false := by decide
  simpa using h n (by omega) (by omega)
theorem fits_eq (v x : Int) : fitsW v x = (!badW x && decide (v ≤ zLd x)) := by
 unfold fitsW zLd
 cases h : badW x <;> simp
theorem Fits_any (v x : Int) (hx : I64 x) (hv : U32 v) (w : World) :
  Calls Tryz.prog 148 #[.int .u32 v, .int .i64 x] w fun e w' => e = .returned (.bool (fitsW v x)) ∧ Below w.heap.size w w' := by
 have HF := Hd (fits_eq v x)
 obtain ⟨q, hq⟩ : ∃ q, badW x = q := ⟨_, rfl⟩
 have HQ := Hd hq
 rw [hq] at HF
 have hx0 := hx
 obtain ⟨hx1, hx2⟩ := hx
 have HX := Hd hx0
 clear hq hx0
 go_enter Tryz.func148, Tryz.ntmps148
 go_wp2_with fail
 refine (valid_one w.heap.size x HX.out _ ((Blk.new w _ _).cell 0)).mono ?_
 rintro e w1 ⟨rfl, h1⟩
 subst h1
 rw [HQ.out]
 cases q
 ·go_wp2_with fail
  refine (Mask_any x HX.out _).mono ?_
  rintro e w2 ⟨rfl, hb⟩
  have HB := Hd hb
  clear hb
  go_wp2_with fail
  go_ret
  exact ⟨zWc (by rw [HF.out]; rfl), ((Below.refl _ w).alloc (Nat.le_refl _) _).trans (HB.out.mono (by simp))⟩
 ·go_wp2_with fail
  go_ret
  exact ⟨zWc (by rw [HF.out]; rfl), (Below.refl _ _).alloc (Nat.le_refl _) _⟩
theorem sized_any (r : RegD) (w : World) :
  Calls Tryz.prog 81 #[.agg #[.string r.name, .int .i64 r.width, .int .i64 r.size]] w fun e w' => e = .returned (.bool (decide (1 ≤ r.size ∧ r.size ≤ 64))) ∧ Below w.heap.size w w' := by
 go_enter Tryz.func81, Tryz.ntmps81
 go_wp2_with fail
 all_goals
  go_ret
  refine ⟨zWc ?_, (Below.refl _ _).alloc (Nat.le_refl _) _⟩
  rw [Bool.eq_iff_iff]
  simp
  try omega
theorem regCheck_any (r : RegD) (hr : r.ok) (w : World) :
  Calls Tryz.prog 54 #[.agg #[.string r.name, .int .i64 r.width, .int .i64 r.size]] w fun e w' => e = .returned (.int .i64 (zre r)) ∧ Below w.heap.size w w' := by
 obtain ⟨hn, hw, hs⟩ := hr
 obtain ⟨q1, h1⟩ : ∃ q, ident r.name = q := ⟨_, rfl⟩
 obtain ⟨q2, h2⟩ : ∃ q, badW r.width = q := ⟨_, rfl⟩
 obtain ⟨q3, h3⟩ : ∃ q, decide (1 ≤ r.size ∧ r.size ≤ 64) = q := ⟨_, rfl⟩
 have HL := Hd (show zre r = if !q1 then 6 else if q2 then 10 else if q3 then 0 else 9 by unfold zre; rw [h1, h2, ← h3]; simp)
 have H1 := Hd h1
 have H2 := Hd ((mask_zero r.width).trans h2)
 have H3 := Hd h3
 have HN := Hd hn
 have HW := Hd hw
 clear h1 h2 h3 hn hw hs
 go_enter Tryz.func54, Tryz.ntmps54
 go_wp2_with fail
 refine (zGa r.name HN.out _).mono ?_
 rintro e w1 ⟨rfl, hw1⟩
 subst hw1
 rw [H1.out]
 cases q1
 ·go_wp2_with fail
  go_ret
  exact ⟨zfb (by rw [HL.out]; rfl), (Below.refl _ _).alloc (Nat.le_refl _) _⟩
 ·go_wp2_with fail
  refine (Mask_any r.width HW.out _).mono ?_
  rintro e w2 ⟨rfl, hb⟩
  have hz := H2.out
  obtain ⟨m, hm⟩ : ∃ m, zLd r.width = m := ⟨_, rfl⟩
  rw [hm] at hz ⊢
  have HB := Hd (((Below.refl _ w).alloc (Nat.le_refl _) (.cells #[.string r.name, .int .i64 r.width, .int .i64 r.size] 120)).trans (hb.mono (by simp)))
  obtain ⟨hc, hf⟩ := zmc hb
  clear hb hm
  cases q2
  ·go_wp2_with fail
   refine (sized_any r _).mono ?_
   rintro e w3 ⟨rfl, hb3⟩
   rw [H3.out]
   have HB3 := Hd (HB.out.trans (hb3.mono HB.out.size))
   clear hb3 hc hf
   cases q3
   all_goals
    go_wp2_with fail
    go_ret
    exact ⟨zfb (by rw [HL.out]; rfl), HB3.out⟩
  ·go_wp2_with fail
   go_ret
   exact ⟨zfb (by rw [HL.out]; rfl), HB.out⟩
open Go.RowKit
theorem zna : ∀ x, (intE x).length = 1 := fun _ => rfl
theorem zFb : ∀ x, (FldD.enc x).length = 2 := fun _ => rfl
theorem isum_app (l r : List Int) : isum (l ++ r) = isum l + isum r := by
 induction l with
 | nil => simp [isum]
 | cons x l ih => simp only [List.cons_append, isum, ih]; omega
theorem isum_take {l : List Int} {k : Nat} {x : Int} (h : l[k]? = some x) : isum (l.take (k + 1)) = isum (l.take k) + x := by
 rw [List.take_add_one, h, isum_app]; simp [isum]
theorem isum_bd {l : List Int} {b : Int} (h : ∀ x ∈ l, 0 ≤ x ∧ x ≤ b) : 0 ≤ isum l ∧ isum l ≤ b * l.length := by
 induction l with
 | nil => simp [isum]
 | cons x l ih =>
  have h1 := h x (List.mem_cons_self ..)
  have h2 := ih fun y hy => h y (List.mem_cons_of_mem _ hy)
  simp only [isum, List.length_cons]
  rw [Int.natCast_add, Int.mul_add]
  omega
def OwnZ (w : World) (base : Nat) (A : Option Addr) (c : Nat) (l : List Int) : Prop := Own w base 3 1 A l.length c (l.flatMap intE)
section
variable {w w' : World} {base c : Nat} {A : Option Addr} {l : List Int}
theorem OwnZ.none_ (w : World) (base : Nat) : OwnZ w base none 0 [] := Own.none_ _ _ _ _
theorem OwnZ.below (h : OwnZ w base A c l) (hb : Below w.heap.size w w') : OwnZ w' base A c l := Own.below h hb
theorem OwnZ.le (h : OwnZ w base A c l) : l.length ≤ c ∧ c ≤ maxLen := by
 rcases h.2 with ⟨h1, h2⟩ | ⟨g, cap, cur, hv, _, _, h1, h2, _⟩
 ·injection h1 with _ _ h1; subst h1; rw [h2]; exact ⟨Nat.le_refl _, Nat.zero_le _⟩
 ·injection hv with _ _ hv; subst hv; exact ⟨h1, h2⟩
theorem OwnZ.slr (h : OwnZ w base A c l) {ok : Int → Prop} (ho : ∀ x ∈ l, ok x) : SLR w w.heap.size 1 intE ok ⟨A, c, l⟩ := ⟨h.le.1, h.le.2, Own.reads h, ho⟩
end
theorem infoInt : (Tryz.prog.info? 3).map (fun i => (i.zero, i.size, i.bytes)) = some (some (.int .i64 0), 1, 8) := by kernel_rfl
theorem one_intE (l : List Int) : ∀ u ∈ l.flatMap intE, u.oneCell' = true := by
 intro u hu
 obtain ⟨x, _, hx⟩ := List.mem_flatMap.1 hu
 simp [intE] at hx
 subst hx
 rfl
theorem zsb (w : World) (n : Nat) (hn : w.heap.size = n) (x : Int) : Reads (w.alloc (.cells #[.int .i64 x] 3)) (n + 1) 1 (some ⟨n, 0, none⟩) 1 ([x].flatMap intE) := by
 subst hn
 exact ⟨rfl, fun _ => ⟨_, rfl, by simp, fun j v hv => by
  rw [show ((⟨w.heap.size, 0, none⟩ : Addr).add j) = ⟨w.heap.size, j, none⟩ from by unfold Addr.add; split <;> simp_all, (Blk.new w _ _).cell j]
  simpa [intE] using hv⟩⟩
theorem zJe {w : World} {ops : Array Oper} {rest : List Oper} {o : Oper} {a : Act} {Q : Exit → Act → World → Prop} (hgd : o.guard = none) (s x : Operand)
  (ho : o.op = .call { callee := .builtin .append, args := #[s, x], argTypes := #[29, 29] })
  (base : Nat) (A0 : Option Addr) (n0 c0 : Nat) (S0 : List Int) (hn0 : S0.length = n0) (hs : a.eval s = .slice A0 n0 c0) (hown : OwnZ w base A0 c0 S0)
  (B : Nat) (A : Option Addr) (m c : Nat) (S : List Int) (hm : S.length = m) (hx : a.eval x = .slice A m c) (hr : Reads w B 1 A m (S.flatMap intE)) (hsz : n0 + m ≤ 1000000) (hbase : base ≤ w.heap.size)
  (h : ∀ A' c' w', OwnZ w' base A' c' (S0 ++ S) → w.grownBy w' (ownB A0) → wpList Tryz.prog ops Q rest (a.put o.dst (.slice A' (n0 + m) c')) w') : wpList Tryz.prog ops Q (o :: rest) a w := by
 obtain ⟨i0, hi, hz0, hz1, hz2⟩ := info_parts infoInt
 subst hn0 hm
 refine zNa w hgd s x 29 ho base 3 i0 _ 1 8 Tryz.underlying29 hi hz0 hz1 hz2 rfl (by decide) A0 S0.length c0 _ hs hown B A S.length c _ hx hr (one_intE S) (by unfold maxLen; omega) (by omega) hbase ?_
 intro A' c' w' h1 h2 h3
 exact h A' c' w' (by unfold OwnZ; rw [List.flatMap_append, List.length_append]; exact h1) h2
theorem OwnZ.step {w w' w0 : World} {B base c : Nat} {A : Option Addr} {l : List Int} (h : OwnZ w base A c l) (hb : Below B w0 w) (hg : w.grownBy w' (ownB A)) (hB : B ≤ base) (hs : B ≤ w.heap.size) : Below B w0 w' :=
 hb.grown hg hs (fun k hk => Nat.le_trans hB (Own.lt h k hk).1)
theorem sum_any (A : Option Addr) (c : Nat) (l : List Int) (w : World) (hR : SLR w w.heap.size 1 intE (fun x => 0 ≤ x ∧ x ≤ 1000000) ⟨A, c, l⟩) (hl : l.length ≤ 1000) :
  Calls Tryz.prog 77 #[.slice A l.length c] w fun e w' => e = .returned (.int .i64 (isum l)) ∧ w = w' := by
 have HR := Hd hR
 clear hR
 go_enter Tryz.func77, Tryz.ntmps77
 go_wp2_with fail
 go_loop [3, 8] (fun n i => ∃ k : Nat, k ≤ l.length ∧ i = .int .i64 k ∧ n = .int .i64 (isum (l.take k))) (fun _ i => l.length - (intOf i).toNat)
 case atStart => exact ⟨0, Nat.zero_le _, rfl, rfl⟩
 case round =>
  obtain ⟨k, hk, rfl, rfl⟩ := hrel
  have hbd := isum_bd (l := l.take k) (b := 1000000) (fun x hx => HR.out.ok x (List.mem_of_mem_take hx))
  have hlt' : (l.take k).length ≤ 1000 := by rw [List.length_take]; omega
  obtain ⟨b0, b1⟩ := hbd
  have b2 : isum (l.take k) ≤ 1000000000 := by omega
  by_cases hlt : k < l.length
  ·obtain ⟨b, off, x, hA, _, hx, ⟨x0, x1⟩, hc⟩ := HR.out.at_ zna (by omega) hlt
   have hc0 : w.cell? ⟨b, off + k, none⟩ = some (.int .i64 x) := by have := hc 0 _ rfl; simpa using this
   simp only at hA hx
   subst hA
   have HS := Hd (isum_take hx)
   have hkl : (k : Int) < l.length := by omega
   obtain ⟨s, hs⟩ : ∃ s, isum (l.take k) = s := ⟨_, rfl⟩
   rw [hs] at b0 b2 HS ⊢
   clear hc hx b1 hlt' hs
   go_wp2_with fail
   go_round
   case rel => exact ⟨k + 1, by omega, by go_num, by rw [HS.out]⟩
   case measure => simp [intOf]; omega
  ·obtain rfl : k = l.length := by omega
   go_wp2_with fail
   go_ret
   exact ⟨zfb (by simp), rfl⟩
set_option maxRecDepth 100000 in
theorem widths_any (h : HdrD) (w : World) (hR : HdrD.ok w w.heap.size h) (hl : h.fields.l.length ≤ 1000) :
  Calls Tryz.prog 78 #[.agg #[.string h.name, .slice h.fields.a h.fields.l.length h.fields.c]] w fun e w' => ∃ A c, e = .returned (.slice A h.fields.l.length c) ∧ OwnZ w' w.heap.size A c (h.fields.l.map (·.width)) ∧ Below w.heap.size w w' := by
 obtain ⟨N, hN⟩ : ∃ N, N = w.heap.size := ⟨_, rfl⟩
 have HN := Hd hN
 have HR := Hd hR.fields
 obtain ⟨nm, ⟨fa, fc, fl⟩⟩ := h
 simp only at HR hl ⊢
 rw [← hN]
 clear hR hN
 go_enter Tryz.func78, Tryz.ntmps78
 go_wp2_with fail
 rw [← HN.out]
 obtain ⟨W1, hW1⟩ : ∃ U, U = w.alloc (.cells #[.string nm, .slice fa fl.length fc] 118) := ⟨_, rfl⟩
 rw [← hW1]
 have HB1 := Hd (show Below N w W1 by rw [hW1, HN.out]; exact (Below.refl _ _).alloc (Nat.le_refl _) _)
 clear hW1
 go_loopw [3, 9] (fun o i wr => ∃ (k : Nat) (A : Option Addr) (c : Nat), k ≤ fl.length ∧ i = .int .i64 k ∧ o = .slice A k c ∧ OwnZ wr N A c ((fl.take k).map (·.width)) ∧ Below N w wr) (fun _ i _ => fl.length - (intOf i).toNat)
 case atStart => exact ⟨0, none, 0, Nat.zero_le _, rfl, rfl, OwnZ.none_ _ _, HB1.out⟩
 case round =>
  obtain ⟨k, A, c, hk, rfl, rfl, hO, hB⟩ := hrel
  have HO := Hd hO
  have HB := Hd hB
  clear hO hB
  by_cases hlt : k < fl.length
  ·obtain ⟨b, off, x, hA, hb, hx, _, hc⟩ := HR.out.at_ zFb (by omega) hlt
   have hbN : b < N := by rw [HN.out]; exact hb
   have hc0 : wr.cell? ⟨b, off + k * 2, none⟩ = some (.string x.name) := by have := hc 0 _ rfl; exact (HB.out.cell (p := ⟨b, off + k * 2, none⟩) hbN).trans (by simpa using this)
   have hc1 : wr.cell? ⟨b, off + k * 2 + 1, none⟩ = some (.int .i64 x.width) := (HB.out.cell (p := ⟨b, off + k * 2 + 1, none⟩) hbN).trans (hc 1 _ rfl)
   simp only at hA hx
   subst hA
   have HX := Hd hx
   have hkl : (k : Int) < fl.length := by omega
   have hsz : N ≤ wr.heap.size := by have := HB.out.size; have := HN.out; omega
   clear hc hb hx
   have hkt : ((fl.take k).map (·.width)).length = k := by simp; omega
   have HKT := Hd hkt
   have HO2 := Hd ((HO.out.below ((Below.refl _ wr).alloc (Nat.le_refl _) (.cells #[.string x.name, .int .i64 x.width] 88))).below ((Below.refl _ _).alloc (Nat.le_refl _) (.cells #[.int .i64 x.width] 3)))
   have HB2 := Hd ((HB.out.alloc hsz (.cells #[.string x.name, .int .i64 x.width] 88)).alloc (by simp; omega) (.cells #[.int .i64 x.width] 3))
   clear hkt
   go_wp2_with (at_builtin; refine zJe rfl (.tmp 13) (.tmp 16) rfl N A k c ((fl.take k).map (·.width)) HKT.out rfl HO2.out _ _ 1 _ [x.width] rfl rfl (zsb _ (wr.heap.size + 1) (by simp) x.width) (by omega) (by simp; omega) ?_; intro A2 c2 w2 hO2 hG2; go_loud (have HO3 := Hd hO2; have HB3 := Hd (HO2.out.step HB2.out hG2 (Nat.le_refl _) (by simp; omega)); clear hO2 hG2))
   go_roundw
   case rel => exact ⟨k + 1, A2, c2, by omega, by go_num, rfl, by have := HO3.out; rw [List.take_add_one, HX.out, List.map_append]; exact this, HB3.out⟩
   case measure => simp [intOf]; omega
  ·obtain rfl : k = fl.length := by omega
   go_wp2_with fail
   go_ret
   exact ⟨A, c, rfl, by have := HO.out; rwa [List.take_length] at this, HB.out⟩
end Go.Proofs.YtakgiamhdpgoeaaGreat
