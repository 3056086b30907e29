/- Contracts of the reference's Pop, Peek. -/
import Derived.Test.YtaiefhdnjmiafaaF
namespace Go.Proofs.Ytaiefhdnjmiafaa
open Go.RowKit
set_option linter.unusedVariables false

set_option maxRecDepth 100000 in
theorem RPop_empty (cap c : Nat) (A : Option Addr) (w : World) :
    Calls Try.prog 12 #[.agg #[.int .i64 cap, .slice A 0 c]] w fun e w' => e = .returned (.tuple #[.agg #[.int .i64 cap, .slice A 0 c], .int .i64 0, .int .i64 0, .bool false]) ∧ Below w.heap.size w w' := by
  go_enter Try.func12, Try.ntmps12
  go_wp2_with fail
  exact bodyPost_ret (v := .tuple #[.agg #[.int .i64 cap, .slice A 0 c], .int .i64 0, .int .i64 0, .bool false]) (by simp [results, go_sem]) rfl ⟨rfl, by repeat (first | exact Below.refl _ _ | refine Below.setCell ?_ (by simp) _ | refine Below.alloc ?_ (by simp) _)⟩
set_option maxRecDepth 100000 in
theorem RPeek_empty (cap c : Nat) (A : Option Addr) (w : World) :
    Calls Try.prog 14 #[.agg #[.int .i64 cap, .slice A 0 c]] w fun e w' => e = .returned (.tuple #[.int .i64 0, .int .i64 0, .bool false]) ∧ Below w.heap.size w w' := by
  go_enter Try.func14, Try.ntmps14
  go_wp2_with fail
  exact bodyPost_ret (v := .tuple #[.int .i64 0, .int .i64 0, .bool false]) (by simp [results, go_sem]) rfl ⟨rfl, by repeat (first | exact Below.refl _ _ | refine Below.setCell ?_ (by simp) _ | refine Below.alloc ?_ (by simp) _)⟩
/-- the fresh item of Peek: the one block of its type from N on -/
def PeekS (W0 : World) (N : Nat) (x : Array Value) : Nat → World → Prop
  | 0, u => Below N W0 u ∧ ∀ g, N ≤ g → ∀ cs, ¬ Blk u g 52 cs
  | 1, u => Below N W0 u ∧ ∃ g0, N ≤ g0 ∧ Blk u g0 52 #[.int .i64 0, .int .i64 0] ∧ ∀ g, N ≤ g → ∀ cs, Blk u g 52 cs → g = g0
  | _, u => Below N W0 u ∧ ∃ g0, N ≤ g0 ∧ Blk u g0 52 x ∧ ∀ g, N ≤ g → ∀ cs, Blk u g 52 cs → g = g0
def PeekSt (_ : Nat) (w w' : World) : Prop := ∀ g t cs, Blk w g t cs → ∃ cs', Blk w' g t cs'
theorem peekSt_refl (j : Nat) (w : World) : PeekSt j w w := fun g t cs h => ⟨cs, h⟩
def itemRow {S : Nat → World → Prop} (N : Nat) : SFact S PeekSt :=
  ⟨fun v u => ∃ g, N ≤ g ∧ v = .pointer (some ⟨g, 0, none⟩) ∧ ∃ cs, Blk u g 52 cs, 0, fun j v w w' ⟨g, h1, h2, cs, h3⟩ _ _ hs => ⟨g, h1, h2, hs _ _ _ h3⟩⟩
theorem blk_alloc_inv {w : World} {o : Obj} {g : Nat} {t : TypeId} {cs : Array Value} (h : Blk (w.alloc o) g t cs) : Blk w g t cs ∨ (g = w.heap.size ∧ o = .cells cs t (0, 0)) := by
  unfold Blk at *
  rcases Nat.lt_or_ge g w.heap.size with hlt | hge
  · left; rw [← heap_alloc_old w o hlt]; exact h
  · have hs : (w.alloc o).heap.size = w.heap.size + 1 := by simp
    have hg : g = w.heap.size := by have := (Array.getElem?_eq_some_iff.1 h).1; omega
    subst hg
    right
    refine ⟨rfl, ?_⟩
    have := heap_alloc_new w o
    rw [this] at h
    exact Option.some.inj h
theorem blk_drewN {w : World} {m g : Nat} {t : TypeId} {cs : Array Value} : Blk (w.drewN m) g t cs ↔ Blk w g t cs := Iff.rfl
theorem peekS_below {W0 u : World} {N j : Nat} {x : Array Value} (h : PeekS W0 N x j u) : Below N W0 u := by
  rcases j with _ | _ | j <;> exact h.1
theorem Rd.below2 {w w' : World} {A : Option Addr} {S : List PI} {n : Nat} (h : Rd w w.heap.size A S) (hn : w.heap.size = n) (hb : Below n w w') : Rd w' w'.heap.size A S := by
  subst hn
  exact (h.below hb).more hb.size
theorem peekS_first {W0 u : World} {N j m : Nat} {x cs : Array Value} (h : PeekS W0 N x j u) (hN : N ≤ u.heap.size) : PeekS W0 N x j ((u.alloc (.cells cs 30)).drewN m) := by
  have key : ∀ g cs', Blk ((u.alloc (.cells cs 30)).drewN m) g 52 cs' → Blk u g 52 cs' := fun g cs' hb => by
    rcases blk_alloc_inv (blk_drewN.1 hb) with h' | ⟨_, h'⟩
    · exact h'
    · injection h' with _ h'; simp at h'
  have hB : Below N W0 ((u.alloc (.cells cs 30)).drewN m) := drew_below ((peekS_below h).alloc hN _) _
  have hup : ∀ {g t cs'}, Blk u g t cs' → Blk ((u.alloc (.cells cs 30)).drewN m) g t cs' := fun hb => by
    have := hb.below ((Below.refl u.heap.size u).alloc (Nat.le_refl _) (.cells cs 30)) hb.lt
    exact this
  rcases j with _ | _ | j
  · exact ⟨hB, fun g hg cs' hb => h.2 g hg cs' (key g cs' hb)⟩
  · obtain ⟨_, g0, h1, h2, h3⟩ := h
    exact ⟨hB, g0, h1, hup h2, fun g hg cs' hb => h3 g hg cs' (key g cs' hb)⟩
  · obtain ⟨_, g0, h1, h2, h3⟩ := h
    exact ⟨hB, g0, h1, hup h2, fun g hg cs' hb => h3 g hg cs' (key g cs' hb)⟩
theorem peekSt_alloc (j : Nat) (u : World) (o : Obj) {m : Nat} : PeekSt j u ((u.alloc o).drewN m) := fun g t cs h => ⟨cs, blk_drewN.2 (h.below ((Below.refl u.heap.size u).alloc (Nat.le_refl _) o) h.lt)⟩
theorem peekSt_alloc0 (j : Nat) (u : World) (o : Obj) : PeekSt j u (u.alloc o) := fun g t cs h => ⟨cs, h.below ((Below.refl u.heap.size u).alloc (Nat.le_refl _) o) h.lt⟩
theorem peekS_alloc {W0 u : World} {N : Nat} {x : Array Value} (h : PeekS W0 N x 0 u) (hN : N ≤ u.heap.size) : PeekS W0 N x 1 (u.alloc (.cells #[.int .i64 0, .int .i64 0] 52)) :=
  ⟨h.1.alloc hN _, u.heap.size, hN, Blk.new _ _ _, fun g hg cs hb => by
    rcases blk_alloc_inv hb with h' | ⟨h', _⟩
    · exact absurd h' (h.2 g hg cs)
    · exact h'⟩
theorem peekS_store {W0 u : World} {N g : Nat} {a b : Value} (hB : Below N W0 u) (hg : N ≤ g) (h : Blk u g 52 #[.int .i64 0, .int .i64 0]) (hu : ∀ g', N ≤ g' → ∀ cs, Blk u g' 52 cs → g' = g) :
    PeekS W0 N #[a, b] 2 ((u.setCell ⟨g, 0, none⟩ a).setCell ⟨g, 1, none⟩ b) := by
  refine ⟨(hB.setCell (p := ⟨g, 0, none⟩) hg _).setCell (p := ⟨g, 1, none⟩) hg _, g, hg, (h.set_ 0 a).set_ 1 b, fun g' hg' cs hb => ?_⟩
  rcases Nat.decEq g' g with hne | he
  · have hgr := grown_setCell (grown_setCell (grown_refl u (some g)) 0 a) 1 b
    refine hu g' hg' cs ?_
    have hlt := hb.lt
    have hs : ((u.setCell ⟨g, 0, none⟩ a).setCell ⟨g, 1, none⟩ b).heap.size = u.heap.size := by simp
    unfold Blk at *
    rw [← hgr.block g' (by omega) (fun e => hne (Option.some.inj e))]
    exact hb
  · exact he
theorem peekSt_store (j : Nat) {u : World} {g : Nat} {a b : Value} {t : TypeId} {cs : Array Value} (h : Blk u g t cs) : PeekSt j u ((u.setCell ⟨g, 0, none⟩ a).setCell ⟨g, 1, none⟩ b) := fun g' t' cs' h' => by
  rcases Nat.decEq g' g with hne | he
  · exact ⟨cs', (grown_setCell (grown_setCell (grown_refl u (some g)) 0 a) 1 b).block g' h'.lt (fun e => hne (Option.some.inj e)) |>.trans h'⟩
  · subst he
    exact ⟨_, (h'.set_ 0 a).set_ 1 b⟩
set_option maxRecDepth 100000 in
theorem RPeek_any (cap c : Nat) (A : Option Addr) (S : List PI) (w : World) (hR : Rd w w.heap.size A S) (hl0 : 0 < S.length) (hl : S.length ≤ 100000) :
    Calls Try.prog 14 #[.agg #[.int .i64 cap, .slice A S.length c]] w fun e w' => e = .returned (.tuple #[.int .i64 (at_ S (fm S)).1, .int .i64 (at_ S (fm S)).2.2, .bool true]) ∧ Below w.heap.size w w' := by
  have HR := Lib.hid hR
  have hd : (((S.length : Nat) : Int) == 0) = false := by simp; intro e; subst e; simp at hl0
  have hfl := fm_lt hl0
  obtain ⟨f, hF⟩ : ∃ f, f = fm S := ⟨_, rfl⟩
  rw [← hF] at hfl ⊢
  have HF := Lib.hid hF
  clear hR hF
  go_enter Try.func14, Try.ntmps14
  go_wp2_with fail
  obtain ⟨W0, hW0⟩ : ∃ W, W = w.alloc (.cells #[.int .i64 cap, .slice A S.length c] 30) := ⟨_, rfl⟩
  obtain ⟨n, hn⟩ : ∃ n, n = w.heap.size := ⟨_, rfl⟩
  rw [← hW0, ← hn]
  have HB0 := Lib.hid (show Below n w W0 by rw [hW0, hn]; exact (Below.refl _ w).alloc (Nat.le_refl _) _)
  have HK := Lib.hid (show Blk W0 n 30 #[.int .i64 cap, .slice A S.length c] by rw [hW0, hn]; exact Blk.new w _ _)
  have HN := Lib.hid (show W0.heap.size = n + 1 by rw [hW0, hn]; simp)
  have HR0 := Lib.hid ((HR.out.below (by rw [← hn]; exact HB0.out)).more HB0.out.size)
  have HM := Lib.hid hn
  obtain ⟨b, off, hA, hb, x0, x1⟩ := HR0.out.at_ hfl
  subst hA
  have hfi : (f : Int) < S.length := by omega
  clear hW0 hn HR
  refine wp_region_rel ⟨[6, 7], [(0, 2), (0, 1), (0, 1), (0, 1), (0, 1), (0, 1), (0, 0), (1, 1)]⟩ (fromAt (S := PeekS W0 (n + 1) #[.int .i64 (at_ S f).1, .int .i64 (at_ S f).2.2]) (St := PeekSt) [eqv (.pointer (some ⟨n, 1, none⟩)), eqv (.slice (some ⟨b, off, none⟩) S.length c), eqv (.agg #[.int .i64 cap, .slice (some ⟨b, off, none⟩) S.length c]), eqv (.int .i64 (f : Int)), eqv (.pointer (some ⟨b, off + f * 2, none⟩)), eqv (.agg #[.int .i64 (at_ S f).1, .int .i64 (at_ S f).2.2]), itemRow (n + 1), anyv]) (PeekS W0 (n + 1) #[.int .i64 (at_ S f).1, .int .i64 (at_ S f).2.2]) (PeekSt) (factAt (S := PeekS W0 (n + 1) #[.int .i64 (at_ S f).1, .int .i64 (at_ S f).2.2]) (St := PeekSt) [eqv (.pointer (some ⟨n, 1, none⟩)), eqv (.slice (some ⟨b, off, none⟩) S.length c), eqv (.agg #[.int .i64 cap, .slice (some ⟨b, off, none⟩) S.length c]), eqv (.int .i64 (f : Int)), eqv (.pointer (some ⟨b, off + f * 2, none⟩)), eqv (.agg #[.int .i64 (at_ S f).1, .int .i64 (at_ S f).2.2]), itemRow (n + 1), anyv]) (by kernel_rfl) (by kernel_rfl) (by kernel_rfl) (by kernel_rfl) ?_ (fun i v j u u' => factAt_st _ i v j u u') ?_ ?_
  · exact ⟨(Below.refl _ _).drew, fun g hg cs h => by have := Blk.lt h; have := HN.out; simp at *; omega⟩
  · show Looks _ _ _ _ _ _ _ 0 _
    refine ⟨?_, ?_, ?_, ?_, ?_, ?_, ?_, ?_, trivial⟩
    · intro j hj ρ y u hS hc hf hg hfree hdep
      obtain ⟨hj0, hj1⟩ := hj _ rfl
      have e1 : ρ (.tmp 1) = .pointer (some ⟨n, 0, none⟩) := hfree 1 rfl
      refine ⟨fun _ => ?_, wanted_plain rfl⟩
      clear hdep hfree hj
      go_simp
      exact ⟨rfl, keepS (by rfl) hS, peekSt_refl _ _⟩
    · intro j hj ρ y u hS hc hf hg hfree hdep
      obtain ⟨hj0, hj1⟩ := hj _ rfl
      have e10 : ρ (.tmp 10) = .pointer (some ⟨n, 1, none⟩) := (hdep 0 _ 10 rfl rfl rfl).1
      refine ⟨fun _ => ?_, wanted_plain rfl⟩
      clear hdep hfree hj
      have c1 : u.cell? ⟨n, 1, none⟩ = some (.slice (some ⟨b, off, none⟩) S.length c) := (HK.out.below (peekS_below hS) (by omega)).cell 1
      go_simp
      exact ⟨rfl, keepS (by rfl) hS, peekSt_refl _ _⟩
    · intro j hj ρ y u hS hc hf hg hfree hdep
      obtain ⟨hj0, hj1⟩ := hj _ rfl
      have e1 : ρ (.tmp 1) = .pointer (some ⟨n, 0, none⟩) := hfree 1 rfl
      refine ⟨fun _ => ?_, wanted_plain rfl⟩
      clear hdep hfree hj
      have c0 : u.cell? ⟨n, 0, none⟩ = some (.int .i64 cap) := (HK.out.below (peekS_below hS) (by omega)).cell 0
      have c1 : u.cell? ⟨n, 1, none⟩ = some (.slice (some ⟨b, off, none⟩) S.length c) := (HK.out.below (peekS_below hS) (by omega)).cell 1
      go_simp
      exact ⟨rfl, keepS (by rfl) hS, peekSt_refl _ _⟩
    · intro j hj ρ y u hS hc hf hg hfree hdep
      obtain ⟨hj0, hj1⟩ := hj _ rfl
      have e12 : ρ (.tmp 12) = .agg #[.int .i64 cap, .slice (some ⟨b, off, none⟩) S.length c] := (hdep 2 _ 12 rfl rfl rfl).1
      refine ⟨fun _ => ?_, wanted_plain rfl⟩
      clear hdep hfree hj
      go_simp
      refine (first_any cap c _ S u (HR0.out.below2 HN.out (peekS_below hS)) hl).mono ?_
      rintro e u' ⟨rfl, m, rfl⟩
      exact ⟨_, rfl, by rw [HF.out]; rfl, keepS (by rfl) (peekS_first hS (by have := (peekS_below hS).size; have := HN.out; omega)), peekSt_alloc _ _ _⟩
    · intro j hj ρ y u hS hc hf hg hfree hdep
      obtain ⟨hj0, hj1⟩ := hj _ rfl
      have e11 : ρ (.tmp 11) = .slice (some ⟨b, off, none⟩) S.length c := (hdep 1 _ 11 rfl rfl rfl).1
      have e13 : ρ (.tmp 13) = .int .i64 (f : Int) := (hdep 3 _ 13 rfl rfl rfl).1
      refine ⟨fun _ => ?_, wanted_plain rfl⟩
      clear hdep hfree hj
      go_simp
      exact ⟨rfl, keepS (by rfl) hS, peekSt_refl _ _⟩
    · intro j hj ρ y u hS hc hf hg hfree hdep
      obtain ⟨hj0, hj1⟩ := hj _ rfl
      have e14 : ρ (.tmp 14) = .pointer (some ⟨b, off + f * 2, none⟩) := (hdep 4 _ 14 rfl rfl rfl).1
      refine ⟨fun _ => ?_, wanted_plain rfl⟩
      clear hdep hfree hj
      obtain ⟨b', off', e', hb', y0, y1⟩ := (HR0.out.below2 HN.out (peekS_below hS)).at_ hfl
      obtain ⟨rfl, rfl⟩ := addr_inj e'
      go_simp
      exact ⟨rfl, keepS (by rfl) hS, peekSt_refl _ _⟩
    · intro j hj ρ y u hS hc hf hg hfree hdep
      obtain rfl : j = 0 := by have := hj _ rfl; dsimp only at this; omega
      refine ⟨fun _ => ?_, wanted_plain rfl⟩
      clear hdep hfree hj
      go_simp
      exact ⟨⟨_, by have := (peekS_below hS).size; have := HN.out; omega, rfl, _, Blk.new _ _ _⟩, peekS_alloc hS (by have := (peekS_below hS).size; have := HN.out; omega), peekSt_alloc0 _ _ _⟩
    · intro j hj ρ y u hS hc hf hg hfree hdep
      obtain rfl : j = 1 := by have := hj _ rfl; dsimp only at this; omega
      have r5 := (hdep 6 _ 5 rfl rfl rfl).1
      have e15 : ρ (.tmp 15) = .agg #[.int .i64 (at_ S f).1, .int .i64 (at_ S f).2.2] := (hdep 5 _ 15 rfl rfl rfl).1
      refine ⟨fun _ => ?_, wanted_plain rfl⟩
      clear hdep hfree hj
      obtain ⟨g, hg, e5, cs, hB⟩ := r5
      obtain ⟨hB1, g0, hg0, hB0, hu⟩ := hS
      obtain rfl := hu g hg cs hB
      have f0 := hB0.frozen 0
      have f1 := hB0.frozen 1
      have z0 : u.cell? ⟨g, 0, none⟩ = some (.int .i64 0) := hB0.cell 0
      have z1 : u.cell? ⟨g, 1, none⟩ = some (.int .i64 0) := hB0.cell 1
      go_simp
      exact ⟨trivial, peekS_store hB1 hg0 hB0 hu, peekSt_store _ hB0⟩
  intro u1 hS
  rintro _ rfl _ rfl _ rfl _ rfl _ rfl _ rfl _ r_5
  simp only [RegEnd, Act.put, List.setIfInBounds_toArray, List.set_cons_zero, List.set_cons_succ]
  obtain ⟨g, hg, rfl, cs, hBc⟩ := r_5
  obtain ⟨hB1, g0, hg0, hB0, hu⟩ := hS
  obtain rfl := hu g hg cs hBc
  have y0 : u1.cell? ⟨g, 0, none⟩ = some (.int .i64 (at_ S f).1) := hB0.cell 0
  have y1 : u1.cell? ⟨g, 1, none⟩ = some (.int .i64 (at_ S f).2.2) := hB0.cell 1
  have HBW := Lib.hid (HB0.out.trans (hB1.mono (show n ≤ n + 1 by omega)))
  clear hB1 hB0 hu hBc x0 x1
  go_wp2_with fail
  go_quiet (fail)
  go_wp2_with fail
  exact bodyPost_ret (v := .tuple #[.int .i64 (at_ S f).1, .int .i64 (at_ S f).2.2, .bool true]) (by simp [results, go_sem]) rfl ⟨rfl, by rw [← HM.out]; exact drew_below HBW.out _⟩

theorem Rd.cut {w : World} {B b off : Nat} {S : List PI} (h : Rd w B (some ⟨b, off, none⟩) S) (k c : Nat) (hk : k ≤ S.length) (hc : S.length ≤ c) : Rd w B (if c = k then some ⟨b, off, none⟩ else some ⟨b, off + k * 2, none⟩) (S.drop k) := by
  by_cases e : c = k
  · have hl : (S.drop k).length = 0 := by rw [List.length_drop]; omega
    have hn : S.drop k = [] := List.eq_nil_of_length_eq_zero hl
    rw [hn]
    exact ⟨rfl, fun h => absurd h (by simp)⟩
  · rw [if_neg e]
    exact h.drop k hk
def RPopS (w : World) (n v cap b off len c : Nat) (kx vx : Int) (A2 : Option Addr) (k2 : Nat) (L : List PI) (j : Nat) (u : World) : Prop :=
  Below n w u ∧ Blk u n 30 #[.int .i64 cap, .slice (some ⟨b, off, none⟩) len c] ∧ Blk u v 52 #[.int .i64 kx, .int .i64 vx] ∧ OwnI u (v + 1) A2 k2 L ∧
    Blk u (n + 1) 30 (match j with | 0 => #[.int .i64 0, .slice none 0 0] | _ => #[.int .i64 cap, .slice A2 L.length k2])
theorem rpop_store {w u : World} {n v cap b off len c k2 : Nat} {kx vx : Int} {A2 : Option Addr} {L : List PI} (hv : n + 2 ≤ v) (h : RPopS w n v cap b off len c kx vx A2 k2 L 0 u) :
    RPopS w n v cap b off len c kx vx A2 k2 L 1 ((u.setCell ⟨n + 1, 0, none⟩ (.int .i64 cap)).setCell ⟨n + 1, 1, none⟩ (.slice A2 L.length k2)) := by
  obtain ⟨h1, h2, h3, h4, h5⟩ := h
  have hgr := grown_setCell (grown_setCell (grown_refl u (some (n + 1))) 0 (.int .i64 cap)) 1 (.slice A2 L.length k2)
  exact ⟨(h1.setCell (p := ⟨n + 1, 0, none⟩) (by simp) _).setCell (p := ⟨n + 1, 1, none⟩) (by simp) _, (hgr.block n h2.lt (by simp)).trans h2, (hgr.block v h3.lt (by simp; omega)).trans h3,
    Own.grown h4 hgr (.inr fun e => by have := (Own.lt h4 _ e).1; omega), (h5.set_ 0 (.int .i64 cap)).set_ 1 (.slice A2 L.length k2)⟩
theorem Blk.old0 {w w' : World} {g : Nat} {t : TypeId} {cs : Array Value} (h : Blk w g t cs) (hG : w.grownBy w' (ownB none)) : Blk w' g t cs := h.old hG (by simp [ownB])
theorem Rd.grown {w w' : World} {A : Option Addr} {S : List PI} (h : Rd w w.heap.size A S) (hG : w.grownBy w' (ownB none)) : Rd w' w.heap.size A S :=
  Reads.keep h fun p hp => by
    have := hG.block p.block hp (by simp [ownB])
    unfold World.cell?
    rw [this]
set_option maxRecDepth 100000 in
theorem RPop_any (cap c : Nat) (A : Option Addr) (S : List PI) (w : World) (hR : Rd w w.heap.size A S) (hl0 : 0 < S.length) (hl : S.length ≤ 4096) (hc : S.length ≤ c) :
    Calls Try.prog 12 #[.agg #[.int .i64 cap, .slice A S.length c]] w fun e w' => ∃ A' c', e = .returned (.tuple #[.agg #[.int .i64 cap, .slice A' (S.eraseIdx (fm S)).length c'], .int .i64 (at_ S (fm S)).1, .int .i64 (at_ S (fm S)).2.2, .bool true]) ∧ OwnI w' w.heap.size A' c' (S.eraseIdx (fm S)) ∧ Below w.heap.size w w' := by
  have HR := Lib.hid hR
  have hd : (((S.length : Nat) : Int) == 0) = false := by simp; intro e; subst e; simp at hl0
  have hfl := fm_lt hl0
  obtain ⟨f, hF⟩ : ∃ f, f = fm S := ⟨_, rfl⟩
  rw [← hF] at hfl ⊢
  have HF := Lib.hid hF
  clear hR hF
  go_enter Try.func12, Try.ntmps12
  go_wp2_with fail
  obtain ⟨W1, hW1⟩ : ∃ W, W = (w.alloc (.cells #[.int .i64 cap, .slice A S.length c] 30)).alloc (.cells #[.int .i64 0, .slice none 0 0] 30) := ⟨_, rfl⟩
  obtain ⟨n, hn⟩ : ∃ n, n = w.heap.size := ⟨_, rfl⟩
  rw [← hW1, ← hn]
  have HB1 := Lib.hid (show Below n w W1 by rw [hW1, hn]; exact ((Below.refl _ w).alloc (Nat.le_refl _) _).alloc (by simp) _)
  have HK := Lib.hid (show Blk W1 n 30 #[.int .i64 cap, .slice A S.length c] by rw [hW1, hn]; exact (Blk.new w _ _).below ((Below.refl _ _).alloc (Nat.le_refl _) _) (by simp))
  have HZ := Lib.hid (show Blk W1 (n + 1) 30 #[.int .i64 0, .slice none 0 0] by rw [hW1, hn]; have := Blk.new (w.alloc (.cells #[.int .i64 cap, .slice A S.length c] 30)) 30 #[.int .i64 0, .slice none 0 0]; simpa using this)
  have HS1 := Lib.hid (show W1.heap.size = n + 2 by rw [hW1, hn]; simp)
  have HR1 := Lib.hid ((HR.out.below (by rw [← hn]; exact HB1.out)).more HB1.out.size)
  have HM := Lib.hid hn
  clear hW1 HR hn
  refine (first_any cap c A S W1 HR1.out (by omega)).mono ?_
  rintro e w1 ⟨rfl, m, hw1⟩
  have hb1 : Below W1.heap.size W1 w1 := by rw [hw1]; exact drew_below ((Below.refl _ W1).alloc (Nat.le_refl _) _) _
  rw [← HF.out]
  have HB2 := Lib.hid (HB1.out.trans (hb1.mono (by have := HS1.out; omega)))
  have HR2 := Lib.hid ((HR1.out.below hb1).more hb1.size)
  have HK2 := Lib.hid (HK.out.below hb1 (by have := HS1.out; omega))
  have HZ2 := Lib.hid (HZ.out.below hb1 (by have := HS1.out; omega))
  have HS2 := Lib.hid (show n + 2 ≤ w1.heap.size by have := HS1.out; have := hb1.size; omega)
  obtain ⟨b, off, hA, hb, x0, x1⟩ := HR2.out.at_ hfl
  subst hA
  have c1 : w1.cell? ⟨n, 1, none⟩ = some (.slice (some ⟨b, off, none⟩) S.length c) := HK2.out.cell 1
  have hfi : (f : Int) < S.length := by omega
  clear hb1 hw1 HB1 HR1 HK HZ HS1
  go_upto_region 6 with (fail)
  obtain ⟨W2, hW2⟩ : ∃ W, W = (w1.alloc (.cells #[.int .i64 (at_ S f).1, .int .i64 (at_ S f).2.2] 52)) := ⟨_, rfl⟩
  obtain ⟨v, hv⟩ : ∃ v, v = w1.heap.size := ⟨_, rfl⟩
  rw [← hW2, ← hv]
  have hb2 : Below w1.heap.size w1 W2 := by rw [hW2]; exact (Below.refl _ w1).alloc (Nat.le_refl _) _
  have HV := Lib.hid (show Blk W2 v 52 #[.int .i64 (at_ S f).1, .int .i64 (at_ S f).2.2] by rw [hW2, hv]; exact Blk.new w1 _ _)
  have HS3 := Lib.hid (show W2.heap.size = v + 1 by rw [hW2, hv]; simp)
  have HS4 := Lib.hid (show n + 2 ≤ v by have := HS2.out; omega)
  have HB3 := Lib.hid (HB2.out.trans (hb2.mono (by have := HS2.out; omega)))
  have HR3 := Lib.hid ((HR2.out.below hb2).more hb2.size)
  have HK3 := Lib.hid (HK2.out.below hb2 (by have := HS2.out; omega))
  have HZ3 := Lib.hid (HZ2.out.below hb2 (by have := HS2.out; omega))
  have c2 : W2.cell? ⟨n, 1, none⟩ = some (.slice (some ⟨b, off, none⟩) S.length c) := HK3.out.cell 1
  have HN := Lib.hid (OwnI.none_ W2 (v + 1))
  clear hW2 hv hb2 HK2 HZ2 HR2 HB2 HS2 c1 x0 x1 hb
  have hfc : (f : Int) ≤ c := by omega
  have htl : (S.take f).length = f := by rw [List.length_take]; omega
  go_upto_region 7 with (at_builtin; refine wpList_append_im rfl (.tmp 21) (.tmp 25) rfl (v + 1) _ 0 _ [] rfl rfl HN.out _ _ f _ (S.take f) htl rfl (HR3.out.take f (by omega)) (by omega) (by have := HS3.out; omega) ?_; intro A1 k1 w2 hO1 hG1; go_loud (have HB4 := Lib.hid (HN.out.step HB3.out hG1 (by have := HS4.out; omega) (by have := HS3.out; have := HS4.out; omega))); go_loud (have HS5 := Lib.hid (show v + 1 ≤ w2.heap.size by have := HS3.out; have := hG1.size; omega); have HO1 := Lib.hid hO1); go_loud (have HR4 := Lib.hid ((HR3.out.grown hG1).more hG1.size)); go_loud (have HK4 := Lib.hid (HK3.out.old0 hG1); have HZ4 := Lib.hid (HZ3.out.old0 hG1); have HV4 := Lib.hid (HV.out.old0 hG1); have c1 : w2.cell? ⟨n, 1, none⟩ = some (.slice (some ⟨b, off, none⟩) S.length c) := HK4.out.cell 1; clear hO1 hG1 HB3 HR3 HK3 HZ3 HV HN HS3 c2; simp only [Nat.zero_add, List.nil_append] at HO1 ⊢))
  have hfc2 : (f : Int) + 1 ≤ S.length := by omega
  have hfc3 : (S.length : Int) ≤ c := by omega
  go_upto_region 8 with (at_builtin; refine wpList_append_im rfl (.tmp 27) (.tmp 32) rfl (v + 1) _ f _ (S.take f) htl rfl HO1.out _ _ (S.length - (f + 1)) _ (S.drop (f + 1)) List.length_drop rfl (HR4.out.cut (f + 1) c (by omega) hc) (by omega) (by have := HS5.out; omega) ?_; intro A2 k2 w3 hO2 hG2; go_loud (have HB5 := Lib.hid (HO1.out.step HB4.out hG2 (by have := HS4.out; omega) (by have := HS5.out; have := HS4.out; omega)); have hn1 : ∀ k, k < v + 1 → ownB A1 ≠ some k := fun k hk e => (by have := (Own.lt HO1.out k e).1; omega); have HO2 := Lib.hid hO2; have HK5 := Lib.hid (HK4.out.old hG2 (hn1 n (by have := HS4.out; omega))); have HZ5 := Lib.hid (HZ4.out.old hG2 (hn1 (n + 1) (by have := HS4.out; omega))); have HV5 := Lib.hid (HV4.out.old hG2 (hn1 v (by omega)));  clear hO2 hG2 hn1 HB4 HR4 HK4 HZ4 HV4 HS5 HO1 c1))
  have hfl2 : f + (S.length - (f + 1)) = (S.eraseIdx f).length := by rw [List.length_eraseIdx]; split <;> omega
  rw [hfl2]
  have HL := Lib.hid (show S.take f ++ S.drop (f + 1) = S.eraseIdx f from (List.eraseIdx_eq_take_drop_succ ..).symm)
  rw [HL.out] at HO2
  obtain ⟨L, hL⟩ : ∃ L, L = S.eraseIdx f := ⟨_, rfl⟩
  rw [← hL] at HO2 ⊢
  have HLL := Lib.hid hL
  clear hL hfl2 HL
  refine wp_region_rel ⟨[8], [(0, 0), (0, 0), (0, 0), (0, 0), (0, 1), (0, 1), (0, 1), (0, 1), (0, 0), (0, 1), (0, 1), (0, 1)]⟩ (fromAt (S := RPopS w n v cap b off S.length c (at_ S f).1 (at_ S f).2.2 A2 k2 L) (St := fun _ _ _ => True) [eqv (.pointer (some ⟨n, 0, none⟩)), eqv (.int .i64 (cap : Int)), eqv (.slice A2 L.length k2), eqv (.agg #[.int .i64 (cap : Int), .slice A2 L.length k2]), eqv (.pointer (some ⟨v, 0, none⟩)), eqv (.int .i64 (at_ S f).1), eqv (.pointer (some ⟨v, 1, none⟩)), eqv (.int .i64 (at_ S f).2.2), anyv, eqv (.int .i64 (at_ S f).1), eqv (.int .i64 (at_ S f).2.2), eqv (.bool true)]) (RPopS w n v cap b off S.length c (at_ S f).1 (at_ S f).2.2 A2 k2 L) (fun _ _ _ => True) (factAt (S := RPopS w n v cap b off S.length c (at_ S f).1 (at_ S f).2.2 A2 k2 L) (St := fun _ _ _ => True) [eqv (.pointer (some ⟨n, 0, none⟩)), eqv (.int .i64 (cap : Int)), eqv (.slice A2 L.length k2), eqv (.agg #[.int .i64 (cap : Int), .slice A2 L.length k2]), eqv (.pointer (some ⟨v, 0, none⟩)), eqv (.int .i64 (at_ S f).1), eqv (.pointer (some ⟨v, 1, none⟩)), eqv (.int .i64 (at_ S f).2.2), anyv, eqv (.int .i64 (at_ S f).1), eqv (.int .i64 (at_ S f).2.2), eqv (.bool true)]) (by kernel_rfl) (by kernel_rfl) (by kernel_rfl) (by kernel_rfl) ?_ (fun i v j u u' => factAt_st _ i v j u u') ?_ ?_
  · exact ⟨HB5.out.drew, HK5.out, HV5.out, HO2.out, HZ5.out⟩
  · show Looks _ _ _ _ _ _ _ 0 _
    refine ⟨?_, ?_, ?_, ?_, ?_, ?_, ?_, ?_, ?_, ?_, ?_, ?_, trivial⟩
    · intro j hj ρ y u hS hc hf hg hfree hdep
      obtain rfl : j = 0 := by have := hj _ rfl; dsimp only at this; omega
      have e1 : ρ (.tmp 1) = .pointer (some ⟨n, 0, none⟩) := hfree 1 rfl
      refine ⟨fun _ => ?_, wanted_plain rfl⟩
      clear hdep hfree hj
      go_simp
      exact ⟨rfl, keepS (by rfl) hS, trivial⟩
    · intro j hj ρ y u hS hc hf hg hfree hdep
      obtain rfl : j = 0 := by have := hj _ rfl; dsimp only at this; omega
      have e34 : ρ (.tmp 34) = .pointer (some ⟨n, 0, none⟩) := (hdep 0 _ 34 rfl rfl rfl).1
      refine ⟨fun _ => ?_, wanted_plain rfl⟩
      clear hdep hfree hj
      have c0 : u.cell? ⟨n, 0, none⟩ = some (.int .i64 cap) := hS.2.1.cell 0
      go_simp
      exact ⟨rfl, keepS (by rfl) hS, trivial⟩
    · intro j hj ρ y u hS hc hf hg hfree hdep
      obtain rfl : j = 0 := by have := hj _ rfl; dsimp only at this; omega
      have e8 : ρ (.tmp 8) = .slice A2 L.length k2 := hfree 8 rfl
      refine ⟨fun _ => ?_, wanted_plain rfl⟩
      clear hdep hfree hj
      go_simp
      exact ⟨rfl, keepS (by rfl) hS, trivial⟩
    · intro j hj ρ y u hS hc hf hg hfree hdep
      obtain rfl : j = 0 := by have := hj _ rfl; dsimp only at this; omega
      have e35 : ρ (.tmp 35) = .int .i64 (cap : Int) := (hdep 1 _ 35 rfl rfl rfl).1
      have e36 : ρ (.tmp 36) = .slice A2 L.length k2 := (hdep 2 _ 36 rfl rfl rfl).1
      refine ⟨fun _ => ?_, wanted_plain rfl⟩
      clear hdep hfree hj
      go_simp
      exact ⟨rfl, keepS (by rfl) hS, trivial⟩
    · intro j hj ρ y u hS hc hf hg hfree hdep
      obtain ⟨hj0, hj1⟩ := hj _ rfl
      have e7 : ρ (.tmp 7) = .pointer (some ⟨v, 0, none⟩) := hfree 7 rfl
      refine ⟨fun _ => ?_, wanted_plain rfl⟩
      clear hdep hfree hj
      go_simp
      exact ⟨rfl, keepS (by rfl) hS, trivial⟩
    · intro j hj ρ y u hS hc hf hg hfree hdep
      obtain ⟨hj0, hj1⟩ := hj _ rfl
      have e38 : ρ (.tmp 38) = .pointer (some ⟨v, 0, none⟩) := (hdep 4 _ 38 rfl rfl rfl).1
      refine ⟨fun _ => ?_, wanted_plain rfl⟩
      clear hdep hfree hj
      have c0 : u.cell? ⟨v, 0, none⟩ = some (.int .i64 (at_ S f).1) := hS.2.2.1.cell 0
      go_simp
      exact ⟨rfl, keepS (by rfl) hS, trivial⟩
    · intro j hj ρ y u hS hc hf hg hfree hdep
      obtain ⟨hj0, hj1⟩ := hj _ rfl
      have e7 : ρ (.tmp 7) = .pointer (some ⟨v, 0, none⟩) := hfree 7 rfl
      refine ⟨fun _ => ?_, wanted_plain rfl⟩
      clear hdep hfree hj
      go_simp
      exact ⟨rfl, keepS (by rfl) hS, trivial⟩
    · intro j hj ρ y u hS hc hf hg hfree hdep
      obtain ⟨hj0, hj1⟩ := hj _ rfl
      have e40 : ρ (.tmp 40) = .pointer (some ⟨v, 1, none⟩) := (hdep 6 _ 40 rfl rfl rfl).1
      refine ⟨fun _ => ?_, wanted_plain rfl⟩
      clear hdep hfree hj
      have c0 : u.cell? ⟨v, 1, none⟩ = some (.int .i64 (at_ S f).2.2) := hS.2.2.1.cell 1
      go_simp
      exact ⟨rfl, keepS (by rfl) hS, trivial⟩
    · intro j hj ρ y u hS hc hf hg hfree hdep
      obtain rfl : j = 0 := by have := hj _ rfl; dsimp only at this; omega
      have e2 : ρ (.tmp 2) = .pointer (some ⟨n + 1, 0, none⟩) := hfree 2 rfl
      have e37 : ρ (.tmp 37) = .agg #[.int .i64 (cap : Int), .slice A2 L.length k2] := (hdep 3 _ 37 rfl rfl rfl).1
      refine ⟨fun _ => ?_, wanted_plain rfl⟩
      clear hdep hfree hj
      have hZ : Blk u (n + 1) 30 #[.int .i64 0, .slice none 0 0] := hS.2.2.2.2
      have f0 := hZ.frozen 0
      have f1 := hZ.frozen 1
      have z0 : u.cell? ⟨n + 1, 0, none⟩ = some (.int .i64 0) := hZ.cell 0
      have z1 : u.cell? ⟨n + 1, 1, none⟩ = some (.slice none 0 0) := hZ.cell 1
      go_simp
      exact ⟨trivial, rpop_store HS4.out hS, trivial⟩
    · intro j hj ρ y u hS hc hf hg hfree hdep
      obtain ⟨hj0, hj1⟩ := hj _ rfl
      have e39 : ρ (.tmp 39) = .int .i64 (at_ S f).1 := (hdep 5 _ 39 rfl rfl rfl).1
      refine ⟨fun _ => ?_, wanted_plain rfl⟩
      clear hdep hfree hj
      go_simp
      exact ⟨rfl, keepS (by rfl) hS, trivial⟩
    · intro j hj ρ y u hS hc hf hg hfree hdep
      obtain ⟨hj0, hj1⟩ := hj _ rfl
      have e41 : ρ (.tmp 41) = .int .i64 (at_ S f).2.2 := (hdep 7 _ 41 rfl rfl rfl).1
      refine ⟨fun _ => ?_, wanted_plain rfl⟩
      clear hdep hfree hj
      go_simp
      exact ⟨rfl, keepS (by rfl) hS, trivial⟩
    · intro j hj ρ y u hS hc hf hg hfree hdep
      obtain ⟨hj0, hj1⟩ := hj _ rfl
      refine ⟨fun _ => ?_, wanted_plain rfl⟩
      clear hdep hfree hj
      go_simp
      exact ⟨rfl, keepS (by rfl) hS, trivial⟩
  intro u1 hS
  rintro _ rfl _ rfl _ rfl _ rfl _ rfl _ rfl _ rfl _ rfl _ rfl _ rfl _ rfl
  simp only [RegEnd, Act.put, List.setIfInBounds_toArray, List.set_cons_zero, List.set_cons_succ]
  have hS : RPopS w n v cap b off S.length c (at_ S f).1 (at_ S f).2.2 A2 k2 L 1 u1 := hS
  have hZ : Blk u1 (n + 1) 30 #[.int .i64 cap, .slice A2 L.length k2] := hS.2.2.2.2
  have e0 : u1.cell? ⟨n + 1, 0, none⟩ = some (.int .i64 cap) := hZ.cell 0
  have e1 : u1.cell? ⟨n + 1, 1, none⟩ = some (.slice A2 L.length k2) := hZ.cell 1
  have hO := hS.2.2.2.1
  have hB := hS.1
  clear hS hZ
  go_wp2_with fail
  all_goals exact bodyPost_ret (v := .tuple #[.agg #[.int .i64 cap, .slice A2 L.length k2], .int .i64 (at_ S f).1, .int .i64 (at_ S f).2.2, .bool true]) (by simp [results, go_sem, e0, e1]) rfl ⟨A2, k2, by rw [← HLL.out], by rw [← HLL.out, ← HM.out]; exact OwnI.less hO (by have := HS4.out; omega), by rw [← HM.out]; exact hB⟩
end Go.Proofs.Ytaiefhdnjmiafaa
