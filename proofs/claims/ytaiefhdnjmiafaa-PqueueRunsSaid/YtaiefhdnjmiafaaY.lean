/- Contract of Push: all that is no queue's block stays as it is. -/
import Derived.Test.YtaiefhdnjmiafaaV
namespace Go.Proofs.Ytaiefhdnjmiafaa
open Go.RowKit
set_option linter.unusedVariables false

section
variable {base q : Nat} {W u v : World}
theorem QK.refl (base : Nat) (W : World) : QK base W W := ⟨Below.refl _ _, fun _ _ h _ => h⟩
theorem QK.drew (h : QK base W u) : QK base W u.drew := ⟨h.below.drew, h.oth⟩
theorem QK.drewN (h : QK base W u) (n : Nat) : QK base W (u.drewN n) := ⟨drew_below h.below n, h.oth⟩
theorem QK.later (h : QK base W u) (k : Below u.heap.size u v) (hb : base ≤ u.heap.size) : QK base W v := h.trans (QK.of k hb)
theorem QK.alloc (h : QK base W u) (hb : base ≤ u.heap.size) (o : Obj) : QK base W (u.alloc o) := h.later ((Below.refl _ u).alloc (Nat.le_refl _) o) hb
theorem QK.grownQ {g : Nat} (h : QK base W u) (hg : u.grownBy v (some g)) (hb : base ≤ g) (hs : base ≤ u.heap.size) (hq : ∃ o, u.heap[g]? = some o ∧ isQ o = true) : QK base W v :=
  ⟨h.below.grown hg hs (fun k hk => by injection hk; omega), fun b o ho hi => by
    have h1 := h.oth b o ho hi
    refine (hg.block b (Array.getElem?_eq_some_iff.1 h1).1 (fun e => ?_)).trans h1
    obtain rfl := Option.some.inj e
    obtain ⟨o', h2, h3⟩ := hq
    rw [h1] at h2
    rw [← Option.some.inj h2, hi] at h3
    cases h3⟩
theorem QK.setq {cs : Array Value} (h : QK base W u) (hb : base ≤ q) (hk : Blk u q 57 cs) (i : Nat) (x : Value) : QK base W (u.setCell ⟨q, i, none⟩ x) :=
  h.grownQ (grown_setCell (grown_refl u (some q)) i x) hb (by have := hk.lt; omega) ⟨_, hk, rfl⟩
theorem own_isQ2 {c g : Nat} {A : Option Addr} {l : List PI} (hO : OwnH u base A c l) (e : ownB A = some g) : ∃ o, u.heap[g]? = some o ∧ isQ o = true := by
  rcases hO.2 with ⟨h1, _⟩ | ⟨g', cp, cur, hv, _, hh, _⟩
  · injection h1 with h1; subst h1; cases e
  · injection hv with hv; subst hv
    injection e with e
    have : g' = g := e
    subst this
    exact ⟨_, hh, rfl⟩
theorem QK.grown {c : Nat} {A : Option Addr} {l : List PI} (h : QK base W u) (hg : u.grownBy v (ownB A)) (hO : OwnH u base A c l) (hb : base ≤ u.heap.size) : QK base W v := by
  cases hA : ownB A with
  | none =>
    rw [hA] at hg
    exact ⟨h.below.grown hg hb (fun k hk => by cases hk), fun b o ho hi => by
      have h1 := h.oth b o ho hi
      exact (hg.block b (Array.getElem?_eq_some_iff.1 h1).1 (fun e => by cases e)).trans h1⟩
  | some g =>
    rw [hA] at hg
    exact h.grownQ hg (hO.lt g hA).1 hb (own_isQ2 hO hA)
theorem QK.put3 {c g : Nat} {l : List PI} (h : QK base W u) (hO : OwnH u base (some ⟨g, 0, none⟩) c l) (k : Nat) (x : PI) : QK base W (put3 u g k x) := by
  have hl := hO.lt g rfl
  exact h.grownQ (grown_setCell (grown_setCell (grown_setCell (grown_refl u (some g)) _ _) _ _) _ _) hl.1 (by omega) (own_isQ2 hO rfl)
end

def PushK (W0 : World) (base q : Nat) (A : Option Addr) (c : Nat) (l : List PI) (cap p : Nat) (L : List PI) : Nat → World → Prop
  | 0, u => QAt u base q A c l cap p ∧ QK base W0 u
  | 1, u => Blk u q 57 #[.slice A l.length c, .int .i64 cap, .int .u64 p, .bool true] ∧ QK base W0 u
  | _, u => (∃ A' c', QAt u base q A' c' L cap p) ∧ QK base W0 u
theorem push_appendK {W0 u : World} {base q c cap p : Nat} {A : Option Addr} {l L : List PI} {x : PI} {ρ : Operand → Value} {g : Nat} {o : Oper} (hL : L = l ++ [x])
    (e34 : ρ (.tmp 34) = .slice A l.length c) (e42 : ρ (.tmp 42) = .slice (some ⟨g, 0, none⟩) 1 1) (hQ : QAt u base q A c l cap p) (hB : QK base W0 u) (hg : Blk u g 60 (itCells x).toArray)
    (hl : l.length ≤ 10000) (hbq : base ≤ q) (hqs : q < W0.heap.size) {F : Value → World → Prop} (hF : F = (grownRow (S := PushK W0 base q A c l cap p L) base q A L).f)
    (ho : o.op = .call { callee := .builtin .append, args := #[.tmp 34, .tmp 42], argTypes := #[54, 54] }) :
    OpGood Try.prog F (PushK W0 base q A c l cap p L 1) (PushSt q A 0) u ((execOp ρ o).run Try.prog u) := by
  obtain ⟨i0, hi, hz0, hz1, hz2⟩ := info_parts infoIt
  have hs := hB.below.size
  subst hF
  subst hL
  refine opgood_append (.tmp 34) (.tmp 42) 54 ho base 60 i0 _ 3 24 Try.underlying54 hi hz0 hz1 hz2 rfl (by decide) A l.length c (rowCells l) e34 hQ.2.2 _ _ 1 1 (itCells x) e42 (reads_one hg)
    (by intro v hv; exact row_one [x] v (by simpa [rowCells] using hv)) (by unfold maxLen; omega) (by omega) (by omega) ?_
  intro A' c' w' h2 h3 h4
  have hne := blk_own_ne hQ.2.1 hQ.2.2
  have hq := hQ.2.1.lt
  refine ⟨⟨A', c', by rw [List.length_append]; rfl, ?_, ?_⟩, ⟨?_, ?_⟩, h3⟩
  · unfold OwnH
    rw [row_app, List.length_append]
    simpa [rowCells] using h2
  · rcases h4 with h4 | h4
    · rw [h4]; exact hne
    · rw [h4]; intro e; injection e; omega
  · unfold Blk
    rw [h3.block q hq (fun e => hne e.symm)]
    exact hQ.2.1
  · exact hB.grown h3 hQ.2.2 (by omega)
theorem push_storeK {W0 u : World} {base q c c1 cap p : Nat} {A A1 : Option Addr} {l L : List PI} (h : Blk u q 57 #[.slice A l.length c, .int .i64 cap, .int .u64 p, .bool true]) (hB : QK base W0 u)
    (hO : OwnH u base A1 c1 L) (hA : ownB A1 ≠ some q) (hbq : base ≤ q) : PushK W0 base q A c l cap p L 2 (u.setCell ⟨q, 0, none⟩ (.slice A1 L.length c1)) :=
  ⟨⟨A1, c1, hbq, h.set_ 0 _, Own.grown hO (grown_setCell (grown_refl _ _) 0 _) (.inr hA)⟩, hB.setq hbq h 0 _⟩
def SwapK (W1 : World) (base q g c : Nat) (l : List PI) (cap p i j : Nat) : Nat → World → Prop
  | 0, u => QAt u base q (some ⟨g, 0, none⟩) c l cap p ∧ QK base W1 u
  | 1, u => QAt u base q (some ⟨g, 0, none⟩) c (l.set i (at_ l j)) cap p ∧ QK base W1 u
  | _, u => QAt u base q (some ⟨g, 0, none⟩) c (swp l i j) cap p ∧ QK base W1 u
set_option maxRecDepth 100000 in
set_option maxHeartbeats 1000000 in
theorem Push_k (base q : Nat) (A : Option Addr) (c : Nat) (l : List PI) (cap p : Nat) (key x : Int) (w : World) (hQ : QAt w base q A c l cap p) (hlen : l.length < cap) (hcap : cap ≤ 4096) (hp : p ≤ 1000000) (hh : IsHeap l) :
    Calls Try.prog 11 #[.pointer (some ⟨q, 0, none⟩), .int .i64 key, .int .i64 x] w fun e w' => e = .returned (.int .i64 0) ∧ ∃ A' c' l', QAt w' base q A' c' l' cap (p + 1) ∧ l'.Perm (l ++ [(key, (p : Int), x)]) ∧ IsHeap l' ∧ QK base w w' := by
  have hc0 : w.cell? ⟨q, 0, none⟩ = some (.slice A l.length c) := hQ.2.1.cell 0
  have hc1 : w.cell? ⟨q, 1, none⟩ = some (.int .i64 cap) := hQ.2.1.cell 1
  have hc3 : w.cell? ⟨q, 3, none⟩ = some (.bool true) := hQ.2.1.cell 3
  have hdl : decide (cap ≤ l.length) = false := by simp; omega
  have HQ := Lib.hid hQ
  have HZ := Lib.hid (QK.refl base w)
  clear hQ
  go_enter Try.func11, Try.ntmps11
  go_wp2_with fail
  go_quiet (fail)
  go_wp2_with fail
  obtain ⟨W0, hW0⟩ : ∃ W, W = w.drewN nq := ⟨_, rfl⟩
  rw [← hW0]
  have HQ0 := Lib.hid (show QAt W0 base q A c l cap p by rw [hW0]; exact HQ.out)
  have HB0 := Lib.hid (show QK base w W0 by rw [hW0]; exact HZ.out.drewN _)
  obtain ⟨L, hL⟩ : ∃ L, L = l ++ [(key, (p : Int), x)] := ⟨_, rfl⟩
  have hLl : L.length = l.length + 1 := by rw [hL, List.length_append]; rfl
  have HUp := Lib.hid (show HeapUp L l.length by rw [hL]; exact up_start hh _)
  have HL := Lib.hid hL
  have HLl := Lib.hid hLl
  clear hW0 hc0 hc1 hc3 hdl HQ hL hLl
  have hqs := HQ0.out.2.1.lt
  have hAs : ∀ k, ownB A = some k → k < W0.heap.size := fun k hk => (HQ0.out.2.2.lt k hk).2
  refine wp_region_rel ⟨[13, 16], [(0, 2), (0, 1), (0, 0), (0, 0), (0, 0), (0, 0), (0, 0), (0, 0), (0, 0), (0, 0), (0, 0), (0, 0), (0, 0), (0, 0), (0, 1), (0, 1), (1, 1)]⟩ (fromAt (S := PushK W0 base q A c l cap p L) (St := PushSt q A) [eqv (.pointer (some ⟨q, 0, none⟩)), eqv (.pointer (some ⟨q, 0, none⟩)), eqv (.pointer (some ⟨q, 0, none⟩)), eqv (.pointer (some ⟨q, 0, none⟩)), eqv (.slice A l.length c), eqv (.int .i64 key), eqv (.pointer (some ⟨q, 0, none⟩)), eqv (.pointer (some ⟨q, 0, none⟩)), eqv (.pointer (some ⟨q, 2, none⟩)), eqv (.int .u64 (p : Int)), eqv (.int .i64 x), eqv (.agg #[.int .i64 key, .int .u64 (p : Int), .int .i64 x]), oneRow W0.heap.size (key, (p : Int), x) (pushSt_old hqs hAs), grownRow base q A L, eqv (.pointer (some ⟨q, 0, none⟩)), eqv (.pointer (some ⟨q, 0, none⟩)), anyv]) (PushK W0 base q A c l cap p L) (PushSt q A) (factAt (S := PushK W0 base q A c l cap p L) (St := PushSt q A) [eqv (.pointer (some ⟨q, 0, none⟩)), eqv (.pointer (some ⟨q, 0, none⟩)), eqv (.pointer (some ⟨q, 0, none⟩)), eqv (.pointer (some ⟨q, 0, none⟩)), eqv (.slice A l.length c), eqv (.int .i64 key), eqv (.pointer (some ⟨q, 0, none⟩)), eqv (.pointer (some ⟨q, 0, none⟩)), eqv (.pointer (some ⟨q, 2, none⟩)), eqv (.int .u64 (p : Int)), eqv (.int .i64 x), eqv (.agg #[.int .i64 key, .int .u64 (p : Int), .int .i64 x]), oneRow W0.heap.size (key, (p : Int), x) (pushSt_old hqs hAs), grownRow base q A L, eqv (.pointer (some ⟨q, 0, none⟩)), eqv (.pointer (some ⟨q, 0, none⟩)), anyv]) (by kernel_rfl) (by kernel_rfl) (by kernel_rfl) (by kernel_rfl) ?_ (fun i v j u u' => factAt_st _ i v j u u') ?_ ?_
  · exact ⟨HQ0.out, (QK.refl _ _).drew⟩
  · show Looks _ _ _ _ _ _ _ 0 _
    refine ⟨?_, ?_, ?_, ?_, ?_, ?_, ?_, ?_, ?_, ?_, ?_, ?_, ?_, ?_, ?_, ?_, ?_, trivial⟩
    · intro j hj ρ y u hS hc hf hg hfree hdep
      obtain ⟨hj0, hj1⟩ := hj _ rfl
      have e0 : ρ (.tmp 0) = .pointer (some ⟨q, 0, none⟩) := hfree 0 rfl
      refine ⟨fun _ => ?_, wanted_plain rfl⟩
      clear hdep hfree hj
      go_simp
      exact ⟨rfl, keepS (by rfl) hS, pushSt_refl _ _ _ _⟩
    · intro j hj ρ y u hS hc hf hg hfree hdep
      obtain ⟨hj0, hj1⟩ := hj _ rfl
      have e0 : ρ (.tmp 0) = .pointer (some ⟨q, 0, none⟩) := hfree 0 rfl
      refine ⟨fun _ => ?_, wanted_plain rfl⟩
      clear hdep hfree hj
      go_simp
      exact ⟨rfl, keepS (by rfl) hS, pushSt_refl _ _ _ _⟩
    · intro j hj ρ y u hS hc hf hg hfree hdep
      obtain rfl : j = 0 := by have := hj _ rfl; dsimp only at this; omega
      have e31 : ρ (.tmp 31) = .pointer (some ⟨q, 0, none⟩) := (hdep 1 _ 31 rfl rfl rfl).1
      refine ⟨fun _ => ?_, wanted_plain rfl⟩
      clear hdep hfree hj
      have c0 : u.cell? ⟨q, 0, none⟩ = some (.slice A l.length c) := hS.1.2.1.cell 0
      have c2 : u.cell? ⟨q, 2, none⟩ = some (.int .u64 p) := hS.1.2.1.cell 2
      go_simp
      exact ⟨rfl, keepS (by rfl) hS, pushSt_refl _ _ _ _⟩
    · intro j hj ρ y u hS hc hf hg hfree hdep
      obtain rfl : j = 0 := by have := hj _ rfl; dsimp only at this; omega
      have e32 : ρ (.tmp 32) = .pointer (some ⟨q, 0, none⟩) := (hdep 2 _ 32 rfl rfl rfl).1
      refine ⟨fun _ => ?_, wanted_plain rfl⟩
      clear hdep hfree hj
      have c0 : u.cell? ⟨q, 0, none⟩ = some (.slice A l.length c) := hS.1.2.1.cell 0
      have c2 : u.cell? ⟨q, 2, none⟩ = some (.int .u64 p) := hS.1.2.1.cell 2
      go_simp
      exact ⟨rfl, keepS (by rfl) hS, pushSt_refl _ _ _ _⟩
    · intro j hj ρ y u hS hc hf hg hfree hdep
      obtain rfl : j = 0 := by have := hj _ rfl; dsimp only at this; omega
      have e33 : ρ (.tmp 33) = .pointer (some ⟨q, 0, none⟩) := (hdep 3 _ 33 rfl rfl rfl).1
      refine ⟨fun _ => ?_, wanted_plain rfl⟩
      clear hdep hfree hj
      have c0 : u.cell? ⟨q, 0, none⟩ = some (.slice A l.length c) := hS.1.2.1.cell 0
      have c2 : u.cell? ⟨q, 2, none⟩ = some (.int .u64 p) := hS.1.2.1.cell 2
      go_simp
      exact ⟨rfl, keepS (by rfl) hS, pushSt_refl _ _ _ _⟩
    · intro j hj ρ y u hS hc hf hg hfree hdep
      obtain rfl : j = 0 := by have := hj _ rfl; dsimp only at this; omega
      have e1 : ρ (.tmp 1) = .int .i64 key := hfree 1 rfl
      refine ⟨fun _ => ?_, wanted_plain rfl⟩
      clear hdep hfree hj
      have c0 : u.cell? ⟨q, 0, none⟩ = some (.slice A l.length c) := hS.1.2.1.cell 0
      have c2 : u.cell? ⟨q, 2, none⟩ = some (.int .u64 p) := hS.1.2.1.cell 2
      go_simp
      exact ⟨rfl, keepS (by rfl) hS, pushSt_refl _ _ _ _⟩
    · intro j hj ρ y u hS hc hf hg hfree hdep
      obtain rfl : j = 0 := by have := hj _ rfl; dsimp only at this; omega
      have e0 : ρ (.tmp 0) = .pointer (some ⟨q, 0, none⟩) := hfree 0 rfl
      refine ⟨fun _ => ?_, wanted_plain rfl⟩
      clear hdep hfree hj
      have c0 : u.cell? ⟨q, 0, none⟩ = some (.slice A l.length c) := hS.1.2.1.cell 0
      have c2 : u.cell? ⟨q, 2, none⟩ = some (.int .u64 p) := hS.1.2.1.cell 2
      go_simp
      exact ⟨rfl, keepS (by rfl) hS, pushSt_refl _ _ _ _⟩
    · intro j hj ρ y u hS hc hf hg hfree hdep
      obtain rfl : j = 0 := by have := hj _ rfl; dsimp only at this; omega
      have e36 : ρ (.tmp 36) = .pointer (some ⟨q, 0, none⟩) := (hdep 6 _ 36 rfl rfl rfl).1
      refine ⟨fun _ => ?_, wanted_plain rfl⟩
      clear hdep hfree hj
      have c0 : u.cell? ⟨q, 0, none⟩ = some (.slice A l.length c) := hS.1.2.1.cell 0
      have c2 : u.cell? ⟨q, 2, none⟩ = some (.int .u64 p) := hS.1.2.1.cell 2
      go_simp
      exact ⟨rfl, keepS (by rfl) hS, pushSt_refl _ _ _ _⟩
    · intro j hj ρ y u hS hc hf hg hfree hdep
      obtain rfl : j = 0 := by have := hj _ rfl; dsimp only at this; omega
      have e37 : ρ (.tmp 37) = .pointer (some ⟨q, 0, none⟩) := (hdep 7 _ 37 rfl rfl rfl).1
      refine ⟨fun _ => ?_, wanted_plain rfl⟩
      clear hdep hfree hj
      have c0 : u.cell? ⟨q, 0, none⟩ = some (.slice A l.length c) := hS.1.2.1.cell 0
      have c2 : u.cell? ⟨q, 2, none⟩ = some (.int .u64 p) := hS.1.2.1.cell 2
      go_simp
      exact ⟨rfl, keepS (by rfl) hS, pushSt_refl _ _ _ _⟩
    · intro j hj ρ y u hS hc hf hg hfree hdep
      obtain rfl : j = 0 := by have := hj _ rfl; dsimp only at this; omega
      have e38 : ρ (.tmp 38) = .pointer (some ⟨q, 2, none⟩) := (hdep 8 _ 38 rfl rfl rfl).1
      refine ⟨fun _ => ?_, wanted_plain rfl⟩
      clear hdep hfree hj
      have c0 : u.cell? ⟨q, 0, none⟩ = some (.slice A l.length c) := hS.1.2.1.cell 0
      have c2 : u.cell? ⟨q, 2, none⟩ = some (.int .u64 p) := hS.1.2.1.cell 2
      go_simp
      exact ⟨rfl, keepS (by rfl) hS, pushSt_refl _ _ _ _⟩
    · intro j hj ρ y u hS hc hf hg hfree hdep
      obtain rfl : j = 0 := by have := hj _ rfl; dsimp only at this; omega
      have e2 : ρ (.tmp 2) = .int .i64 x := hfree 2 rfl
      refine ⟨fun _ => ?_, wanted_plain rfl⟩
      clear hdep hfree hj
      have c0 : u.cell? ⟨q, 0, none⟩ = some (.slice A l.length c) := hS.1.2.1.cell 0
      have c2 : u.cell? ⟨q, 2, none⟩ = some (.int .u64 p) := hS.1.2.1.cell 2
      go_simp
      exact ⟨rfl, keepS (by rfl) hS, pushSt_refl _ _ _ _⟩
    · intro j hj ρ y u hS hc hf hg hfree hdep
      obtain rfl : j = 0 := by have := hj _ rfl; dsimp only at this; omega
      have e35 : ρ (.tmp 35) = .int .i64 key := (hdep 5 _ 35 rfl rfl rfl).1
      have e39 : ρ (.tmp 39) = .int .u64 (p : Int) := (hdep 9 _ 39 rfl rfl rfl).1
      have e40 : ρ (.tmp 40) = .int .i64 x := (hdep 10 _ 40 rfl rfl rfl).1
      refine ⟨fun _ => ?_, wanted_plain rfl⟩
      clear hdep hfree hj
      have c0 : u.cell? ⟨q, 0, none⟩ = some (.slice A l.length c) := hS.1.2.1.cell 0
      have c2 : u.cell? ⟨q, 2, none⟩ = some (.int .u64 p) := hS.1.2.1.cell 2
      go_simp
      exact ⟨rfl, keepS (by rfl) hS, pushSt_refl _ _ _ _⟩
    · intro j hj ρ y u hS hc hf hg hfree hdep
      obtain rfl : j = 0 := by have := hj _ rfl; dsimp only at this; omega
      have e41 : ρ (.tmp 41) = .agg #[.int .i64 key, .int .u64 (p : Int), .int .i64 x] := (hdep 11 _ 41 rfl rfl rfl).1
      refine ⟨fun _ => ?_, wanted_plain rfl⟩
      clear hdep hfree hj
      have c0 : u.cell? ⟨q, 0, none⟩ = some (.slice A l.length c) := hS.1.2.1.cell 0
      have c2 : u.cell? ⟨q, 2, none⟩ = some (.int .u64 p) := hS.1.2.1.cell 2
      have hn := hS.2.below.size
      have hbn : base ≤ u.heap.size := by have := HQ0.out.1; omega
      go_simp
      exact ⟨⟨u.heap.size, hn, rfl, Blk.new _ _ _⟩, ⟨hS.1.below ((Below.refl _ _).alloc (Nat.le_refl _) _), hS.2.alloc hbn _⟩, World.grownBy_alloc _ _ _⟩
    · intro j hj ρ y u hS hc hf hg hfree hdep
      obtain rfl : j = 0 := by have := hj _ rfl; dsimp only at this; omega
      have e34 : ρ (.tmp 34) = .slice A l.length c := (hdep 4 _ 34 rfl rfl rfl).1
      have r42 := (hdep 12 _ 42 rfl rfl rfl).1
      refine ⟨fun _ => ?_, wanted_plain rfl⟩
      clear hdep hfree hj
      have c0 : u.cell? ⟨q, 0, none⟩ = some (.slice A l.length c) := hS.1.2.1.cell 0
      have c2 : u.cell? ⟨q, 2, none⟩ = some (.int .u64 p) := hS.1.2.1.cell 2
      obtain ⟨g9, hg9, e42, hB9⟩ := r42
      exact push_appendK HL.out e34 e42 hS.1 hS.2 hB9 (by omega) HQ0.out.1 hqs rfl rfl
    · intro j hj ρ y u hS hc hf hg hfree hdep
      obtain ⟨hj0, hj1⟩ := hj _ rfl
      have e30 : ρ (.tmp 30) = .pointer (some ⟨q, 0, none⟩) := (hdep 0 _ 30 rfl rfl rfl).1
      refine ⟨fun _ => ?_, wanted_plain rfl⟩
      clear hdep hfree hj
      go_simp
      exact ⟨rfl, keepS (by rfl) hS, pushSt_refl _ _ _ _⟩
    · intro j hj ρ y u hS hc hf hg hfree hdep
      obtain ⟨hj0, hj1⟩ := hj _ rfl
      have e44 : ρ (.tmp 44) = .pointer (some ⟨q, 0, none⟩) := (hdep 14 _ 44 rfl rfl rfl).1
      refine ⟨fun _ => ?_, wanted_plain rfl⟩
      clear hdep hfree hj
      go_simp
      exact ⟨rfl, keepS (by rfl) hS, pushSt_refl _ _ _ _⟩
    · intro j hj ρ y u hS hc hf hg hfree hdep
      obtain rfl : j = 1 := by have := hj _ rfl; dsimp only at this; omega
      have r43 := (hdep 13 _ 43 rfl rfl rfl).1
      have e45 : ρ (.tmp 45) = .pointer (some ⟨q, 0, none⟩) := (hdep 15 _ 45 rfl rfl rfl).1
      refine ⟨fun _ => ?_, wanted_plain rfl⟩
      clear hdep hfree hj
      obtain ⟨A1, c1, e43, hO1, hA1⟩ := r43
      have c0 : u.cell? ⟨q, 0, none⟩ = some (.slice A l.length c) := hS.1.cell 0
      have f0 : u.frozen? ⟨q, 0, none⟩ = false := hS.1.frozen 0
      go_simp
      exact ⟨trivial, push_storeK hS.1 hS.2 hO1 hA1 HQ0.out.1, grown_setCell (grown_refl _ _) 0 _⟩
  intro u hS
  rintro _ rfl _ rfl _ rfl _ rfl _ rfl _ rfl _ rfl _ rfl _ rfl _ rfl _ rfl _ rfl _ ⟨g9, hg9, rfl, hB9⟩ _ ⟨A1, c1, rfl, hO1, hA1⟩ _ rfl _ rfl
  simp only [RegEnd, Act.put, List.setIfInBounds_toArray, List.set_cons_zero, List.set_cons_succ]
  obtain ⟨⟨A2, c2, hQ2⟩, hB2⟩ := hS
  have k0 : u.cell? ⟨q, 0, none⟩ = some (.slice A2 L.length c2) := hQ2.2.1.cell 0
  have k2 : u.cell? ⟨q, 2, none⟩ = some (.int .u64 p) := hQ2.2.1.cell 2
  have f2 : u.frozen? ⟨q, 2, none⟩ = false := hQ2.2.1.frozen 2
  obtain ⟨W1, hW1⟩ : ∃ W, W = u.setCell ⟨q, 2, none⟩ (.int .u64 ((p : Int) + 1)) := ⟨_, rfl⟩
  have HQ3 := Lib.hid (show QAt W1 base q A2 c2 L cap (p + 1) by rw [hW1]; exact hQ2.pushed)
  have HB3 := Lib.hid (show QK base w W1 by rw [hW1]; exact (HB0.out.trans hB2).setq HQ0.out.1 hQ2.2.1 2 _)
  have HW1 := Lib.hid hW1
  have hL1 : 0 < L.length := by have := HLl.out; omega
  have hL2 : L.length ≤ 4096 := by have := HLl.out; omega
  clear hQ2 hB2 hO1 hA1 hB9 hg9 hW1
  go_upto_region 7 with (fail)
  rw [← HW1.out]
  have k0 : W1.cell? ⟨q, 0, none⟩ = some (.slice A2 L.length c2) := HQ3.out.2.1.cell 0
  go_wp2_with fail
  go_loopw [7] (fun v wr => ∃ (l' : List PI) (i : Nat), v = .int .i64 i ∧ QAt wr base q A2 c2 l' cap (p + 1) ∧ l'.Perm L ∧ HeapUp l' i ∧ i < l'.length ∧ l'.length = L.length ∧ QK base W1 wr) (fun v _ => (intOf v).toNat)
  case atStart => exact ⟨L, l.length, by have := HLl.out; rw [show (L.length : Int) - 1 = (l.length : Nat) by omega], HQ3.out, List.Perm.refl _, HUp.out, by have := HLl.out; omega, rfl, QK.refl _ _⟩
  case round =>
    obtain ⟨l', i, rfl, hQ4, hperm, hup, hil, hlen4, hB4⟩ := hrel
    have HB4 := Lib.hid hB4
    have HLen := Lib.hid hlen4
    have HP := Lib.hid hperm
    have HU := Lib.hid hup
    have hl4 : l'.length ≤ 4096 := by omega
    clear hB4 hlen4 hperm hup
    obtain ⟨g, rfl, hg0, hg1⟩ := hQ4.2.2.addr (by omega)
    have HQ4 := Lib.hid hQ4
    have k4 : wr.cell? ⟨q, 0, none⟩ = some (.slice (some ⟨g, 0, none⟩) l'.length c2) := hQ4.2.1.cell 0
    clear hQ4
    by_cases hi0 : i = 0
    · subst hi0
      go_wp2_with fail
      go_ret
      exact ⟨rfl, _, _, l', HQ4.out, by rw [← HL.out]; exact HP.out, up_stop HU.out (.inl rfl), HB3.out.trans HB4.out⟩
    · obtain ⟨up, hj⟩ : ∃ up : Nat, up = (i - 1) / 2 := ⟨_, rfl⟩
      have hj2 : ((i : Int) - 1) / 2 = (up : Int) := by omega
      have hji : up < l'.length := by omega
      have hjp : up < i := by omega
      have hi1 : (0 : Int) < i := by omega
      have HJ := Lib.hid hj
      clear hj hi0
      obtain ⟨b, hb⟩ : ∃ b, ltB (at_ l' i) (at_ l' up) = b := ⟨_, rfl⟩
      have HBb := Lib.hid hb
      clear hb
      go_wp2_with fail
      rw [hj2]
      have hii : (i : Int) < l'.length := by omega
      have hjj : (up : Int) < l'.length := by omega
      refine wp_region_rel ⟨[], [(0, 0), (0, 0), (0, 0), (0, 0), (0, 0), (0, 0), (0, 0), (0, 0), (0, 0), (0, 0), (0, 0), (0, 0), (0, 0), (0, 0), (0, 0), (0, 0)]⟩ (fromAt (S := fun _ u => Below wr.heap.size wr u) (St := fun _ => Gone) [eqv (.pointer (some ⟨q, 0, none⟩)), eqv (.pointer (some ⟨q, 0, none⟩)), eqv (.pointer (some ⟨q, 0, none⟩)), eqv (.slice (some ⟨g, 0, none⟩) l'.length c2), eqv (.int .i64 (i : Int)), eqv (.pointer (some ⟨g, i * 3, none⟩)), eqv (.agg #[.int .i64 (at_ l' i).1, .int .u64 (at_ l' i).2.1, .int .i64 (at_ l' i).2.2]), eqv (.pointer (some ⟨q, 0, none⟩)), eqv (.pointer (some ⟨q, 0, none⟩)), eqv (.pointer (some ⟨q, 0, none⟩)), eqv (.slice (some ⟨g, 0, none⟩) l'.length c2), eqv (.int .i64 (up : Int)), eqv (.pointer (some ⟨g, up * 3, none⟩)), eqv (.agg #[.int .i64 (at_ l' up).1, .int .u64 (at_ l' up).2.1, .int .i64 (at_ l' up).2.2]), eqv (.bool b), eqv (.bool (!b))]) (fun _ u => Below wr.heap.size wr u) (fun _ => Gone) (factAt (S := fun _ u => Below wr.heap.size wr u) (St := fun _ => Gone) [eqv (.pointer (some ⟨q, 0, none⟩)), eqv (.pointer (some ⟨q, 0, none⟩)), eqv (.pointer (some ⟨q, 0, none⟩)), eqv (.slice (some ⟨g, 0, none⟩) l'.length c2), eqv (.int .i64 (i : Int)), eqv (.pointer (some ⟨g, i * 3, none⟩)), eqv (.agg #[.int .i64 (at_ l' i).1, .int .u64 (at_ l' i).2.1, .int .i64 (at_ l' i).2.2]), eqv (.pointer (some ⟨q, 0, none⟩)), eqv (.pointer (some ⟨q, 0, none⟩)), eqv (.pointer (some ⟨q, 0, none⟩)), eqv (.slice (some ⟨g, 0, none⟩) l'.length c2), eqv (.int .i64 (up : Int)), eqv (.pointer (some ⟨g, up * 3, none⟩)), eqv (.agg #[.int .i64 (at_ l' up).1, .int .u64 (at_ l' up).2.1, .int .i64 (at_ l' up).2.2]), eqv (.bool b), eqv (.bool (!b))]) (by kernel_rfl) (by kernel_rfl) (by kernel_rfl) (by kernel_rfl) ?_ (fun i v j u u' => factAt_st _ i v j u u') ?_ ?_
      · exact (Below.refl _ _).drew
      · show Looks _ _ _ _ _ _ _ 0 _
        refine ⟨?_, ?_, ?_, ?_, ?_, ?_, ?_, ?_, ?_, ?_, ?_, ?_, ?_, ?_, ?_, ?_, trivial⟩
        · intro j hj ρ y u hS hc hf hg hfree hdep
          have e0 : ρ (.tmp 0) = .pointer (some ⟨q, 0, none⟩) := hfree 0 rfl
          refine ⟨fun _ => ?_, wanted_plain rfl⟩
          clear hdep hfree hj
          go_simp
          exact ⟨rfl, hS, Below.refl _ _⟩
        · intro j hj ρ y u hS hc hf hg hfree hdep
          have e64 : ρ (.tmp 64) = .pointer (some ⟨q, 0, none⟩) := (hdep 0 _ 64 rfl rfl rfl).1
          refine ⟨fun _ => ?_, wanted_plain rfl⟩
          clear hdep hfree hj
          go_simp
          exact ⟨rfl, hS, Below.refl _ _⟩
        · intro j hj ρ y u hS hc hf hg hfree hdep
          have e65 : ρ (.tmp 65) = .pointer (some ⟨q, 0, none⟩) := (hdep 1 _ 65 rfl rfl rfl).1
          refine ⟨fun _ => ?_, wanted_plain rfl⟩
          clear hdep hfree hj
          go_simp
          exact ⟨rfl, hS, Below.refl _ _⟩
        · intro j hj ρ y u hS hc hf hg hfree hdep
          have e66 : ρ (.tmp 66) = .pointer (some ⟨q, 0, none⟩) := (hdep 2 _ 66 rfl rfl rfl).1
          refine ⟨fun _ => ?_, wanted_plain rfl⟩
          clear hdep hfree hj
          have c0 : u.cell? ⟨q, 0, none⟩ = some (.slice (some ⟨g, 0, none⟩) l'.length c2) := (HQ4.out.below hS).2.1.cell 0
          go_simp
          exact ⟨rfl, hS, Below.refl _ _⟩
        · intro j hj ρ y u hS hc hf hg hfree hdep
          have e7 : ρ (.tmp 7) = .int .i64 (i : Int) := hfree 7 rfl
          refine ⟨fun _ => ?_, wanted_plain rfl⟩
          clear hdep hfree hj
          go_simp
          exact ⟨rfl, hS, Below.refl _ _⟩
        · intro j hj ρ y u hS hc hf hg hfree hdep
          have e67 : ρ (.tmp 67) = .slice (some ⟨g, 0, none⟩) l'.length c2 := (hdep 3 _ 67 rfl rfl rfl).1
          have e68 : ρ (.tmp 68) = .int .i64 (i : Int) := (hdep 4 _ 68 rfl rfl rfl).1
          refine ⟨fun _ => ?_, wanted_plain rfl⟩
          clear hdep hfree hj
          go_simp
          exact ⟨rfl, hS, Below.refl _ _⟩
        · intro j hj ρ y u hS hc hf hg hfree hdep
          have e69 : ρ (.tmp 69) = .pointer (some ⟨g, i * 3, none⟩) := (hdep 5 _ 69 rfl rfl rfl).1
          refine ⟨fun _ => ?_, wanted_plain rfl⟩
          clear hdep hfree hj
          obtain ⟨c0, c1, c2⟩ := (HQ4.out.below hS).2.2.cell hil
          go_simp
          exact ⟨rfl, hS, Below.refl _ _⟩
        · intro j hj ρ y u hS hc hf hg hfree hdep
          have e0 : ρ (.tmp 0) = .pointer (some ⟨q, 0, none⟩) := hfree 0 rfl
          refine ⟨fun _ => ?_, wanted_plain rfl⟩
          clear hdep hfree hj
          go_simp
          exact ⟨rfl, hS, Below.refl _ _⟩
        · intro j hj ρ y u hS hc hf hg hfree hdep
          have e71 : ρ (.tmp 71) = .pointer (some ⟨q, 0, none⟩) := (hdep 7 _ 71 rfl rfl rfl).1
          refine ⟨fun _ => ?_, wanted_plain rfl⟩
          clear hdep hfree hj
          go_simp
          exact ⟨rfl, hS, Below.refl _ _⟩
        · intro j hj ρ y u hS hc hf hg hfree hdep
          have e72 : ρ (.tmp 72) = .pointer (some ⟨q, 0, none⟩) := (hdep 8 _ 72 rfl rfl rfl).1
          refine ⟨fun _ => ?_, wanted_plain rfl⟩
          clear hdep hfree hj
          go_simp
          exact ⟨rfl, hS, Below.refl _ _⟩
        · intro j hj ρ y u hS hc hf hg hfree hdep
          have e73 : ρ (.tmp 73) = .pointer (some ⟨q, 0, none⟩) := (hdep 9 _ 73 rfl rfl rfl).1
          refine ⟨fun _ => ?_, wanted_plain rfl⟩
          clear hdep hfree hj
          have c0 : u.cell? ⟨q, 0, none⟩ = some (.slice (some ⟨g, 0, none⟩) l'.length c2) := (HQ4.out.below hS).2.1.cell 0
          go_simp
          exact ⟨rfl, hS, Below.refl _ _⟩
        · intro j hj ρ y u hS hc hf hg hfree hdep
          have e8 : ρ (.tmp 8) = .int .i64 (up : Int) := hfree 8 rfl
          refine ⟨fun _ => ?_, wanted_plain rfl⟩
          clear hdep hfree hj
          go_simp
          exact ⟨rfl, hS, Below.refl _ _⟩
        · intro j hj ρ y u hS hc hf hg hfree hdep
          have e74 : ρ (.tmp 74) = .slice (some ⟨g, 0, none⟩) l'.length c2 := (hdep 10 _ 74 rfl rfl rfl).1
          have e75 : ρ (.tmp 75) = .int .i64 (up : Int) := (hdep 11 _ 75 rfl rfl rfl).1
          refine ⟨fun _ => ?_, wanted_plain rfl⟩
          clear hdep hfree hj
          go_simp
          exact ⟨rfl, hS, Below.refl _ _⟩
        · intro j hj ρ y u hS hc hf hg hfree hdep
          have e76 : ρ (.tmp 76) = .pointer (some ⟨g, up * 3, none⟩) := (hdep 12 _ 76 rfl rfl rfl).1
          refine ⟨fun _ => ?_, wanted_plain rfl⟩
          clear hdep hfree hj
          obtain ⟨c0, c1, c2⟩ := (HQ4.out.below hS).2.2.cell hji
          go_simp
          exact ⟨rfl, hS, Below.refl _ _⟩
        · intro j hj ρ y u hS hc hf hg hfree hdep
          have e70 : ρ (.tmp 70) = .agg #[.int .i64 (at_ l' i).1, .int .u64 (at_ l' i).2.1, .int .i64 (at_ l' i).2.2] := (hdep 6 _ 70 rfl rfl rfl).1
          have e77 : ρ (.tmp 77) = .agg #[.int .i64 (at_ l' up).1, .int .u64 (at_ l' up).2.1, .int .i64 (at_ l' up).2.2] := (hdep 13 _ 77 rfl rfl rfl).1
          refine ⟨fun _ => ?_, wanted_plain rfl⟩
          clear hdep hfree hj
          go_simp
          refine (before_any (at_ l' i) (at_ l' up) u).mono ?_
          rintro e u' ⟨rfl, hb⟩
          exact ⟨_, rfl, by rw [HBb.out]; rfl, hS.trans (hb.mono hS.size), hb⟩
        · intro j hj ρ y u hS hc hf hg hfree hdep
          have e78 : ρ (.tmp 78) = .bool b := (hdep 14 _ 78 rfl rfl rfl).1
          refine ⟨fun _ => ?_, wanted_plain rfl⟩
          clear hdep hfree hj
          go_simp
          exact ⟨rfl, hS, Below.refl _ _⟩
      intro u2 hS
      rintro _ rfl _ rfl _ rfl _ rfl _ rfl _ rfl _ rfl _ rfl _ rfl _ rfl _ rfl _ rfl _ rfl _ rfl _ rfl _ rfl
      simp only [RegEnd, Act.put, List.setIfInBounds_toArray, List.set_cons_zero, List.set_cons_succ]
      have HS2 := Lib.hid hS
      have HQ5 := Lib.hid (HQ4.out.below hS)
      have k5 : u2.cell? ⟨q, 0, none⟩ = some (.slice (some ⟨g, 0, none⟩) l'.length c2) := HQ5.out.2.1.cell 0
      clear hS hj2 k4
      cases b
      case false =>
        go_wp2_with fail
        go_ret
        exact ⟨rfl, _, _, l', HQ5.out, by rw [← HL.out]; exact HP.out, up_stop HU.out (.inr (by rw [← HJ.out]; exact HBb.out)), HB3.out.trans (HB4.out.later HS2.out (by have := HQ4.out.1; have := HQ4.out.2.1.lt; omega))⟩
      case true =>
        have HB5 := Lib.hid (show QK base W1 u2 from HB4.out.later HS2.out (by have := HQ4.out.1; have := HQ4.out.2.1.lt; omega))
        go_wp2_with fail
        refine wp_region_rel ⟨[25, 27], [(0, 0), (0, 0), (0, 0), (0, 0), (0, 0), (0, 0), (0, 0), (0, 0), (0, 0), (0, 1), (0, 0), (0, 0), (0, 0), (0, 0), (0, 0), (0, 0), (0, 0), (0, 0), (0, 0), (0, 0), (0, 0), (0, 0), (0, 0), (0, 0), (0, 0), (0, 0), (0, 1), (1, 1)]⟩ (fromAt (S := SwapK W1 base q g c2 l' cap (p + 1) i up) (St := fun _ _ _ => True) [eqv (.pointer (some ⟨q, 0, none⟩)), eqv (.pointer (some ⟨q, 0, none⟩)), eqv (.pointer (some ⟨q, 0, none⟩)), eqv (.slice (some ⟨g, 0, none⟩) l'.length c2), eqv (.int .i64 (i : Int)), eqv (.pointer (some ⟨q, 0, none⟩)), eqv (.pointer (some ⟨q, 0, none⟩)), eqv (.pointer (some ⟨q, 0, none⟩)), eqv (.slice (some ⟨g, 0, none⟩) l'.length c2), eqv (.int .i64 (up : Int)), eqv (.pointer (some ⟨q, 0, none⟩)), eqv (.pointer (some ⟨q, 0, none⟩)), eqv (.pointer (some ⟨q, 0, none⟩)), eqv (.slice (some ⟨g, 0, none⟩) l'.length c2), eqv (.int .i64 (up : Int)), eqv (.pointer (some ⟨g, up * 3, none⟩)), eqv (.agg #[.int .i64 (at_ l' up).1, .int .u64 (at_ l' up).2.1, .int .i64 (at_ l' up).2.2]), eqv (.pointer (some ⟨q, 0, none⟩)), eqv (.pointer (some ⟨q, 0, none⟩)), eqv (.pointer (some ⟨q, 0, none⟩)), eqv (.slice (some ⟨g, 0, none⟩) l'.length c2), eqv (.int .i64 (i : Int)), eqv (.pointer (some ⟨g, i * 3, none⟩)), eqv (.agg #[.int .i64 (at_ l' i).1, .int .u64 (at_ l' i).2.1, .int .i64 (at_ l' i).2.2]), eqv (.pointer (some ⟨g, i * 3, none⟩)), anyv, eqv (.pointer (some ⟨g, up * 3, none⟩)), anyv]) (SwapK W1 base q g c2 l' cap (p + 1) i up) (fun _ _ _ => True) (factAt (S := SwapK W1 base q g c2 l' cap (p + 1) i up) (St := fun _ _ _ => True) [eqv (.pointer (some ⟨q, 0, none⟩)), eqv (.pointer (some ⟨q, 0, none⟩)), eqv (.pointer (some ⟨q, 0, none⟩)), eqv (.slice (some ⟨g, 0, none⟩) l'.length c2), eqv (.int .i64 (i : Int)), eqv (.pointer (some ⟨q, 0, none⟩)), eqv (.pointer (some ⟨q, 0, none⟩)), eqv (.pointer (some ⟨q, 0, none⟩)), eqv (.slice (some ⟨g, 0, none⟩) l'.length c2), eqv (.int .i64 (up : Int)), eqv (.pointer (some ⟨q, 0, none⟩)), eqv (.pointer (some ⟨q, 0, none⟩)), eqv (.pointer (some ⟨q, 0, none⟩)), eqv (.slice (some ⟨g, 0, none⟩) l'.length c2), eqv (.int .i64 (up : Int)), eqv (.pointer (some ⟨g, up * 3, none⟩)), eqv (.agg #[.int .i64 (at_ l' up).1, .int .u64 (at_ l' up).2.1, .int .i64 (at_ l' up).2.2]), eqv (.pointer (some ⟨q, 0, none⟩)), eqv (.pointer (some ⟨q, 0, none⟩)), eqv (.pointer (some ⟨q, 0, none⟩)), eqv (.slice (some ⟨g, 0, none⟩) l'.length c2), eqv (.int .i64 (i : Int)), eqv (.pointer (some ⟨g, i * 3, none⟩)), eqv (.agg #[.int .i64 (at_ l' i).1, .int .u64 (at_ l' i).2.1, .int .i64 (at_ l' i).2.2]), eqv (.pointer (some ⟨g, i * 3, none⟩)), anyv, eqv (.pointer (some ⟨g, up * 3, none⟩)), anyv]) (by kernel_rfl) (by kernel_rfl) (by kernel_rfl) (by kernel_rfl) ?_ (fun i v j u u' => factAt_st _ i v j u u') ?_ ?_
        · exact ⟨HQ5.out, HB5.out.drew⟩
        · show Looks _ _ _ _ _ _ _ 0 _
          refine ⟨?_, ?_, ?_, ?_, ?_, ?_, ?_, ?_, ?_, ?_, ?_, ?_, ?_, ?_, ?_, ?_, ?_, ?_, ?_, ?_, ?_, ?_, ?_, ?_, ?_, ?_, ?_, ?_, trivial⟩
          · intro j hj ρ y u hS hc hf hg hfree hdep
            obtain rfl : j = 0 := by have := hj _ rfl; dsimp only at this; omega
            have e0 : ρ (.tmp 0) = .pointer (some ⟨q, 0, none⟩) := hfree 0 rfl
            refine ⟨fun _ => ?_, wanted_plain rfl⟩
            clear hdep hfree hj
            have c0 : u.cell? ⟨q, 0, none⟩ = some (.slice (some ⟨g, 0, none⟩) l'.length c2) := hS.1.2.1.cell 0
            go_simp
            exact ⟨rfl, keepS (by rfl) hS, trivial⟩
          · intro j hj ρ y u hS hc hf hg hfree hdep
            obtain rfl : j = 0 := by have := hj _ rfl; dsimp only at this; omega
            have e80 : ρ (.tmp 80) = .pointer (some ⟨q, 0, none⟩) := (hdep 0 _ 80 rfl rfl rfl).1
            refine ⟨fun _ => ?_, wanted_plain rfl⟩
            clear hdep hfree hj
            have c0 : u.cell? ⟨q, 0, none⟩ = some (.slice (some ⟨g, 0, none⟩) l'.length c2) := hS.1.2.1.cell 0
            go_simp
            exact ⟨rfl, keepS (by rfl) hS, trivial⟩
          · intro j hj ρ y u hS hc hf hg hfree hdep
            obtain rfl : j = 0 := by have := hj _ rfl; dsimp only at this; omega
            have e81 : ρ (.tmp 81) = .pointer (some ⟨q, 0, none⟩) := (hdep 1 _ 81 rfl rfl rfl).1
            refine ⟨fun _ => ?_, wanted_plain rfl⟩
            clear hdep hfree hj
            have c0 : u.cell? ⟨q, 0, none⟩ = some (.slice (some ⟨g, 0, none⟩) l'.length c2) := hS.1.2.1.cell 0
            go_simp
            exact ⟨rfl, keepS (by rfl) hS, trivial⟩
          · intro j hj ρ y u hS hc hf hg hfree hdep
            obtain rfl : j = 0 := by have := hj _ rfl; dsimp only at this; omega
            have e82 : ρ (.tmp 82) = .pointer (some ⟨q, 0, none⟩) := (hdep 2 _ 82 rfl rfl rfl).1
            refine ⟨fun _ => ?_, wanted_plain rfl⟩
            clear hdep hfree hj
            have c0 : u.cell? ⟨q, 0, none⟩ = some (.slice (some ⟨g, 0, none⟩) l'.length c2) := hS.1.2.1.cell 0
            go_simp
            exact ⟨rfl, keepS (by rfl) hS, trivial⟩
          · intro j hj ρ y u hS hc hf hg hfree hdep
            obtain rfl : j = 0 := by have := hj _ rfl; dsimp only at this; omega
            have e7 : ρ (.tmp 7) = .int .i64 (i : Int) := hfree 7 rfl
            refine ⟨fun _ => ?_, wanted_plain rfl⟩
            clear hdep hfree hj
            have c0 : u.cell? ⟨q, 0, none⟩ = some (.slice (some ⟨g, 0, none⟩) l'.length c2) := hS.1.2.1.cell 0
            go_simp
            exact ⟨rfl, keepS (by rfl) hS, trivial⟩
          · intro j hj ρ y u hS hc hf hg hfree hdep
            obtain rfl : j = 0 := by have := hj _ rfl; dsimp only at this; omega
            have e0 : ρ (.tmp 0) = .pointer (some ⟨q, 0, none⟩) := hfree 0 rfl
            refine ⟨fun _ => ?_, wanted_plain rfl⟩
            clear hdep hfree hj
            have c0 : u.cell? ⟨q, 0, none⟩ = some (.slice (some ⟨g, 0, none⟩) l'.length c2) := hS.1.2.1.cell 0
            go_simp
            exact ⟨rfl, keepS (by rfl) hS, trivial⟩
          · intro j hj ρ y u hS hc hf hg hfree hdep
            obtain rfl : j = 0 := by have := hj _ rfl; dsimp only at this; omega
            have e85 : ρ (.tmp 85) = .pointer (some ⟨q, 0, none⟩) := (hdep 5 _ 85 rfl rfl rfl).1
            refine ⟨fun _ => ?_, wanted_plain rfl⟩
            clear hdep hfree hj
            have c0 : u.cell? ⟨q, 0, none⟩ = some (.slice (some ⟨g, 0, none⟩) l'.length c2) := hS.1.2.1.cell 0
            go_simp
            exact ⟨rfl, keepS (by rfl) hS, trivial⟩
          · intro j hj ρ y u hS hc hf hg hfree hdep
            obtain rfl : j = 0 := by have := hj _ rfl; dsimp only at this; omega
            have e86 : ρ (.tmp 86) = .pointer (some ⟨q, 0, none⟩) := (hdep 6 _ 86 rfl rfl rfl).1
            refine ⟨fun _ => ?_, wanted_plain rfl⟩
            clear hdep hfree hj
            have c0 : u.cell? ⟨q, 0, none⟩ = some (.slice (some ⟨g, 0, none⟩) l'.length c2) := hS.1.2.1.cell 0
            go_simp
            exact ⟨rfl, keepS (by rfl) hS, trivial⟩
          · intro j hj ρ y u hS hc hf hg hfree hdep
            obtain rfl : j = 0 := by have := hj _ rfl; dsimp only at this; omega
            have e87 : ρ (.tmp 87) = .pointer (some ⟨q, 0, none⟩) := (hdep 7 _ 87 rfl rfl rfl).1
            refine ⟨fun _ => ?_, wanted_plain rfl⟩
            clear hdep hfree hj
            have c0 : u.cell? ⟨q, 0, none⟩ = some (.slice (some ⟨g, 0, none⟩) l'.length c2) := hS.1.2.1.cell 0
            go_simp
            exact ⟨rfl, keepS (by rfl) hS, trivial⟩
          · intro j hj ρ y u hS hc hf hg hfree hdep
            obtain ⟨hj0, hj1⟩ := hj _ rfl
            have e8 : ρ (.tmp 8) = .int .i64 (up : Int) := hfree 8 rfl
            refine ⟨fun _ => ?_, wanted_plain rfl⟩
            clear hdep hfree hj
            go_simp
            exact ⟨rfl, keepS (by rfl) hS, trivial⟩
          · intro j hj ρ y u hS hc hf hg hfree hdep
            obtain rfl : j = 0 := by have := hj _ rfl; dsimp only at this; omega
            have e0 : ρ (.tmp 0) = .pointer (some ⟨q, 0, none⟩) := hfree 0 rfl
            refine ⟨fun _ => ?_, wanted_plain rfl⟩
            clear hdep hfree hj
            have c0 : u.cell? ⟨q, 0, none⟩ = some (.slice (some ⟨g, 0, none⟩) l'.length c2) := hS.1.2.1.cell 0
            go_simp
            exact ⟨rfl, keepS (by rfl) hS, trivial⟩
          · intro j hj ρ y u hS hc hf hg hfree hdep
            obtain rfl : j = 0 := by have := hj _ rfl; dsimp only at this; omega
            have e90 : ρ (.tmp 90) = .pointer (some ⟨q, 0, none⟩) := (hdep 10 _ 90 rfl rfl rfl).1
            refine ⟨fun _ => ?_, wanted_plain rfl⟩
            clear hdep hfree hj
            have c0 : u.cell? ⟨q, 0, none⟩ = some (.slice (some ⟨g, 0, none⟩) l'.length c2) := hS.1.2.1.cell 0
            go_simp
            exact ⟨rfl, keepS (by rfl) hS, trivial⟩
          · intro j hj ρ y u hS hc hf hg hfree hdep
            obtain rfl : j = 0 := by have := hj _ rfl; dsimp only at this; omega
            have e91 : ρ (.tmp 91) = .pointer (some ⟨q, 0, none⟩) := (hdep 11 _ 91 rfl rfl rfl).1
            refine ⟨fun _ => ?_, wanted_plain rfl⟩
            clear hdep hfree hj
            have c0 : u.cell? ⟨q, 0, none⟩ = some (.slice (some ⟨g, 0, none⟩) l'.length c2) := hS.1.2.1.cell 0
            go_simp
            exact ⟨rfl, keepS (by rfl) hS, trivial⟩
          · intro j hj ρ y u hS hc hf hg hfree hdep
            obtain rfl : j = 0 := by have := hj _ rfl; dsimp only at this; omega
            have e92 : ρ (.tmp 92) = .pointer (some ⟨q, 0, none⟩) := (hdep 12 _ 92 rfl rfl rfl).1
            refine ⟨fun _ => ?_, wanted_plain rfl⟩
            clear hdep hfree hj
            have c0 : u.cell? ⟨q, 0, none⟩ = some (.slice (some ⟨g, 0, none⟩) l'.length c2) := hS.1.2.1.cell 0
            go_simp
            exact ⟨rfl, keepS (by rfl) hS, trivial⟩
          · intro j hj ρ y u hS hc hf hg hfree hdep
            obtain rfl : j = 0 := by have := hj _ rfl; dsimp only at this; omega
            have e8 : ρ (.tmp 8) = .int .i64 (up : Int) := hfree 8 rfl
            refine ⟨fun _ => ?_, wanted_plain rfl⟩
            clear hdep hfree hj
            have c0 : u.cell? ⟨q, 0, none⟩ = some (.slice (some ⟨g, 0, none⟩) l'.length c2) := hS.1.2.1.cell 0
            go_simp
            exact ⟨rfl, keepS (by rfl) hS, trivial⟩
          · intro j hj ρ y u hS hc hf hg hfree hdep
            obtain rfl : j = 0 := by have := hj _ rfl; dsimp only at this; omega
            have e93 : ρ (.tmp 93) = .slice (some ⟨g, 0, none⟩) l'.length c2 := (hdep 13 _ 93 rfl rfl rfl).1
            have e94 : ρ (.tmp 94) = .int .i64 (up : Int) := (hdep 14 _ 94 rfl rfl rfl).1
            refine ⟨fun _ => ?_, wanted_plain rfl⟩
            clear hdep hfree hj
            have c0 : u.cell? ⟨q, 0, none⟩ = some (.slice (some ⟨g, 0, none⟩) l'.length c2) := hS.1.2.1.cell 0
            go_simp
            exact ⟨rfl, keepS (by rfl) hS, trivial⟩
          · intro j hj ρ y u hS hc hf hg hfree hdep
            obtain rfl : j = 0 := by have := hj _ rfl; dsimp only at this; omega
            have e95 : ρ (.tmp 95) = .pointer (some ⟨g, up * 3, none⟩) := (hdep 15 _ 95 rfl rfl rfl).1
            refine ⟨fun _ => ?_, wanted_plain rfl⟩
            clear hdep hfree hj
            have c0 : u.cell? ⟨q, 0, none⟩ = some (.slice (some ⟨g, 0, none⟩) l'.length c2) := hS.1.2.1.cell 0
            obtain ⟨d0, d1, d2⟩ := hS.1.2.2.cell hji
            go_simp
            exact ⟨rfl, keepS (by rfl) hS, trivial⟩
          · intro j hj ρ y u hS hc hf hg hfree hdep
            obtain rfl : j = 0 := by have := hj _ rfl; dsimp only at this; omega
            have e0 : ρ (.tmp 0) = .pointer (some ⟨q, 0, none⟩) := hfree 0 rfl
            refine ⟨fun _ => ?_, wanted_plain rfl⟩
            clear hdep hfree hj
            have c0 : u.cell? ⟨q, 0, none⟩ = some (.slice (some ⟨g, 0, none⟩) l'.length c2) := hS.1.2.1.cell 0
            go_simp
            exact ⟨rfl, keepS (by rfl) hS, trivial⟩
          · intro j hj ρ y u hS hc hf hg hfree hdep
            obtain rfl : j = 0 := by have := hj _ rfl; dsimp only at this; omega
            have e97 : ρ (.tmp 97) = .pointer (some ⟨q, 0, none⟩) := (hdep 17 _ 97 rfl rfl rfl).1
            refine ⟨fun _ => ?_, wanted_plain rfl⟩
            clear hdep hfree hj
            have c0 : u.cell? ⟨q, 0, none⟩ = some (.slice (some ⟨g, 0, none⟩) l'.length c2) := hS.1.2.1.cell 0
            go_simp
            exact ⟨rfl, keepS (by rfl) hS, trivial⟩
          · intro j hj ρ y u hS hc hf hg hfree hdep
            obtain rfl : j = 0 := by have := hj _ rfl; dsimp only at this; omega
            have e98 : ρ (.tmp 98) = .pointer (some ⟨q, 0, none⟩) := (hdep 18 _ 98 rfl rfl rfl).1
            refine ⟨fun _ => ?_, wanted_plain rfl⟩
            clear hdep hfree hj
            have c0 : u.cell? ⟨q, 0, none⟩ = some (.slice (some ⟨g, 0, none⟩) l'.length c2) := hS.1.2.1.cell 0
            go_simp
            exact ⟨rfl, keepS (by rfl) hS, trivial⟩
          · intro j hj ρ y u hS hc hf hg hfree hdep
            obtain rfl : j = 0 := by have := hj _ rfl; dsimp only at this; omega
            have e99 : ρ (.tmp 99) = .pointer (some ⟨q, 0, none⟩) := (hdep 19 _ 99 rfl rfl rfl).1
            refine ⟨fun _ => ?_, wanted_plain rfl⟩
            clear hdep hfree hj
            have c0 : u.cell? ⟨q, 0, none⟩ = some (.slice (some ⟨g, 0, none⟩) l'.length c2) := hS.1.2.1.cell 0
            go_simp
            exact ⟨rfl, keepS (by rfl) hS, trivial⟩
          · intro j hj ρ y u hS hc hf hg hfree hdep
            obtain rfl : j = 0 := by have := hj _ rfl; dsimp only at this; omega
            have e7 : ρ (.tmp 7) = .int .i64 (i : Int) := hfree 7 rfl
            refine ⟨fun _ => ?_, wanted_plain rfl⟩
            clear hdep hfree hj
            have c0 : u.cell? ⟨q, 0, none⟩ = some (.slice (some ⟨g, 0, none⟩) l'.length c2) := hS.1.2.1.cell 0
            go_simp
            exact ⟨rfl, keepS (by rfl) hS, trivial⟩
          · intro j hj ρ y u hS hc hf hg hfree hdep
            obtain rfl : j = 0 := by have := hj _ rfl; dsimp only at this; omega
            have e100 : ρ (.tmp 100) = .slice (some ⟨g, 0, none⟩) l'.length c2 := (hdep 20 _ 100 rfl rfl rfl).1
            have e101 : ρ (.tmp 101) = .int .i64 (i : Int) := (hdep 21 _ 101 rfl rfl rfl).1
            refine ⟨fun _ => ?_, wanted_plain rfl⟩
            clear hdep hfree hj
            have c0 : u.cell? ⟨q, 0, none⟩ = some (.slice (some ⟨g, 0, none⟩) l'.length c2) := hS.1.2.1.cell 0
            go_simp
            exact ⟨rfl, keepS (by rfl) hS, trivial⟩
          · intro j hj ρ y u hS hc hf hg hfree hdep
            obtain rfl : j = 0 := by have := hj _ rfl; dsimp only at this; omega
            have e102 : ρ (.tmp 102) = .pointer (some ⟨g, i * 3, none⟩) := (hdep 22 _ 102 rfl rfl rfl).1
            refine ⟨fun _ => ?_, wanted_plain rfl⟩
            clear hdep hfree hj
            have c0 : u.cell? ⟨q, 0, none⟩ = some (.slice (some ⟨g, 0, none⟩) l'.length c2) := hS.1.2.1.cell 0
            obtain ⟨d0, d1, d2⟩ := hS.1.2.2.cell hil
            go_simp
            exact ⟨rfl, keepS (by rfl) hS, trivial⟩
          · intro j hj ρ y u hS hc hf hg hfree hdep
            obtain rfl : j = 0 := by have := hj _ rfl; dsimp only at this; omega
            have e83 : ρ (.tmp 83) = .slice (some ⟨g, 0, none⟩) l'.length c2 := (hdep 3 _ 83 rfl rfl rfl).1
            have e84 : ρ (.tmp 84) = .int .i64 (i : Int) := (hdep 4 _ 84 rfl rfl rfl).1
            refine ⟨fun _ => ?_, wanted_plain rfl⟩
            clear hdep hfree hj
            have c0 : u.cell? ⟨q, 0, none⟩ = some (.slice (some ⟨g, 0, none⟩) l'.length c2) := hS.1.2.1.cell 0
            go_simp
            exact ⟨rfl, keepS (by rfl) hS, trivial⟩
          · intro j hj ρ y u hS hc hf hg hfree hdep
            obtain rfl : j = 0 := by have := hj _ rfl; dsimp only at this; omega
            have e96 : ρ (.tmp 96) = .agg #[.int .i64 (at_ l' up).1, .int .u64 (at_ l' up).2.1, .int .i64 (at_ l' up).2.2] := (hdep 16 _ 96 rfl rfl rfl).1
            have e104 : ρ (.tmp 104) = .pointer (some ⟨g, i * 3, none⟩) := (hdep 24 _ 104 rfl rfl rfl).1
            refine ⟨fun _ => ?_, wanted_plain rfl⟩
            clear hdep hfree hj
            have c0 : u.cell? ⟨q, 0, none⟩ = some (.slice (some ⟨g, 0, none⟩) l'.length c2) := hS.1.2.1.cell 0
            obtain ⟨d0, d1, d2⟩ := hS.1.2.2.cell hil
            have f0 := hS.1.2.2.frozen (i * 3)
            have f1 := hS.1.2.2.frozen (i * 3 + 1)
            have f2 := hS.1.2.2.frozen (i * 3 + 2)
            go_simp
            exact ⟨trivial, ⟨hS.1.put hil (at_ l' up), hS.2.put3 hS.1.2.2 i (at_ l' up)⟩, trivial⟩
          · intro j hj ρ y u hS hc hf hg hfree hdep
            obtain ⟨hj0, hj1⟩ := hj _ rfl
            have e88 : ρ (.tmp 88) = .slice (some ⟨g, 0, none⟩) l'.length c2 := (hdep 8 _ 88 rfl rfl rfl).1
            have e89 : ρ (.tmp 89) = .int .i64 (up : Int) := (hdep 9 _ 89 rfl rfl rfl).1
            refine ⟨fun _ => ?_, wanted_plain rfl⟩
            clear hdep hfree hj
            go_simp
            exact ⟨rfl, keepS (by rfl) hS, trivial⟩
          · intro j hj ρ y u hS hc hf hg hfree hdep
            obtain rfl : j = 1 := by have := hj _ rfl; dsimp only at this; omega
            have e103 : ρ (.tmp 103) = .agg #[.int .i64 (at_ l' i).1, .int .u64 (at_ l' i).2.1, .int .i64 (at_ l' i).2.2] := (hdep 23 _ 103 rfl rfl rfl).1
            have e105 : ρ (.tmp 105) = .pointer (some ⟨g, up * 3, none⟩) := (hdep 26 _ 105 rfl rfl rfl).1
            refine ⟨fun _ => ?_, wanted_plain rfl⟩
            clear hdep hfree hj
            have hlen : up < (l'.set i (at_ l' up)).length := by rw [List.length_set]; exact hji
            obtain ⟨d0, d1, d2⟩ := hS.1.2.2.cell hlen
            have f0 := hS.1.2.2.frozen (up * 3)
            have f1 := hS.1.2.2.frozen (up * 3 + 1)
            have f2 := hS.1.2.2.frozen (up * 3 + 2)
            go_simp
            exact ⟨trivial, ⟨hS.1.put hlen (at_ l' i), hS.2.put3 hS.1.2.2 up (at_ l' i)⟩, trivial⟩
        intro u3 hS
        rintro _ rfl _ rfl _ rfl _ rfl _ rfl _ rfl _ rfl _ rfl _ rfl _ rfl _ rfl _ rfl _ rfl _ rfl _ rfl _ rfl _ rfl _ rfl _ rfl _ rfl _ rfl _ rfl _ rfl _ rfl _ rfl _ rfl
        simp only [RegEnd, Act.put, List.setIfInBounds_toArray, List.set_cons_zero, List.set_cons_succ]
        have HS3 := Lib.hid hS
        clear hS
        go_wp2_with fail
        go_roundw
        case rel => exact ⟨swp l' i up, up, rfl, HS3.out.1, (swp_perm l' i up hil hji).trans HP.out, by have := HJ.out; subst this; exact up_step hil (by omega) HU.out HBb.out, by rw [swp_len]; exact hji, by rw [swp_len]; exact HLen.out, HS3.out.2⟩
        case measure => simp [intOf]; omega
end Go.Proofs.Ytaiefhdnjmiafaa
