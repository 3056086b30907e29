/- A range over a function whose iterator turns cells of its own between two rounds: the law at the wide fence, over the iterator's step It and the round's word Kp. -/
import Derived.Test.YtaiefhdnjmiafaaK
namespace Go.Proofs.Ytaiefhdnjmiafaa
open Go.RowKit Go.Shelf
set_option linter.unusedVariables false

/-- what a round's body owes -/
def ownPostR {α : Type} (s : Nat) (Kp : World → World → Prop) (I : List α → World → Prop) (Ix : Code → List α → World → Prop) (xs : List α) (W : World) : Exit → Act → World → Prop
  | .normal, _, W' => (W'.heap[s]? = W.heap[s]? ∧ W'.heap[s + 1]? = W.heap[s + 1]?) ∧ Kp W W' ∧ I xs W'
  | .ret, _, W' => (W'.heap[s]? = W.heap[s]? ∧ W'.heap[s + 1]? = W.heap[s + 1]?) ∧ Kp W W' ∧ Ix .ret xs W'
  | .exit id, _, W' => (W'.heap[s]? = W.heap[s]? ∧ W'.heap[s + 1]? = W.heap[s + 1]?) ∧ Kp W W' ∧ Ix (.exit id) xs W'
  | .goto t, _, W' => (W'.heap[s]? = W.heap[s]? ∧ W'.heap[s + 1]? = W.heap[s + 1]?) ∧ Kp W W' ∧ Ix (.goto t) xs W'
  | .panic _, _, _ => False
  | .outgrown, _, _ => False

theorem range_wide {α : Type} {P : Program} {g : Operand} {ps : Array Tmp} {assign body : Code} {Q : Exit → Act → World → Prop} {a : Act} {w : World} {gf : Nat} {lb : Array Value} (n s : Nat) (hs : s = w.heap.size)
    (hg : a.eval g = .func (.func gf) #[] lb) (eg : ∀ args w, (callFunc gf args).run P w = .ok (.enter gf args) w)
    (encs : α → Array Value) (hps : ∀ x, (encs x).size = ps.size) (xs : List α) (It Kp : World → World → Prop)
    (hItB : ∀ U U', It U U' → s + 1 < U.heap.size → U'.heap[s]? = U.heap[s]? ∧ U'.heap[s + 1]? = U.heap[s + 1]?)
    (I : List α → World → Prop) (Ix : Code → List α → World → Prop) (hI : ∀ pre U U', I pre U → It U U' → I pre U') (hIx : ∀ c pre U U', Ix c pre U → It U U' → Ix c pre U')
    (hIo : ∀ pre U o, (∃ r, U.heap[s + 1]? = some (.loop r)) → I pre U → I pre (U.putObj (s + 1) o)) (hIxo : ∀ c pre U o, (∃ r, U.heap[s + 1]? = some (.loop r)) → Ix c pre U → Ix c pre (U.putObj (s + 1) o))
    (h0 : ∀ o1 o2, I [] ((w.alloc o1).alloc o2))
    (hKo : ∀ U U' o o', (∃ r, U.heap[s + 1]? = some (.loop r)) → Kp (U.putObj (s + 1) o) U' → Kp U (U'.putObj (s + 1) o'))
    (hseq : ∀ (J Jx : List α → World → Prop) (o1 o2 : Obj), (∀ pre U U', J pre U → It U U' → J pre U') → (∀ pre U U', Jx pre U → It U U' → Jx pre U') →
      (∀ m pre x U, J pre U → pre.length < xs.length → YieldAt Fence.wide m P (s + 1) (encs x) U fun e U' => (e = .returned (.bool true) ∧ J (pre ++ [x]) U' ∧ Kp U U') ∨ (e = .returned (.bool false) ∧ Jx (pre ++ [x]) U' ∧ Kp U U')) →
      J [] ((w.alloc o1).alloc o2) → CallsIn Fence.wide (n - 1) P gf (#[.func (.yield (s + 1)) #[] #[]] ++ lb) ((w.alloc o1).alloc o2) fun e U => (∃ v, e = .returned v) ∧ (J xs U ∨ ∃ pre, pre <+: xs ∧ Jx pre U))
    (a₁ : α → Act)
    (hassign : ∀ m x U K, K (a₁ x) U → assign.wpIn (Fence.wide.inRound (s + 1)) m P (Exit.then K fun _ _ _ => False) { tmps := (ps.zip (encs x)).foldl (fun t (p, v) => t.setIfInBounds p v) a.tmps, defers := [] } U)
    (hbody : ∀ m pre x U, (∃ r, U.heap[s + 1]? = some (.loop r)) → U.heap[s]? = some (.deferred (some [])) → I pre U → pre.length < xs.length → body.wpIn (Fence.wide.inRound (s + 1)) m P (ownPostR s Kp I Ix (pre ++ [x]) U) (a₁ x) U)
    (hdone : ∀ W, I xs W → W.heap[s]? = some (.deferred (some [])) → Q .normal { a with defers := { target := .collected s, args := #[] } :: a.defers } W)
    (hstop : ∀ c pre W, pre <+: xs → Ix c pre W → W.heap[s]? = some (.deferred (some [])) → c.wpIn Fence.wide n P Q { a with defers := { target := .collected s, args := #[] } :: a.defers } W) :
    (Code.rangeFunc g ps assign body).wpIn Fence.wide n P Q a w := by
  refine wpIn_rangeFunc ?_
  intro fn hfn
  obtain ⟨rec, hrec⟩ : ∃ rec : LoopState → Option Code → Loop, rec = fun st pe => { state := st, pending := pe, fn, tmps := a.tmps, params := ps, assign, body, defers := s } := ⟨_, rfl⟩
  obtain ⟨W1, hW1⟩ : ∃ W1, (w.alloc (.deferred (some []))).alloc (.loop (rec .ready none)) = W1 := ⟨_, rfl⟩
  have hL1 : W1.heap[s + 1]? = some (.loop (rec .ready none)) := by
    rw [← hW1, hs]; have := World.alloc_heap_new (w.alloc (.deferred (some []))) (.loop (rec .ready none)); rwa [World.size_alloc] at this
  have hK1 : W1.heap[s]? = some (.deferred (some [])) := by
    rw [← hW1, hs]; exact (Below.heap_alloc _ _ _ (by simp)).trans (World.alloc_heap_new w _)
  refine ⟨s + 1, [{ target := .collected s, args := #[] }], W1, { target := .fn (.func gf) lb, args := #[.func (.yield (s + 1)) #[] #[]] }, W1, gf,
    #[.func (.yield (s + 1)) #[] #[]] ++ lb, W1, ?_, ?_, ?_, ?_, (fun h => by cases h), ?_⟩
  · rw [← hW1, hrec, hs]; exact run_enterLoop_outer _ _ _ _ _
  · simp only [resolve, hg]
    simp [go_sem]
  · intro f' hf'; trivial
  · simp [invoke, go_sem, eg]
  · rw [← hW1]
    refine (hseq
      (fun pre W => I pre W ∧ W.heap[s + 1]? = some (.loop (rec .ready none)) ∧ W.heap[s]? = some (.deferred (some [])))
      (fun pre W => ∃ c, Ix c pre W ∧ W.heap[s + 1]? = some (.loop (rec .done (some c))) ∧ W.heap[s]? = some (.deferred (some [])))
      _ _
      (fun pre U U' h hi => by have hb := hItB U U' hi (Array.getElem?_eq_some_iff.1 h.2.1).1; exact ⟨hI pre U U' h.1 hi, hb.2.trans h.2.1, hb.1.trans h.2.2⟩)
      (fun pre U U' h hi => by obtain ⟨c, h1, h2, h3⟩ := h; have hb := hItB U U' hi (Array.getElem?_eq_some_iff.1 h2).1; exact ⟨c, hIx c pre U U' h1 hi, hb.2.trans h2, hb.1.trans h3⟩)
      ?_ (by rw [hW1]; exact ⟨by rw [← hW1]; exact h0 _ _, hL1, hK1⟩)).mono ?_
    · -- one round
      rintro m pre x W ⟨hi, hl, hk⟩ hlen
      have hlt : s + 1 < W.heap.size := (Array.getElem?_eq_some_iff.1 hl).1
      have hy := run_yield (P := P) (args := encs x) hl (by rw [hrec]; exact hps x)
      rw [hrec] at hy
      refine ⟨fn, _, assign, body, hy, roundIn_of_wpIn hfn (hassign m x W _ ?_)⟩
      clear hy
      refine ⟨_, run_beginRound hl (by rw [hrec]), ?_⟩
      have hl2 : (W.putObj (s + 1) (.loop { rec .ready none with state := .busy })).heap[s + 1]? = some (.loop { rec .ready none with state := .busy }) := World.putObj_heap_same hlt
      have hk2 : (W.putObj (s + 1) (.loop { rec .ready none with state := .busy })).heap[s]? = some (.deferred (some [])) := (World.putObj_heap_other (by omega)).trans hk
      refine wpIn_mono (hbody m pre x _ ⟨_, hl2⟩ hk2 (hIo pre W _ ⟨_, hl⟩ hi) hlen) ?_
      have fin : ∀ (jump : Option Code) (W3 : World), (W3.heap[s]? = (W.putObj (s + 1) (.loop { rec .ready none with state := .busy })).heap[s]? ∧ W3.heap[s + 1]? = (W.putObj (s + 1) (.loop { rec .ready none with state := .busy })).heap[s + 1]?) →
          (Instr.endRound (s + 1) jump).run P W3 = .ok (.bool jump.isNone) (W3.putObj (s + 1) (.loop (rec (if jump.isNone then .ready else .done) jump))) ∧
          (∃ r, W3.heap[s + 1]? = some (.loop r)) ∧
          (W3.putObj (s + 1) (.loop (rec (if jump.isNone then .ready else .done) jump))).heap[s + 1]? = some (.loop (rec (if jump.isNone then .ready else .done) jump)) ∧
          (W3.putObj (s + 1) (.loop (rec (if jump.isNone then .ready else .done) jump))).heap[s]? = some (.deferred (some [])) := fun jump W3 hk3 => by
        have hl3 := hk3.2.trans hl2
        have := run_endRound (P := P) jump hl3
        rw [hrec] at this ⊢
        exact ⟨this, ⟨_, by rw [hrec] at hl3; exact hl3⟩, World.putObj_heap_same (Array.getElem?_eq_some_iff.1 hl3).1, (World.putObj_heap_other (by omega)).trans (hk3.1.trans hk2)⟩
      rintro e a3 W3 hp
      cases e with
      | normal =>
        obtain ⟨hk3, hkp3, hi3⟩ := hp
        obtain ⟨hr, hl3, hl4, hk4⟩ := fin none W3 hk3
        exact ⟨_, _, hr, .inl ⟨rfl, ⟨hIo _ _ _ hl3 hi3, hl4, hk4⟩, hKo _ _ _ _ ⟨_, hl⟩ hkp3⟩⟩
      | ret =>
        obtain ⟨hk3, hkp3, hi3⟩ := hp
        obtain ⟨hr, hl3, hl4, hk4⟩ := fin (some .ret) W3 hk3
        exact ⟨_, _, hr, .inr ⟨rfl, ⟨.ret, hIxo _ _ _ _ hl3 hi3, hl4, hk4⟩, hKo _ _ _ _ ⟨_, hl⟩ hkp3⟩⟩
      | exit id =>
        obtain ⟨hk3, hkp3, hi3⟩ := hp
        obtain ⟨hr, hl3, hl4, hk4⟩ := fin (some (.exit id)) W3 hk3
        exact ⟨_, _, hr, .inr ⟨rfl, ⟨.exit id, hIxo _ _ _ _ hl3 hi3, hl4, hk4⟩, hKo _ _ _ _ ⟨_, hl⟩ hkp3⟩⟩
      | goto t =>
        obtain ⟨hk3, hkp3, hi3⟩ := hp
        obtain ⟨hr, hl3, hl4, hk4⟩ := fin (some (.goto t)) W3 hk3
        exact ⟨_, _, hr, .inr ⟨rfl, ⟨.goto t, hIxo _ _ _ _ hl3 hi3, hl4, hk4⟩, hKo _ _ _ _ ⟨_, hl⟩ hkp3⟩⟩
      | panic ch => exact hp.elim
      | outgrown => exact hp.elim
    · rintro e W2 ⟨⟨v, rfl⟩, (⟨hi, hl, hk⟩ | ⟨pre, hpre, c, hi, hl, hk⟩)⟩
      · have hlt := (Array.getElem?_eq_some_iff.1 hl).1
        exact ⟨none, _, by have := run_endLoop (P := P) hl (by rw [hrec]; simp); rw [hrec] at this; exact this, hdone _ (hIo _ _ _ ⟨_, hl⟩ hi) ((World.putObj_heap_other (by omega)).trans hk)⟩
      · have hlt := (Array.getElem?_eq_some_iff.1 hl).1
        exact ⟨some c, _, by have := run_endLoop (P := P) hl (by rw [hrec]; simp); rw [hrec] at this; exact this, hstop c pre _ hpre (hIxo _ _ _ _ ⟨_, hl⟩ hi) ((World.putObj_heap_other (by omega)).trans hk)⟩
end Go.Proofs.Ytaiefhdnjmiafaa
