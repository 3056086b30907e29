/- The iterator All: a clone of the queue, drained. -/
import Derived.Test.YtaiefhdnjmiafaaL
namespace Go.Proofs.Ytaiefhdnjmiafaa
open Go.RowKit Go.Shelf
set_option linter.unusedVariables false
attribute [local go_sem] Oper.semAt_some

/-- cells of the types that list's rounds turn -/
def isIt : Obj → Bool
  | .cells _ t _ => t == 28 || t == 52
  | _ => false
/-- the iterator's steps -/
structure It (B : Nat) (U U' : World) : Prop where
  env : Below 0 U U'
  size : U.heap.size ≤ U'.heap.size
  old : ∀ b : Nat, b < B → U'.heap[b]? = U.heap[b]?
  its : ∀ (b : Nat) (o : Obj), U.heap[b]? = some o → isIt o = true → U'.heap[b]? = some o
/-- the round's word -/
structure Kr (B : Nat) (U U' : World) : Prop where
  size : U.heap.size ≤ U'.heap.size
  oth : ∀ (b : Nat) (o : Obj), B ≤ b → U.heap[b]? = some o → isIt o = false → U'.heap[b]? = some o
theorem It.trans {B : Nat} {U U' U'' : World} (h : It B U U') (h' : It B U' U'') : It B U U'' :=
  ⟨h.env.trans h'.env, Nat.le_trans h.size h'.size, fun b hb => (h'.old b hb).trans (h.old b hb), fun b o ho hi => h'.its b o (h.its b o ho hi) hi⟩
theorem It.of {B : Nat} {U U' : World} (h : Below U.heap.size U U') (hB : B ≤ U.heap.size) : It B U U' :=
  ⟨h.mono (Nat.zero_le _), h.size, fun b hb => h.block b (by omega), fun b o ho _ => (h.block b (Array.getElem?_eq_some_iff.1 ho).1).trans ho⟩

/-- the clone's block: the one of its type from N on -/
def AllS (W0 : World) (N cap : Nat) (l : List PI) : Nat → World → Prop
  | 0, u => Below N W0 u ∧ ∀ g, N ≤ g → ∀ cs, ¬ Blk u g 57 cs
  | 1, u => Below N W0 u ∧ ∃ g0, N ≤ g0 ∧ Blk u g0 57 #[.slice none 0 0, .int .i64 0, .int .u64 0, .bool false] ∧ ∀ g, N ≤ g → ∀ cs, Blk u g 57 cs → g = g0
  | _, u => Below N W0 u ∧ ∃ g0, N ≤ g0 ∧ (∃ A' c', QAt u N g0 A' c' l cap 0) ∧ ∀ g, N ≤ g → ∀ cs, Blk u g 57 cs → g = g0
def AllSt (_ : Nat) (w w' : World) : Prop := (∀ g t cs, Blk w g t cs → ∃ cs', Blk w' g t cs') ∧ ∀ (b : Nat) (o : Obj), w.heap[b]? = some o → (∀ cs f, o ≠ Obj.cells cs 57 f) → w'.heap[b]? = some o
theorem allSt_refl (j : Nat) (w : World) : AllSt j w w := ⟨fun g t cs h => ⟨cs, h⟩, fun _ _ h _ => h⟩
theorem allSt_below (j : Nat) {w w' : World} (h : Below w.heap.size w w') : AllSt j w w' :=
  ⟨fun g t cs hb => ⟨cs, hb.below h hb.lt⟩, fun b o ho _ => (h.block b (Array.getElem?_eq_some_iff.1 ho).1).trans ho⟩
theorem own_allSt {j : Nat} {w w' : World} {N c : Nat} {A : Option Addr} {l : List PI} (h : OwnH w N A c l) (hs : AllSt j w w') : OwnH w' N A c l := by
  refine ⟨h.1, ?_⟩
  rcases h.2 with h' | ⟨g, cap, cur, h', hb, hg, r⟩
  · exact .inl h'
  · exact .inr ⟨g, cap, cur, h', hb, hs.2 g _ hg (fun cs f e => by injection e with _ e; simp at e), r⟩
def qRow {S : Nat → World → Prop} (N : Nat) : SFact S AllSt :=
  ⟨fun v u => ∃ g, N ≤ g ∧ v = .pointer (some ⟨g, 0, none⟩) ∧ ∃ cs, Blk u g 57 cs, 0, fun j v w w' ⟨g, h1, h2, cs, h3⟩ _ _ hs => ⟨g, h1, h2, hs.1 _ _ _ h3⟩⟩
def clRow {S : Nat → World → Prop} (N : Nat) (l : List PI) : SFact S AllSt :=
  ⟨fun v u => ∃ A' c', v = .slice A' l.length c' ∧ OwnH u N A' c' l, 0, fun j v w w' ⟨A', c', h1, h2⟩ _ _ hs => ⟨A', c', h1, own_allSt h2 hs⟩⟩
def agRow {S : Nat → World → Prop} (N cap : Nat) (l : List PI) : SFact S AllSt :=
  ⟨fun v u => ∃ A' c', v = .agg #[.slice A' l.length c', .int .i64 cap, .int .u64 0, .bool true] ∧ OwnH u N A' c' l, 0, fun j v w w' ⟨A', c', h1, h2⟩ _ _ hs => ⟨A', c', h1, own_allSt h2 hs⟩⟩
theorem allS_below {W0 u : World} {N cap j : Nat} {l : List PI} (h : AllS W0 N cap l j u) : Below N W0 u := by
  rcases j with _ | _ | j <;> exact h.1
/-- a step that lays no queue keeps the states 0 and 1 -/
theorem allS_step {W0 u u' : World} {N cap j : Nat} {l : List PI} (h : AllS W0 N cap l j u) (hj : j ≤ 1) (hb : Below u.heap.size u u') (hN : N ≤ u.heap.size) (hk : ∀ g cs, Blk u' g 57 cs → Blk u g 57 cs) : AllS W0 N cap l j u' := by
  have hB : Below N W0 u' := (allS_below h).trans (hb.mono hN)
  rcases j with _ | _ | j
  · exact ⟨hB, fun g hg cs h' => h.2 g hg cs (hk g cs h')⟩
  · obtain ⟨_, g0, h1, h2, h3⟩ := h
    exact ⟨hB, g0, h1, h2.below hb h2.lt, fun g hg cs h' => h3 g hg cs (hk g cs h')⟩
  · omega
theorem allS_alloc {W0 u : World} {N cap : Nat} {l : List PI} (h : AllS W0 N cap l 0 u) (hN : N ≤ u.heap.size) : AllS W0 N cap l 1 (u.alloc (.cells #[.slice none 0 0, .int .i64 0, .int .u64 0, .bool false] 57)) :=
  ⟨h.1.alloc hN _, u.heap.size, hN, Blk.new _ _ _, fun g hg cs hb => by
    rcases blk_alloc_inv hb with h' | ⟨h', _⟩
    · exact absurd h' (h.2 g hg cs)
    · exact h'⟩
theorem QAt.below2 {w w' : World} {base q c cap p n : Nat} {A : Option Addr} {l : List PI} (h : QAt w base q A c l cap p) (hn : n = w.heap.size) (hb : Below n w w') : QAt w' base q A c l cap p := by
  subst hn; exact h.below hb
theorem OwnH.less {w : World} {b b' c : Nat} {A : Option Addr} {S : List PI} (h : OwnH w b A c S) (hb : b' ≤ b) : OwnH w b' A c S := by
  refine ⟨h.1, ?_⟩
  rcases h.2 with h' | ⟨g, cap, cur, h', hg, r⟩
  · exact .inl h'
  · exact .inr ⟨g, cap, cur, h', by omega, r⟩
theorem clone_below (u : World) (cs : Array Value) : Below u.heap.size u ((u.alloc (.cells #[] 60)).drew.alloc (.cells cs 60)) :=
  (((Below.refl _ u).alloc (Nat.le_refl _) _).drew).alloc (by simp) _
theorem clone_kind (u : World) (cs : Array Value) (g : Nat) (cs' : Array Value) (h : Blk ((u.alloc (.cells #[] 60)).drew.alloc (.cells cs 60)) g 57 cs') : Blk u g 57 cs' := by
  rcases blk_alloc_inv h with h' | ⟨_, h'⟩
  · rcases blk_alloc_inv (w := u) (show Blk (u.alloc (.cells #[] 60)) g _ cs' from h') with h'' | ⟨_, h''⟩
    · exact h''
    · injection h'' with _ h''; simp at h''
  · injection h' with _ h'; simp at h'
def put4 (u : World) (g : Nat) (a b c d : Value) : World := (((u.setCell ⟨g, 0, none⟩ a).setCell ⟨g, 1, none⟩ b).setCell ⟨g, 2, none⟩ c).setCell ⟨g, 3, none⟩ d
theorem put4_grown (u : World) (g : Nat) (a b c d : Value) : u.grownBy (put4 u g a b c d) (some g) := grown_setCell (grown_setCell (grown_setCell (grown_setCell (grown_refl u (some g)) 0 a) 1 b) 2 c) 3 d
theorem allS_store {W0 u : World} {N cap g c' : Nat} {A' : Option Addr} {l : List PI} (hB : Below N W0 u) (hg : N ≤ g) (h : Blk u g 57 #[.slice none 0 0, .int .i64 0, .int .u64 0, .bool false]) (hu : ∀ g', N ≤ g' → ∀ cs, Blk u g' 57 cs → g' = g) (hO : OwnH u N A' c' l) :
    AllS W0 N cap l 2 (put4 u g (.slice A' l.length c') (.int .i64 cap) (.int .u64 0) (.bool true)) := by
  have hgr := put4_grown u g (.slice A' l.length c') (.int .i64 cap) (.int .u64 0) (.bool true)
  have hne : ownB A' ≠ some g := fun e => by
    rcases hO.2 with ⟨h', _⟩ | ⟨g', cap', cur, h', _, hg', _⟩
    · simp only [Value.slice.injEq] at h'; rw [h'.1] at e; simp [ownB] at e
    · simp only [Value.slice.injEq] at h'
      rw [h'.1] at e
      simp [ownB] at e
      subst e
      unfold Blk at h
      rw [h] at hg'
      injection hg' with hg'
      injection hg' with _ hg'
      simp at hg'
  refine ⟨(((hB.setCell (p := ⟨g, 0, none⟩) hg _).setCell (p := ⟨g, 1, none⟩) hg _).setCell (p := ⟨g, 2, none⟩) hg _).setCell (p := ⟨g, 3, none⟩) hg _, g, hg, ⟨A', c', hg, (((h.set_ 0 _).set_ 1 _).set_ 2 _).set_ 3 _, Own.grown hO hgr (.inr hne)⟩, fun g' hg' cs hb => ?_⟩
  rcases Nat.decEq g' g with hne' | he
  · refine hu g' hg' cs ?_
    have hlt := hb.lt
    have hs : (put4 u g (.slice A' l.length c') (.int .i64 cap) (.int .u64 0) (.bool true)).heap.size = u.heap.size := by simp [put4]
    unfold Blk at *
    rw [← hgr.block g' (by omega) (fun e => hne' (Option.some.inj e))]
    exact hb
  · exact he
theorem allSt_store (j : Nat) {u : World} {g : Nat} {a b c d : Value} {cs : Array Value} (h : Blk u g 57 cs) : AllSt j u (put4 u g a b c d) := by
  have hgr := put4_grown u g a b c d
  refine ⟨fun g' t' cs' h' => ?_, fun k o ho hk => ?_⟩
  · rcases Nat.decEq g' g with hne | he
    · exact ⟨cs', (hgr.block g' h'.lt (fun e => hne (Option.some.inj e))).trans h'⟩
    · subst he
      exact ⟨_, (((h'.set_ 0 a).set_ 1 b).set_ 2 c).set_ 3 d⟩
  · refine (hgr.block k (Array.getElem?_eq_some_iff.1 ho).1 (fun e => ?_)).trans ho
    obtain rfl := Option.some.inj e
    unfold Blk at h
    rw [h] at ho
    exact hk cs (0, 0) (Option.some.inj ho).symm
/-- neither block is a list's item -/
def NI (a b : Nat) (U : World) : Prop := ∀ o : Obj, U.heap[a]? = some o ∨ U.heap[b]? = some o → isIt o = false
theorem ni_of {U : World} {base q g c cap p : Nat} {l : List PI} (h : QAt U base q (some ⟨g, 0, none⟩) c l cap p) : NI q g U := by
  rintro o (ho | ho)
  · have := h.2.1
    unfold Blk at this
    rw [this] at ho
    rw [← Option.some.inj ho]
    rfl
  · rcases h.2.2.2 with ⟨h', _⟩ | ⟨g', cap', cur, h', _, hg', _⟩
    · simp at h'
    · simp only [Value.slice.injEq, Option.some.injEq, Addr.mk.injEq] at h'
      rw [h'.1.1, hg'] at ho
      rw [← Option.some.inj ho]
      rfl
theorem It.of_fr {B base q g : Nat} {U U' : World} (h : Fr base q g U U') (hB : B ≤ base) (hn : NI q g U) : It B U U' :=
  ⟨h.below.mono (Nat.zero_le _), h.below.size, fun b hb => h.below.block b (by omega), fun b o ho hi => by
    refine (h.rest b (Array.getElem?_eq_some_iff.1 ho).1 (fun e => ?_) (fun e => ?_)).trans ho
    · subst e; rw [hn o (.inl ho)] at hi; cases hi
    · subst e; rw [hn o (.inr ho)] at hi; cases hi⟩
theorem below0_putObj (U : World) (k : Nat) (o : Obj) : Below 0 U (U.putObj k o) := ⟨rfl, rfl, rfl, by simp, fun b hb => absurd hb (by omega)⟩
theorem It.putObj {B k : Nat} {U : World} {r : Loop} {o : Obj} (h : U.heap[k]? = some (.loop r)) (hB : B ≤ k) : It B U (U.putObj k o) :=
  ⟨below0_putObj U k o, by simp, fun b hb => World.putObj_heap_other (by omega), fun b o' ho hi => by
    rcases Nat.decEq b k with hne | he
    · rw [World.putObj_heap_other hne]; exact ho
    · subst he; rw [h] at ho; rw [← Option.some.inj ho] at hi; cases hi⟩
theorem It.shut {B k : Nat} {U : World} {o : Obj} {d : Option (List Deferred)} (h : U.heap[k]? = some (.deferred d)) (hB : B ≤ k) : It B U (U.putObj k o) :=
  ⟨below0_putObj U k o, by simp, fun b hb => World.putObj_heap_other (by omega), fun b o' ho hi => by
    rcases Nat.decEq b k with hne | he
    · rw [World.putObj_heap_other hne]; exact ho
    · subst he; rw [h] at ho; rw [← Option.some.inj ho] at hi; cases hi⟩
theorem NI.putObj {a b k : Nat} {U : World} {o : Obj} (h : NI a b U) (ha : a ≠ k) (hb : b ≠ k) : NI a b (U.putObj k o) := by
  intro o' ho
  rw [World.putObj_heap_other ha, World.putObj_heap_other hb] at ho
  exact h o' ho
theorem Kr.same {B b : Nat} {U U' : World} (h : Kr B U U') (hB : B ≤ b) (hb : b < U.heap.size) (hi : ∀ o, U.heap[b]? = some o → isIt o = false) : U'.heap[b]? = U.heap[b]? := by
  obtain ⟨o, ho⟩ : ∃ o, U.heap[b]? = some o := ⟨_, Array.getElem?_eq_getElem hb⟩
  rw [ho]; exact h.oth b o hB ho (hi o ho)
theorem NI.kr {B a b : Nat} {U U' : World} (h : NI a b U) (hk : Kr B U U') (ha : B ≤ a) (hb : B ≤ b) (ha' : a < U.heap.size) (hb' : b < U.heap.size) : NI a b U' := by
  intro o ho
  rw [hk.same ha ha' (fun o ho => h o (.inl ho)), hk.same hb hb' (fun o ho => h o (.inr ho))] at ho
  exact h o ho
set_option maxRecDepth 100000 in
set_option maxHeartbeats 1000000 in
theorem all1_in (n l s bq q base g c cap p : Nat) (S hs : List PI) (J Jx : List PI → World → Prop) (W : World)
    (hJ : ∀ pre U U', J pre U → It W.heap.size U U' → J pre U') (hJx : ∀ pre U U', Jx pre U → It W.heap.size U U' → Jx pre U')
    (hY : ∀ m pre x U, J pre U → pre.length < (ord S.length S).length → YieldAt Fence.wide m Try.prog l #[.int .i64 x.1, .int .i64 x.2.2] U fun e U' =>
      (e = .returned (.bool true) ∧ J (pre ++ [x]) U' ∧ Kr W.heap.size U U') ∨ (e = .returned (.bool false) ∧ Jx (pre ++ [x]) U' ∧ Kr W.heap.size U U'))
    (hc : W.cell? ⟨bq, 0, none⟩ = some (.pointer (some ⟨q, 0, none⟩))) (hQ : QAt W base q (some ⟨g, 0, none⟩) c hs cap p) (hp : hs.Perm S) (hn : Num S) (hh : IsHeap hs) (hl0 : 0 < S.length) (hl : S.length ≤ 4096) (h0 : J [] W) :
    CallsIn Fence.wide n Try.prog 23 #[.func (.yield l) #[] #[], .pointer (some ⟨bq, 0, none⟩)] W fun e U => (∃ v, e = .returned v) ∧
      (J (ord S.length S) U ∨ ∃ pre, pre <+: ord S.length S ∧ Jx pre U) := by
  have hpl := hp.length_eq
  obtain ⟨N, hN⟩ : ∃ N, N = W.heap.size := ⟨_, rfl⟩
  have HM := Lib.hid hN
  have HQ := Lib.hid hQ
  have HJ := Lib.hid hJ
  have HX := Lib.hid hJx
  have HY := Lib.hid hY
  have hbq : bq < W.heap.size := by
    rcases Nat.lt_or_ge bq W.heap.size with h | h
    · exact h
    · unfold World.cell? at hc; simp [h] at hc
  have hd : (((hs.length : Nat) : Int) == 0) = false := by simp; intro e; subst e; simp at hpl; omega
  clear hQ hJ hJx hY
  refine callsIn_of_wp_marks Try.func23 rfl trivial (wpIn_wide.2 ?_) rfl
  simp only [Try.ntmps23, List.size_toArray, List.length_cons, List.length_nil, Nat.reduceAdd, Nat.reduceSub, Array.replicate_succ, Array.replicate_zero, List.push_toArray, List.append_toArray, List.nil_append, List.cons_append]
  go_wp2_with fail
  obtain ⟨W0, hW0⟩ : ∃ U, U = W.alloc (.cells #[.func (.yield l) #[] #[]] 58) := ⟨_, rfl⟩
  rw [← hW0]
  have hb0 : Below W.heap.size W W0 := by rw [hW0]; exact (Below.refl _ W).alloc (Nat.le_refl _) _
  have HB0 := Lib.hid hb0
  have HY0 := Lib.hid (show Blk W0 W.heap.size 58 #[.func (.yield l) #[] #[]] by rw [hW0]; exact Blk.new _ _ _)
  have HQ0 := Lib.hid (HQ.out.below hb0)
  have HS0 := Lib.hid (show W0.heap.size = W.heap.size + 1 by rw [hW0]; simp)
  have hcq : W0.cell? ⟨q, 0, none⟩ = some (.slice (some ⟨g, 0, none⟩) hs.length c) := HQ0.out.2.1.cell 0
  refine (Len_any q (some ⟨g, 0, none⟩) hs.length c W0 hcq).mono ?_
  rintro e w1 ⟨rfl, hw1⟩
  subst hw1
  have hcb : W0.cell? ⟨bq, 0, none⟩ = some (.pointer (some ⟨q, 0, none⟩)) := (hb0.cell (p := ⟨bq, 0, none⟩) hbq).trans hc
  obtain ⟨M, hM⟩ : ∃ M, M = W0.heap.size := ⟨_, rfl⟩
  have HMM := Lib.hid hM
  have hqM : q < M := by rw [hM]; exact HQ0.out.2.1.lt
  have hbM : bq < M := by rw [hM, HS0.out]; omega
  have hhl : 0 < hs.length := by omega
  have hhl2 : hs.length ≤ 4096 := by omega
  have HPL := Lib.hid hpl
  clear hW0 hb0 hN hM hcq hpl
  go_wp2_with fail
  refine wp_region_rel ⟨[10, 11], [(0, 1), (0, 1), (0, 1), (0, 1), (0, 1), (0, 1), (0, 1), (0, 1), (0, 1), (0, 1), (0, 0), (1, 1)]⟩ (fromAt (S := AllS W0 M cap hs) (St := AllSt) [eqv (.pointer (some ⟨q, 0, none⟩)), eqv (.pointer (some ⟨q, 0, none⟩)), eqv (.pointer (some ⟨q, 0, none⟩)), eqv (.slice (some ⟨g, 0, none⟩) hs.length c), clRow M hs, eqv (.pointer (some ⟨q, 0, none⟩)), eqv (.pointer (some ⟨q, 0, none⟩)), eqv (.pointer (some ⟨q, 1, none⟩)), eqv (.int .i64 (cap : Int)), agRow M cap hs, qRow M, anyv]) (AllS W0 M cap hs) (AllSt) (factAt (S := AllS W0 M cap hs) (St := AllSt) [eqv (.pointer (some ⟨q, 0, none⟩)), eqv (.pointer (some ⟨q, 0, none⟩)), eqv (.pointer (some ⟨q, 0, none⟩)), eqv (.slice (some ⟨g, 0, none⟩) hs.length c), clRow M hs, eqv (.pointer (some ⟨q, 0, none⟩)), eqv (.pointer (some ⟨q, 0, none⟩)), eqv (.pointer (some ⟨q, 1, none⟩)), eqv (.int .i64 (cap : Int)), agRow M cap hs, qRow M, anyv]) (by kernel_rfl) (by kernel_rfl) (by kernel_rfl) (by kernel_rfl) ?_ (fun i v j u u' => factAt_st _ i v j u u') ?_ ?_
  · exact ⟨(Below.refl _ _).drew, fun g hg cs h => by have := Blk.lt h; have := HMM.out; simp at *; omega⟩
  · show Looks _ _ _ _ _ _ _ 0 _
    refine ⟨?_, ?_, ?_, ?_, ?_, ?_, ?_, ?_, ?_, ?_, ?_, ?_, trivial⟩
    · intro j hj ρ y u hS hc hf hg hfree hdep
      obtain ⟨hj0, hj1⟩ := hj _ rfl
      have e1 : ρ (.tmp 1) = .pointer (some ⟨bq, 0, none⟩) := hfree 1 rfl
      refine ⟨fun _ => ?_, wanted_plain rfl⟩
      clear hdep hfree hj
      have c0 : u.cell? ⟨bq, 0, none⟩ = some (.pointer (some ⟨q, 0, none⟩)) := ((allS_below hS).cell (p := ⟨bq, 0, none⟩) hbM).trans hcb
      go_simp
      exact ⟨rfl, keepS (by rfl) hS, allSt_refl _ _⟩
    · intro j hj ρ y u hS hc hf hg hfree hdep
      obtain ⟨hj0, hj1⟩ := hj _ rfl
      have e9 : ρ (.tmp 9) = .pointer (some ⟨q, 0, none⟩) := (hdep 0 _ 9 rfl rfl rfl).1
      refine ⟨fun _ => ?_, wanted_plain rfl⟩
      clear hdep hfree hj
      go_simp
      exact ⟨rfl, keepS (by rfl) hS, allSt_refl _ _⟩
    · intro j hj ρ y u hS hc hf hg hfree hdep
      obtain ⟨hj0, hj1⟩ := hj _ rfl
      have e10 : ρ (.tmp 10) = .pointer (some ⟨q, 0, none⟩) := (hdep 1 _ 10 rfl rfl rfl).1
      refine ⟨fun _ => ?_, wanted_plain rfl⟩
      clear hdep hfree hj
      go_simp
      exact ⟨rfl, keepS (by rfl) hS, allSt_refl _ _⟩
    · intro j hj ρ y u hS hc hf hg hfree hdep
      obtain ⟨hj0, hj1⟩ := hj _ rfl
      have e11 : ρ (.tmp 11) = .pointer (some ⟨q, 0, none⟩) := (hdep 2 _ 11 rfl rfl rfl).1
      refine ⟨fun _ => ?_, wanted_plain rfl⟩
      clear hdep hfree hj
      have c0 : u.cell? ⟨q, 0, none⟩ = some (.slice (some ⟨g, 0, none⟩) hs.length c) := (HQ0.out.below2 HMM.out (allS_below hS)).2.1.cell 0
      go_simp
      exact ⟨rfl, keepS (by rfl) hS, allSt_refl _ _⟩
    · intro j hj ρ y u hS hc hf hg hfree hdep
      obtain ⟨hj0, hj1⟩ := hj _ rfl
      have e12 : ρ (.tmp 12) = .slice (some ⟨g, 0, none⟩) hs.length c := (hdep 3 _ 12 rfl rfl rfl).1
      refine ⟨fun _ => ?_, wanted_plain rfl⟩
      clear hdep hfree hj
      have hMu : M ≤ u.heap.size := by have := (allS_below hS).size; have := HMM.out; omega
      go_simp
      refine (Clone_any base g c hs u (HQ0.out.below2 HMM.out (allS_below hS)).2.2 hhl hhl2).mono ?_
      rintro e u' ⟨A', c', cs, rfl, hO, rfl⟩
      exact ⟨_, rfl, ⟨A', c', rfl, OwnH.less hO hMu⟩, keepS (by rfl) (allS_step hS hj1 (clone_below _ _) hMu (clone_kind _ _)), allSt_below _ (clone_below _ _)⟩
    · intro j hj ρ y u hS hc hf hg hfree hdep
      obtain ⟨hj0, hj1⟩ := hj _ rfl
      have e1 : ρ (.tmp 1) = .pointer (some ⟨bq, 0, none⟩) := hfree 1 rfl
      refine ⟨fun _ => ?_, wanted_plain rfl⟩
      clear hdep hfree hj
      have c0 : u.cell? ⟨bq, 0, none⟩ = some (.pointer (some ⟨q, 0, none⟩)) := ((allS_below hS).cell (p := ⟨bq, 0, none⟩) hbM).trans hcb
      go_simp
      exact ⟨rfl, keepS (by rfl) hS, allSt_refl _ _⟩
    · intro j hj ρ y u hS hc hf hg hfree hdep
      obtain ⟨hj0, hj1⟩ := hj _ rfl
      have e14 : ρ (.tmp 14) = .pointer (some ⟨q, 0, none⟩) := (hdep 5 _ 14 rfl rfl rfl).1
      refine ⟨fun _ => ?_, wanted_plain rfl⟩
      clear hdep hfree hj
      go_simp
      exact ⟨rfl, keepS (by rfl) hS, allSt_refl _ _⟩
    · intro j hj ρ y u hS hc hf hg hfree hdep
      obtain ⟨hj0, hj1⟩ := hj _ rfl
      have e15 : ρ (.tmp 15) = .pointer (some ⟨q, 0, none⟩) := (hdep 6 _ 15 rfl rfl rfl).1
      refine ⟨fun _ => ?_, wanted_plain rfl⟩
      clear hdep hfree hj
      go_simp
      exact ⟨rfl, keepS (by rfl) hS, allSt_refl _ _⟩
    · intro j hj ρ y u hS hc hf hg hfree hdep
      obtain ⟨hj0, hj1⟩ := hj _ rfl
      have e16 : ρ (.tmp 16) = .pointer (some ⟨q, 1, none⟩) := (hdep 7 _ 16 rfl rfl rfl).1
      refine ⟨fun _ => ?_, wanted_plain rfl⟩
      clear hdep hfree hj
      have c0 : u.cell? ⟨q, 1, none⟩ = some (.int .i64 cap) := (HQ0.out.below2 HMM.out (allS_below hS)).2.1.cell 1
      go_simp
      exact ⟨rfl, keepS (by rfl) hS, allSt_refl _ _⟩
    · intro j hj ρ y u hS hc hf hg hfree hdep
      obtain ⟨hj0, hj1⟩ := hj _ rfl
      have r13 := (hdep 4 _ 13 rfl rfl rfl).1
      have e17 : ρ (.tmp 17) = .int .i64 (cap : Int) := (hdep 8 _ 17 rfl rfl rfl).1
      refine ⟨fun _ => ?_, wanted_plain rfl⟩
      clear hdep hfree hj
      obtain ⟨A', c', e13, hO⟩ := r13
      go_simp
      exact ⟨⟨A', c', rfl, hO⟩, keepS (by rfl) hS, allSt_refl _ _⟩
    · intro j hj ρ y u hS hc hf hg hfree hdep
      obtain rfl : j = 0 := by have := hj _ rfl; dsimp only at this; omega
      refine ⟨fun _ => ?_, wanted_plain rfl⟩
      clear hdep hfree hj
      have hMu : M ≤ u.heap.size := by have := (allS_below hS).size; have := HMM.out; omega
      go_simp
      exact ⟨⟨_, hMu, rfl, _, Blk.new _ _ _⟩, allS_alloc hS hMu, allSt_below _ ((Below.refl _ _).alloc (Nat.le_refl _) _)⟩
    · intro j hj ρ y u hS hc hf hg hfree hdep
      obtain rfl : j = 1 := by have := hj _ rfl; dsimp only at this; omega
      have r3 := (hdep 10 _ 3 rfl rfl rfl).1
      have r18 := (hdep 9 _ 18 rfl rfl rfl).1
      refine ⟨fun _ => ?_, wanted_plain rfl⟩
      clear hdep hfree hj
      obtain ⟨g3, hg3, e3, cs, hB3⟩ := r3
      obtain ⟨A', c', e18, hO⟩ := r18
      obtain ⟨hB1, g0, hg0, hB0, hu⟩ := hS
      obtain rfl := hu g3 hg3 cs hB3
      have f0 := hB0.frozen 0
      have f1 := hB0.frozen 1
      have f2 := hB0.frozen 2
      have f3 := hB0.frozen 3
      have z0 : u.cell? ⟨g3, 0, none⟩ = some (.slice none 0 0) := hB0.cell 0
      have z1 : u.cell? ⟨g3, 1, none⟩ = some (.int .i64 0) := hB0.cell 1
      have z2 : u.cell? ⟨g3, 2, none⟩ = some (.int .u64 0) := hB0.cell 2
      have z3 : u.cell? ⟨g3, 3, none⟩ = some (.bool false) := hB0.cell 3
      go_simp
      exact ⟨trivial, allS_store hB1 hg0 hB0 hu hO, allSt_store _ hB0⟩
  intro u1 hS
  rintro _ rfl _ rfl _ rfl _ rfl _ r_13 _ rfl _ rfl _ rfl _ rfl _ r_18 _ r_3
  simp only [RegEnd, Act.put, List.setIfInBounds_toArray, List.set_cons_zero, List.set_cons_succ]
  obtain ⟨A13, c13, rfl, _⟩ := r_13
  obtain ⟨A18, c18, rfl, _⟩ := r_18
  obtain ⟨g3, hg3, rfl, cs, hB3⟩ := r_3
  obtain ⟨hB1, g0, hg0, ⟨A', c', hQc⟩, hu⟩ := hS
  obtain rfl := hu g3 hg3 cs hB3
  obtain ⟨gc, rfl, hgc0, hgc1⟩ := hQc.2.2.addr hhl
  have HQc := Lib.hid hQc
  have HBW := Lib.hid (HB0.out.trans (hB1.mono (show W.heap.size ≤ M by have := HMM.out; have := HS0.out; omega)))
  have HYc := Lib.hid (HY0.out.below hB1 (by have := HMM.out; have := HS0.out; omega))
  clear hQc hB1 hB3 hu hcb
  go_wp2_with fail
  refine (drain_any (some ⟨g3, 0, none⟩) u1).mono ?_
  rintro e u2 ⟨rfl, hu2⟩
  obtain ⟨bd, hbd⟩ : ∃ bd, bd = u1.heap.size := ⟨_, rfl⟩
  rw [← hbd]
  have HD := Lib.hid (show Blk u2 bd 24 #[.pointer (some ⟨g3, 0, none⟩)] by rw [hu2, hbd]; exact Blk.new _ _ _)
  have hb2 : Below u1.heap.size u1 u2 := by rw [hu2]; exact (Below.refl _ u1).alloc (Nat.le_refl _) _
  have HBx := Lib.hid (HBW.out.trans (hb2.mono HBW.out.size))
  have HQx := Lib.hid (HQc.out.below hb2)
  have HYx := Lib.hid (HYc.out.below hb2 HYc.out.lt)
  have HSx := Lib.hid (show u2.heap.size = bd + 1 by rw [hu2, hbd]; simp)
  have HNe := Lib.hid (show g3 < bd ∧ gc < bd by rw [hbd]; exact ⟨HQc.out.2.1.lt, hgc1⟩)
  clear hu2 hbd hb2 HBW HQc HYc hgc1
  go_wp2_with fail
  have HNi := Lib.hid (show NI g3 gc u2 from ni_of HQx.out)
  have hpl2 := HPL.out
  refine wpIn_wide.1 (range_wide (n := 0) (s := u2.heap.size) rfl (gf := 26) (lb := #[.pointer (some ⟨bd, 0, none⟩)]) rfl (enters_of Try.func26 (by kernel_rfl) rfl)
    (fun x : PI => #[.int .i64 x.1, .int .i64 x.2.2]) (fun _ => rfl) (ord S.length S) (fun U U' => Fr M g3 gc U U' ∧ NI g3 gc U') (Kd bd g3 gc) ?hItB
    (fun pre U => J pre U ∧ Blk U W.heap.size 58 #[.func (.yield l) #[] #[]] ∧ NI g3 gc U ∧ u2.heap.size < U.heap.size ∧ Blk U bd 24 #[.pointer (some ⟨g3, 0, none⟩)])
    (fun c pre U => c = .ret ∧ Jx pre U ∧ NI g3 gc U ∧ u2.heap.size < U.heap.size) ?hI ?hIx ?hIo ?hIxo ?h0 ?hKo ?hseq
    (fun x => { tmps := #[.func (.yield l) #[] #[], .pointer (some ⟨bq, 0, none⟩), .pointer (some ⟨W.heap.size, 0, none⟩), .pointer (some ⟨g3, 0, none⟩), .int .i64 x.1, .int .i64 x.2.2, .pointer (some ⟨q, 0, none⟩), .int .i64 hs.length, .bool false, .pointer (some ⟨q, 0, none⟩), .pointer (some ⟨q, 0, none⟩), .pointer (some ⟨q, 0, none⟩), .slice (some ⟨g, 0, none⟩) hs.length c, .slice A13 hs.length c13, .pointer (some ⟨q, 0, none⟩), .pointer (some ⟨q, 0, none⟩), .pointer (some ⟨q, 1, none⟩), .int .i64 cap, .agg #[.slice A18 hs.length c18, .int .i64 cap, .int .u64 0, .bool true], .func (.func 26) #[] #[.pointer (some ⟨bd, 0, none⟩)], .int .i64 x.1, .int .i64 x.2.2, undef, undef, undef, undef, undef], defers := [] }) ?hassign ?hbody ?hdone ?hstop)
  case hItB =>
    rintro U U' ⟨h, _⟩ hs
    have := HNe.out
    have := HSx.out
    exact ⟨h.rest _ (by omega) (by omega) (by omega), h.rest _ hs (by omega) (by omega)⟩
  case hI =>
    rintro pre U U' ⟨h1, h2, h3, h4, h5⟩ ⟨hf, hn⟩
    have e1 := HMM.out
    have e2 := HS0.out
    have e3 := hf.below.size
    have e4 := HNe.out
    exact ⟨HJ.out _ _ _ h1 (It.of_fr hf (by omega) h3), (hf.rest _ h2.lt (by omega) (by omega)).trans h2, hn, by omega, (hf.rest _ h5.lt (by omega) (by omega)).trans h5⟩
  case hIx =>
    rintro c pre U U' ⟨h1, h2, h3, h4⟩ ⟨hf, hn⟩
    have e1 := HMM.out
    have e2 := HS0.out
    have e3 := hf.below.size
    exact ⟨h1, HX.out _ _ _ h2 (It.of_fr hf (by omega) h3), hn, by omega⟩
  case hIo =>
    rintro pre U o ⟨r, hr⟩ ⟨h1, h2, h3, h4, h5⟩
    have e1 := HBx.out.size
    have e2 := HNe.out
    have e3 := HSx.out
    exact ⟨HJ.out _ _ _ h1 (It.putObj hr (by omega)), (World.putObj_heap_other (by omega)).trans h2, h3.putObj (by omega) (by omega), by simpa using h4, (World.putObj_heap_other (by omega)).trans h5⟩
  case hIxo =>
    rintro c pre U o ⟨r, hr⟩ ⟨h1, h2, h3, h4⟩
    have e1 := HBx.out.size
    have e2 := HNe.out
    have e3 := HSx.out
    exact ⟨h1, HX.out _ _ _ h2 (It.putObj hr (by omega)), h3.putObj (by omega) (by omega), by simpa using h4⟩
  case h0 =>
    intro o1 o2
    have hb : Below u2.heap.size u2 ((u2.alloc o1).alloc o2) := ((Below.refl _ u2).alloc (Nat.le_refl _) _).alloc (by simp) _
    exact ⟨HJ.out _ _ _ h0 (It.of (HBx.out.trans (hb.mono HBx.out.size)) (Nat.le_refl _)), HYx.out.below hb HYx.out.lt, ni_of (HQx.out.below hb), by simp; omega, HD.out.below hb HD.out.lt⟩
  case hKo =>
    rintro U U' o o' _ ⟨h1, h2⟩
    have e2 := HNe.out
    have e3 := HSx.out
    refine ⟨by simpa using h1, fun b hb => ?_⟩
    have hne : b ≠ u2.heap.size + 1 := by rcases hb with rfl | rfl | rfl <;> omega
    rw [World.putObj_heap_other hne, h2 b hb, World.putObj_heap_other hne]
  case hseq =>
    intro J' Jx' o1 o2 hJ' hJx' hY' h0'
    have hb : Below u2.heap.size u2 ((u2.alloc o1).alloc o2) := ((Below.refl _ u2).alloc (Nat.le_refl _) _).alloc (by simp) _
    have e2 := HNe.out
    have e3 := HSx.out
    exact drain1_in _ (u2.heap.size + 1) M bd g3 gc c' cap 0 S hs J' Jx' (fun pre U U' h hf hq => hJ' pre U U' h ⟨hf, by obtain ⟨_, hq⟩ := hq; exact ni_of hq⟩) (fun pre x U h hl => (hY' _ pre x U h (by rw [ord_len]; exact hl)).mono fun e U' hh => hh.imp (fun h => h) (fun h => ⟨h.1, h.2.1⟩)) _ (by omega) (by omega) (by simp; omega) ((HD.out.below hb HD.out.lt).cell 0) (HQx.out.below hb) hp hn hh hl h0'
  case hassign =>
    intro m x U K hK
    clear hpl2
    gi_wp2
    exact hK
  case hbody =>
    rintro m pre x U ⟨r, hr⟩ hk ⟨h1, h2, h3, h4, h5⟩ hl
    clear hpl2
    have HY2 := Lib.hid h2
    have HR := Lib.hid hr
    have HKK := Lib.hid hk
    have H3 := Lib.hid h3
    have H5 := Lib.hid h5
    have hyc : U.cell? ⟨W.heap.size, 0, none⟩ = some (.func (.yield l) #[] #[]) := h2.cell 0
    clear hr hk h2 h3 h5
    obtain ⟨fn, tmps, assign, body, hy, hR⟩ := HY.out (m - 1) pre x U h1 hl
    gi_wp2
    refine ⟨fun h => (by cases h), RoundIn.mono (F := Fence.wide.inRound (u2.heap.size + 1)) hR ?_⟩
    rintro e w2 (⟨rfl, hj2, hk2⟩ | ⟨rfl, hj2, hk2⟩)
    all_goals
      gi_wp2
      have e1 := HBx.out.size
      have e2 := HNe.out
      have e3 := HSx.out
      have e4 := HMM.out
      have e5 := HS0.out
      have k1 : w2.heap[g3]? = U.heap[g3]? := hk2.same (by omega) (by omega) (fun o ho => H3.out o (.inl ho))
      have k2 : w2.heap[gc]? = U.heap[gc]? := hk2.same (by omega) (by omega) (fun o ho => H3.out o (.inr ho))
      have k3 : Blk w2 bd 24 #[.pointer (some ⟨g3, 0, none⟩)] := hk2.oth bd _ (by omega) H5.out rfl
      have k4 : Blk w2 W.heap.size 58 #[.func (.yield l) #[] #[]] := hk2.oth _ _ (Nat.le_refl _) HY2.out rfl
      have k5 : w2.heap[u2.heap.size]? = U.heap[u2.heap.size]? := by rw [HKK.out]; exact hk2.oth _ _ e1 HKK.out rfl
      have k6 : w2.heap[u2.heap.size + 1]? = U.heap[u2.heap.size + 1]? := by rw [HR.out]; exact hk2.oth _ _ (by omega) HR.out rfl
      have k7 : NI g3 gc w2 := H3.out.kr hk2 (by omega) (by omega) (by omega) (by omega)
      have k8 := hk2.size
      have k9 : Kd bd g3 gc U w2 := ⟨k8, fun b hb => by
        rcases hb with h | h | h
        · rw [h]; exact Eq.trans k3 (Eq.symm H5.out)
        · rw [h]; exact k1
        · rw [h]; exact k2⟩
    · exact ⟨⟨k5, k6⟩, k9, hj2, k4, k7, by omega, k3⟩
    · exact ⟨⟨k5, k6⟩, k9, rfl, hj2, k7, by omega⟩
  case hdone =>
    rintro U ⟨h1, h2, h3, h4, h5⟩ hk
    have e1 := HBx.out.size
    refine ⟨by simp, .inl ⟨_, _, rfl, run_takeDeferred hk, _, results_none rfl _ _ _, ⟨_, rfl⟩, .inl (HJ.out _ _ _ h1 (It.shut hk e1))⟩⟩
  case hstop =>
    rintro c pre U hpre ⟨rfl, hx, h3, h4⟩ hk
    have e1 := HBx.out.size
    gi_wp2
    refine ⟨by simp, .inl ⟨_, _, rfl, run_takeDeferred hk, _, results_none rfl _ _ _, ⟨_, rfl⟩, .inr ⟨pre, hpre, HX.out _ _ _ hx (It.shut hk e1)⟩⟩⟩
end Go.Proofs.Ytaiefhdnjmiafaa
