/- Lemmas. -/
import Derived.Test.YtakgiamhdpgoeaaGreatP8
import Derived.Test.YtakgiamhdpgoeaaGreatP11
import Derived.Test.YtakgiamhdpgoeaaGreatP12
set_option linter.unusedSimpArgs false
namespace Go.Proofs.YtakgiamhdpgoeaaGreat
open Go.RowKit
set_option linter.unusedVariables false
theorem zma {w : World} {ops : Array Oper} {rest : List Oper} {o : Oper} {a : Act} {Q : Exit → Act → World → Prop} (hgd : o.guard = none) (s x : Operand)
  (ho : o.op = .call { callee := .builtin .append, args := #[s, x], argTypes := #[29, 29] })
  (base : Nat) (A0 : Option Addr) (n0 c0 : Nat) (S0 : List Int) (hn0 : S0.length = n0) (hs : a.eval s = .slice A0 n0 c0) (hown : OwnZ w base A0 c0 S0)
  (B : Nat) (A : Option Addr) (m c : Nat) (S : List Int) (hm : S.length = m) (hx : a.eval x = .slice A m c) (hr : Reads w B 1 A m (S.flatMap intE)) (hsz : n0 + m ≤ 100000000) (hbase : base ≤ w.heap.size)
  (h : ∀ A' c' w', OwnZ w' base A' c' (S0 ++ S) → w.grownBy w' (ownB A0) → (ownB A' = ownB A0 ∨ ownB A' = some w.heap.size) → wpList Tryz.prog ops Q rest (a.put o.dst (.slice A' (n0 + m) c')) w') : wpList Tryz.prog ops Q (o :: rest) a w := by
 obtain ⟨i0, hi, hz0, hz1, hz2⟩ := info_parts infoInt
 subst hn0 hm
 refine zNa w hgd s x 29 ho base 3 i0 _ 1 8 Tryz.underlying29 hi hz0 hz1 hz2 rfl (by decide) A0 S0.length c0 _ hs hown B A S.length c _ hx hr (one_intE S) (by unfold maxLen; omega) (by omega) hbase ?_
 intro A' c' w' h1 h2 h3
 exact h A' c' w' (by unfold OwnZ; rw [List.flatMap_append, List.length_append]; exact h1) h2 h3
theorem nodup_snoc {l : List Int} {t : Int} (h : l.Nodup) (ht : t ∉ l) : (l ++ [t]).Nodup := by
 rw [List.nodup_append]
 exact ⟨h, by simp, fun x hx y hy => by
  obtain rfl : y = t := by simpa using hy
  exact fun e => ht (e ▸ hx)⟩
theorem zkg : ∀ (n : Nat) (l : List Int), l.Nodup → (∀ x ∈ l, 0 ≤ x ∧ x < n) → l.length ≤ n := by
 intro n
 induction n with
 | zero =>
  intro l _ h
  cases l with
  | nil => simp
  | cons x l => have := h x (List.mem_cons_self ..); omega
 | succ n ih =>
  intro l hd h
  have h1 := ih (l.filter (fun x => !decide (x = (n : Int)))) (hd.filter _) (fun x hx => by
   have hx2 := List.mem_filter.1 hx
   have := h x hx2.1
   have hne : ¬ x = (n : Int) := by simpa using hx2.2
   omega)
  have h2 : ∀ (l : List Int), l.Nodup → l.length ≤ (l.filter (fun x => !decide (x = (n : Int)))).length + 1 := by
   intro l
   induction l with
   | nil => intro _; simp
   | cons y l ihl =>
    intro hd
    rw [List.nodup_cons] at hd
    rw [List.filter_cons]
    split
    ·simp only [List.length_cons]; have := ihl hd.2; omega
    ·rename_i q
     have hy : y = n := by simpa using q
     have : l.filter (fun x => !decide (x = (n : Int))) = l := List.filter_eq_self.2 fun x hx => by
      simp only [Bool.not_eq_true', decide_eq_false_iff_not]
      intro e
      exact hd.1 (by rw [hy, ← e]; exact hx)
     rw [this]
     simp
  have := h2 l hd
  omega
section
variable {F : Nat → Prop} {w w1 w2 : World}
theorem KeptF.set (h : KeptF F w w1) {g : Nat} (hg : F g) (i : Nat) (v : Value) : KeptF F w (w1.setCell ⟨g, i, none⟩ v) :=
 ⟨h.os, h.tape, h.output, by simpa [World.setCell] using h.size, fun k hk hF => (Below.heap_setCell _ _ _ _ (fun e => hF (by rw [show k = g from e]; exact hg))).trans (h.block k hk hF)⟩
theorem KeptF.step_below (h : KeptF F w w1) (hb : Below w1.heap.size w1 w2) : KeptF F w w2 := h.trans (Sub.refl _ _) (KeptF.of_below hb)
theorem KeptF.step_grown (h : KeptF F w w1) {row : Option Nat} (hg : w1.grownBy w2 row) (hr : ∀ k, row = some k → F k) : KeptF F w w2 :=
 ⟨hg.os.trans h.os, hg.tape.trans h.tape, hg.output.trans h.output, Nat.le_trans h.size hg.size, fun k hk hF => (hg.block k (Nat.lt_of_lt_of_le hk h.size) (fun e => hF (hr k e.symm))).trans (h.block k hk hF)⟩
end
structure CkB (d : PrgD) (N ce cn cu : Nat) (A : Option Addr) (c : Nat) (s : List Int × Int × Nat) (W : World) : Prop where
 l1 : N < ce
 l2 : ce < cn
 l3 : cn < cu
 pr : PrgR W N d
 bp : Blk W N 31 #[.string d.name, .slice d.hZ.a d.hZ.l.length d.hZ.c, .slice d.mZ.a d.mZ.l.length d.mZ.c, .slice d.rZ.a d.rZ.l.length d.rZ.c, .slice d.aZ.a d.aZ.l.length d.aZ.c, .slice d.tZ.a d.tZ.l.length d.tZ.c, .slice d.sZ.a d.sZ.l.length d.sZ.c, .slice d.cZ.a d.cZ.l.length d.cZ.c, .slice d.dep.a d.dep.l.length d.dep.c]
 be : Blk W ce 38 #[.int .i64 s.2.1]
 bn : Blk W cn 3 #[.int .i64 (wr (s.2.2 : Int))]
 bu : Blk W cu 29 #[.slice A s.1.length c]
 ow : OwnZ W (cu + 1) A c s.1
 nd : s.1.Nodup
 rg : ∀ x ∈ s.1, 0 ≤ x ∧ x < (d.tZ.l.length : Int)
def CkF (ce cn cu : Nat) (A : Option Addr) (k : Nat) : Prop := k = ce ∨ k = cn ∨ k = cu ∨ ownB A = some k
def CkI (d : PrgD) (N ce cn cu : Nat) (F : Nat → Prop) (s : List Int × Int × Nat) (W : World) : Prop := ∃ A c, F = CkF ce cn cu A ∧ CkB d N ce cn cu A c s W
section
variable {d : PrgD} {N ce cn cu c : Nat} {A : Option Addr} {u : List Int} {e e' : Int} {n : Nat} {s : List Int × Int × Nat} {W W' : World}
theorem CkB.below (h : CkB d N ce cn cu A c s W) (hb : Below W.heap.size W W') : CkB d N ce cn cu A c s W' :=
 ⟨h.l1, h.l2, h.l3, h.pr.below (hb.mono (by have := h.bp.lt; omega)), h.bp.below hb h.bp.lt, h.be.below hb h.be.lt, h.bn.below hb h.bn.lt, h.bu.below hb h.bu.lt, h.ow.below hb, h.nd, h.rg⟩
theorem zka {g k : Nat} {t : TypeId} {cs : Array Value} (h : Blk W g t cs) (hne : g ≠ k) (i : Nat) (v : Value) : Blk (W.setCell ⟨k, i, none⟩ v) g t cs := (Below.heap_setCell _ _ _ _ hne).trans h
theorem prg_set (h : PrgR W N d) {k : Nat} (hk : N ≤ k) (v : Value) : PrgR (W.setCell ⟨k, 0, none⟩ v) N d := h.below ((Below.refl N W).setCell hk v)
theorem ownZ_set {b k : Nat} {l : List Int} (h : OwnZ W b A c l) (hk : k < b) (v : Value) : OwnZ (W.setCell ⟨k, 0, none⟩ v) b A c l := ownsRow_setCell_below h hk v
theorem CkB.setE (h : CkB d N ce cn cu A c (u, e, n) W) (e' : Int) : CkB d N ce cn cu A c (u, e', n) (W.setCell ⟨ce, 0, none⟩ (.int .i64 e')) := by
 have h1 := h.l1; have h2 := h.l2; have h3 := h.l3
 exact ⟨h1, h2, h3, prg_set h.pr (by omega) _, zka h.bp (by omega) _ _, h.be.set_ 0 _, zka h.bn (by omega) _ _, zka h.bu (by omega) _ _, ownZ_set h.ow (by omega) _, h.nd, h.rg⟩
theorem CkB.setN (h : CkB d N ce cn cu A c (u, e, n) W) : CkB d N ce cn cu A c (u, e, n + 1) (W.setCell ⟨cn, 0, none⟩ (.int .i64 (wrap64 (wr (n : Int) + 1)))) := by
 rw [← wr_64, wr_add]
 have h1 := h.l1; have h2 := h.l2; have h3 := h.l3
 exact ⟨h1, h2, h3, prg_set h.pr (by omega) _, zka h.bp (by omega) _ _, zka h.be (by omega) _ _, h.bn.set_ 0 _, zka h.bu (by omega) _ _, ownZ_set h.ow (by omega) _, h.nd, h.rg⟩
theorem CkB.row (h : CkB d N ce cn cu A c (u, e, n) W) (hg : W.grownBy W' (ownB A)) : (W'.cell? ⟨cn, 0, none⟩ = some (.int .i64 (wr n)) ∧ W'.frozen? ⟨cn, 0, none⟩ = false ∧ cn < W'.heap.size) ∧ W'.cell? ⟨cu, 0, none⟩ = some (.slice A u.length c) ∧ W'.frozen? ⟨cu, 0, none⟩ = false ∧ cu < W'.heap.size := by
 have hk : ∀ (g : Nat) (t : TypeId) (cs : Array Value), g ≤ cu → Blk W g t cs → Blk W' g t cs := fun g t cs hgc hb =>
  (hg.block g hb.lt (fun e => by have := (Own.lt h.ow g e.symm).1; omega)).trans hb
 have h1 := hk _ _ _ (by have := h.l3; omega) h.bn
 have h2 := hk _ _ _ (Nat.le_refl _) h.bu
 exact ⟨⟨h1.cell 0, h1.frozen 0, h1.lt⟩, h2.cell 0, h2.frozen 0, h2.lt⟩
theorem CkB.setU (h : CkB d N ce cn cu A c (u, e, n) W) {A' : Option Addr} {c' : Nat} {t : Int} (hg : W.grownBy W' (ownB A)) (ho : OwnZ W' (cu + 1) A' c' (u ++ [t])) (ht : t ∉ u) (ht2 : 0 ≤ t ∧ t < (d.tZ.l.length : Int)) :
  CkB d N ce cn cu A' c' (u ++ [t], e, n + 1) ((W'.setCell ⟨cu, 0, none⟩ (.slice A' (u.length + 1) c')).setCell ⟨cn, 0, none⟩ (.int .i64 (wrap64 (wr (n : Int) + 1)))) := by
 rw [← wr_64, wr_add]
 have h1 := h.l1; have h2 := h.l2; have h3 := h.l3
 have hk : ∀ (g : Nat) (t : TypeId) (cs : Array Value), g ≤ cu → Blk W g t cs → Blk W' g t cs := fun g t cs hgc hb =>
  (hg.block g hb.lt (fun e => by have := (Own.lt h.ow g e.symm).1; omega)).trans hb
 have hp : PrgR W' N d := h.pr.below ((Below.refl N W).grown hg (by have := h.bp.lt; omega) (fun k hk => by have := (Own.lt h.ow k hk).1; omega))
 refine ⟨h1, h2, h3, prg_set (prg_set hp (by omega) _) (by omega) _, zka (zka (hk _ _ _ (by omega) h.bp) (by omega) _ _) (by omega) _ _, zka (zka (hk _ _ _ (by omega) h.be) (by omega) _ _) (by omega) _ _,
  (zka (hk _ _ _ (by omega) h.bn) (by omega) _ _).set_ 0 _, zka ?_ (by omega) _ _, ownZ_set (ownZ_set ho (by omega) _) (by omega) _, nodup_snoc h.nd ht, fun x hx => by
   rcases List.mem_append.1 hx with hx | hx
   ·exact h.rg x hx
   ·obtain rfl : x = t := by simpa using hx
    exact ht2⟩
 have h9 := (hk _ _ _ (by omega) h.bu).set_ 0 (.slice A' (u.length + 1) c')
 simp only [List.length_append, List.length_singleton]
 exact h9
end
theorem zAe {d : PrgD} {x : NodD} {u : List Int} (h1 : zXa d x u = 0) (ha : zqa x = true) : x.table ∉ u ∧ 0 ≤ x.table ∧ x.table < (d.tZ.l.length : Int) := by
 have hk : x.kind = 1 ∨ x.kind = 3 := by unfold zqa at ha; simpa using ha
 unfold zXa at h1
 rw [if_pos hk] at h1
 split at h1
 ·cases h1
 ·split at h1
  ·cases h1
  ·rename_i q1 q2
   exact ⟨fun hm => q2 (by simpa using hm), by omega, by omega⟩
def ckStp (d : PrgD) (x : NodD) (s : List Int × Int × Nat) : (List Int × Int × Nat) × Bool :=
 if zXa d x s.1 ≠ 0 then ((s.1, zXa d x s.1, s.2.2), false) else ((if zqa x then s.1 ++ [x.table] else s.1, 0, s.2.2 + 1), true)
set_option maxRecDepth 100000 in
set_option maxHeartbeats 2000000 in
theorem ckCall (d : PrgD) (N ce cn cu : Nat) (A : Option Addr) (c : Nat) (x : NodD) (u : List Int) (e : Int) (n : Nat) (W : World) (h : CkB d N ce cn cu A c (u, e, n) W) (hx : NodD.ok W N x) (htl : d.tZ.l.length ≤ 1000000) :
  Calls Tryz.prog 90 #[nodV x, .pointer (some ⟨N, 0, none⟩), .pointer (some ⟨cu, 0, none⟩), .pointer (some ⟨ce, 0, none⟩), .pointer (some ⟨cn, 0, none⟩)] W fun e' w' =>
   e' = .returned (.bool (ckStp d x (u, e, n)).2) ∧ After (CkI d N ce cn cu) (CkF ce cn cu A) W (ckStp d x (u, e, n)).1 w' := by
 have HB := Hd h
 have HX := Hd hx
 have gN : ∀ i, W.cell? ⟨N, i, none⟩ = _ := fun i => h.bp.cell i
 have ge : ∀ i, W.cell? ⟨ce, i, none⟩ = _ := fun i => h.be.cell i
 have gn : ∀ i, W.cell? ⟨cn, i, none⟩ = _ := fun i => h.bn.cell i
 have gu : ∀ i, W.cell? ⟨cu, i, none⟩ = _ := fun i => h.bu.cell i
 have lN := h.bp.lt
 have le := h.be.lt
 have ln := h.bn.lt
 have lu := h.bu.lt
 have hle := zkg d.tZ.l.length u h.nd h.rg
 simp only at ge gn gu
 clear h hx
 go_enter Tryz.func90, Tryz.ntmps90
 go_wp2_with fail
 refine Calls.named ?_
 intro W4 hW4
 obtain ⟨g, hg⟩ : ∃ g, W.heap.size = g := ⟨_, rfl⟩
 have hb4 : Below W.heap.size W W4 := by rw [hW4]; exact (Below.refl _ _).alloc (Nat.le_refl _) _
 have HBx := Hd (show Blk W4 g 100 _ by rw [hW4, ← hg]; exact Blk.new W _ _)
 have HK4 := Hd (KeptF.of_below (F := CkF ce cn cu A) hb4)
 have HB4 := Hd (HB.out.below hb4)
 have HX4 := Hd (NodD.ok_below x HX.out (hb4.mono (by omega)))
 have hg4 : g < W4.heap.size := HBx.out.lt
 simp only [hg] at lN le ln lu ⊢
 clear hW4 hb4 gN ge gn gu
 have HG := Hd hg
 clear hg
 with_reducible refine (checkNode_any d x ⟨A, c, u⟩ W4 (HB4.out.pr.more (by omega)) (NodD.ok_more x HX4.out (by omega)) (HB4.out.ow.slr (fun _ _ => trivial))).mono ?_
 rintro e1 w5 ⟨rfl, hb5⟩
 have HB5 := Hd (HB4.out.below hb5)
 have HK5 := Hd (HK4.out.step_below hb5)
 have HBx5 := Hd (HBx.out.below hb5 hg4)
 have ge : w5.cell? ⟨ce, 0, none⟩ = some (.int .i64 e) := HB5.out.be.cell 0
 have fe : w5.frozen? ⟨ce, 0, none⟩ = false := HB5.out.be.frozen 0
 have l5 : ce < w5.heap.size := HB5.out.be.lt
 clear hb5
 obtain ⟨z, hz⟩ : ∃ z, zXa d x u = z := ⟨_, rfl⟩
 have HZ := Hd hz
 simp only at hz ⊢
 rw [hz]
 clear hz
 by_cases z0 : z = 0
 ·subst z0
  have HR := Hd (show ckStp d x (u, e, n) = ((if zqa x then u ++ [x.table] else u, 0, n + 1), true) by unfold ckStp; rw [if_neg (by simp [HZ.out])])
  have gb : ∀ i, (w5.setCell ⟨ce, 0, none⟩ (.int .i64 0)).cell? ⟨g, i, none⟩ = _ := fun i => (zka HBx5.out (by have := HB.out.be.lt; have := HG.out; omega) 0 (.int .i64 0)).cell i
  go_wp2_with fail
  refine Calls.named ?_
  intro W6 hW6
  have HB6 := Hd (show CkB d N ce cn cu A c (u, 0, n) W6 by rw [hW6]; exact HB5.out.setE 0)
  have HK6 := Hd (show KeptF (CkF ce cn cu A) W W6 by rw [hW6]; exact HK5.out.set (.inl rfl) 0 _)
  have HBx6 := Hd (show Blk W6 g 100 _ by rw [hW6]; exact zka HBx5.out (by have := HB.out.be.lt; have := HG.out; omega) 0 (.int .i64 0))
  clear hW6 gb ge fe l5
  with_reducible refine (applies_any x W6).mono ?_
  rintro e2 w7 ⟨rfl, hb7⟩
  have HB7 := Hd (HB6.out.below hb7)
  have HK7 := Hd (HK6.out.step_below hb7)
  have HBx7 := Hd (HBx6.out.below hb7 HBx6.out.lt)
  have gn : w7.cell? ⟨cn, 0, none⟩ = some (.int .i64 (wr n)) := HB7.out.bn.cell 0
  have fn : w7.frozen? ⟨cn, 0, none⟩ = false := HB7.out.bn.frozen 0
  have ln7 : cn < w7.heap.size := HB7.out.bn.lt
  clear hb7
  obtain ⟨q, hq⟩ : ∃ q, zqa x = q := ⟨_, rfl⟩
  have hr := HR.out
  rw [hq] at hr ⊢
  have HR2 := Hd hr
  have HQ := Hd hq
  clear hr hq
  obtain ⟨y, hy⟩ : ∃ y, wr (n : Int) = y := ⟨_, rfl⟩
  have HY := Hd hy
  rw [hy] at gn
  clear hy
  cases q with
  | false =>
   go_wp2_with fail
   go_returns
   refine ⟨by rw [HR2.out]; try rfl, CkF ce cn cu A, ⟨A, c, rfl, ?_⟩, Sub.refl _ _, HK7.out.set (.inr (.inl rfl)) 0 _⟩
   rw [HR2.out]
   have h9 := HB7.out.setN
   rw [HY.out] at h9
   exact h9
  | true =>
   have gu : w7.cell? ⟨cu, 0, none⟩ = some (.slice A u.length c) := HB7.out.bu.cell 0
   have fu : w7.frozen? ⟨cu, 0, none⟩ = false := HB7.out.bu.frozen 0
   have lu7 : cu < w7.heap.size := HB7.out.bu.lt
   have gx : ∀ i, w7.cell? ⟨g, i, none⟩ = _ := fun i => HBx7.out.cell i
   have lx7 : g < w7.heap.size := HBx7.out.lt
   have hne : cn ≠ cu := by have := HB7.out.l3; omega
   have HB8 := Hd (HB7.out.below ((Below.refl _ w7).alloc (Nat.le_refl _) (.cells #[.int .i64 x.table] 3)))
   have HO := Hd (HB7.out.ow.below ((Below.refl _ w7).alloc (Nat.le_refl _) (.cells #[.int .i64 x.table] 3)))
   go_wp2_with (at_builtin; refine zma rfl (.tmp 15) (.tmp 18) rfl (cu + 1) A u.length c u rfl rfl HO.out _ _ 1 _ [x.table] rfl rfl (zsb _ w7.heap.size rfl x.table) (by omega) (by simp; omega) ?_; intro A2 c2 w8 hO2 hG2 hA2; have HO2 := Hd hO2; have HG2 := Hd hG2; have HA2 := Hd hA2; clear gu fu lu7 gx lx7 gn fn ln7; obtain ⟨⟨gn, fn, ln8⟩, gu, fu, lu8⟩ := HB8.out.row hG2; rw [HY.out] at gn; clear hO2 hG2 hA2)
   go_returns
   have hsz : (w7.alloc (.cells #[.int .i64 x.table] 3)).heap.size = w7.heap.size + 1 := by simp
   refine ⟨by rw [HR2.out]; try rfl, CkF ce cn cu A2, ⟨A2, c2, rfl, ?_⟩, ?_, ?_⟩
   ·rw [HR2.out]
    have h9 := HB8.out.setU HG2.out HO2.out (zAe HZ.out HQ.out).1 (zAe HZ.out HQ.out).2
    rw [HY.out] at h9
    exact h9
   ·intro k hk
    rcases hk with h | h | h | h
    ·exact .inl (.inl h)
    ·exact .inl (.inr (.inl h))
    ·exact .inl (.inr (.inr (.inl h)))
    ·rcases HA2.out with h2 | h2
     ·exact .inl (.inr (.inr (.inr (h2 ▸ h))))
     ·rw [h2] at h
      injection h with h
      have := HK7.out.size
      exact .inr (by omega)
   ·have h8 := (HK7.out.step_below ((Below.refl _ w7).alloc (Nat.le_refl _) (.cells #[.int .i64 x.table] 3))).step_grown HG2.out (fun k hk => .inr (.inr (.inr hk)))
    exact (h8.set (.inr (.inr (.inl rfl))) 0 _).set (.inr (.inl rfl)) 0 _
 ·have z1 : (z != 0) = true := by simp [z0]
  have HR := Hd (show ckStp d x (u, e, n) = ((u, z, n), false) by unfold ckStp; rw [if_pos (by rw [HZ.out]; exact z0), HZ.out])
  clear z0
  go_wp2_with fail
  go_returns
  refine ⟨by rw [HR.out]; try rfl, CkF ce cn cu A, ⟨A, c, rfl, ?_⟩, Sub.refl _ _, HK5.out.set (.inl rfl) 0 _⟩
  rw [HR.out]
  exact HB5.out.setE z
open Go.RowKit
def strE (x : ByteArray) : List Value := [.string x]
def IxP (b : Bool) (e : Ending) : Prop := ∃ r : Int, e = .returned (.int .i64 r) ∧ decide (0 ≤ r) = b ∧ -1 ≤ r ∧ r ≤ 9223372036854775807
theorem zkd {α : Type} {l : List α} {p : α → Bool} (h : ∀ (i : Nat) (x : α), i < l.length → l[i]? = some x → p x = false) : l.any p = false := by
 rw [← Bool.not_eq_true, List.any_eq_true]
 rintro ⟨x, hx, hp⟩
 obtain ⟨i, hi⟩ := List.mem_iff_getElem?.1 hx
 rw [h i x (List.getElem?_eq_some_iff.1 hi).1 hi] at hp
 cases hp
theorem zie {α : Type} {l : List α} {p : α → Bool} {k : Nat} {x : α} (h : l[k]? = some x) (hp : p x = true) : l.any p = true := List.any_eq_true.2 ⟨x, List.mem_of_getElem? h, hp⟩
set_option maxRecDepth 100000 in
theorem indexInt_any {ok : Int → Prop} (s : SL (Int)) (v : Int) (w : World) (hS : SLR w w.heap.size 1 intE ok s) :
  Calls Tryz.prog 125 #[.slice s.a s.l.length s.c, .int .i64 v] w fun e w' => IxP (s.l.any fun x => v == x) e ∧ w = w' := by
 obtain ⟨sa, sc, sl⟩ := s
 have HS := Hd hS
 have hlen := hS.len
 simp only at hlen ⊢
 clear hS
 go_enter Tryz.func125, Tryz.ntmps125
 go_wp2_with fail
 go_loop [8] (fun i => ∃ k : Nat, k ≤ sl.length ∧ i = .int .i64 k ∧ (∀ (j : Nat) (x : Int), j < k → sl[j]? = some x → (v == x) = false)) (fun i => sl.length - (intOf i).toNat)
 case atStart => exact ⟨0, Nat.zero_le _, rfl, fun j x hj => absurd hj (by omega)⟩
 case round =>
  obtain ⟨k, hk, rfl, hall⟩ := hrel
  have HAl := Hd hall
  clear hall
  by_cases hlt : k < sl.length
  ·obtain ⟨b2, off2, x, hA2, hb2, hx, _, hc2⟩ := HS.out.at_ (fun _ => rfl) (by omega) hlt
   have p0 := hc2 0 _ rfl
   simp only [Nat.add_zero, Nat.mul_one] at p0
   simp only at hA2
   have HX := Hd hx
   have hk1 : (k : Int) < sl.length := by omega
   obtain ⟨q, hq⟩ : ∃ q, (v == x) = q := ⟨_, rfl⟩
   have HQ := Hd hq
   subst hA2
   clear hc2 hx
   cases q with
   | true =>
    go_wp2_with fail
    go_returns
    exact ⟨⟨k, rfl, by rw [zie HX.out HQ.out]; simp, by omega, by omega⟩, rfl⟩
   | false =>
    go_wp2_with fail
    go_round
    case rel => exact ⟨k + 1, by omega, by go_num, fun j x' hj hx' => by
     rcases Nat.lt_succ_iff_lt_or_eq.1 hj with h | h
     ·exact HAl.out j x' h hx'
     ·rw [h, HX.out] at hx'; injection hx' with hx'; rw [← hx']; exact HQ.out⟩
    case measure => simp [intOf]; omega
  ·obtain rfl : k = sl.length := by omega
   clear hlt
   go_wp2_with fail
   go_returns
   exact ⟨⟨-1, rfl, by rw [zkd HAl.out]; rfl, by omega, by omega⟩, rfl⟩
set_option maxRecDepth 100000 in
theorem indexStr_any {ok : ByteArray → Prop} (s : SL (ByteArray)) (v : ByteArray) (w : World) (hS : SLR w w.heap.size 1 strE ok s) :
  Calls Tryz.prog 113 #[.slice s.a s.l.length s.c, .string v] w fun e w' => IxP (s.l.any fun x => v.toList == x.toList) e ∧ w = w' := by
 obtain ⟨sa, sc, sl⟩ := s
 have HS := Hd hS
 have hlen := hS.len
 simp only at hlen ⊢
 clear hS
 go_enter Tryz.func113, Tryz.ntmps113
 go_wp2_with fail
 go_loop [8] (fun i => ∃ k : Nat, k ≤ sl.length ∧ i = .int .i64 k ∧ (∀ (j : Nat) (x : ByteArray), j < k → sl[j]? = some x → (v.toList == x.toList) = false)) (fun i => sl.length - (intOf i).toNat)
 case atStart => exact ⟨0, Nat.zero_le _, rfl, fun j x hj => absurd hj (by omega)⟩
 case round =>
  obtain ⟨k, hk, rfl, hall⟩ := hrel
  have HAl := Hd hall
  clear hall
  by_cases hlt : k < sl.length
  ·obtain ⟨b2, off2, x, hA2, hb2, hx, _, hc2⟩ := HS.out.at_ (fun _ => rfl) (by omega) hlt
   have p0 := hc2 0 _ rfl
   simp only [Nat.add_zero, Nat.mul_one] at p0
   simp only at hA2
   have HX := Hd hx
   have hk1 : (k : Int) < sl.length := by omega
   obtain ⟨q, hq⟩ : ∃ q, (v.toList == x.toList) = q := ⟨_, rfl⟩
   have HQ := Hd hq
   subst hA2
   clear hc2 hx
   cases q with
   | true =>
    go_wp2_with fail
    go_returns
    exact ⟨⟨k, rfl, by rw [zie HX.out HQ.out]; simp, by omega, by omega⟩, rfl⟩
   | false =>
    go_wp2_with fail
    go_round
    case rel => exact ⟨k + 1, by omega, by go_num, fun j x' hj hx' => by
     rcases Nat.lt_succ_iff_lt_or_eq.1 hj with h | h
     ·exact HAl.out j x' h hx'
     ·rw [h, HX.out] at hx'; injection hx' with hx'; rw [← hx']; exact HQ.out⟩
    case measure => simp [intOf]; omega
  ·obtain rfl : k = sl.length := by omega
   clear hlt
   go_wp2_with fail
   go_returns
   exact ⟨⟨-1, rfl, by rw [zkd HAl.out]; rfl, by omega, by omega⟩, rfl⟩
theorem zWf {ok : Int → Prop} (s : SL (Int)) (v : Int) (w : World) (hS : SLR w w.heap.size 1 intE ok s) :
  Calls Tryz.prog 93 #[.slice s.a s.l.length s.c, .int .i64 v] w fun e w' => e = .returned (.bool (s.l.any fun x => v == x)) ∧ w = w' := by
 have HI := Hd (indexInt_any s v w hS)
 clear hS
 go_enter Tryz.func93, Tryz.ntmps93
 go_wp2_with fail
 refine HI.out.mono ?_
 rintro e w1 ⟨⟨r, rfl, hr, h1, h2⟩, rfl⟩
 have HR := Hd hr
 obtain ⟨q, hq⟩ : ∃ q, decide (0 ≤ r) = q := ⟨_, rfl⟩
 rw [hq] at HR
 clear hr
 go_wp2_with fail
 go_returns
 exact ⟨by rw [HR.out]; try rfl, rfl⟩
theorem zXf {ok : ByteArray → Prop} (s : SL (ByteArray)) (v : ByteArray) (w : World) (hS : SLR w w.heap.size 1 strE ok s) :
  Calls Tryz.prog 79 #[.slice s.a s.l.length s.c, .string v] w fun e w' => e = .returned (.bool (s.l.any fun x => v.toList == x.toList)) ∧ w = w' := by
 have HI := Hd (indexStr_any s v w hS)
 clear hS
 go_enter Tryz.func79, Tryz.ntmps79
 go_wp2_with fail
 refine HI.out.mono ?_
 rintro e w1 ⟨⟨r, rfl, hr, h1, h2⟩, rfl⟩
 have HR := Hd hr
 obtain ⟨q, hq⟩ : ∃ q, decide (0 ≤ r) = q := ⟨_, rfl⟩
 rw [hq] at HR
 clear hr
 go_wp2_with fail
 go_returns
 exact ⟨by rw [HR.out]; try rfl, rfl⟩
theorem zUd (s : ByteArray) (hs : s.size ≤ maxLen) (w : World) : Calls Tryz.prog 44 #[.string s] w fun e w' => e = .returned (.bool (!ident s)) ∧ w = w' := by
 have HS := Hd hs
 clear hs
 go_enter Tryz.func44, Tryz.ntmps44
 go_wp2_with fail
 refine (zGa s HS.out w).mono ?_
 rintro e w1 ⟨rfl, rfl⟩
 obtain ⟨q, hq⟩ : ∃ q, ident s = q := ⟨_, rfl⟩
 have HQ := Hd hq
 rw [hq]
 clear hq
 go_wp2_with fail
 go_returns
 exact ⟨by rw [HQ.out]; try rfl, rfl⟩
theorem zEb (b : Bool) (c : Int) (w : World) : Calls Tryz.prog 43 #[.bool b, .int .i64 c] w fun e w' => e = .returned (.int .i64 (if b then c else 0)) ∧ w = w' := by
 cases b
 all_goals
  go_enter Tryz.func43, Tryz.ntmps43
  go_wp2_with fail
  go_returns
  exact ⟨rfl, rfl⟩
theorem zPf (x : Int) (w : World) : Calls Tryz.prog 51 #[.int .i64 x] w fun e w' => e = .returned (.bool (badW x)) ∧ w = w' := by
 obtain ⟨q1, h1⟩ : ∃ q, decide (x < 1) = q := ⟨_, rfl⟩
 obtain ⟨q2, h2⟩ : ∃ q, decide (32 < x) = q := ⟨_, rfl⟩
 have HV := Hd (show badW x = (q1 || q2) by unfold badW; rw [h1, h2])
 cases q1
 all_goals
  go_enter Tryz.func51, Tryz.ntmps51
  go_wp2_with fail
  go_returns
  exact ⟨by rw [HV.out]; try rfl, rfl⟩
theorem depScan_at (d : PrgD) {k : Nat} {h : Int} (hx : d.dep.l[k]? = some h) : zpf d k = if h < 0 ∨ (d.hZ.l.length : Int) ≤ h then some ((k : Int), 8) else if (d.dep.l.take k).contains h then some ((k : Int), 7) else none := by
 unfold zpf
 rw [hx]
theorem depCheck_some {d : PrgD} (h8 : d.dep.l.length ≤ 8) {k : Nat} {e : Int × Int} (hk : k < d.dep.l.length) (h : ∀ i, i < k → zpf d i = none) (he : zpf d k = some e) : zDb d = e := by
 unfold zDb
 rw [if_neg (by omega), zua hk h he]
 rfl
theorem depCheck_none {d : PrgD} (h8 : d.dep.l.length ≤ 8) (h : ∀ i, i < d.dep.l.length → zpf d i = none) : zDb d = (0, 0) := by
 unfold zDb
 rw [if_neg (by omega), znb h]
 rfl
theorem any_contains (h : Int) (l : List Int) : (l.any fun x => h == x) = l.contains h := by
 rw [Bool.eq_iff_iff]
 simp
set_option maxRecDepth 100000 in
set_option maxHeartbeats 2000000 in
theorem depCheck_any (d : PrgD) (w : World) (hR : PrgR w w.heap.size d) :
  Calls Tryz.prog 63 #[PrgD.v d] w fun e w' => e = .returned (.tuple #[.int .i64 (zDb d).1, .int .i64 (zDb d).2]) ∧ Below w.heap.size w w' := by
 obtain ⟨N, hN⟩ : ∃ N, w.heap.size = N := ⟨_, rfl⟩
 rw [hN] at hR ⊢
 have F0 := Fr.start w
 rw [hN] at F0
 have HR := Hd hR
 have HF0 := Hd F0
 have hdl := hR.dep.len
 have hdc := hR.dep.le
 have hcm := hR.dep.cap
 unfold maxLen at hcm
 clear hR F0
 unfold PrgD.v PrgD.vs
 by_cases c1 : 8 < d.dep.l.length
 ·have c1' : decide ((8 : Int) < d.dep.l.length) = true := by simp; omega
  have HV := Hd (show zDb d = (-1, 12) by unfold zDb; rw [if_pos c1])
  clear c1
  go_enter Tryz.func63, Tryz.ntmps63
  go_wp2_with fail
  go_returns
  rw [← hN]
  exact ⟨by rw [HV.out]; try rfl, by (first | (refine zca ?_ _; go_grown; done) | (go_grown; done))⟩
 ·have c1' : decide ((8 : Int) < d.dep.l.length) = false := by simp; omega
  have HVs := Hd fun (k : Nat) (e : Int × Int) => depCheck_some (d := d) (by omega) (k := k) (e := e)
  have HVn := Hd (depCheck_none (d := d) (by omega))
  have h8 : d.dep.l.length ≤ 8 := by omega
  clear c1
  obtain ⟨A0, hA0⟩ : ∃ A, d.dep.a = A := ⟨_, rfl⟩
  have HA0 := Hd hA0
  rw [hA0]
  clear hA0
  go_enter Tryz.func63, Tryz.ntmps63
  go_wp2_with fail
  refine zfa ?_
  intro W1 hW1
  have F1 := (HF0.out.alloc _ _).of_eq hW1
  simp only [hN] at F1
  obtain ⟨L, hL, F1⟩ := F1.name
  have HL := Hd hL
  have HF1 := Hd F1
  clear hW1 F1 hL
  go_loopw [13] (fun i wr => ∃ k : Nat, k ≤ d.dep.l.length ∧ i = .int .i64 k ∧ (∀ j, j < k → zpf d j = none) ∧ Fr N w wr L) (fun i _ => d.dep.l.length - (intOf i).toNat)
  case atStart => exact ⟨0, Nat.zero_le _, rfl, fun j hj => absurd hj (by omega), HF1.out⟩
  case round =>
   obtain ⟨k, hk, rfl, hall, F⟩ := hrel
   have HAl := Hd hall
   have HF := Hd F
   clear F hall
   obtain ⟨g0, l0, f0⟩ := HF.out.c0 HL.out
   dsimp only at g0 l0 f0
   by_cases hlt : k < d.dep.l.length
   ·obtain ⟨b2, off2, x, hA2, hb2, hx, _, hc2⟩ := HF.out.at_ HR.out.dep (fun _ => rfl) (by omega) hlt
    have p0 := hc2 0 _ rfl
    simp only [Nat.add_zero, Nat.mul_one] at p0
    have HSc := Hd (depScan_at d hx)
    obtain rfl : A0 = some ⟨b2, off2, none⟩ := HA0.out.symm.trans hA2
    clear hA2
    have hk1 : (k : Int) < d.dep.l.length := by omega
    have hk0 : (0 : Int) ≤ k := by omega
    have hkc : (k : Int) ≤ d.dep.c := by omega
    clear hc2 hx
    by_cases c3 : x < 0
    ·have HV2 := Hd (HVs.out k _ hlt HAl.out (HSc.out.trans (if_pos (.inl c3))))
     go_wp2_with fail
     go_returns
     exact ⟨by rw [HV2.out]; try rfl, HF.out.below⟩
    ·have c3' : decide (x < 0) = false := by simp; omega
     by_cases c4 : (d.hZ.l.length : Int) ≤ x
     ·have HV2 := Hd (HVs.out k _ hlt HAl.out (HSc.out.trans (if_pos (.inr c4))))
      go_wp2_with fail
      go_returns
      exact ⟨by rw [HV2.out]; try rfl, HF.out.below⟩
     ·have c4' : decide ((d.hZ.l.length : Int) ≤ x) = false := by simp; omega
      have HSd := Hd (HSc.out.trans (if_neg (by omega)))
      have HCt := Hd (zWf ⟨d.dep.a, d.dep.c, d.dep.l.take k⟩ x wr ((HF.out.slr HR.out.dep).take_ (fun _ => rfl) k (by omega)))
      simp only [List.length_take, Nat.min_eq_left hk] at HCt
      rw [any_contains, HA0.out] at HCt
      clear c3 c4
      go_wp2_with fail
      refine HCt.out.mono ?_
      rintro e w5 ⟨rfl, hw5⟩
      subst hw5
      obtain ⟨q, hq⟩ : ∃ q, (d.dep.l.take k).contains x = q := ⟨_, rfl⟩
      have hv := HSd.out
      rw [hq] at hv ⊢
      have HSe := Hd hv
      clear hv hq
      cases q with
      | true =>
       have HV2 := Hd (HVs.out k _ hlt HAl.out (HSe.out.trans rfl))
       go_wp2_with fail
       go_returns
       exact ⟨by rw [HV2.out]; try rfl, HF.out.below⟩
      | false =>
       have HNn := Hd (HSe.out.trans rfl)
       go_wp2_with fail
       go_roundw
       case rel => exact ⟨k + 1, by omega, by go_num, fun j hj => by rcases Nat.lt_succ_iff_lt_or_eq.1 hj with h | h; exact HAl.out j h; rw [h]; exact HNn.out, HF.out⟩
       case measure => simp [intOf]; omega
   ·obtain rfl : k = d.dep.l.length := by omega
    have HV2 := Hd (HVn.out (fun i hi => HAl.out i hi))
    clear hlt
    go_wp2_with fail
    go_returns
    exact ⟨by rw [HV2.out]; try rfl, HF.out.below⟩
end Go.Proofs.YtakgiamhdpgoeaaGreat
