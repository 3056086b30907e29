/- Lemmas. -/
import Derived.Test.YtakgiamhdpgoeaaGreatP31
set_option linter.unusedSimpArgs false
namespace Go.Proofs.YtakgiamhdpgoeaaGreat
open Go.RowKit
set_option linter.unusedVariables false
def sameB (a b : PlcM) : Bool := ((((a.status == b.status) && eqZ a.stage b.stage) && (a.steps == b.steps)) && (a.reason == b.reason)) && eqZ a.units b.units
theorem zae (a : PlcM) : sameB a a = true := by unfold sameB eqZ; simp
set_option maxRecDepth 100000 in
set_option maxHeartbeats 2000000 in
theorem same_any (r v : PlcM) (sa ua ta xa : Option Addr) (sc uc tc xc : Nat) (w : World) (h1 : SLR w w.heap.size 1 intE (fun _ => True) ⟨sa, sc, r.stage⟩) (h2 : SLR w w.heap.size 1 intE (fun _ => True) ⟨ua, uc, r.units⟩)
  (h3 : SLR w w.heap.size 1 intE (fun _ => True) ⟨ta, tc, v.stage⟩) (h4 : SLR w w.heap.size 1 intE (fun _ => True) ⟨xa, xc, v.units⟩) :
  Calls Tryz.prog 12 #[plcV r sa sc ua uc, plcV v ta tc xa xc] w fun e w' => e = .returned (.bool (sameB r v)) ∧ Below w.heap.size w w' := by
 obtain ⟨N, hN⟩ : ∃ N, w.heap.size = N := ⟨_, rfl⟩
 rw [hN] at h1 h2 h3 h4 ⊢
 have F0 := Fr.start w
 rw [hN] at F0
 have HF0 := Hd F0
 have H1 := Hd h1
 have H2 := Hd h2
 have H3 := Hd h3
 have H4 := Hd h4
 clear h1 h2 h3 h4 F0
 obtain ⟨q1, e1⟩ : ∃ q, (r.status == v.status) = q := ⟨_, rfl⟩
 obtain ⟨q2, e2⟩ : ∃ q, eqZ r.stage v.stage = q := ⟨_, rfl⟩
 obtain ⟨q3, e3⟩ : ∃ q, (r.steps == v.steps) = q := ⟨_, rfl⟩
 obtain ⟨q4, e4⟩ : ∃ q, (r.reason == v.reason) = q := ⟨_, rfl⟩
 obtain ⟨q5, e5⟩ : ∃ q, eqZ r.units v.units = q := ⟨_, rfl⟩
 have HV := Hd (show sameB r v = ((((q1 && q2) && q3) && q4) && q5) by unfold sameB; rw [e1, e2, e3, e4, e5])
 have E2 := Hd e2
 have E5 := Hd e5
 rw [HV.out]
 clear e2 e5
 unfold plcV
 cases q1 with
 | false =>
  clear e3 e4
  go_enter Tryz.func12, Tryz.ntmps12
  go_wp2_with fail
  go_returns
  exact ⟨rfl, by rw [← hN]; (first | (refine zca ?_ _; go_grown; done) | (go_grown; done))⟩
 | true =>
  go_enter Tryz.func12, Tryz.ntmps12
  go_wp2_with fail
  refine Calls.named ?_
  intro W hW
  have F1 := ((HF0.out.alloc _ _).alloc _ _).of_eq hW
  simp only [World.size_alloc, hN] at F1
  obtain ⟨L, hL, F1⟩ := F1.name
  have HL := Hd hL
  have HF1 := Hd F1
  clear F1 hL hW
  with_reducible refine (zxe ⟨sa, sc, r.stage⟩ ⟨ta, tc, v.stage⟩ W (HF1.out.slr H1.out) (HF1.out.slr H3.out)).mono ?_
  rintro e w2 ⟨rfl, hb⟩
  have HF2 := Hd (HF1.out.call hb)
  clear hb
  rw [E2.out]
  obtain ⟨g0, l0, f0⟩ := HF2.out.c0 HL.out
  obtain ⟨g1, l1, f1⟩ := HF2.out.c1 HL.out
  dsimp only at g0 l0 f0 g1 l1 f1
  cases q2 with
  | false =>
   clear e3 e4
   go_wp2_with fail
   go_returns
   exact ⟨rfl, HF2.out.below⟩
  | true =>
   cases q3 with
   | false =>
    clear e4
    go_wp2_with fail
    go_returns
    exact ⟨rfl, HF2.out.below⟩
   | true =>
    cases q4 with
    | false =>
     go_wp2_with fail
     go_returns
     exact ⟨rfl, HF2.out.below⟩
    | true =>
     go_wp2_with fail
     with_reducible refine (zxe ⟨ua, uc, r.units⟩ ⟨xa, xc, v.units⟩ w2 (HF2.out.slr H2.out) (HF2.out.slr H4.out)).mono ?_
     rintro e w3 ⟨rfl, hb⟩
     have HF3 := Hd (HF2.out.call hb)
     clear hb
     rw [E5.out]
     clear g0 l0 f0 g1 l1 f1
     cases q5
     all_goals
      go_wp2_with fail
      go_returns
      exact ⟨rfl, HF3.out.below⟩
open Go.RowKit
set_option maxRecDepth 100000 in
set_option maxHeartbeats 4000000 in
theorem build_any (d : PrgD) (w : World) (hR : PrgR w w.heap.size d) (hC : PrgC d) :
  Calls Tryz.prog 33 #[PrgD.v d] w fun e w' => (∃ us : SL UnitD, e = .returned (.slice us.a us.l.length us.c) ∧ SLR w' w'.heap.size 3 UnitD.enc (UnitD.ok w' w'.heap.size) us ∧ us.l.map UnitD.m = zed d) ∧ Below w.heap.size w w' := by
 obtain ⟨N, hN⟩ : ∃ N, w.heap.size = N := ⟨_, rfl⟩
 rw [hN] at hR ⊢
 have F0 := Fr.start w
 rw [hN] at F0
 have HF0 := Hd F0
 have HR := Hd hR
 obtain ⟨hn24, hc24⟩ := ctlC_of hC.cc
 have hcc : (zWa d).2 = 0 := by rw [zmf (by omega)]; exact hC.cc
 have HCC := Hd hcc
 have HC24 := Hd hc24
 have htl := hC.t
 have HV := Hd (show zed d = nodsU d.cZ.l [] 0 by unfold zed; rw [if_pos hC.cc])
 obtain ⟨vU, hvU⟩ : ∃ z, zed d = z := ⟨_, rfl⟩
 rw [hvU] at HV ⊢
 have hmf : ∀ (fn : Fn) (first cap : Array Value) (w : World), (Instr.makeFunc fn first cap).run Tryz.prog w = .ok (.func fn first cap) w := fun _ _ _ _ => rfl
 clear hR F0 hcc hc24 hC hvU
 unfold PrgD.v PrgD.vs
 go_enter Tryz.func33, Tryz.ntmps33
 go_wp2_with fail
 refine Calls.named ?_
 intro W hW
 have F1 := (HF0.out.alloc _ _).of_eq hW
 simp only [hN] at F1
 obtain ⟨L, hL, F1⟩ := F1.name
 have HL := Hd hL
 have HF1 := Hd F1
 clear F1 hL hW
 with_reducible refine (znf d W (HF1.out.prg HR.out) (by omega)).mono ?_
 rintro e w1 ⟨rfl, hb1⟩
 have HF2 := Hd (HF1.out.call hb1)
 clear hb1 HF1
 rw [HCC.out]
 obtain ⟨z, hz⟩ : ∃ z, (zWa d).1 = z := ⟨_, rfl⟩
 rw [hz]
 clear hz
 obtain ⟨g0, l0, f0⟩ := HF2.out.c0 HL.out
 dsimp only at g0 l0 f0
 go_wp2_with fail
 refine Calls.named ?_
 intro W2 hW2
 obtain ⟨q, hq⟩ : ∃ z, w1.heap.size = z := ⟨_, rfl⟩
 have hNq : N ≤ q := by rw [← hq]; exact HF2.out.le
 have F2 := ((HF2.out.alloc _ _).alloc _ _).of_eq hW2
 simp only [World.size_alloc, hq] at F2 ⊢
 have HF3 := Hd F2.below
 have hc := HF2.out.prg HR.out
 have HCt := Hd ((HR.out.below F2.below).cZ)
 have HUB := Hd (show UB N q (q + 1) none 0 [] W2 from ⟨hNq, Nat.lt_succ_self _, (F2.blk _ (.tail _ (.head _))).2, Own.none_ _ _ _ _, (F2.blk _ (.head _)).2, fun u hu => absurd hu (by simp)⟩)
 have hN2 := F2.le
 clear g0 l0 f0
 clear F2 hW2 hc
 have hcon := visit_any N q (q + 1) ((zda d.cZ.l).length + 1) d.cZ ⟨none, 0, []⟩ [] none 0 W2 (Nat.lt_succ_self _) HCt.out (fun y hy hk => by have := HC24.out y hy hk; omega) (by simp; omega) SLP.nil_ (by simp; omega) HUB.out hN2
 dsimp only [List.length_nil] at hcon
 have HCon := Hd hcon
 clear hcon
 with_reducible refine HCon.out.mono ?_
 rintro e w3 ⟨rfl, A3, c3, l3, hU3, hl3, hs3, hk3⟩
 rw [List.nil_append] at hU3
 have HU3 := Hd hU3
 have HV3 := Hd (hl3.trans HV.out.symm)
 have HB3 := Hd (HF3.out.trans (hk3.below (B := N) (fun k hk => (HUB.out.foot hk).1) hN2))
 have g3 : w3.cell? ⟨q, 0, none⟩ = some (.slice A3 l3.length c3) := hU3.box.cell 0
 clear hU3 hl3 hs3 hk3
 go_wp2_with fail
 go_returns
 refine ⟨⟨⟨A3, c3, l3⟩, rfl, ?_, HV3.out⟩, HB3.out⟩
 have h1 := OwnU_slr HU3.out.own
 exact ⟨h1.le, h1.cap, h1.rd, fun u hu => ⟨(HU3.out.ok u hu).2, (HU3.out.ok u hu).1.cond.slr, (HU3.out.ok u hu).1.guards.slr⟩⟩
open Go.RowKit
section
variable {P : Program} {a : Act} {w : World} {Q : Exit → Act → World → Prop}
theorem zKe {c R : Code} (l : Nat) (J : Act → World → Prop) (μ : Act → World → Nat) (hf : findLabel c l = some (.seq .skip R))
  (first : ∀ Q0 : Exit → Act → World → Prop, (∀ a w, J a w → R.wp P Q0 a w) → c.wp P Q0 a w)
  (pass : ∀ a w, J a w → R.wp P (Exit.jump l (fun a' w' => J a' w' ∧ μ a' w' < μ a w) Q) a w) : (Code.scope c).wp P Q a w := by
 refine wp_scope_jumps l J μ hf (first _ fun a w hJ => ?_) fun a w hJ => ?_
 ·refine Code.wp_mono ?_ (pass a w hJ)
  intro e a' w' h
  cases e with
  | goto l' => exact ⟨h.1, h.2.1⟩
  | normal => exact h
  | exit id => exact h
  | ret => exact h
  | panic ch => exact h
  | outgrown => exact h
 ·exact wp_seq (wp_skip (pass a w hJ))
end
def useCell (u : Use) (r : Nat) : Value := if r = 0 then .int .i64 u.tZ else if r = 1 then .int .i64 u.gates else if r = 2 then .int .i64 u.sram else .int .i64 u.tcam
def zag (F : Nat → Use) (q : Nat) : Value := useCell (F (q / 4)) (q % 4)
theorem useRow_at (F : Nat → Use) (s : Nat) : zag F (s * 4) = .int .i64 (F s).tZ ∧ zag F (s * 4 + 1) = .int .i64 (F s).gates ∧ zag F (s * 4 + 2) = .int .i64 (F s).sram ∧ zag F (s * 4 + 3) = .int .i64 (F s).tcam := by
 unfold zag useCell
 rw [show s * 4 / 4 = s by omega, show s * 4 % 4 = 0 by omega, show (s * 4 + 1) / 4 = s by omega, show (s * 4 + 1) % 4 = 1 by omega, show (s * 4 + 2) / 4 = s by omega, show (s * 4 + 2) % 4 = 2 by omega, show (s * 4 + 3) / 4 = s by omega, show (s * 4 + 3) % 4 = 3 by omega]
 exact ⟨rfl, rfl, rfl, rfl⟩
theorem useRow_set {W : World} {g s : Nat} {t : TypeId} {F : Nat → Use} (h : Blk W g t (rowF 64 (zag F))) (v : Use) :
  Blk ((((W.setCell ⟨g, s * 4, none⟩ (.int .i64 v.tZ)).setCell ⟨g, s * 4 + 1, none⟩ (.int .i64 v.gates)).setCell ⟨g, s * 4 + 2, none⟩ (.int .i64 v.sram)).setCell ⟨g, s * 4 + 3, none⟩ (.int .i64 v.tcam)) g t (rowF 64 (zag fun k => if k = s then v else F k)) := by
 have h1 := (((h.set_ (s * 4) (.int .i64 v.tZ)).set_ (s * 4 + 1) (.int .i64 v.gates)).set_ (s * 4 + 2) (.int .i64 v.sram)).set_ (s * 4 + 3) (.int .i64 v.tcam)
 rw [zXc, zXc, zXc, zXc] at h1
 refine Eq.mp (congrArg (Blk _ _ _) (zDa fun q _ => ?_)) h1
 unfold zag useCell
 dsimp only
 by_cases c3 : q = s * 4 + 3
 ·subst c3
  rw [if_pos rfl, show (s * 4 + 3) / 4 = s by omega, show (s * 4 + 3) % 4 = 3 by omega, if_pos rfl]; rfl
 ·rw [if_neg c3]
  by_cases c2 : q = s * 4 + 2
  ·subst c2
   rw [if_pos rfl, show (s * 4 + 2) / 4 = s by omega, show (s * 4 + 2) % 4 = 2 by omega, if_pos rfl]; rfl
  ·rw [if_neg c2]
   by_cases c1 : q = s * 4 + 1
   ·subst c1
    rw [if_pos rfl, show (s * 4 + 1) / 4 = s by omega, show (s * 4 + 1) % 4 = 1 by omega, if_pos rfl]; rfl
   ·rw [if_neg c1]
    by_cases c0 : q = s * 4
    ·subst c0
     rw [if_pos rfl, show s * 4 / 4 = s by omega, show s * 4 % 4 = 0 by omega]; simp
    ·rw [if_neg c0, if_neg (by omega : ¬ q / 4 = s)]
section
variable {W : World} {x g : Nat} {t : TypeId} {cs : Array Value}
theorem zHc (h : Blk W x t cs) (hne : x ≠ g) (a b c d : Nat) (v0 v1 v2 v3 : Value) : Blk ((((W.setCell ⟨g, a, none⟩ v0).setCell ⟨g, b, none⟩ v1).setCell ⟨g, c, none⟩ v2).setCell ⟨g, d, none⟩ v3) x t cs :=
 zka (zka (zka (zka h hne a v0) hne b v1) hne c v2) hne d v3
theorem Fr.other4 {N : Nat} {w : World} (h : Fr N w W []) (hN : N ≤ g) (a b c d : Nat) (v0 v1 v2 v3 : Value) : Fr N w ((((W.setCell ⟨g, a, none⟩ v0).setCell ⟨g, b, none⟩ v1).setCell ⟨g, c, none⟩ v2).setCell ⟨g, d, none⟩ v3) [] :=
 have hno : ∀ y ∈ ([] : List (Nat × TypeId × Array Value)), y.1 ≠ g := fun y hy => absurd hy (by simp)
 (((h.other hN hno a v0).other hN hno b v1).other hN hno c v2).other hN hno d v3
end
structure Sea (N : Nat) (w : World) (J : JobM) (n gR gU gS : Nat) (pre : List Int) (f : Nat → Int) (W : World) : Prop where
 res : Blk W gR 40 #[.int .i64 0, .slice none 0 0, .int .i64 0, .int .i64 0, .slice none 0 0]
 used : Blk W gU 113 (rowF 64 (zag fun t => J.use pre (t : Int)))
 stg : Blk W gS 3 (rowZ n f)
 ok : ∀ k x, pre[k]? = some x → f k = x
 ff : Fr N w W []
 n1 : N ≤ gR
 n2 : gR < gU
 n3 : gU < gS
section
variable {N : Nat} {w W W' : World} {J : JobM} {n gR gU gS : Nat} {pre : List Int} {f : Nat → Int}
theorem Sea.below (h : Sea N w J n gR gU gS pre f W) (hb : Below W.heap.size W W') : Sea N w J n gR gU gS pre f W' :=
 ⟨h.res.below hb h.res.lt, h.used.below hb h.used.lt, h.stg.below hb h.stg.lt, h.ok, h.ff.call hb, h.n1, h.n2, h.n3⟩
theorem Sea.uses (h : Sea N w J n gR gU gS pre f W) {s : Nat} (hs : s < 16) : W.cell? ⟨gU, s * 4, none⟩ = some (.int .i64 (J.use pre s).tZ) ∧ W.cell? ⟨gU, s * 4 + 1, none⟩ = some (.int .i64 (J.use pre s).gates) ∧
  W.cell? ⟨gU, s * 4 + 2, none⟩ = some (.int .i64 (J.use pre s).sram) ∧ W.cell? ⟨gU, s * 4 + 3, none⟩ = some (.int .i64 (J.use pre s).tcam) := by
 obtain ⟨e0, e1, e2, e3⟩ := useRow_at (fun t => J.use pre (t : Int)) s
 refine ⟨?_, ?_, ?_, ?_⟩
 ·rw [h.used.cell, zbb (by omega), e0]
 ·rw [h.used.cell, zbb (by omega), e1]
 ·rw [h.used.cell, zbb (by omega), e2]
 ·rw [h.used.cell, zbb (by omega), e3]
theorem Sea.put (h : Sea N w J n gR gU gS pre f W) {s : Nat} (v : Use) {pre' : List Int} (hu : ∀ t : Nat, J.use pre' (t : Int) = if t = s then v else J.use pre (t : Int)) {f' : Nat → Int} {i : Nat} {x : Int} (hf : ∀ k, k < n → (if k = i then x else f k) = f' k) (ho : ∀ k x, pre'[k]? = some x → f' k = x) :
  Sea N w J n gR gU gS pre' f' (((((W.setCell ⟨gU, s * 4, none⟩ (.int .i64 v.tZ)).setCell ⟨gU, s * 4 + 1, none⟩ (.int .i64 v.gates)).setCell ⟨gU, s * 4 + 2, none⟩ (.int .i64 v.sram)).setCell ⟨gU, s * 4 + 3, none⟩ (.int .i64 v.tcam)).setCell ⟨gS, i, none⟩ (.int .i64 x)) := by
 have n1 := h.n1; have n2 := h.n2; have n3 := h.n3
 have hg : ∀ k, (fun t : Nat => J.use pre' (t : Int)) k = (fun k => if k = s then v else (fun t : Nat => J.use pre (t : Int)) k) k := fun k => hu k
 refine ⟨zka (zHc h.res (by omega) _ _ _ _ _ _ _ _) (by omega) _ _, ?_, ?_, ho, (h.ff.other4 (by omega) _ _ _ _ _ _ _ _).other (by omega) (fun y hy => absurd hy (by simp)) _ _, n1, n2, n3⟩
 ·rw [show (fun t : Nat => J.use pre' (t : Int)) = _ from funext hg]
  exact zka (useRow_set h.used v) (by omega) _ _
 ·have := (zHc (g := gU) h.stg (by omega) (s * 4) (s * 4 + 1) (s * 4 + 2) (s * 4 + 3) (.int .i64 v.tZ) (.int .i64 v.gates) (.int .i64 v.sram) (.int .i64 v.tcam)).set_ i (.int .i64 x)
  rw [rowZ_set] at this
  exact Eq.mp (congrArg (Blk _ _ _) (zDa fun k hk => by have := hf k hk; dsimp only; rw [this])) this
theorem Sea.putU (h : Sea N w J n gR gU gS pre f W) {s : Nat} (v : Use) {pre' : List Int} (hu : ∀ t : Nat, J.use pre' (t : Int) = if t = s then v else J.use pre (t : Int)) (ho : ∀ k x, pre'[k]? = some x → f k = x) :
  Sea N w J n gR gU gS pre' f ((((W.setCell ⟨gU, s * 4, none⟩ (.int .i64 v.tZ)).setCell ⟨gU, s * 4 + 1, none⟩ (.int .i64 v.gates)).setCell ⟨gU, s * 4 + 2, none⟩ (.int .i64 v.sram)).setCell ⟨gU, s * 4 + 3, none⟩ (.int .i64 v.tcam)) := by
 have n1 := h.n1; have n2 := h.n2; have n3 := h.n3
 have hg : ∀ k, (fun t : Nat => J.use pre' (t : Int)) k = (fun k => if k = s then v else (fun t : Nat => J.use pre (t : Int)) k) k := fun k => hu k
 refine ⟨zHc h.res (by omega) _ _ _ _ _ _ _ _, ?_, zHc h.stg (by omega) _ _ _ _ _ _ _ _, ho, h.ff.other4 (by omega) _ _ _ _ _ _ _ _, n1, n2, n3⟩
 rw [show (fun t : Nat => J.use pre' (t : Int)) = _ from funext hg]
 exact useRow_set h.used v
theorem Sea.slr (h : Sea N w J n gR gU gS pre f W) (hn : n ≤ 1000) : SLR W W.heap.size 1 intE (fun _ => True) ⟨some ⟨gS, 0, none⟩, n, (List.range n).map f⟩ := by
 have e : ((List.range n).map f).length = n := by simp
 have := zoa (α := Int) (size := 1) (enc := intE) (ok := fun _ => True) h.stg h.stg.lt ((List.range n).map f) (by
  show (rowF n fun k => Value.int .i64 (f k)).toList = _
  unfold rowF intE
  rw [ztf (f := fun x : Int => Value.int .i64 x), List.map_map, List.toList_toArray]
  rfl) zna (by rw [e]; unfold maxLen; omega) (fun _ _ => trivial)
 rwa [e] at this
end
theorem follows_congr {J : JobM} {a b : List Int} {unit : Nat} {s : Int} (h : ∀ i, i < unit → a.getD i 0 = b.getD i 0) : J.follows a unit s = J.follows b unit s := by
 unfold JobM.follows
 rw [Bool.eq_iff_iff, List.all_eq_true, List.all_eq_true]
 constructor
 ·intro hh i hi; rw [← h i (List.mem_range.1 hi)]; exact hh i hi
 ·intro hh i hi; rw [h i (List.mem_range.1 hi)]; exact hh i hi
def seaFr (g b n gR gU gS : Nat) (p s k : Int) (U : Nat → Value) : Act :=
 { tmps := #[.pointer (some ⟨g, 0, none⟩), .int .i64 b, U 2, U 3, .pointer (some ⟨gR, 0, none⟩), .pointer (some ⟨gU, 0, none⟩), .slice (some ⟨gS, 0, none⟩) n n, .int .i64 p, .int .i64 s, .int .i64 k, U 10, U 11, U 12, U 13, U 14, U 15, U 16, U 17, U 18, U 19, U 20, U 21, U 22, U 23, U 24, U 25, U 26, U 27, U 28, U 29, U 30, U 31, U 32, U 33, U 34, U 35, U 36, U 37, U 38, U 39, U 40, U 41, U 42, U 43, U 44, U 45, U 46, U 47, U 48, U 49, U 50, U 51, U 52, U 53, U 54, U 55, U 56, U 57, U 58, U 59, U 60, U 61, U 62, U 63, U 64, U 65, U 66, U 67, U 68, U 69, U 70, U 71, U 72, U 73, U 74, U 75, U 76, U 77, U 78, U 79, U 80, U 81, U 82, U 83, U 84, U 85, U 86, U 87, U 88, U 89, U 90], defers := [] }
def SeaJ (N : Nat) (w : World) (J : JobM) (g b n gR gU gS : Nat) (a' : Act) (w' : World) : Prop :=
 ∃ (pre : List Int) (f : Nat → Int) (s k : Nat) (U : Nat → Value), a' = seaFr g b n gR gU gS pre.length s k U ∧ Sea N w J n gR gU gS pre f w' ∧ pre.length ≤ n ∧ (s : Int) ≤ J.chip.stages ∧ k ≤ b ∧ (∀ x ∈ pre, 0 ≤ x ∧ x < J.chip.stages) ∧ ∀ r, Srch J b pre s k r → Srch J b [] 0 0 r
theorem SeaJ.mk_ {N : Nat} {w : World} {J : JobM} {g b n gR gU gS : Nat} (a' : Act) (w' : World) (pre : List Int) (f : Nat → Int) (s k : Nat) (pz sz kz : Int) (h : a' = seaFr g b n gR gU gS pz sz kz (fun i => a'.tmps.getD i undef)) (hp : pz = pre.length) (hs : sz = s) (hk : kz = k) (h1 : Sea N w J n gR gU gS pre f w') (h2 : pre.length ≤ n) (h3 : (s : Int) ≤ J.chip.stages) (h4 : k ≤ b)
  (h5 : ∀ x ∈ pre, 0 ≤ x ∧ x < J.chip.stages) (h6 : ∀ r, Srch J b pre s k r → Srch J b [] 0 0 r) : SeaJ N w J g b n gR gU gS a' w' := by
 subst hp hs hk
 exact ⟨pre, f, s, k, _, h, h1, h2, h3, h4, h5, h6⟩
theorem set5 {w : World} {g : Nat} {t : TypeId} {a b c d e : Value} (h : Blk w g t #[a, b, c, d, e]) (v0 v1 v2 v3 v4 : Value) :
  (∀ i, w.cell? ⟨g, i, none⟩ = #[a, b, c, d, e][i]?) ∧ (∀ i, w.frozen? ⟨g, i, none⟩ = false) ∧
  (∀ i, (w.setCell ⟨g, 0, none⟩ v0).cell? ⟨g, i, none⟩ = #[v0, b, c, d, e][i]?) ∧ (∀ i, (w.setCell ⟨g, 0, none⟩ v0).frozen? ⟨g, i, none⟩ = false) ∧
  (∀ i, ((w.setCell ⟨g, 0, none⟩ v0).setCell ⟨g, 1, none⟩ v1).cell? ⟨g, i, none⟩ = #[v0, v1, c, d, e][i]?) ∧ (∀ i, ((w.setCell ⟨g, 0, none⟩ v0).setCell ⟨g, 1, none⟩ v1).frozen? ⟨g, i, none⟩ = false) ∧
  (∀ i, (((w.setCell ⟨g, 0, none⟩ v0).setCell ⟨g, 1, none⟩ v1).setCell ⟨g, 2, none⟩ v2).cell? ⟨g, i, none⟩ = #[v0, v1, v2, d, e][i]?) ∧ (∀ i, (((w.setCell ⟨g, 0, none⟩ v0).setCell ⟨g, 1, none⟩ v1).setCell ⟨g, 2, none⟩ v2).frozen? ⟨g, i, none⟩ = false) ∧
  (∀ i, ((((w.setCell ⟨g, 0, none⟩ v0).setCell ⟨g, 1, none⟩ v1).setCell ⟨g, 2, none⟩ v2).setCell ⟨g, 3, none⟩ v3).cell? ⟨g, i, none⟩ = #[v0, v1, v2, v3, e][i]?) ∧ (∀ i, ((((w.setCell ⟨g, 0, none⟩ v0).setCell ⟨g, 1, none⟩ v1).setCell ⟨g, 2, none⟩ v2).setCell ⟨g, 3, none⟩ v3).frozen? ⟨g, i, none⟩ = false) ∧
  (∀ i, (((((w.setCell ⟨g, 0, none⟩ v0).setCell ⟨g, 1, none⟩ v1).setCell ⟨g, 2, none⟩ v2).setCell ⟨g, 3, none⟩ v3).setCell ⟨g, 4, none⟩ v4).cell? ⟨g, i, none⟩ = #[v0, v1, v2, v3, v4][i]?) := by
 have h0 : Blk _ g t #[v0, b, c, d, e] := h.set_ 0 v0
 have h1 : Blk _ g t #[v0, v1, c, d, e] := h0.set_ 1 v1
 have h2 : Blk _ g t #[v0, v1, v2, d, e] := h1.set_ 2 v2
 have h3 : Blk _ g t #[v0, v1, v2, v3, e] := h2.set_ 3 v3
 have h4 : Blk _ g t #[v0, v1, v2, v3, v4] := h3.set_ 4 v4
 exact ⟨h.cell, h.frozen, h0.cell, h0.frozen, h1.cell, h1.frozen, h2.cell, h2.frozen, h3.cell, h3.frozen, h4.cell⟩
theorem zUf {N g : Nat} {w0 w : World} (h : Below N w0 w) (hg : N ≤ g) (v0 v1 v2 v3 v4 : Value) : Below N w0 (((((w.setCell ⟨g, 0, none⟩ v0).setCell ⟨g, 1, none⟩ v1).setCell ⟨g, 2, none⟩ v2).setCell ⟨g, 3, none⟩ v3).setCell ⟨g, 4, none⟩ v4) :=
 ((((h.setCell (p := ⟨g, 0, none⟩) hg v0).setCell (p := ⟨g, 1, none⟩) hg v1).setCell (p := ⟨g, 2, none⟩) hg v2).setCell (p := ⟨g, 3, none⟩) hg v3).setCell (p := ⟨g, 4, none⟩) hg v4
theorem zcf {W : World} {x g : Nat} {t : TypeId} {cs : Array Value} (h : Blk W x t cs) (hne : x ≠ g) (v0 v1 v2 v3 v4 : Value) : Blk (((((W.setCell ⟨g, 0, none⟩ v0).setCell ⟨g, 1, none⟩ v1).setCell ⟨g, 2, none⟩ v2).setCell ⟨g, 3, none⟩ v3).setCell ⟨g, 4, none⟩ v4) x t cs :=
 zka (zHc h hne 0 1 2 3 v0 v1 v2 v3) hne 4 v4
theorem set4at {w : World} {g : Nat} {t : TypeId} {cs : Array Value} (h : Blk w g t cs) (o : Nat) (ho : o + 3 < cs.size) (v0 v1 v2 v3 : Value) :
  (∃ x, w.cell? ⟨g, o, none⟩ = some x) ∧ w.frozen? ⟨g, o, none⟩ = false ∧
  (∃ x, (w.setCell ⟨g, o, none⟩ v0).cell? ⟨g, o + 1, none⟩ = some x) ∧ (w.setCell ⟨g, o, none⟩ v0).frozen? ⟨g, o + 1, none⟩ = false ∧
  (∃ x, ((w.setCell ⟨g, o, none⟩ v0).setCell ⟨g, o + 1, none⟩ v1).cell? ⟨g, o + 2, none⟩ = some x) ∧ ((w.setCell ⟨g, o, none⟩ v0).setCell ⟨g, o + 1, none⟩ v1).frozen? ⟨g, o + 2, none⟩ = false ∧
  (∃ x, (((w.setCell ⟨g, o, none⟩ v0).setCell ⟨g, o + 1, none⟩ v1).setCell ⟨g, o + 2, none⟩ v2).cell? ⟨g, o + 3, none⟩ = some x) ∧ (((w.setCell ⟨g, o, none⟩ v0).setCell ⟨g, o + 1, none⟩ v1).setCell ⟨g, o + 2, none⟩ v2).frozen? ⟨g, o + 3, none⟩ = false := by
 have h0 := h.set_ o v0
 have h1 := h0.set_ (o + 1) v1
 have h2 := h1.set_ (o + 2) v2
 refine ⟨⟨_, (h.cell o).trans (Array.getElem?_eq_getElem (by omega))⟩, h.frozen _, ⟨_, (h0.cell (o + 1)).trans (Array.getElem?_eq_getElem (by simp; omega))⟩, h0.frozen _, ⟨_, (h1.cell (o + 2)).trans (Array.getElem?_eq_getElem (by simp; omega))⟩, h1.frozen _, ⟨_, (h2.cell (o + 3)).trans (Array.getElem?_eq_getElem (by simp; omega))⟩, h2.frozen _⟩
theorem Own.of_blk {w : World} {base g n size : Nat} {e : TypeId} {cs : Array Value} (h : Blk w g e cs) (hb : base ≤ g) (hm : n ≤ maxLen) (hs : cs.size = n * size) : Own w base e size (some ⟨g, 0, none⟩) n n cs.toList :=
 ⟨by simpa using hs, .inr ⟨g, n, cs, rfl, hb, h, Nat.le_refl _, hm, hs, List.take_of_length_le (by simp [hs])⟩⟩
theorem rowZ_list {f : Nat → Int} {l : List Int} (h : ∀ k x, l[k]? = some x → f k = x) : (rowZ l.length f).toList = l.flatMap intE := by
 have e : (List.range l.length).map f = l := by
  apply List.ext_getElem?
  intro k
  rw [List.getElem?_map]
  by_cases hk : k < l.length
  ·rw [List.getElem?_range hk, List.getElem?_eq_getElem hk]
   simp only [Option.map_some]
   rw [h k _ (List.getElem?_eq_getElem hk)]
  ·rw [List.getElem?_eq_none (by simp; omega), List.getElem?_eq_none (by omega)]; rfl
 show (rowF l.length fun k => Value.int .i64 (f k)).toList = _
 unfold rowF intE
 rw [ztf (f := fun x : Int => Value.int .i64 x), List.toList_toArray]
 conv => rhs; rw [← e]
 rw [List.map_map]; rfl
structure SeaB (N : Nat) (w : World) (J : JobM) (n gR gU gS : Nat) (pre : List Int) (f : Nat → Int) (M : Nat) (v : Use) (W : World) : Prop where
 s : Sea N w J n gR gU gS pre f W
 bx : Blk W M 71 (useC v)
theorem SeaB.call {N : Nat} {w W W' : World} {J : JobM} {n gR gU gS : Nat} {pre : List Int} {f : Nat → Int} {M : Nat} {v : Use} (h : SeaB N w J n gR gU gS pre f M v W) (hb : Below W.heap.size W W') : SeaB N w J n gR gU gS pre f M v W' := ⟨h.s.below hb, h.bx.below hb h.bx.lt⟩
theorem use_put {J : JobM} {pre : List Int} {s : Nat} : ∀ t : Nat, J.use (pre ++ [(s : Int)]) (t : Int) = if t = s then J.add (J.use pre s) pre.length else J.use pre t := by
 intro t
 rw [JobM.use_snoc]
 by_cases h : t = s
 ·subst h; rw [if_pos rfl, if_pos rfl]
 ·rw [if_neg h, if_neg (by omega)]
theorem use_back {J : JobM} {pre : List Int} {x : Nat} : ∀ t : Nat, J.use pre (t : Int) = if t = x then J.use pre x else J.use (pre ++ [(x : Int)]) t := by
 intro t
 rw [JobM.use_snoc]
 by_cases h : t = x
 ·subst h; rw [if_pos rfl]
 ·rw [if_neg h, if_neg (by omega)]
theorem alloc_used (w : World) : (Instr.alloc 113 true (.tuple #[])).run Tryz.prog w = .ok (.pointer (some ⟨w.heap.size, 0, none⟩)) (w.alloc (.cells (rowF 64 (zag fun _ => Use.zero)) 113)) := by kernel_rfl
theorem used_start (J : JobM) : (fun t : Nat => J.use [] (t : Int)) = fun _ => Use.zero := rfl
end Go.Proofs.YtakgiamhdpgoeaaGreat
