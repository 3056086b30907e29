/- Lemmas. -/
import Derived.Test.YtakgiamhdpgoeaaGreatP18
set_option linter.unusedSimpArgs false
namespace Go.Proofs.YtakgiamhdpgoeaaGreat
open Go.RowKit
set_option linter.unusedVariables false
structure ChipD where
 stages : Int
 tZ : Int
 gates : Int
 sram : Int
 tcam : Int
 c8 : Int
 c16 : Int
 c32 : Int
abbrev chipV (c : ChipD) : Value := .agg #[.int .i64 c.stages, .int .i64 c.tZ, .int .i64 c.gates, .int .i64 c.sram, .int .i64 c.tcam, .int .i64 c.c8, .int .i64 c.c16, .int .i64 c.c32]
structure zxa where
 unit : Int
 want : Bool
def zxa.enc (g : zxa) : List Value := [.int .i64 g.unit, .bool g.want]
structure UnitD where
 table : Int
 cond : SL ExD
 guards : SL zxa
abbrev unitV (u : UnitD) : Value := .agg #[.int .i64 u.table, .slice u.cond.a u.cond.l.length u.cond.c, .slice u.guards.a u.guards.l.length u.guards.c]
def zsd (a b : Int) : Int := if 9223372036854775807 - a < b then 9223372036854775807 else a + b
theorem satAdd_any (a b : Int) (ha : 0 ≤ a ∧ a ≤ 9223372036854775807) (hb : 0 ≤ b ∧ b ≤ 9223372036854775807) (w : World) :
  Calls Tryz.prog 108 #[.int .i64 a, .int .i64 b] w fun e w' => e = .returned (.int .i64 (zsd a b)) ∧ w = w' := by
 obtain ⟨ha0, ha1⟩ := ha
 obtain ⟨hb0, hb1⟩ := hb
 by_cases h : 9223372036854775807 - a < b
 ·have HV := Hd (show zsd a b = 9223372036854775807 from if_pos h)
  go_enter Tryz.func108, Tryz.ntmps108
  go_wp2_with fail
  go_returns
  exact ⟨by rw [HV.out]; try rfl, rfl⟩
 ·have HV := Hd (show zsd a b = a + b from if_neg h)
  have h1 : a + b ≤ 9223372036854775807 := by omega
  go_enter Tryz.func108, Tryz.ntmps108
  go_wp2_with fail
  go_returns
  exact ⟨by rw [HV.out]; try rfl, rfl⟩
theorem fits_any (s t : Int) (c : ChipD) (w : World) :
  Calls Tryz.prog 41 #[.agg #[.int .i64 s, .int .i64 t], chipV c] w fun e w' => e = .returned (.bool (decide (s ≤ c.sram) && decide (t ≤ c.tcam))) ∧ Below w.heap.size w w' := by
 obtain ⟨q1, h1⟩ : ∃ q, decide (s ≤ c.sram) = q := ⟨_, rfl⟩
 obtain ⟨q2, h2⟩ : ∃ q, decide (t ≤ c.tcam) = q := ⟨_, rfl⟩
 have HV := Hd (show (decide (s ≤ c.sram) && decide (t ≤ c.tcam)) = (q1 && q2) by rw [h1, h2])
 rw [HV.out]
 unfold chipV
 cases q1
 ·clear h2
  go_enter Tryz.func41, Tryz.ntmps41
  go_wp2_with fail
  go_returns
  exact ⟨rfl, by (first | (refine zca ?_ _; go_grown; done) | (go_grown; done))⟩
 ·go_enter Tryz.func41, Tryz.ntmps41
  go_wp2_with fail
  go_returns
  exact ⟨by simp, by (first | (refine zca ?_ _; go_grown; done) | (go_grown; done))⟩
def zuf (u : UnitD) (i : Int) : Bool := u.guards.l.any fun g => g.unit == i
set_option maxRecDepth 100000 in
theorem guarded_any (u : UnitD) (i : Int) (w : World) (hS : SLR w w.heap.size 2 zxa.enc (fun _ => True) u.guards) :
  Calls Tryz.prog 71 #[unitV u, .int .i64 i] w fun e w' => e = .returned (.bool (zuf u i)) ∧ Below w.heap.size w w' := by
 obtain ⟨N, hN⟩ : ∃ N, w.heap.size = N := ⟨_, rfl⟩
 rw [hN] at hS ⊢
 have F0 := Fr.start w
 rw [hN] at F0
 have HS := Hd hS
 have HF0 := Hd F0
 have hlen := hS.len
 have HV := Hd (show zuf u i = u.guards.l.any fun g => g.unit == i from rfl)
 obtain ⟨tb, cd, ⟨ga, gc, gl⟩⟩ := u
 simp only at HS HV hlen ⊢
 clear hS F0
 unfold unitV
 go_enter Tryz.func71, Tryz.ntmps71
 go_wp2_with fail
 refine zfa ?_
 intro W hW
 have F1 := (HF0.out.alloc _ _).of_eq hW
 simp only [hN] at F1
 obtain ⟨L, hL, F1⟩ := F1.name
 have HL := Hd hL
 have HF1 := Hd F1
 clear F1 hL hW
 go_loopw [10] (fun i' wr => ∃ k : Nat, k ≤ gl.length ∧ i' = .int .i64 k ∧ (∀ (j : Nat) (g : zxa), j < k → gl[j]? = some g → (g.unit == i) = false) ∧ Fr N w wr L) (fun i' _ => gl.length - (intOf i').toNat)
 case atStart => exact ⟨0, Nat.zero_le _, rfl, fun j x hj => absurd hj (by omega), HF1.out⟩
 case round =>
  obtain ⟨k, hk, rfl, hall, F⟩ := hrel
  have HAl := Hd hall
  have HF := Hd F
  clear F hall
  by_cases hlt : k < gl.length
  ·obtain ⟨b2, off2, x, hA2, hb2, hx, _, hc2⟩ := HF.out.at_ HS.out (fun _ => rfl) (by omega) hlt
   have p0 := hc2 0 _ rfl
   have p1 := hc2 1 _ rfl
   simp only [Nat.add_zero] at p0
   simp only at hA2
   have HX := Hd hx
   have hk1 : (k : Int) < gl.length := by omega
   obtain ⟨q, hq⟩ : ∃ q, (x.unit == i) = q := ⟨_, rfl⟩
   have HQ := Hd hq
   have HF4 := Hd (HF.out.alloc #[.int .i64 x.unit, .bool x.want] 148).skip
   subst hA2
   clear hc2 hx
   cases q with
   | true =>
    go_wp2_with fail
    go_returns
    exact ⟨by rw [HV.out, zie HX.out HQ.out]; try rfl, HF4.out.below⟩
   | false =>
    go_wp2_with fail
    go_roundw
    case rel => exact ⟨k + 1, by omega, by go_num, fun j x' hj hx' => by
     rcases Nat.lt_succ_iff_lt_or_eq.1 hj with h | h
     ·exact HAl.out j x' h hx'
     ·rw [h, HX.out] at hx'; injection hx' with hx'; rw [← hx']; exact HQ.out, HF4.out⟩
    case measure => simp [intOf]; omega
  ·obtain rfl : k = gl.length := by omega
   clear hlt
   go_wp2_with fail
   go_returns
   exact ⟨by rw [HV.out, zkd HAl.out]; try rfl, HF.out.below⟩
open Go.RowKit
def chipN (c : ChipD) : Nat → Int
 | 0 => c.tZ
 | 1 => c.gates
 | 2 => c.c8
 | 3 => c.c16
 | _ => c.c32
def bad64 (x : Int) : Bool := decide (x < 0) || decide (64 < x)
def zAa (c : ChipD) : Int :=
 if c.stages < 1 ∨ 16 < c.stages then 9 else if (List.range 5).any (fun k => bad64 (chipN c k)) then 9
 else if c.sram < 0 ∨ 4096 < c.sram ∨ c.tcam < 0 ∨ 4096 < c.tcam then 9 else 0
set_option maxRecDepth 100000 in
set_option maxHeartbeats 1000000 in
theorem zyc (c : ChipD) (w : World) : Calls Tryz.prog 13 #[chipV c] w fun e w' => e = .returned (.int .i64 (zAa c)) ∧ Below w.heap.size w w' := by
 obtain ⟨N, hN⟩ : ∃ N, w.heap.size = N := ⟨_, rfl⟩
 have F0 := Fr.start w
 rw [hN] at F0 ⊢
 have HF0 := Hd F0
 clear F0
 have HV := Hd (show zAa c = if c.stages < 1 ∨ 16 < c.stages then 9 else if (List.range 5).any (fun k => bad64 (chipN c k)) then 9
  else if c.sram < 0 ∨ 4096 < c.sram ∨ c.tcam < 0 ∨ 4096 < c.tcam then 9 else 0 from rfl)
 have HIx := Hd (show ∀ (k : Nat), k < 5 → ∀ w, (Instr.index 86 (.agg #[.int .i64 c.tZ, .int .i64 c.gates, .int .i64 c.c8, .int .i64 c.c16, .int .i64 c.c32]) (.int .i64 k)).run Tryz.prog w = .ok (.int .i64 (chipN c k)) w by
  intro k hk
  obtain rfl | rfl | rfl | rfl | rfl : k = 0 ∨ k = 1 ∨ k = 2 ∨ k = 3 ∨ k = 4 := by omega
  all_goals exact fun _ => by kernel_rfl)
 unfold chipV
 by_cases c1 : c.stages < 1
 ·have HV2 := Hd (HV.out.trans (if_pos (.inl c1)))
  go_enter Tryz.func13, Tryz.ntmps13
  go_wp2_with fail
  go_returns
  rw [← hN]
  exact ⟨by rw [HV2.out]; try rfl, by (first | (refine zca ?_ _; go_grown; done) | (go_grown; done))⟩
 ·have c1' : decide (c.stages < 1) = false := decide_eq_false c1
  by_cases c2 : 16 < c.stages
  ·have HV2 := Hd (HV.out.trans (if_pos (.inr c2)))
   go_enter Tryz.func13, Tryz.ntmps13
   go_wp2_with fail
   go_returns
   rw [← hN]
   exact ⟨by rw [HV2.out]; try rfl, by (first | (refine zca ?_ _; go_grown; done) | (go_grown; done))⟩
  ·have c2' : decide (16 < c.stages) = false := decide_eq_false c2
   have HV2 := Hd (HV.out.trans (if_neg (by omega)))
   clear c1 c2 HV
   go_enter Tryz.func13, Tryz.ntmps13
   go_wp2_with fail
   refine zfa ?_
   intro W hW
   have F1 := (HF0.out.alloc _ _).of_eq hW
   simp only [hN] at F1
   obtain ⟨L, hL, F1⟩ := F1.name
   have HL := Hd hL
   have HF1 := Hd F1
   clear F1 hL hW HF0
   go_loopw [24] (fun i wr => ∃ k : Nat, k ≤ 5 ∧ i = .int .i64 k ∧ (∀ j, j < k → bad64 (chipN c j) = false) ∧ Fr N w wr L) (fun i _ => 5 - (intOf i).toNat)
   case atStart => exact ⟨0, Nat.zero_le _, rfl, fun j hj => absurd hj (by omega), HF1.out⟩
   case round =>
    obtain ⟨k, hk, rfl, hall, F⟩ := hrel
    have HAl := Hd hall
    have HF := Hd F
    clear F hall
    obtain ⟨g0, l0, f0⟩ := HF.out.c0 HL.out
    dsimp only at g0 l0 f0
    by_cases hlt : k < 5
    ·have ix := HIx.out k hlt
     have hk1 : (k : Int) < 5 := by omega
     obtain ⟨x, hx⟩ : ∃ x, chipN c k = x := ⟨_, rfl⟩
     have HX := Hd hx
     rw [hx] at ix
     clear hx
     by_cases d1 : x < 0
     ·have HV3 := Hd (HV2.out.trans (if_pos (List.any_eq_true.2 ⟨k, List.mem_range.2 hlt, by rw [HX.out]; unfold bad64; simp [d1]⟩)))
      go_wp2_with fail
      go_returns
      exact ⟨by rw [HV3.out]; try rfl, HF.out.below⟩
     ·have d1' : decide (x < 0) = false := decide_eq_false d1
      by_cases d2 : 64 < x
      ·have HV3 := Hd (HV2.out.trans (if_pos (List.any_eq_true.2 ⟨k, List.mem_range.2 hlt, by rw [HX.out]; unfold bad64; simp [d2]⟩)))
       go_wp2_with fail
       go_returns
       exact ⟨by rw [HV3.out]; try rfl, HF.out.below⟩
      ·have d2' : decide (64 < x) = false := decide_eq_false d2
       have HB := Hd (show bad64 (chipN c k) = false by rw [HX.out]; unfold bad64; rw [d1', d2']; rfl)
       go_wp2_with fail
       go_roundw
       case rel => exact ⟨k + 1, by omega, by go_num, fun j hj => by rcases Nat.lt_succ_iff_lt_or_eq.1 hj with h | h; exact HAl.out j h; rw [h]; exact HB.out, HF.out⟩
       case measure => simp [intOf]; omega
    ·obtain rfl : k = 5 := by omega
     have HV3 := Hd (HV2.out.trans (if_neg (by
      rw [List.any_eq_true]
      rintro ⟨j, hj, hb⟩
      rw [HAl.out j (List.mem_range.1 hj)] at hb
      cases hb)))
     clear hlt
     by_cases e1 : c.sram < 0
     ·have HV4 := Hd (HV3.out.trans (if_pos (.inl e1)))
      go_wp2_with fail
      go_returns
      exact ⟨by rw [HV4.out]; try rfl, HF.out.below⟩
     ·have e1' : decide (c.sram < 0) = false := decide_eq_false e1
      by_cases e2 : 4096 < c.sram
      ·have HV4 := Hd (HV3.out.trans (if_pos (.inr (.inl e2))))
       go_wp2_with fail
       go_returns
       exact ⟨by rw [HV4.out]; try rfl, HF.out.below⟩
      ·have e2' : decide (4096 < c.sram) = false := decide_eq_false e2
       by_cases e3 : c.tcam < 0
       ·have HV4 := Hd (HV3.out.trans (if_pos (.inr (.inr (.inl e3)))))
        go_wp2_with fail
        go_returns
        exact ⟨by rw [HV4.out]; try rfl, HF.out.below⟩
       ·have e3' : decide (c.tcam < 0) = false := decide_eq_false e3
        by_cases e4 : 4096 < c.tcam
        ·have HV4 := Hd (HV3.out.trans (if_pos (.inr (.inr (.inr e4)))))
         go_wp2_with fail
         go_returns
         exact ⟨by rw [HV4.out]; try rfl, HF.out.below⟩
        ·have e4' : decide (4096 < c.tcam) = false := decide_eq_false e4
         have HV4 := Hd (HV3.out.trans (if_neg (by omega)))
         go_wp2_with fail
         go_returns
         exact ⟨by rw [HV4.out]; try rfl, HF.out.below⟩
structure Use where
 tZ : Int
 gates : Int
 sram : Int
 tcam : Int
def Use.zero : Use := ⟨0, 0, 0, 0⟩
structure JobM where
 chip : ChipD
 gate : List Bool
 costs : List (Int × Int)
 deps : List (List Int)
def cost2 (a b : Int) : Int := zsd (zsd 0 (max a 0)) (max b 0)
def Use.plus (u : Use) (g : Bool) (c : Int × Int) : Use :=
 ⟨if g then u.tZ else u.tZ + 1, if g then u.gates + 1 else u.gates, cost2 u.sram c.1, cost2 u.tcam c.2⟩
def Use.fits (u : Use) (c : ChipD) : Bool := decide (u.tZ ≤ c.tZ) && decide (u.gates ≤ c.gates) && (decide (u.sram ≤ c.sram) && decide (u.tcam ≤ c.tcam))
def JobM.n (J : JobM) : Nat := J.gate.length
def JobM.add (J : JobM) (u : Use) (i : Nat) : Use := u.plus (J.gate.getD i false) (J.costs.getD i (0, 0))
def JobM.useFrom (J : JobM) (s : Int) : Nat → List Int → Use → Use
 | _, [], u => u
 | i, x :: l, u => JobM.useFrom J s (i + 1) l (if x = s then J.add u i else u)
def JobM.use (J : JobM) (st : List Int) (s : Int) : Use := J.useFrom s 0 st Use.zero
def JobM.dep (J : JobM) (i j : Nat) : Int := (J.deps.getD i []).getD j 0
def depOk (k a b : Int) : Bool := if k = 2 then decide (a < b) else if k = 1 then decide (a ≤ b) else true
def JobM.follows (J : JobM) (pre : List Int) (unit : Nat) (s : Int) : Bool := (List.range unit).all fun i => depOk (J.dep i unit) (pre.getD i 0) s
def JobM.ok (J : JobM) (pre : List Int) (s : Int) : Bool := (J.add (J.use pre s) pre.length).fits J.chip && J.follows pre pre.length s
def JobM.sat (J : JobM) (st : List Int) : Bool := decide (st.length = J.n) && (List.range J.n).all fun j => J.follows st j (st.getD j 0)
def JobM.valid (J : JobM) (st : List Int) : Bool :=
 J.sat st && st.all (fun s => decide (0 ≤ s) && decide (s < J.chip.stages)) && (List.range J.chip.stages.toNat).all fun (s : Nat) => (J.use st (s : Int)).fits J.chip
inductive Res where
 | placed (st : List Int) (k : Nat)
 | undecided (k : Nat)
 | full (k : Nat)
def Res.steps : Res → Nat
 | .placed _ k => k
 | .undecided k => k
 | .full k => k
inductive Srch (J : JobM) (b : Nat) : List Int → Int → Nat → Res → Prop where
 | done {pre s k} : pre.length = J.n → Srch J b pre s k (.placed pre k)
 | out {pre s k} : pre.length < J.n → s < J.chip.stages → k = b → Srch J b pre s k (.undecided k)
 | yes {pre s k r} : pre.length < J.n → s < J.chip.stages → k ≠ b → J.ok pre s = true → Srch J b (pre ++ [s]) 0 (k + 1) r → Srch J b pre s k r
 | no {pre s k r} : pre.length < J.n → s < J.chip.stages → k ≠ b → J.ok pre s = false → Srch J b pre (s + 1) (k + 1) r → Srch J b pre s k r
 | full {s k} : 0 < J.n → J.chip.stages ≤ s → Srch J b [] s k (.full k)
 | back {pre x s k r} : pre.length + 1 < J.n → J.chip.stages ≤ s → Srch J b pre (x + 1) k r → Srch J b (pre ++ [x]) s k r
variable {J : JobM} {b b' : Nat}
theorem app_ne_nil {pre : List Int} {x : Int} : pre ++ [x] ≠ [] := by simp
theorem app_inj {p q : List Int} {x y : Int} (h : p ++ [x] = q ++ [y]) : p = q ∧ x = y := by
 have := List.append_inj_right' h rfl
 have h2 := List.append_inj_left' h rfl
 exact ⟨h2, by simpa using this⟩
theorem Srch.ge {pre s k r} (h : Srch J b pre s k r) : k ≤ r.steps := by
 induction h with
 | done _ => exact Nat.le_refl _
 | out _ _ _ => exact Nat.le_refl _
 | yes _ _ _ _ _ ih => omega
 | no _ _ _ _ _ ih => omega
 | full _ _ => exact Nat.le_refl _
 | back _ _ _ ih => exact ih
theorem Srch.le {pre s k r} (h : Srch J b pre s k r) (hk : k ≤ b) : r.steps ≤ b := by
 induction h with
 | done _ => exact hk
 | out _ _ _ => exact hk
 | yes _ _ _ _ _ ih => exact ih (by omega)
 | no _ _ _ _ _ ih => exact ih (by omega)
 | full _ _ => exact hk
 | back _ _ _ ih => exact ih hk
theorem Srch.grow {pre s k r} (h : Srch J b pre s k r) (hk : k ≤ b) (hb : b ≤ b') {r'} (h' : Srch J b' pre s k r') : r' = r ∨ (r = .undecided b ∧ b ≤ r'.steps) := by
 induction h generalizing r' with
 | @done pre s k h1 =>
  generalize hp : pre = p at h'
  cases h' with
  | done _ => exact .inl rfl
  | out h2 _ _ => subst hp; omega
  | yes h2 => subst hp; omega
  | no h2 => subst hp; omega
  | full h2 => subst hp; simp at h1; omega
  | back h2 => subst hp; simp at h1; omega
 | @out pre s k h1 h2 h3 =>
  subst h3
  exact .inr ⟨rfl, h'.ge⟩
 | @yes pre s k r h1 h2 h3 h4 h5 ih =>
  generalize hp : pre = p at h'
  cases h' with
  | done g1 => subst hp; omega
  | out g1 g2 g3 => omega
  | yes g1 g2 g3 g4 g5 => subst hp; exact ih (by omega) g5
  | no g1 g2 g3 g4 g5 => subst hp; rw [h4] at g4; cases g4
  | full g1 g2 => omega
  | back g1 g2 g3 => omega
 | @no pre s k r h1 h2 h3 h4 h5 ih =>
  generalize hp : pre = p at h'
  cases h' with
  | done g1 => subst hp; omega
  | out g1 g2 g3 => omega
  | yes g1 g2 g3 g4 g5 => subst hp; rw [h4] at g4; cases g4
  | no g1 g2 g3 g4 g5 => subst hp; exact ih (by omega) g5
  | full g1 g2 => omega
  | back g1 g2 g3 => omega
 | @full s k h1 h2 =>
  generalize hp : ([] : List Int) = p at h'
  cases h' with
  | done g1 => subst hp; simp at g1; omega
  | out g1 g2 g3 => omega
  | yes g1 g2 => omega
  | no g1 g2 => omega
  | full g1 g2 => exact .inl rfl
  | back g1 g2 g3 => exact absurd hp.symm app_ne_nil
 | @back pre x s k r h1 h2 h3 ih =>
  generalize hp : pre ++ [x] = p at h'
  cases h' with
  | done g1 => subst hp; simp at g1; omega
  | out g1 g2 g3 => omega
  | yes g1 g2 => omega
  | no g1 g2 => omega
  | full g1 g2 => exact absurd hp app_ne_nil
  | back g1 g2 g3 => obtain ⟨rfl, rfl⟩ := app_inj hp; exact ih hk g3
theorem Srch.det {pre s k r r'} (h : Srch J b pre s k r) (hk : k ≤ b) (h' : Srch J b pre s k r') : r' = r := by
 rcases h.grow hk (Nat.le_refl _) h' with h1 | ⟨h1, h2⟩
 ·exact h1
 ·rcases h'.grow hk (Nat.le_refl _) h with h3 | ⟨h3, _⟩
  ·exact h3.symm
  ·rw [h1, h3]
def kindM (D : List (List Int)) (i j : Nat) : Int :=
 if j ≤ i ∨ (D.getD i []).length ≤ j then 0 else if (D.getD i []).getD j 0 = 1 ∨ (D.getD i []).getD j 0 = 2 then (D.getD i []).getD j 0 else 0
def zLc (D : List (List Int)) (i : Nat) : Nat → List Bool
 | 0 => []
 | j + 1 => zLc D i j ++ [decide (j = i) || (List.range j).any fun k => decide (kindM D k j ≠ 0) && (zLc D i j).getD k false]
def outTo (D : List (List Int)) (i : Nat) : Nat → List Bool
 | 0 => []
 | j + 1 => outTo D i j ++ [(List.range j).any fun k => (decide (kindM D k j = 2) && (zLc D i j).getD k false) || (decide (kindM D k j = 1) && (outTo D i j).getD k false)]
def zCb (D : List (List Int)) (i j : Nat) : Bool := (outTo D i D.length).getD j false
def szTo (D : List (List Int)) : Nat → List Int
 | 0 => []
 | m + 1 => (List.range m).foldl (fun x j => if zCb D (D.length - 1 - m) (D.length - m + j) then max x ((szTo D m).getD j 0 + 1) else x) 1 :: szTo D m
def szAt (D : List (List Int)) (i : Nat) : Int := (szTo D D.length).getD i 0
def zdc (D : List (List Int)) : Nat → Nat
 | 0 => 0
 | m + 1 => if m = 0 ∨ szAt D (zdc D m) ≤ szAt D (D.length - 1 - m) then D.length - 1 - m else zdc D m
def zTb (D : List (List Int)) : Nat → Nat → List Int
 | 0, _ => []
 | f + 1, i => (i : Int) :: if szAt D i > 1 then (match (List.range D.length).find? fun j => zCb D i j && decide (szAt D j = szAt D i - 1) with | some j => zTb D f j | none => []) else []
def zgc (D : List (List Int)) : List Int := if D.length = 0 then [] else zTb D (szAt D (zdc D D.length)).toNat (zdc D D.length)
variable {D : List (List Int)}
theorem zMc (i j : Nat) : (zLc D i j).length = j := by
 induction j with
 | zero => rfl
 | succ j ih => rw [zLc, List.length_append, ih]; rfl
theorem zBd (i j : Nat) : (outTo D i j).length = j := by
 induction j with
 | zero => rfl
 | succ j ih => rw [outTo, List.length_append, ih]; rfl
theorem szTo_len (m : Nat) : (szTo D m).length = m := by
 induction m with
 | zero => rfl
 | succ m ih => rw [szTo, List.length_cons, ih]
theorem zke {α : Type} {l r : List α} {k : Nat} {d : α} (h : k < l.length) : (l ++ r).getD k d = l.getD k d := by simp [List.getD, List.getElem?_append_left h]
theorem zzd {α : Type} {l : List α} {x d : α} {k : Nat} (h : k = l.length) : (l ++ [x]).getD k d = x := by subst h; simp [List.getD]
theorem zBc {α : Type} {l : List α} {k : Nat} {d : α} (h : l.length ≤ k) : l.getD k d = d := by simp [List.getD, List.getElem?_eq_none h]
theorem reachTo_ge (i : Nat) : ∀ (m j : Nat), (zLc D i m).getD j false = true → i ≤ j := by
 intro m
 induction m with
 | zero => intro j h; simp [zLc] at h
 | succ m ih =>
  intro j h
  rw [zLc] at h
  by_cases hj : j < m
  ·rw [zke (by rw [zMc]; exact hj)] at h; exact ih j h
  ·by_cases hj2 : j = m
   ·rw [zzd (by rw [zMc]; exact hj2), Bool.or_eq_true, List.any_eq_true] at h
    rcases h with h | ⟨k, hk, h⟩
    ·have := of_decide_eq_true h; omega
    ·rw [Bool.and_eq_true] at h
     have := ih k h.2
     have := List.mem_range.1 hk
     omega
   ·rw [zBc (by simp [zMc]; omega)] at h; cases h
theorem outTo_gt (i : Nat) : ∀ (m j : Nat), (outTo D i m).getD j false = true → i < j := by
 intro m
 induction m with
 | zero => intro j h; simp [outTo] at h
 | succ m ih =>
  intro j h
  rw [outTo] at h
  by_cases hj : j < m
  ·rw [zke (by rw [zBd]; exact hj)] at h; exact ih j h
  ·by_cases hj2 : j = m
   ·rw [zzd (by rw [zBd]; exact hj2), List.any_eq_true] at h
    obtain ⟨k, hk, h⟩ := h
    rw [Bool.or_eq_true, Bool.and_eq_true, Bool.and_eq_true] at h
    have hkm := List.mem_range.1 hk
    rcases h with h | h
    ·have := reachTo_ge i m k h.2; omega
    ·have := ih k h.2; omega
   ·rw [zBc (by simp [zBd]; omega)] at h; cases h
theorem afterB_lt {i j : Nat} (h : zCb D i j = true) : i < j ∧ j < D.length := by
 refine ⟨outTo_gt i _ j h, ?_⟩
 by_cases hj : j < D.length
 ·exact hj
 ·unfold zCb at h
  rw [zBc (by rw [zBd]; omega)] at h
  cases h
theorem szTo_drop : ∀ (n m : Nat), m ≤ n → szTo D m = (szTo D n).drop (n - m) := by
 intro n
 induction n with
 | zero =>
  intro m h
  obtain rfl : m = 0 := by omega
  rfl
 | succ n ih =>
  intro m h
  by_cases hm : m = n + 1
  ·subst hm; simp
  ·rw [ih m (by omega), show n + 1 - m = (n - m) + 1 by omega]
   rw [show szTo D (n + 1) = _ :: szTo D n from rfl]
   rfl
theorem szTo_at {m j : Nat} (hm : m ≤ D.length) (hj : j < m) : (szTo D m).getD j 0 = szAt D (D.length - m + j) := by
 unfold szAt
 rw [szTo_drop D.length m hm]
 simp [List.getD]
theorem szAt_eq {i : Nat} (hi : i < D.length) : szAt D i = (List.range (D.length - 1 - i)).foldl (fun x j => if zCb D i (i + 1 + j) then max x (szAt D (i + 1 + j) + 1) else x) 1 := by
 have h := szTo_at (D := D) (m := D.length - 1 - i + 1) (j := 0) (by omega) (by omega)
 rw [show D.length - (D.length - 1 - i + 1) + 0 = i by omega] at h
 rw [← h, szTo]
 show List.foldl _ 1 _ = _
 rw [show D.length - 1 - (D.length - 1 - i) = i by omega, show D.length - (D.length - 1 - i) = i + 1 by omega]
 have key : ∀ (l : List Nat) (x : Int), (∀ j ∈ l, j < D.length - 1 - i) → l.foldl (fun x j => if zCb D i (i + 1 + j) then max x ((szTo D (D.length - 1 - i)).getD j 0 + 1) else x) x = l.foldl (fun x j => if zCb D i (i + 1 + j) then max x (szAt D (i + 1 + j) + 1) else x) x := by
  intro l
  induction l with
  | nil => intro x _; rfl
  | cons j l ih =>
   intro x hx
   have hj := hx j (List.mem_cons_self ..)
   rw [List.foldl_cons, List.foldl_cons, szTo_at (by omega) hj, show D.length - (D.length - 1 - i) + j = i + 1 + j by omega]
   exact ih _ fun j' h' => hx j' (List.mem_cons_of_mem _ h')
 exact key _ 1 fun j hj => List.mem_range.1 hj
theorem fold_max {f : Nat → Bool} {g : Nat → Int} : ∀ (l : List Nat) (x : Int), x ≤ l.foldl (fun x j => if f j then max x (g j) else x) x ∧ (∀ j ∈ l, f j = true → g j ≤ l.foldl (fun x j => if f j then max x (g j) else x) x) ∧ (l.foldl (fun x j => if f j then max x (g j) else x) x = x ∨ ∃ j ∈ l, f j = true ∧ l.foldl (fun x j => if f j then max x (g j) else x) x = g j) := by
 intro l
 induction l with
 | nil => intro x; exact ⟨Int.le_refl _, fun j hj => absurd hj (by simp), .inl rfl⟩
 | cons j l ih =>
  intro x
  simp only [List.foldl_cons]
  obtain ⟨h1, h2, h3⟩ := ih (if f j then max x (g j) else x)
  refine ⟨Int.le_trans ?_ h1, fun k hk hf => ?_, ?_⟩
  ·split <;> omega
  ·rcases List.mem_cons.1 hk with rfl | hk
   ·rw [if_pos hf] at h1 ⊢
    omega
   ·exact h2 k hk hf
  ·rcases h3 with h3 | ⟨k, hk, hf, h3⟩
   ·rw [h3]
    by_cases hf : f j = true
    ·rw [if_pos hf]
     by_cases hx : x ≤ g j
     ·exact .inr ⟨j, List.mem_cons_self .., hf, by omega⟩
     ·exact .inl (by omega)
    ·rw [if_neg hf]; exact .inl rfl
   ·exact .inr ⟨k, List.mem_cons_of_mem _ hk, hf, h3⟩
theorem szAt_ge {i : Nat} (hi : i < D.length) : 1 ≤ szAt D i := by
 rw [szAt_eq hi]
 exact (fold_max (f := fun j => zCb D i (i + 1 + j)) (g := fun j => szAt D (i + 1 + j) + 1) _ 1).1
theorem szAt_next {i : Nat} (hi : i < D.length) (h : 1 < szAt D i) : ∃ j, j < D.length ∧ zCb D i j = true ∧ szAt D j = szAt D i - 1 := by
 have h3 := (fold_max (f := fun j => zCb D i (i + 1 + j)) (g := fun j => szAt D (i + 1 + j) + 1) (List.range (D.length - 1 - i)) 1).2.2
 rw [← szAt_eq hi] at h3
 rcases h3 with h3 | ⟨j, hj, hf, h3⟩
 ·omega
 ·exact ⟨i + 1 + j, (afterB_lt hf).2, hf, by omega⟩
theorem szAt_le : ∀ (m i : Nat), i < D.length → D.length - i ≤ m → szAt D i ≤ m := by
 intro m
 induction m with
 | zero => intro i hi h; omega
 | succ m ih =>
  intro i hi h
  have h3 := (fold_max (f := fun j => zCb D i (i + 1 + j)) (g := fun j => szAt D (i + 1 + j) + 1) (List.range (D.length - 1 - i)) 1).2.2
  rw [← szAt_eq hi] at h3
  rcases h3 with h3 | ⟨j, hj, hf, h3⟩
  ·omega
  ·have := List.mem_range.1 hj
   have := ih (i + 1 + j) (by omega) (by omega)
   omega
end Go.Proofs.YtakgiamhdpgoeaaGreat
