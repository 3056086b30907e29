/- The types of the program, as values (written by tools/vty.py). -/
import Derived.Test.YtilcppikgfmabaaGreatBV2
import Derived.Test.YtilcppikgfmabaaGreatProg
import Derived.KernelRfl
import Derived.Test.YtilcppikgfmabaaGreatBW
namespace Go.Proofs.YtilcppikgfmabaaGreat
open Go.RowKit Go.Proofs.YtilcppikgfmabaaGreat.Vf
set_option maxRecDepth 100000
theorem mixed : Tryz.prog.follows .mixedOrders = true := by kernel_rfl
@[simp] theorem ty3 : tyOf Tryz.prog 3 = some ⟨1, 8, .other, [.f (.sc (.int .i64 (0)))]⟩ := by kernel_rfl
@[simp] theorem ty4 : tyOf Tryz.prog 4 = some ⟨1, 1, .other, [.f (.sc (.bool false))]⟩ := by kernel_rfl
@[simp] theorem ty5 : tyOf Tryz.prog 5 = some ⟨1, 1, .other, [.f (.sc (.int .u8 (0)))]⟩ := by kernel_rfl
@[simp] theorem ty22 : tyOf Tryz.prog 22 = some ⟨1, 24, .slice 3, [.f (.sl [] .nil)]⟩ := by kernel_rfl
@[simp] theorem ty23 : tyOf Tryz.prog 23 = some ⟨1, 24, .slice 70, [.f (.sl [] .nil)]⟩ := by kernel_rfl
@[simp] theorem ty24 : tyOf Tryz.prog 24 = some ⟨1, 24, .slice 60, [.f (.sl [] .nil)]⟩ := by kernel_rfl
@[simp] theorem ty26 : tyOf Tryz.prog 26 = some ⟨3, 72, .struct [(0, 22), (1, 23), (2, 24)], [.f (.sl [] .nil), .f (.sl [] .nil), .f (.sl [] .nil)]⟩ := by kernel_rfl
@[simp] theorem ty30 : tyOf Tryz.prog 30 = some ⟨1, 24, .slice 46, [.f (.sl [] .nil)]⟩ := by kernel_rfl
@[simp] theorem ty33 : tyOf Tryz.prog 33 = some ⟨1, 8, .other, [.f (.sc (.int .i64 (0)))]⟩ := by kernel_rfl
@[simp] theorem ty44 : tyOf Tryz.prog 44 = some ⟨1, 24, .slice 54, [.f (.sl [] .nil)]⟩ := by kernel_rfl
@[simp] theorem ty46 : tyOf Tryz.prog 46 = some ⟨2, 32, .struct [(0, 3), (1, 44)], [.f (.sc (.int .i64 (0))), .f (.sl [] .nil)]⟩ := by kernel_rfl
@[simp] theorem ty47 : tyOf Tryz.prog 47 = some ⟨1, 24, .slice 104, [.f (.sl [] .nil)]⟩ := by kernel_rfl
@[simp] theorem ty48 : tyOf Tryz.prog 48 = some ⟨1, 24, .slice 56, [.f (.sl [] .nil)]⟩ := by kernel_rfl
@[simp] theorem ty50 : tyOf Tryz.prog 50 = some ⟨2, 32, .struct [(0, 3), (1, 48)], [.f (.sc (.int .i64 (0))), .f (.sl [] .nil)]⟩ := by kernel_rfl
@[simp] theorem ty52 : tyOf Tryz.prog 52 = some ⟨4, 64, .struct [(0, 47), (1, 3), (2, 50)], [.f (.sl [] .nil), .f (.sc (.int .i64 (0))), .f (.sc (.int .i64 (0))), .f (.sl [] .nil)]⟩ := by kernel_rfl
@[simp] theorem ty54 : tyOf Tryz.prog 54 = some ⟨9, 120, .struct [(0, 3), (1, 3), (2, 3), (3, 52), (7, 50)], [.f (.sc (.int .i64 (0))), .f (.sc (.int .i64 (0))), .f (.sc (.int .i64 (0))), .f (.sl [] .nil), .f (.sc (.int .i64 (0))), .f (.sc (.int .i64 (0))), .f (.sl [] .nil), .f (.sc (.int .i64 (0))), .f (.sl [] .nil)]⟩ := by kernel_rfl
@[simp] theorem ty56 : tyOf Tryz.prog 56 = some ⟨1, 4, .other, [.f (.sc (.int .u32 (0)))]⟩ := by kernel_rfl
@[simp] theorem ty60 : tyOf Tryz.prog 60 = some ⟨2, 16, .struct [(0, 3), (1, 3)], [.f (.sc (.int .i64 (0))), .f (.sc (.int .i64 (0)))]⟩ := by kernel_rfl
@[simp] theorem ty70 : tyOf Tryz.prog 70 = some ⟨5, 40, .struct [(0, 60), (2, 60), (4, 4)], [.f (.sc (.int .i64 (0))), .f (.sc (.int .i64 (0))), .f (.sc (.int .i64 (0))), .f (.sc (.int .i64 (0))), .f (.sc (.bool false))]⟩ := by kernel_rfl
@[simp] theorem ty104 : tyOf Tryz.prog 104 = some ⟨2, 8, .struct [(0, 56), (1, 56)], [.f (.sc (.int .u32 (0))), .f (.sc (.int .u32 (0)))]⟩ := by kernel_rfl
end Go.Proofs.YtilcppikgfmabaaGreat
/- Topologies, entries and steps as values; small functions. -/
namespace Go.Proofs.YtilcppikgfmabaaGreat
open Go.RowKit Go.Proofs.YtilcppikgfmabaaGreat.Vf
set_option linter.unusedVariables false
set_option linter.unusedSimpArgs false
set_option maxRecDepth 100000
set_option maxHeartbeats 4000000
theorem ix_app {α : Type} {l : List α} {a : α} : ix (l ++ [a]) l.length = some a := by simp [ix]
theorem set_app {α : Type} {l : List α} {a b : α} : (l ++ [a]).set l.length b = l ++ [b] := by simp
abbrev sl (l : List FV) : FV := .sl l .un
abbrev u32F (x : Int) : FV := .sc (.int .u32 x)
abbrev Pid := Int × Int
abbrev fPid (p : Pid) : FV := .agg [intF p.1, intF p.2]
structure Lnk where
  a : Pid
  b : Pid
  down : Bool
abbrev fLnk (l : Lnk) : FV := .agg [intF l.a.1, intF l.a.2, intF l.b.1, intF l.b.2, boolF l.down]
structure Topo where
  ports : List Int
  links : List Lnk
  hosts : List Pid
def fTop (t : Topo) : FV := .agg [sl (encL intF t.ports), sl (encL fLnk t.links), sl (encL fPid t.hosts)]
def smallM (t : Topo) : Bool := decide ((t.ports.length : Int) ≤ 20) && decide ((t.links.length : Int) ≤ 40) && decide ((t.hosts.length : Int) ≤ 20)
theorem small_g (t : Topo) : Gives Tryz.prog 4 [fTop t] (boolF (smallM t)) := by
  refine Gives.of mixed Tryz.func4 rfl rfl rfl (by kernel_rfl) ?_
  by_cases h1 : (t.ports.length : Int) ≤ 20 <;> by_cases h2 : (t.links.length : Int) ≤ 40 <;> by_cases h3 : (t.hosts.length : Int) ≤ 20 <;> simp [fTop, h1, h2, h3, smallM]
@[simp] theorem conv_3_56 {n : Int} : opOne Tryz.prog (convert 3 56) (.f (.sc (.int .i64 n))) = some (.f (.sc (.int .u32 (IntKind.u32.wrap n)))) := by kernel_rfl
@[simp] theorem conv_3_5 {n : Int} : opOne Tryz.prog (convert 3 5) (.f (.sc (.int .i64 n))) = some (.f (.sc (.int .u8 (IntKind.u8.wrap n)))) := by kernel_rfl
@[simp] theorem conv_5_56 {n : Int} : opOne Tryz.prog (convert 5 56) (.f (.sc (.int .u8 n))) = some (.f (.sc (.int .u32 (IntKind.u32.wrap n)))) := by kernel_rfl
theorem and_low (n : Int) : IntKind.u32.wrap ((BitVec.ofInt 32 (IntKind.u32.wrap n) &&& BitVec.ofInt 32 255).toNat : Nat) = n % 256 := by
  rw [BitVec.toNat_and, show (BitVec.ofInt 32 255).toNat = 2 ^ 8 - 1 from rfl, Nat.and_two_pow_sub_one_eq_mod, BitVec.toNat_ofInt, IntKind.wrap_u32, IntKind.wrap_u32]
  omega
@[simp] theorem and56 {T : TV} {x y : Operand} {n : Int} : opBin Tryz.prog T .and 56 x y (.f (.sc (.int .u32 (IntKind.u32.wrap n)))) (.f (.sc (.int .u32 255))) = some (.f (.sc (.int .u32 (n % 256)))) := by
  rw [← and_low]
  unfold opBin
  rw [opNil_int]
  kernel_rfl
attribute [simp] opBuild placesA fillA opBuildSlice zeroRow chunk Ty.agg ix_app set_app
def low (x : Int) : Int := x % 256
abbrev fKM (x : Int) : FV := .agg [u32F (low x), u32F 255]
abbrev fEnt (port version : Int) : FV := .agg [.sl [fKM port] .full, intF 0, intF 0, .sl [u32F (low version)] .full]
theorem low_g (x : Int) : Gives Tryz.prog 34 [intF x] (u32F (low x)) := by
  refine Gives.of mixed Tryz.func34 rfl rfl rfl (by kernel_rfl) ?_
  simp [IntKind.wrap_u32, IntKind.wrap_u8, low]
  omega
theorem exact1_g (x : Int) : Gives Tryz.prog 30 [intF x] (fKM x) := by
  refine Gives.of mixed Tryz.func30 rfl rfl rfl (by kernel_rfl) ?_
  simp [low]
theorem exact2_g (x : Int) : Gives Tryz.prog 33 [intF x] (fKM x) := by
  refine Gives.of mixed Tryz.func33 rfl rfl rfl (by kernel_rfl) ?_
  simp
  refine .inl ⟨_, low_g x, ?_⟩
  simp
theorem entry_g (l : List FV) (act p : Int) (args : List FV) (c c' : Cap) : Gives Tryz.prog 29 [.agg [intF act, .sl args c'], intF p, .sl l c] (.agg [.sl l c, intF p, intF act, .sl args c']) := by
  refine Gives.of mixed Tryz.func29 rfl rfl rfl (by kernel_rfl) ?_
  simp
theorem ing1_g (port version : Int) : Gives Tryz.prog 17 [intF port, intF version] (fEnt port version) := by
  refine Gives.of mixed Tryz.func17 rfl rfl rfl (by kernel_rfl) ?_
  simp
  refine .inl ⟨_, exact1_g port, ?_⟩
  simp
  refine .inl ⟨_, entry_g _ _ _ _ _ _, ?_⟩
  simp [low]
theorem ing2_g (port version : Int) : Gives Tryz.prog 19 [intF port, intF version] (fEnt port version) := by
  refine Gives.of mixed Tryz.func19 rfl rfl rfl (by kernel_rfl) ?_
  simp
  refine .inl ⟨_, exact2_g port, ?_⟩
  simp
  refine .inl ⟨_, low_g version, ?_⟩
  simp
theorem runPure_program {P : Program} : runPure P program = some P := rfl
theorem runPure_ite {α : Type} {P : Program} {c : Prop} [Decidable c] (x y : Sem α) : runPure P (if c then x else y) = if c then runPure P x else runPure P y := by split <;> rfl
theorem runPure_map {α β : Type} {P : Program} (f : α → β) (m : Sem α) : runPure P (f <$> m) = (runPure P m).map f := by
  have : f <$> m = m >>= fun a => pure (f a) := rfl
  rw [this, runPure_bind]
  cases runPure P m <;> rfl
theorem pureEqInt {P : Program} (d : Nat) {t : TypeId} {k k' : IntKind} {a b : Int} (hu : runPure P (underlying t) = some (.int k')) : runPure P (Op.equalIn (d + 1) t (.int k a) (.int k b)) = some (decide (a = b)) := by
  simp only [Op.equalIn, runPure_bind, hu, Option.bind_some, if_true]
  rfl
theorem pureEq2 {P : Program} (d : Nat) {t : TypeId} {f1 f2 : Field} {x1 x2 y1 y2 : Value} {p q : Bool} (hu : runPure P (underlying t) = some (.struct #[f1, f2])) (hp : P.stoodInHeld t = false) (h1 : f1.name ≠ "_") (h2 : f2.name ≠ "_")
    (px1 : runPure P (part f1.type #[x1, x2] f1.offset) = some x1) (py1 : runPure P (part f1.type #[y1, y2] f1.offset) = some y1) (px2 : runPure P (part f2.type #[x1, x2] f2.offset) = some x2) (py2 : runPure P (part f2.type #[y1, y2] f2.offset) = some y2)
    (e1 : runPure P (Op.equalIn d f1.type x1 y1) = some p) (e2 : runPure P (Op.equalIn d f2.type x2 y2) = some q) : runPure P (Op.equalIn (d + 1) t (.agg #[x1, x2]) (.agg #[y1, y2])) = some (p && q) := by
  simp only [Op.equalIn, runPure_bind, hu, Option.bind_some, runPure_program, hp, Bool.false_eq_true, if_false]
  rw [← Array.forIn_toList]
  simp only [List.forIn_cons, List.forIn_nil, runPure_bind, runPure_ite, h1, h2, ne_eq, not_false_eq_true, if_true, px1, py1, px2, py2, e1, e2, Option.bind_some]
  cases p <;> cases q <;> simp [runPure_pure, runPure_bind, runPure_ite, px2, py2, e2]
theorem opNil_agg {T : TV} {op : BinOp} {t : TypeId} {ca cb : List AV} : opNil T op t (.agg ca) (.agg cb) = none := by
  unfold opNil
  split <;> first | rfl | (split <;> first | rfl | (rename_i h; simp [isNilA] at h))
theorem opBin_eq {P : Program} {T : TV} {t : TypeId} {x y : Operand} {ca cb : List AV} {xs ys : Array Value} {q : Bool} (hg : P.eqGuardType P.depth t = false) (ha : (AV.agg ca).val = some (.agg xs)) (hb : (AV.agg cb).val = some (.agg ys))
    (he : runPure P (Op.equalIn 10000 t (.agg xs) (.agg ys)) = some q) : opBin P T .eql t x y (.agg ca) (.agg cb) = some (.f (.sc (.bool q))) ∧ opBin P T .neq t x y (.agg ca) (.agg cb) = some (.f (.sc (.bool (!q)))) := by
  refine ⟨?_, ?_⟩ <;> unfold opBin <;> rw [opNil_agg] <;> simp only [ha, hb] <;> simp [eqGuard, runPure_bind, runPure_program, runPure_ite, hg, binOp, Op.equal, Op.maxDepth, he, runPure_pure, runPure_map, ofVal]
theorem u60 : runPure Tryz.prog (underlying 60) = some (.struct #[⟨ "Switch", 3, 0, false, "", "", 0⟩, ⟨ "Port", 3, 1, false, "", "", 8⟩]) := by kernel_rfl
theorem u104 : runPure Tryz.prog (underlying 104) = some (.struct #[⟨ "Value", 56, 0, false, "", "", 0⟩, ⟨ "Mask", 56, 1, false, "", "", 4⟩]) := by kernel_rfl
@[simp] theorem eq60 {T : TV} {x y : Operand} {a b c d : Int} : opBin Tryz.prog T .eql 60 x y (.agg [.f (intF a), .f (intF b)]) (.agg [.f (intF c), .f (intF d)]) = some (.f (.sc (.bool (decide (a = c) && decide (b = d))))) :=
  (opBin_eq (by kernel_rfl) rfl rfl (pureEq2 9999 u60 (by kernel_rfl) (by decide) (by decide) (by kernel_rfl) (by kernel_rfl) (by kernel_rfl) (by kernel_rfl) (pureEqInt (k' := .i64) 9998 (by kernel_rfl)) (pureEqInt (k' := .i64) 9998 (by kernel_rfl)))).1
@[simp] theorem neq104 {T : TV} {x y : Operand} {a b c d : Int} : opBin Tryz.prog T .neq 104 x y (.agg [.f (u32F a), .f (u32F b)]) (.agg [.f (u32F c), .f (u32F d)]) = some (.f (.sc (.bool (!(decide (a = c) && decide (b = d)))))) :=
  (opBin_eq (by kernel_rfl) rfl rfl (pureEq2 9999 u104 (by kernel_rfl) (by decide) (by decide) (by kernel_rfl) (by kernel_rfl) (by kernel_rfl) (by kernel_rfl) (pureEqInt (k' := .u32) 9998 (by kernel_rfl)) (pureEqInt (k' := .u32) 9998 (by kernel_rfl)))).2
end Go.Proofs.YtilcppikgfmabaaGreat
/- Tests of likeness: numbers, calls, keys, entries, operations, steps. -/
namespace Go.Proofs.YtilcppikgfmabaaGreat
open Go.RowKit Go.Proofs.YtilcppikgfmabaaGreat.Vf
set_option linter.unusedVariables false
set_option linter.unusedSimpArgs false
set_option maxRecDepth 100000
set_option maxHeartbeats 4000000
/-- Alike up to k. -/
def eqT {α : Type} (a b : List α) (k : Nat) : Prop := a.length = b.length ∧ ∀ j, j < k → a[j]? = b[j]?
theorem eqT.zero {α : Type} {a b : List α} (h : a.length = b.length) : eqT a b 0 := ⟨h, fun j hj => by omega⟩
theorem eqT.next {α : Type} {a b : List α} {k : Nat} {x : α} (h : eqT a b k) (ha : a[k]? = some x) (hb : b[k]? = some x) : eqT a b (k + 1) := ⟨h.1, fun j hj => by
  rcases Nat.lt_or_ge j k with h1 | h1
  · exact h.2 j h1
  · have : j = k := by omega
    subst this; rw [ha, hb]⟩
theorem eqT.all {α : Type} {a b : List α} {k : Nat} (h : eqT a b k) (hk : ¬ k < a.length) : a = b := by
  apply List.ext_getElem?
  intro j
  rcases Nat.lt_or_ge j k with h1 | h1
  · exact h.2 j h1
  · rw [List.getElem?_eq_none (by omega), List.getElem?_eq_none (by have := h.1; omega)]
/-- One and the same list: the test says yes. -/
theorem equ32_g (a : List Int) (c c' : Cap) (ha : a.length < 2^62) : Gives Tryz.prog 14 [.sl (encL u32F a) c, .sl (encL u32F a) c'] (boolF true) := by
  refine Gives.of mixed Tryz.func14 rfl rfl rfl (by kernel_rfl) ?_
  simp
  refine forX mixed a.length (fun k s => At [.f (.sl (encL u32F a) c), .f (.sl (encL u32F a) c'), undefA, undefA, .f (.sc (.bool false)), .f (.sc (.int .i64 k))] 20 [] [] s) (by kernel_rfl) (At.of rfl rfl) ?_
  rintro k ⟨t, h, kk⟩ hk ⟨rfl, rfl, f, rfl⟩
  by_cases hlt : k < a.length
  · obtain ⟨x, hx, hx'⟩ := nth_of hlt
    have hw := wrap64 (x := (k : Int) + 1) (by omega) (by omega)
    simp [hlt, hx, hw]
    exact At.of rfl rfl
  · simp [hlt]
abbrev fCall (act : Int) (args : List Int) (c : Cap) : FV := .agg [intF act, .sl (encL u32F args) c]
theorem eqcalls_g (act : Int) (a : List Int) (c c' : Cap) (ha : a.length < 2^62) : Gives Tryz.prog 26 [fCall act a c, fCall act a c'] (boolF true) := by
  refine Gives.of mixed Tryz.func26 rfl rfl rfl (by kernel_rfl) ?_
  simp
  refine forX mixed a.length (fun k s => At [.f (fCall act a c), .f (fCall act a c'), .ref 0 0, .ref 1 0, .f (.sc (.bool false)), .f (.sc (.int .i64 k))] 32 [[.f (intF act), .f (.sl (encL u32F a) c)], [.f (intF act), .f (.sl (encL u32F a) c')]] [] s) (by kernel_rfl) (At.of rfl rfl) ?_
  rintro k ⟨t, h, kk⟩ hk ⟨rfl, rfl, f, rfl⟩
  by_cases hlt : k < a.length
  · obtain ⟨x, hx, hx'⟩ := nth_of hlt
    have hw := wrap64 (x := (k : Int) + 1) (by omega) (by omega)
    simp [hlt, hx, hw]
    exact At.of rfl rfl
  · simp [hlt]
abbrev fKM2 (x : Int × Int) : FV := .agg [u32F x.1, u32F x.2]
abbrev fEn (ks : List (Int × Int)) (p act : Int) (args : List Int) (c c' : Cap) : FV := .agg [.sl (encL fKM2 ks) c, intF p, intF act, .sl (encL u32F args) c']
theorem samekey_g (ks : List (Int × Int)) (p act act' : Int) (a a' : List Int) (c1 c2 c3 c4 : Cap) (hk : ks.length < 2^62) : Gives Tryz.prog 53 [fEn ks p act a c1 c2, fEn ks p act' a' c3 c4] (boolF true) := by
  refine Gives.of mixed Tryz.func53 rfl rfl rfl (by kernel_rfl) ?_
  simp
  refine forX mixed ks.length (fun k s => At [.f (fEn ks p act a c1 c2), .f (fEn ks p act' a' c3 c4), .ref 0 0, .ref 1 0, .f (.sc (.bool false)), .f (.sc (.int .i64 k))] 32 [[.f (.sl (encL fKM2 ks) c1), .f (intF p), .f (intF act), .f (.sl (encL u32F a) c2)], [.f (.sl (encL fKM2 ks) c3), .f (intF p), .f (intF act'), .f (.sl (encL u32F a') c4)]] [] s) (by kernel_rfl) (At.of rfl rfl) ?_
  rintro k ⟨t, h, kk⟩ hk ⟨rfl, rfl, f, rfl⟩
  by_cases hlt : k < ks.length
  · obtain ⟨x, hx, hx'⟩ := nth_of hlt
    have hw := wrap64 (x := (k : Int) + 1) (by omega) (by omega)
    simp [hlt, hx, hw]
    exact At.of rfl rfl
  · simp [hlt]
theorem equal_g (ks : List (Int × Int)) (p act : Int) (a : List Int) (c1 c2 c3 c4 : Cap) (hk : ks.length < 2^62) (ha : a.length < 2^62) : Gives Tryz.prog 25 [fEn ks p act a c1 c2, fEn ks p act a c3 c4] (boolF true) := by
  refine Gives.of mixed Tryz.func25 rfl rfl rfl (by kernel_rfl) ?_
  simp
  refine .inl ⟨_, samekey_g ks p act act a a c1 c2 c3 c4 hk, ?_⟩
  simp
  exact .inl (eqcalls_g act a c2 c4 ha)
end Go.Proofs.YtilcppikgfmabaaGreat
/- Likeness of operations and steps. -/
namespace Go.Proofs.YtilcppikgfmabaaGreat
open Go.RowKit Go.Proofs.YtilcppikgfmabaaGreat.Vf
set_option linter.unusedVariables false
set_option linter.unusedSimpArgs false
set_option maxRecDepth 100000
set_option maxHeartbeats 4000000
@[simp] theorem ix_appn {α : Type} {l m : List α} {n : Nat} : ix (l ++ m) (l.length + n) = ix m n := by
  unfold ix; rw [List.getElem?_append_right (by omega)]; simp
@[simp] theorem ix_app0 {α : Type} {l m : List α} : ix (l ++ m) l.length = ix m 0 := by
  unfold ix; rw [List.getElem?_append_right (by omega)]; simp
@[simp] theorem set_appn {α : Type} {l m : List α} {n : Nat} {x : α} : (l ++ m).set (l.length + n) x = l ++ m.set n x := by
  rw [List.set_append_right _ _ (by omega)]; simp
@[simp] theorem set_app0 {α : Type} {l m : List α} {x : α} : (l ++ m).set l.length x = l ++ m.set 0 x := by
  rw [List.set_append_right _ _ (by omega)]; simp
abbrev fOp (v p : Int) : FV := .agg [intF 1, intF 0, intF 0, .sl [fKM p] .full, intF 0, intF 0, .sl [u32F (low v)] .full, intF 0, .sl [] .nil]
theorem eqent (v p : Int) : Gives Tryz.prog 25 [fEnt p v, fEnt p v] (boolF true) := equal_g [(low p, 255)] 0 0 [low v] .full .full .full .full (by simp) (by simp)
theorem eqdef : Gives Tryz.prog 26 [.agg [intF 0, .sl [] .nil], .agg [intF 0, .sl [] .nil]] (boolF true) := eqcalls_g 0 [] .nil .nil (by simp)
theorem eqops_g (v : Int) (l : List Int) (c c' : Cap) (hl : l.length < 2^62) : Gives Tryz.prog 15 [.sl (encL (fOp v) l) c, .sl (encL (fOp v) l) c'] (boolF true) := by
  refine Gives.of mixed Tryz.func15 rfl rfl rfl (by kernel_rfl) ?_
  simp
  refine forX mixed l.length (fun k s => ∃ hx z6 z7, At [.f (.sl (encL (fOp v) l) c), .f (.sl (encL (fOp v) l) c'), undefA, undefA, .f (.sc (.bool false)), .f (.sc (.int .i64 k)), z6, z7] 54 hx [] s) (by kernel_rfl) ⟨_, _, _, At.of rfl rfl⟩ ?_
  rintro k ⟨t, h, kk⟩ hk ⟨hx, z6, z7, rfl, rfl, f, rfl⟩
  by_cases hlt : k < l.length
  · obtain ⟨x, hx, hx'⟩ := nth_of hlt
    have hw := wrap64 (x := (k : Int) + 1) (by omega) (by omega)
    simp [hlt, hx, hw]
    refine ⟨.inl ⟨_, eqent v x, ?_⟩, .inl ⟨_, eqent v x, ?_⟩⟩ <;> simp <;> refine .inl ⟨_, eqdef, ?_⟩ <;> simp [hw]
    all_goals exact ⟨_, _, _, At.of rfl rfl⟩
  · simp [hlt]
end Go.Proofs.YtilcppikgfmabaaGreat
/- Topologies: the ends. -/
namespace Go.Proofs.YtilcppikgfmabaaGreat
open Go.RowKit Go.Proofs.YtilcppikgfmabaaGreat.Vf
set_option linter.unusedVariables false
set_option linter.unusedSimpArgs false
set_option maxRecDepth 100000
set_option maxHeartbeats 4000000
def lends (l : Lnk) : List Pid := [l.a, l.b]
def endsN (l : List Lnk) (i : Nat) : List Pid := (l.take i).flatMap lends
def endsM (t : Topo) : List Pid := t.links.flatMap lends ++ t.hosts
theorem endsN_next {l : List Lnk} {i : Nat} {x : Lnk} (h : l[i]? = some x) : encL fPid (endsN l (i + 1)) = encL fPid (endsN l i) ++ [fPid x.a, fPid x.b] := by
  unfold endsN
  rw [List.take_add_one, h]
  simp [encL, lends]
theorem endsN_len {l : List Lnk} {i : Nat} : (endsN l i).length = 2 * (l.take i).length := by
  unfold endsN
  induction (l.take i) with
  | nil => rfl
  | cons x l ih => simp [lends, ih]; omega
def cTop (t : Topo) : List AV := [.f (sl (encL intF t.ports)), .f (sl (encL fLnk t.links)), .f (sl (encL fPid t.hosts))]
def ends1I (t : Topo) (i : Nat) (s : St) : Prop := ∃ g k x tk, OwnT k (encL fPid (endsN t.links i)) 2 x tk ∧ Vf.Sl [(1, .ref 0 0), (3, x), (7, .f (sl (encL fLnk t.links))), (8, .f (intF t.links.length)), (9, .f (intF i))] 25 (cTop t :: g) k s
theorem fin_ends {t : Topo} {k : List (Nat × Nat)} {x : AV} {tk : Nat} (h1 : t.links.length < 100000) (h2 : t.hosts.length < 100000) (ho : OwnT k (encL fPid (endsN t.links t.links.length)) 2 x tk) :
    ∃ x' k', opAppend (tyOf Tryz.prog) k 24 x (.f (sl (encL fPid t.hosts))) = some (x', k') ∧ ∀ H (R : FV → Prop), R (ownF (encL fPid (endsM t))) → RetV H x' R := by
  have hl : (encL fPid (endsN t.links t.links.length)).length = 2 * t.links.length := by simp [endsN_len]
  have he : encL fPid (endsN t.links t.links.length) ++ encL fPid t.hosts = encL fPid (endsM t) := by simp [endsN, endsM]
  by_cases hh : t.hosts = []
  · refine ⟨x, k, ?_, fun H R hR => ?_⟩
    · rcases ho with ⟨h3, rfl⟩ | ⟨h3, rfl, _⟩ <;> simp [opAppend, hh]
    · rw [ho.ret]
      rw [hh] at he
      rw [show encL fPid (endsN t.links t.links.length) = encL fPid (endsM t) by rw [← he]; simp]
      exact hR
  · obtain ⟨t', k', e, ho', _⟩ := append_own ty24 ty60 (by simp) ho (y := .f (sl (encL fPid t.hosts))) rfl (by simp [encL, hh]) (by simp [encL]) (by simp [hl]; omega) (by simp [hl]; omega)
    refine ⟨_, _, e, fun H R hR => ?_⟩
    rw [ho'.ret, he]
    exact hR
theorem ends1_g (t : Topo) (h1 : t.links.length < 100000) (h2 : t.hosts.length < 100000) : Gives Tryz.prog 27 [fTop t] (ownF (encL fPid (endsM t))) := by
  refine Gives.of mixed Tryz.func27 rfl rfl rfl (by kernel_rfl) ?_
  simp [fTop]
  refine forX mixed t.links.length (ends1I t) (by kernel_rfl) ⟨_, _, _, 0, .nil, Sl.of rfl rfl rfl⟩ ?_
  rintro i ⟨ts, h, kk⟩ hi ⟨g, k, x, tk, ho, rfl, rfl, f, rfl⟩
  by_cases hlt : i < t.links.length
  · obtain ⟨l, hl, hl'⟩ := nth_of hlt
    have hw := wrap64 (x := (i : Int) + 1) (by omega) (by omega)
    have hlen : (encL fPid (endsN t.links i)).length = 2 * i := by simp [endsN_len]; omega
    simp [hlt, hl, hw, cTop, -opAppend]
    obtain ⟨t', k', e, ho', _⟩ := append_own ty24 ty60 (by simp) ho (y := .f (.sl [fPid l.a, fPid l.b] .full)) rfl (by simp) (by simp) (by simp [hlen]; omega) (by simp [hlen]; omega)
    rw [e]
    simp [hw]
    exact ⟨_, _, _, _, by rw [endsN_next hl']; exact ho', Sl.of rfl rfl rfl⟩
  · simp [hlt, cTop, -opAppend]
    obtain rfl : i = t.links.length := by omega
    obtain ⟨x', k', e, hr⟩ := fin_ends h1 h2 ho
    rw [e]
    simp
    exact hr _ _ rfl
def ends2I (t : Topo) (i : Nat) (s : St) : Prop := ∃ g k x tk, OwnT k (encL fPid (endsN t.links i)) 2 x tk ∧ Vf.Sl [(1, .ref 0 0), (3, x), (4, .f (intF i))] 31 (cTop t :: g) k s
theorem ends2_g (t : Topo) (h1 : t.links.length < 100000) (h2 : t.hosts.length < 100000) : Gives Tryz.prog 31 [fTop t] (ownF (encL fPid (endsM t))) := by
  refine Gives.of mixed Tryz.func31 rfl rfl rfl (by kernel_rfl) ?_
  simp [fTop]
  refine forX mixed t.links.length (ends2I t) (by kernel_rfl) ⟨_, _, _, 0, .nil, Sl.of rfl rfl rfl⟩ ?_
  rintro i ⟨ts, h, kk⟩ hi ⟨g, k, x, tk, ho, rfl, rfl, f, rfl⟩
  by_cases hlt : i < t.links.length
  · obtain ⟨l, hl, hl'⟩ := nth_of hlt
    have hw := wrap64 (x := (i : Int) + 1) (by omega) (by omega)
    have hlen : (encL fPid (endsN t.links i)).length = 2 * i := by simp [endsN_len]; omega
    simp [hlt, hl, hw, cTop, -opAppend]
    obtain ⟨t', k', e, ho', _⟩ := append_own ty24 ty60 (by simp) ho (y := .f (.sl [fPid l.a, fPid l.b] .full)) rfl (by simp) (by simp) (by simp [hlen]; omega) (by simp [hlen]; omega)
    rw [e]
    simp [hw]
    exact ⟨_, _, _, _, by rw [endsN_next hl']; exact ho', Sl.of rfl rfl rfl⟩
  · simp [hlt, cTop, -opAppend]
    obtain rfl : i = t.links.length := by omega
    obtain ⟨x', k', e, hr⟩ := fin_ends h1 h2 ho
    rw [e]
    simp
    exact hr _ _ rfl
end Go.Proofs.YtilcppikgfmabaaGreat
/- Topologies: the check. -/
namespace Go.Proofs.YtilcppikgfmabaaGreat
open Go.RowKit Go.Proofs.YtilcppikgfmabaaGreat.Vf
set_option linter.unusedVariables false
set_option linter.unusedSimpArgs false
set_option maxRecDepth 100000
set_option maxHeartbeats 4000000
def exM (t : Topo) (a : Pid) : Bool := decide (0 ≤ a.1) && decide (a.1 < t.ports.length) && decide (0 ≤ a.2) && match nth t.ports a.1.toNat with
  | some n => decide (a.2 < n)
  | none => false
theorem ex1_g (t : Topo) (a : Pid) : Gives Tryz.prog 28 [fTop t, fPid a] (boolF (exM t a)) := by
  refine Gives.of mixed Tryz.func28 rfl rfl rfl (by kernel_rfl) ?_
  by_cases c1 : 0 ≤ a.1
  · by_cases c2 : a.1 < t.ports.length
    · by_cases c3 : 0 ≤ a.2
      · have c4 : a.1.toNat < t.ports.length := by omega
        obtain ⟨n, hn, hn'⟩ := nth_of c4
        simp [fTop, exM, c1, c2, c3, c4, hn]
      · simp [fTop, exM, c1, c2, c3]
    · simp [fTop, exM, c1, c2]
  · simp [fTop, exM, c1]
theorem ex2_g (t : Topo) (a : Pid) : Gives Tryz.prog 32 [fTop t, fPid a] (boolF (exM t a)) := by
  refine Gives.of mixed Tryz.func32 rfl rfl rfl (by kernel_rfl) ?_
  by_cases c1 : 0 ≤ a.1
  · by_cases c2 : a.1 < t.ports.length
    · by_cases c3 : 0 ≤ a.2
      · have c4 : a.1.toNat < t.ports.length := by omega
        obtain ⟨n, hn, hn'⟩ := nth_of c4
        simp [fTop, exM, c1, c2, c3, c4, hn]
      · simp [fTop, exM, c1, c2, c3]
    · simp [fTop, exM, c1, c2]
  · simp [fTop, exM, c1]
def badN (n : Int) : Bool := decide (n < 1) || decide (16 < n)
def dupI (l : List Pid) (i : Nat) : Bool := (List.range i).any fun k => decide (nth l i = nth l k)
def dupM (l : List Pid) : Bool := (List.range l.length).any (dupI l)
def sameL (l : Lnk) : Bool := decide (l.a.1 = l.b.1)
def checkM (t : Topo) : Int := if t.ports.length = 0 then 8 else if 16 < (t.ports.length : Int) ∨ 32 < (t.links.length : Int) ∨ 16 < (t.hosts.length : Int) then 12 else if t.ports.any badN = true then 9
  else if (endsM t).any (fun a => !exM t a) = true then 9 else if dupM (endsM t) = true then 7 else if t.links.any sameL = true then 2 else 0
theorem range_at {n j : Nat} (h : j < n) : (List.range n)[j]? = some j := List.getElem?_range h
theorem range_all {p : Nat → Bool} {n k : Nat} (h : noneT p (List.range n) k) (hk : ¬ k < n) : (List.range n).any p = false := h.all (by simpa using hk)
theorem ownF_cap (l : List FV) : ∃ c, ownF l = .sl l c := by
  unfold ownF
  split
  · rename_i h; subst h; exact ⟨_, rfl⟩
  · exact ⟨_, rfl⟩
@[simp] theorem slice24 {l : List Pid} {c : Cap} {b : Nat} (hb : b ≤ l.length) : opSlice (tyOf Tryz.prog) 24 (.f (.sl (encL fPid l) c)) none (some (.f (.sc (.int .i64 b)))) none = some (.f (sl (encL fPid (l.take b)))) := by
  simp only [opSlice, ty24, ty60, optIdx, idx, Int.natCast_nonneg, if_true, Int.toNat_natCast]
  rw [if_pos ⟨by omega, by simpa using hb, by simp [encL], by simp⟩]
  simp
def ck1A (t : Topo) (i : Nat) (s : St) : Prop := noneT badN t.ports i ∧ Vf.Sl [(1, .ref 0 0), (35, .f (sl (encL intF t.ports))), (36, .f (intF t.ports.length)), (37, .f (intF i))] 96 [cTop t] [] s
def ck1B (t : Topo) (c : Cap) (i : Nat) (s : St) : Prop := noneT (fun a => !exM t a) (endsM t) i ∧ ∃ g, Vf.Sl [(1, .ref 0 0), (5, .f (.sl (encL fPid (endsM t)) c)), (50, .f (.sl (encL fPid (endsM t)) c)), (51, .f (intF (endsM t).length)), (52, .f (intF i))] 96 (cTop t :: g) [] s
def ck1C (t : Topo) (c : Cap) (i : Nat) (s : St) : Prop := noneT (dupI (endsM t)) (List.range (endsM t).length) i ∧ ∃ g, Vf.Sl [(1, .ref 0 0), (5, .f (.sl (encL fPid (endsM t)) c)), (61, .f (.sl (encL fPid (endsM t)) c)), (62, .f (intF (endsM t).length)), (63, .f (intF i))] 96 (cTop t :: g) [] s
def ck1D (t : Topo) (c : Cap) (i : Nat) (a : Pid) (g : List (List AV)) (k : Nat) (s : St) : Prop := noneT (fun k => decide (nth (endsM t) i = nth (endsM t) k)) (List.range i) k ∧ ∃ g2, Vf.Sl [(1, .ref 0 0), (5, .f (.sl (encL fPid (endsM t)) c)), (8, .f (intF i)), (9, .ref (g.length + 1) 0), (61, .f (.sl (encL fPid (endsM t)) c)), (62, .f (intF (endsM t).length)), (63, .f (intF i)), (70, .f (sl (encL fPid ((endsM t).take i)))), (71, .f (intF i)), (72, .f (intF k))] 96 (cTop t :: (g ++ [.f (intF a.1), .f (intF a.2)] :: g2)) [] s
def ck1E (t : Topo) (i : Nat) (s : St) : Prop := noneT sameL t.links i ∧ ∃ g, Vf.Sl [(1, .ref 0 0), (82, .f (sl (encL fLnk t.links))), (83, .f (intF t.links.length)), (84, .f (intF i))] 96 (cTop t :: g) [] s
theorem check1_g (t : Topo) : Gives Tryz.prog 16 [fTop t] (intF (checkM t)) := by
  refine Gives.of mixed Tryz.func16 rfl rfl rfl (by kernel_rfl) ?_
  by_cases e0 : t.ports.length = 0
  · simp [fTop, checkM, e0]
  by_cases e1 : 16 < (t.ports.length : Int)
  · simp [fTop, checkM, e0, e1]
  by_cases e2 : 32 < (t.links.length : Int)
  · simp [fTop, checkM, e0, e1, e2]
  by_cases e3 : 16 < (t.hosts.length : Int)
  · simp [fTop, checkM, e0, e1, e2, e3]
  simp [fTop, e0, e1, e2, e3]
  refine forX mixed t.ports.length (ck1A t) (by kernel_rfl) ⟨.zero, Sl.of rfl rfl rfl⟩ ?_
  rintro i ⟨ts, h, kk⟩ hi ⟨hn, rfl, rfl, f, rfl⟩
  by_cases hlt : i < t.ports.length
  · obtain ⟨n, hl, hl'⟩ := nth_of hlt
    have hw := wrap64 (x := (i : Int) + 1) (by omega) (by omega)
    by_cases c1 : n < 1
    · have := any_hit hl' (show badN n = true by simp [badN, c1])
      simp [hlt, hl, c1, checkM, e0, e1, e2, e3, this]
    · by_cases c2 : 16 < n
      · have := any_hit hl' (show badN n = true by simp [badN, c2])
        simp [hlt, hl, c1, c2, checkM, e0, e1, e2, e3, this]
      · simp [hlt, hl, c1, c2, hw]
        exact ⟨hn.next hl' (by simp [badN, c1, c2]), Sl.of rfl rfl rfl⟩
  have a1 := hn.all hlt
  obtain ⟨c, hc⟩ := ownF_cap (encL fPid (endsM t))
  have hE : (endsM t).length ≤ 1000 := by
    have : (endsM t).length = 2 * t.links.length + t.hosts.length := by
      have := endsN_len (l := t.links) (i := t.links.length)
      simp only [endsN, List.take_length] at this
      simp [endsM, this]
    omega
  simp [hlt, cTop]
  refine .inl ⟨_, ends1_g t (by omega) (by omega), ?_⟩
  rw [hc]
  simp
  refine forX mixed (endsM t).length (ck1B t c) (by kernel_rfl) ⟨.zero, [], Sl.of rfl rfl rfl⟩ ?_
  rintro i ⟨ts, h, kk⟩ hi ⟨hn, g, rfl, rfl, f, rfl⟩
  by_cases hlt : i < (endsM t).length
  · obtain ⟨a, hl, hl'⟩ := nth_of hlt
    have hw := wrap64 (x := (i : Int) + 1) (by omega) (by omega)
    simp [hlt, hl, cTop]
    refine .inl ⟨_, ex1_g t a, ?_⟩
    cases hx : exM t a with
    | false =>
      have := any_hit (p := fun a => !exM t a) hl' (by simp [hx])
      simp [checkM, e0, e1, e2, e3, a1, this]
    | true =>
      simp [hw]
      exact ⟨hn.next hl' (by simp [hx]), _, Sl.of rfl rfl rfl⟩
  have a2 := hn.all hlt
  simp [hlt, cTop]
  refine forX mixed (endsM t).length (ck1C t c) (by kernel_rfl) ⟨.zero, _, Sl.of rfl rfl rfl⟩ ?_
  rintro i ⟨ts, h, kk⟩ hi ⟨hn, g, rfl, rfl, f, rfl⟩
  by_cases hlt : i < (endsM t).length
  · obtain ⟨a, hl, hl'⟩ := nth_of hlt
    have hw := wrap64 (x := (i : Int) + 1) (by omega) (by omega)
    have hmin : min i (endsM t).length = i := by omega
    simp [hlt, hl, cTop, slice24 (l := endsM t) (Nat.le_of_lt hlt), hmin]
    refine forX mixed i (ck1D t c i a g) (by kernel_rfl) ⟨.zero, [], Sl.of rfl rfl rfl⟩ ?_
    rintro k ⟨ts, h, kk⟩ hk ⟨hm, g2, rfl, rfl, f, rfl⟩
    by_cases hkt : k < i
    · obtain ⟨b, hb, hb'⟩ := nth_of (show k < (endsM t).length by omega)
      have hw' := wrap64 (x := (k : Int) + 1) (by omega) (by omega)
      have ht : nth ((endsM t).take i) k = some b := by unfold nth; rw [List.getElem?_take_of_lt hkt]; exact hb'
      by_cases hab : a = b
      · subst hab
        have h1 := any_hit (p := fun k => decide (nth (endsM t) i = nth (endsM t) k)) (range_at hkt) (by simp [hl, hb])
        have h2 : dupM (endsM t) = true := any_hit (range_at hlt) h1
        simp [hkt, ht, cTop, checkM, e0, e1, e2, e3, a1, a2, h2]
      · have hab' : (decide (a.1 = b.1) && decide (a.2 = b.2)) = false := by
          rw [Bool.and_eq_false_iff, decide_eq_false_iff_not, decide_eq_false_iff_not]
          rcases Classical.em (a.1 = b.1) with h1 | h1
          · exact .inr fun h2 => hab (Prod.ext h1 h2)
          · exact .inl h1
        simp only [hab', hkt, ht, cTop, hw'] 
        simp [hkt, ht, cTop, hw', hab']
        exact ⟨hm.next (range_at hkt) (by simp [hl, hb, hab]), _, Sl.of rfl rfl rfl⟩
    · obtain rfl : k = i := by omega
      simp [cTop, hw]
      exact ⟨hn.next (range_at hlt) (range_all hm hkt), _, Sl.of rfl rfl rfl⟩
  have a3 : dupM (endsM t) = false := range_all hn hlt
  simp [hlt, cTop]
  refine forX mixed t.links.length (ck1E t) (by kernel_rfl) ⟨.zero, _, Sl.of rfl rfl rfl⟩ ?_
  rintro i ⟨ts, h, kk⟩ hi ⟨hn, g, rfl, rfl, f, rfl⟩
  by_cases hlt : i < t.links.length
  · obtain ⟨l, hl, hl'⟩ := nth_of hlt
    have hw := wrap64 (x := (i : Int) + 1) (by omega) (by omega)
    by_cases hs : l.a.1 = l.b.1
    · have := any_hit hl' (show sameL l = true by simp [sameL, hs])
      simp [hlt, hl, cTop, hs, checkM, e0, e1, e2, e3, a1, a2, a3, this]
    · simp [hlt, hl, cTop, hs, hw]
      exact ⟨hn.next hl' (by simp [sameL, hs]), _, Sl.of rfl rfl rfl⟩
  have a4 := hn.all hlt
  simp [hlt, cTop, checkM, e0, e1, e2, e3, a1, a2, a3, a4]
end Go.Proofs.YtilcppikgfmabaaGreat
/- Topologies: the reference's check. -/
namespace Go.Proofs.YtilcppikgfmabaaGreat
open Go.RowKit Go.Proofs.YtilcppikgfmabaaGreat.Vf
set_option linter.unusedVariables false
set_option linter.unusedSimpArgs false
set_option maxRecDepth 100000
set_option maxHeartbeats 4000000
def ck2A (t : Topo) (i : Nat) (s : St) : Prop := noneT badN t.ports i ∧ Vf.Sl [(1, .ref 0 0), (3, .f (intF i))] 109 [cTop t] [] s
def ck2B (t : Topo) (c : Cap) (i : Nat) (s : St) : Prop := noneT (fun a => !exM t a) (endsM t) i ∧ Vf.Sl [(1, .ref 0 0), (4, .f (.sl (encL fPid (endsM t)) c)), (5, .f (intF i))] 109 [cTop t] [] s
def ck2C (t : Topo) (c : Cap) (i : Nat) (s : St) : Prop := noneT (dupI (endsM t)) (List.range (endsM t).length) i ∧ Vf.Sl [(1, .ref 0 0), (4, .f (.sl (encL fPid (endsM t)) c)), (6, .f (intF i))] 109 [cTop t] [] s
def ck2D (t : Topo) (c : Cap) (i k : Nat) (s : St) : Prop := noneT (fun k => decide (nth (endsM t) i = nth (endsM t) k)) (List.range i) k ∧ Vf.Sl [(1, .ref 0 0), (4, .f (.sl (encL fPid (endsM t)) c)), (6, .f (intF i)), (7, .f (intF k))] 109 [cTop t] [] s
def ck2E (t : Topo) (i : Nat) (s : St) : Prop := noneT sameL t.links i ∧ Vf.Sl [(1, .ref 0 0), (8, .f (intF i))] 109 [cTop t] [] s
theorem check2_g (t : Topo) : Gives Tryz.prog 18 [fTop t] (intF (checkM t)) := by
  refine Gives.of mixed Tryz.func18 rfl rfl rfl (by kernel_rfl) ?_
  by_cases e0 : t.ports.length = 0
  · simp [fTop, checkM, e0]
  by_cases e1 : 16 < (t.ports.length : Int)
  · simp [fTop, checkM, e0, e1]
  by_cases e2 : 32 < (t.links.length : Int)
  · simp [fTop, checkM, e0, e1, e2]
  by_cases e3 : 16 < (t.hosts.length : Int)
  · simp [fTop, checkM, e0, e1, e2, e3]
  simp [fTop, e0, e1, e2, e3]
  refine forX mixed t.ports.length (ck2A t) (by kernel_rfl) ⟨.zero, Sl.of rfl rfl rfl⟩ ?_
  rintro i ⟨ts, h, kk⟩ hi ⟨hn, rfl, rfl, f, rfl⟩
  by_cases hlt : i < t.ports.length
  · obtain ⟨n, hl, hl'⟩ := nth_of hlt
    have hw := wrap64 (x := (i : Int) + 1) (by omega) (by omega)
    by_cases c1 : n < 1
    · have := any_hit hl' (show badN n = true by simp [badN, c1])
      simp [hlt, hl, cTop, c1, checkM, e0, e1, e2, e3, this]
    · by_cases c2 : 16 < n
      · have := any_hit hl' (show badN n = true by simp [badN, c2])
        simp [hlt, hl, cTop, c1, c2, checkM, e0, e1, e2, e3, this]
      · simp [hlt, hl, cTop, c1, c2, hw]
        exact ⟨hn.next hl' (by simp [badN, c1, c2]), Sl.of rfl rfl rfl⟩
  have a1 := hn.all hlt
  obtain ⟨c, hc⟩ := ownF_cap (encL fPid (endsM t))
  have hE : (endsM t).length ≤ 1000 := by
    have : (endsM t).length = 2 * t.links.length + t.hosts.length := by
      have := endsN_len (l := t.links) (i := t.links.length)
      simp only [endsN, List.take_length] at this
      simp [endsM, this]
    omega
  simp [hlt, cTop]
  refine .inl ⟨_, ends2_g t (by omega) (by omega), ?_⟩
  rw [hc]
  refine forX mixed (endsM t).length (ck2B t c) (by kernel_rfl) ⟨.zero, Sl.of rfl rfl rfl⟩ ?_
  rintro i ⟨ts, h, kk⟩ hi ⟨hn, rfl, rfl, f, rfl⟩
  by_cases hlt : i < (endsM t).length
  · obtain ⟨a, hl, hl'⟩ := nth_of hlt
    have hw := wrap64 (x := (i : Int) + 1) (by omega) (by omega)
    simp [hlt, hl, cTop]
    refine ⟨_, ex2_g t a, ?_⟩
    cases hx : exM t a with
    | false =>
      have := any_hit (p := fun a => !exM t a) hl' (by simp [hx])
      simp [checkM, e0, e1, e2, e3, a1, this]
    | true =>
      simp [hw]
      exact ⟨hn.next hl' (by simp [hx]), Sl.of rfl rfl rfl⟩
  have a2 := hn.all hlt
  simp [hlt, cTop]
  refine forX mixed (endsM t).length (ck2C t c) (by kernel_rfl) ⟨.zero, Sl.of rfl rfl rfl⟩ ?_
  rintro i ⟨ts, h, kk⟩ hi ⟨hn, rfl, rfl, f, rfl⟩
  by_cases hlt : i < (endsM t).length
  · obtain ⟨a, hl, hl'⟩ := nth_of hlt
    have hw := wrap64 (x := (i : Int) + 1) (by omega) (by omega)
    simp [hlt, cTop]
    refine forX mixed i (ck2D t c i) (by kernel_rfl) ⟨.zero, Sl.of rfl rfl rfl⟩ ?_
    rintro k ⟨ts, h, kk⟩ hk ⟨hm, rfl, rfl, f, rfl⟩
    by_cases hkt : k < i
    · have hk2 : k < (endsM t).length := by omega
      obtain ⟨b, hb, hb'⟩ := nth_of hk2
      have hw' := wrap64 (x := (k : Int) + 1) (by omega) (by omega)
      by_cases hab : a = b
      · subst hab
        have h1 := any_hit (p := fun k => decide (nth (endsM t) i = nth (endsM t) k)) (range_at hkt) (by simp [hl, hb])
        have h2 : dupM (endsM t) = true := any_hit (range_at hlt) h1
        simp [hkt, hl, hb, hlt, hk2, cTop, checkM, e0, e1, e2, e3, a1, a2, h2]
      · have hab' : (decide (a.1 = b.1) && decide (a.2 = b.2)) = false := by
          rw [Bool.and_eq_false_iff, decide_eq_false_iff_not, decide_eq_false_iff_not]
          rcases Classical.em (a.1 = b.1) with h1 | h1
          · exact .inr fun h2 => hab (Prod.ext h1 h2)
          · exact .inl h1
        simp [hkt, hl, hb, hlt, hk2, cTop, hw', hab']
        exact ⟨hm.next (range_at hkt) (by simp [hl, hb, hab]), Sl.of rfl rfl rfl⟩
    · obtain rfl : k = i := by omega
      simp [cTop, hw]
      exact ⟨hn.next (range_at hlt) (range_all hm hkt), Sl.of rfl rfl rfl⟩
  have a3 : dupM (endsM t) = false := range_all hn hlt
  simp [hlt, cTop]
  refine forX mixed t.links.length (ck2E t) (by kernel_rfl) ⟨.zero, Sl.of rfl rfl rfl⟩ ?_
  rintro i ⟨ts, h, kk⟩ hi ⟨hn, rfl, rfl, f, rfl⟩
  by_cases hlt : i < t.links.length
  · obtain ⟨l, hl, hl'⟩ := nth_of hlt
    have hw := wrap64 (x := (i : Int) + 1) (by omega) (by omega)
    by_cases hs : l.a.1 = l.b.1
    · have := any_hit hl' (show sameL l = true by simp [sameL, hs])
      simp [hlt, hl, cTop, hs, checkM, e0, e1, e2, e3, a1, a2, a3, this]
    · simp [hlt, hl, cTop, hs, hw]
      exact ⟨hn.next hl' (by simp [sameL, hs]), Sl.of rfl rfl rfl⟩
  have a4 := hn.all hlt
  simp [hlt, cTop, checkM, e0, e1, e2, e3, a1, a2, a3, a4]
end Go.Proofs.YtilcppikgfmabaaGreat
/- IngressRules, both. -/
namespace Go.Proofs.YtilcppikgfmabaaGreat
open Go.RowKit Go.Proofs.YtilcppikgfmabaaGreat.Vf
set_option linter.unusedVariables false
set_option linter.unusedSimpArgs false
set_option maxRecDepth 100000
set_option maxHeartbeats 4000000
def hostsTo (t : Topo) (s : Int) (j : Nat) : List Int := ((t.hosts.take j).filter fun h => decide (h.1 = s)).map (·.2)
def stepsN (t : Topo) (n : Nat) : List (Int × List Int) := (List.range n).filterMap fun (s : Nat) => if hostsTo t s t.hosts.length = [] then none else some ((s : Int), hostsTo t s t.hosts.length)
def fStep (v : Int) (p : Int × List Int) : FV := .agg [intF p.1, sl (encL (fOp v) p.2)]
def ingM (t : Topo) (v : Int) : FV := if v < 1 ∨ 255 < v ∨ checkM t ≠ 0 then .sl [] .nil else ownF (encL (fStep v) (stepsN t t.ports.length))
theorem hostsTo_next {t : Topo} {s : Int} {j : Nat} {h : Pid} (hh : t.hosts[j]? = some h) : hostsTo t s (j + 1) = if h.1 = s then hostsTo t s j ++ [h.2] else hostsTo t s j := by
  unfold hostsTo
  rw [List.take_add_one, hh]
  by_cases e : h.1 = s <;> simp [List.filter_append, e]
theorem hostsTo_len {t : Topo} {s : Int} {j : Nat} : (hostsTo t s j).length ≤ t.hosts.length := by
  unfold hostsTo
  rw [List.length_map]
  refine Nat.le_trans (List.length_filter_le _ _) ?_
  simp; omega
theorem stepsN_next {t : Topo} {i : Nat} : stepsN t (i + 1) = stepsN t i ++ if hostsTo t i t.hosts.length = [] then [] else [((i : Int), hostsTo t i t.hosts.length)] := by
  unfold stepsN
  rw [List.range_succ, List.filterMap_append]
  congr 1
  by_cases e : hostsTo t i t.hosts.length = [] <;> simp [e]
theorem stepsN_len {t : Topo} {i : Nat} : (stepsN t i).length ≤ i := by
  unfold stepsN
  refine Nat.le_trans (List.length_filterMap_le _ _) ?_
  simp
structure Two (t : Topo) (v : Int) (i j : Nat) (k : List (Nat × Nat)) (x : AV) (tk : Nat) (y : AV) (tl : Nat) : Prop where
  o : OwnT k (encL (fStep v) (stepsN t i)) 2 x tk
  p : OwnT k (encL (fOp v) (hostsTo t i j)) 9 y tl
  ne : stepsN t i ≠ [] → hostsTo t i j ≠ [] → tk ≠ tl
theorem Two.app {t : Topo} {v : Int} {i j : Nat} {k k' : List (Nat × Nat)} {x y : AV} {tk tl t' : Nat} {p : Int} (h : Two t v i j k x tk y tl) (ho : OwnT k' (encL (fOp v) (hostsTo t i j) ++ [fOp v p]) 9 (.own (encL (fOp v) (hostsTo t i j) ++ [fOp v p]) t') t')
    (hk : ∀ q, q < k.length → (encL (fOp v) (hostsTo t i j) ≠ [] → q ≠ tl) → k'[q]? = k[q]? ∧ t' ≠ q) (hn : hostsTo t i (j + 1) = hostsTo t i j ++ [p]) : Two t v i (j + 1) k' x tk (.own (encL (fOp v) (hostsTo t i j ++ [p])) t') t' := by
  have key : stepsN t i ≠ [] → k'[tk]? = k[tk]? ∧ t' ≠ tk := fun hs => hk tk (h.o.lt (by simpa [encL] using hs)) fun hp => h.ne hs (by simpa [encL] using hp)
  refine ⟨h.o.keep fun hs => (key (by simpa [encL] using hs)).1, ?_, fun hs _ => (key hs).2.symm⟩
  rw [hn]
  simpa using ho
theorem Two_same {t : Topo} {v : Int} {i j : Nat} {p : Pid} (hp : t.hosts[j]? = some p) (hs : ¬ p.1 = i) : Two t v i (j + 1) = Two t v i j := by
  have : hostsTo t i (j + 1) = hostsTo t i j := by rw [hostsTo_next hp, if_neg hs]
  funext k x tk y tl
  apply propext
  exact ⟨fun h => ⟨h.o, by rw [← this]; exact h.p, by rw [← this]; exact h.ne⟩, fun h => ⟨h.o, by rw [this]; exact h.p, by rw [this]; exact h.ne⟩⟩
def in1A (t : Topo) (v : Int) (i : Nat) (s : St) : Prop := ∃ g k x tk, OwnT k (encL (fStep v) (stepsN t i)) 2 x tk ∧ Vf.Sl [(1, .f (intF v)), (2, .ref 0 0), (5, x), (22, .f (sl (encL intF t.ports))), (23, .f (intF t.ports.length)), (24, .f (intF i))] 58 (cTop t :: g) k s
def in1B (t : Topo) (v : Int) (i j : Nat) (s : St) : Prop := ∃ g k x tk y tl, Two t v i j k x tk y tl ∧ Vf.Sl [(1, .f (intF v)), (2, .ref 0 0), (5, x), (6, .f (intF i)), (7, y), (22, .f (sl (encL intF t.ports))), (23, .f (intF t.ports.length)), (24, .f (intF i)), (28, .f (sl (encL fPid t.hosts))), (29, .f (intF t.hosts.length)), (30, .f (intF j))] 58 (cTop t :: g) k s
theorem ingress1_g (t : Topo) (v : Int) (h1 : t.links.length < 100000) (h2 : t.hosts.length < 100000) (h3 : t.ports.length < 100000) : Gives Tryz.prog 7 [fTop t, intF v] (ingM t v) := by
  refine Gives.of mixed Tryz.func7 rfl rfl rfl (by kernel_rfl) ?_
  by_cases e1 : v < 1
  · simp [fTop, ingM, e1]
  by_cases e2 : 255 < v
  · simp [fTop, ingM, e1, e2]
  simp [fTop, e1, e2]
  refine .inl ⟨_, check1_g t, ?_⟩
  by_cases e3 : checkM t = 0
  case neg => simp [e3, ingM]
  have hM : ingM t v = ownF (encL (fStep v) (stepsN t t.ports.length)) := by simp [ingM, e1, e2, e3]
  simp [e3]
  refine forX mixed t.ports.length (in1A t v) (by kernel_rfl) ⟨_, _, _, 0, .nil, Sl.of rfl rfl rfl⟩ ?_
  rintro i ⟨ts, h, kk⟩ hi ⟨g, k, x, tk, ho, rfl, rfl, f, rfl⟩
  by_cases hlt : i < t.ports.length
  · have hw := wrap64 (x := (i : Int) + 1) (by omega) (by omega)
    simp [hlt, cTop]
    refine forX mixed t.hosts.length (in1B t v i) (by kernel_rfl) ⟨_, _, _, tk, _, 0, ⟨ho, .nil, fun _ h => absurd rfl h⟩, Sl.of rfl rfl rfl⟩ ?_
    rintro j ⟨ts, h, kk⟩ hj ⟨g, k, x, tk, y, tl, hO, rfl, rfl, f, rfl⟩
    by_cases hjt : j < t.hosts.length
    · obtain ⟨p, hp, hp'⟩ := nth_of hjt
      have hw' := wrap64 (x := (j : Int) + 1) (by omega) (by omega)
      by_cases hs : p.1 = i
      · simp [hjt, hp, cTop, hs]
        refine .inl ⟨_, ing1_g _ _, ?_⟩
        simp [-opAppend]
        obtain ⟨t', k', e, ho', hlen, hkeep⟩ := append_own ty44 ty54 (by simp) hO.p (y := .f (.sl [fOp v p.2] .full)) rfl (by simp) (by simp) (by have := hostsTo_len (t := t) (s := i) (j := j); simp; omega) (by have := hostsTo_len (t := t) (s := i) (j := j); simp; omega)
        rw [e]
        simp [hw']
        exact ⟨_, _, _, tk, _, t', Two.app hO ho' hkeep (by rw [hostsTo_next hp', if_pos hs]), Sl.of rfl rfl rfl⟩
      · simp [hjt, hp, cTop, hs, hw']
        exact ⟨_, _, _, tk, _, tl, by rw [Two_same hp' hs]; exact hO, Sl.of rfl rfl rfl⟩
    · obtain rfl : j = t.hosts.length := by omega
      by_cases hn : hostsTo t i t.hosts.length = []
      · obtain ⟨_, rfl⟩ := hO.p.resolve_right (fun h => h.1 (by simp [hn]))
        simp [hjt, cTop, hw]
        exact ⟨_, _, _, tk, by rw [stepsN_next, if_pos hn]; simpa using hO.o, Sl.of rfl rfl rfl⟩
      · obtain ⟨hne, rfl, hy⟩ := hO.p.resolve_left (fun h => hn (by simpa [encL] using h.1))
        have hpos : 0 < (hostsTo t i t.hosts.length).length := List.length_pos_iff.2 hn
        simp [hjt, cTop, hw, hpos, -opAppend]
        obtain ⟨t', k', e, ho', hlen, hkeep⟩ := append_own ty30 ty46 (by simp) hO.o (y := .f (.sl [fStep v ((i : Int), hostsTo t i t.hosts.length)] .full)) rfl (by simp) (by simp [fStep]) (by have := stepsN_len (t := t) (i := i); simp; omega) (by have := stepsN_len (t := t) (i := i); simp; omega)
        have e' := e
        simp only [fStep] at e'
        rw [e']
        simp [hw]
        exact ⟨_, _, _, t', by rw [stepsN_next, if_neg hn, ← encL_snoc]; exact ho', Sl.of rfl rfl rfl⟩
  · obtain rfl : i = t.ports.length := by omega
    simp [hlt, cTop, hM]
    rw [ho.ret]
def in2A (t : Topo) (v : Int) (i : Nat) (s : St) : Prop := ∃ k x tk, OwnT k (encL (fStep v) (stepsN t i)) 2 x tk ∧ Vf.Sl [(1, .f (intF v)), (2, .ref 0 0), (5, x), (6, .f (intF i))] 64 [cTop t] k s
def in2B (t : Topo) (v : Int) (i j : Nat) (s : St) : Prop := ∃ k x tk y tl, Two t v i j k x tk y tl ∧ Vf.Sl [(1, .f (intF v)), (2, .ref 0 0), (5, x), (6, .f (intF i)), (7, y), (8, .f (intF j))] 64 [cTop t] k s
theorem ingress2_g (t : Topo) (v : Int) (h1 : t.links.length < 100000) (h2 : t.hosts.length < 100000) (h3 : t.ports.length < 100000) : Gives Tryz.prog 8 [fTop t, intF v] (ingM t v) := by
  refine Gives.of mixed Tryz.func8 rfl rfl rfl (by kernel_rfl) ?_
  by_cases e1 : v < 1
  · simp [fTop, ingM, e1]
  by_cases e2 : 255 < v
  · simp [fTop, ingM, e1, e2]
  simp [fTop, e1, e2]
  refine .inl ⟨_, check2_g t, ?_⟩
  by_cases e3 : checkM t = 0
  case neg => simp [e3, ingM]
  have hM : ingM t v = ownF (encL (fStep v) (stepsN t t.ports.length)) := by simp [ingM, e1, e2, e3]
  simp [e3]
  refine forX mixed t.ports.length (in2A t v) (by kernel_rfl) ⟨_, _, 0, .nil, Sl.of rfl rfl rfl⟩ ?_
  rintro i ⟨ts, h, kk⟩ hi ⟨k, x, tk, ho, rfl, rfl, f, rfl⟩
  by_cases hlt : i < t.ports.length
  · have hw := wrap64 (x := (i : Int) + 1) (by omega) (by omega)
    simp [hlt, cTop]
    refine forX mixed t.hosts.length (in2B t v i) (by kernel_rfl) ⟨_, _, tk, _, 0, ⟨ho, .nil, fun _ h => absurd rfl h⟩, Sl.of rfl rfl rfl⟩ ?_
    rintro j ⟨ts, h, kk⟩ hj ⟨k, x, tk, y, tl, hO, rfl, rfl, f, rfl⟩
    by_cases hjt : j < t.hosts.length
    · obtain ⟨p, hp, hp'⟩ := nth_of hjt
      have hw' := wrap64 (x := (j : Int) + 1) (by omega) (by omega)
      by_cases hs : p.1 = i
      · simp [hjt, hp, cTop, hs]
        refine .inl ⟨_, ing2_g _ _, ?_⟩
        simp [-opAppend]
        obtain ⟨t', k', e, ho', hlen, hkeep⟩ := append_own ty44 ty54 (by simp) hO.p (y := .f (.sl [fOp v p.2] .full)) rfl (by simp) (by simp) (by have := hostsTo_len (t := t) (s := i) (j := j); simp; omega) (by have := hostsTo_len (t := t) (s := i) (j := j); simp; omega)
        rw [e]
        simp [hw']
        exact ⟨_, _, tk, _, t', Two.app hO ho' hkeep (by rw [hostsTo_next hp', if_pos hs]), Sl.of rfl rfl rfl⟩
      · simp [hjt, hp, cTop, hs, hw']
        exact ⟨_, _, tk, _, tl, by rw [Two_same hp' hs]; exact hO, Sl.of rfl rfl rfl⟩
    · obtain rfl : j = t.hosts.length := by omega
      by_cases hn : hostsTo t i t.hosts.length = []
      · obtain ⟨_, rfl⟩ := hO.p.resolve_right (fun h => h.1 (by simp [hn]))
        simp [hjt, cTop, hw]
        exact ⟨_, _, tk, by rw [stepsN_next, if_pos hn]; simpa using hO.o, Sl.of rfl rfl rfl⟩
      · obtain ⟨hne, rfl, hy⟩ := hO.p.resolve_left (fun h => hn (by simpa [encL] using h.1))
        have hpos : 0 < (hostsTo t i t.hosts.length).length := List.length_pos_iff.2 hn
        simp [hjt, cTop, hw, hpos, -opAppend]
        obtain ⟨t', k', e, ho', hlen, hkeep⟩ := append_own ty30 ty46 (by simp) hO.o (y := .f (.sl [fStep v ((i : Int), hostsTo t i t.hosts.length)] .full)) rfl (by simp) (by simp [fStep]) (by have := stepsN_len (t := t) (i := i); simp; omega) (by have := stepsN_len (t := t) (i := i); simp; omega)
        have e' := e
        simp only [fStep] at e'
        rw [e']
        simp [hw]
        exact ⟨_, _, t', by rw [stepsN_next, if_neg hn, ← encL_snoc]; exact ho', Sl.of rfl rfl rfl⟩
  · obtain rfl : i = t.ports.length := by omega
    simp [hlt, cTop, hM]
    rw [ho.ret]
/-- One and the same list of steps: the test says yes. -/
theorem eqsteps_g (v : Int) (l : List (Int × List Int)) (c c' : Cap) (hl : l.length < 2^62) (hl2 : ∀ p ∈ l, p.2.length < 2^62) : Gives Tryz.prog 6 [.sl (encL (fStep v) l) c, .sl (encL (fStep v) l) c'] (boolF true) := by
  refine Gives.of mixed Tryz.func6 rfl rfl rfl (by kernel_rfl) ?_
  simp
  refine forX mixed l.length (fun k s => Vf.Sl [(0, .f (.sl (encL (fStep v) l) c)), (1, .f (.sl (encL (fStep v) l) c')), (5, .f (intF k))] 42 [] [] s) (by kernel_rfl) (Sl.of rfl rfl rfl) ?_
  rintro k ⟨t, h, kk⟩ hk ⟨rfl, rfl, f, rfl⟩
  by_cases hlt : k < l.length
  · obtain ⟨x, hx, hx'⟩ := nth_of hlt
    have hw := wrap64 (x := (k : Int) + 1) (by omega) (by omega)
    simp [hlt, hx, fStep]
    refine ⟨_, eqops_g v x.2 .un .un (hl2 x (List.mem_of_getElem? hx')), ?_⟩
    simp [hw]
    exact Sl.of rfl rfl rfl
  · simp [hlt]
end Go.Proofs.YtilcppikgfmabaaGreat
/- The law RulegenIngressRules over values; its arguments opened. -/
namespace Go.Proofs.YtilcppikgfmabaaGreat
open Go.RowKit Go.Proofs.YtilcppikgfmabaaGreat.Vf
set_option linter.unusedVariables false
set_option linter.unusedSimpArgs false
set_option maxRecDepth 100000
set_option maxHeartbeats 4000000
theorem works_g : Gives Tryz.prog 5 [] (boolF true) :=
  Gives.of_calls ⟨_, Tryz.func5, rfl, by decide⟩ works_calls (fun w F => .sc _)
theorem law_g (t : Topo) (v : Int) : Gives Tryz.prog 3 [fTop t, intF v] (boolF true) := by
  refine Gives.of mixed Tryz.func3 rfl rfl rfl (by kernel_rfl) ?_
  simp [fTop]
  refine .inl ⟨_, small_g t, ?_⟩
  cases hs : smallM t with
  | false =>
    simp
    exact .inl works_g
  | true =>
    simp only [smallM, Bool.and_eq_true, decide_eq_true_eq] at hs
    obtain ⟨⟨h1, h2⟩, h3⟩ := hs
    obtain ⟨c, hc⟩ : ∃ c, ownF (encL (fStep v) (stepsN t t.ports.length)) = .sl (encL (fStep v) (stepsN t t.ports.length)) c := by
      unfold ownF
      split
      · rename_i h; rw [h]; exact ⟨_, rfl⟩
      · exact ⟨_, rfl⟩
    have he : Gives Tryz.prog 6 [ingM t v, ingM t v] (boolF true) := by
      unfold ingM
      split
      · exact eqsteps_g v [] .nil .nil (by simp) (by simp)
      · rw [hc]
        refine eqsteps_g v _ c c (by have := stepsN_len (t := t) (i := t.ports.length); omega) fun p hp => ?_
        unfold stepsN at hp
        obtain ⟨s, _, hs⟩ := List.mem_filterMap.1 hp
        split at hs
        · cases hs
        · obtain rfl := Option.some.inj hs
          have := hostsTo_len (t := t) (s := s) (j := t.hosts.length)
          show (hostsTo t s t.hosts.length).length < _
          omega
    simp
    refine ⟨_, ingress1_g t v (by omega) (by omega) (by omega), ?_⟩
    try simp
    refine ⟨_, ingress2_g t v (by omega) (by omega) (by omega), ?_⟩
    try simp
    refine ⟨_, he, ?_⟩
    try simp
    exact works_g
theorem topo_opens : Opens Tryz.prog 26 Topo fTop (fun _ => True) := by
  have hp : Opens Tryz.prog 60 Pid fPid (fun _ => True) :=
    (opens_struct Tryz.underlying60 (fun y => by kernel_rfl) (flds_cons (sz := 1) (opens_int Tryz.underlying3) rfl (by kernel_rfl) (fun _ => rfl) (flds_cons (sz := 1) (opens_int Tryz.underlying3) rfl (by kernel_rfl) (fun _ => rfl) flds_nil))).map (fun p => (p.1, p.2.1)) (fun _ => rfl) (fun _ _ => trivial)
  have hl : Opens Tryz.prog 70 Lnk fLnk (fun _ => True) :=
    (opens_struct Tryz.underlying70 (fun y => by kernel_rfl) (flds_cons (sz := 2) hp rfl (by kernel_rfl) (fun _ => rfl) (flds_cons (sz := 2) hp rfl (by kernel_rfl) (fun _ => rfl) (flds_cons (sz := 1) (opens_bool Tryz.underlying4) rfl (by kernel_rfl) (fun _ => rfl) flds_nil)))).map (fun p => ⟨p.1, p.2.1, p.2.2.1⟩) (fun _ => rfl) (fun _ _ => trivial)
  exact (opens_struct Tryz.underlying26 (fun y => by kernel_rfl) (flds_cons (sz := 1) (opens_slice (sz := 1) Tryz.underlying22 (by kernel_rfl) (by decide) (fun _ => rfl) (opens_int Tryz.underlying3)) rfl (by kernel_rfl) (fun _ => rfl) (flds_cons (sz := 1) (opens_slice (sz := 5) Tryz.underlying23 (by kernel_rfl) (by decide) (fun _ => rfl) hl) rfl (by kernel_rfl) (fun _ => rfl) (flds_cons (sz := 1) (opens_slice (sz := 2) Tryz.underlying24 (by kernel_rfl) (by decide) (fun _ => rfl) hp) rfl (by kernel_rfl) (fun _ => rfl) flds_nil)))).map (fun p => ⟨p.1, p.2.1, p.2.2.1⟩) (fun _ => rfl) (fun _ _ => trivial)
end Go.Proofs.YtilcppikgfmabaaGreat
