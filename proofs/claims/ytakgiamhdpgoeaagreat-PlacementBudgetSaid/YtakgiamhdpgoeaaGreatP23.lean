/- Lemmas. -/
import Derived.Test.YtakgiamhdpgoeaaGreatP21
import Derived.Test.YtakgiamhdpgoeaaGreatP19
import Derived.Test.YtakgiamhdpgoeaaGreatP22
set_option linter.unusedSimpArgs false
namespace Go.Proofs.YtakgiamhdpgoeaaGreat
set_option linter.unusedVariables false
structure Use.Le (u v : Use) : Prop where
 t : u.tZ ≤ v.tZ
 g : u.gates ≤ v.gates
 s : u.sram ≤ v.sram
 m : u.tcam ≤ v.tcam
structure Use.Ok (u : Use) : Prop where
 t : 0 ≤ u.tZ
 g : 0 ≤ u.gates
 s : 0 ≤ u.sram ∧ u.sram ≤ 9223372036854775807
 m : 0 ≤ u.tcam ∧ u.tcam ≤ 9223372036854775807
theorem Use.Le.refl (u : Use) : u.Le u := ⟨Int.le_refl _, Int.le_refl _, Int.le_refl _, Int.le_refl _⟩
theorem Use.Le.trans {u v x : Use} (h : u.Le v) (h2 : v.Le x) : u.Le x := ⟨Int.le_trans h.t h2.t, Int.le_trans h.g h2.g, Int.le_trans h.s h2.s, Int.le_trans h.m h2.m⟩
theorem zLb (a b : Int) : zsd a b = min 9223372036854775807 (a + b) := by
 unfold zsd
 split <;> omega
theorem cost2_bd (a b : Int) : 0 ≤ cost2 a b ∧ cost2 a b ≤ 9223372036854775807 := by
 unfold cost2
 rw [zLb, zLb]
 omega
theorem cost2_ge {a b : Int} (h : a ≤ 9223372036854775807) : a ≤ cost2 a b := by
 unfold cost2
 rw [zLb, zLb]
 omega
theorem Use.zero_ok : Use.zero.Ok := ⟨by decide, by decide, by decide, by decide⟩
section
variable {J : JobM}
theorem JobM.add_ok {u : Use} (h : u.Ok) (i : Nat) : (J.add u i).Ok := by
 have := h.t; have := h.g
 refine ⟨?_, ?_, cost2_bd _ _, cost2_bd _ _⟩
 ·show 0 ≤ (if J.gate.getD i false then u.tZ else u.tZ + 1); split <;> omega
 ·show 0 ≤ (if J.gate.getD i false then u.gates + 1 else u.gates); split <;> omega
theorem JobM.add_ge {u : Use} (h : u.Ok) (i : Nat) : u.Le (J.add u i) := by
 refine ⟨?_, ?_, cost2_ge h.s.2, cost2_ge h.m.2⟩
 ·show u.tZ ≤ (if J.gate.getD i false then u.tZ else u.tZ + 1); split <;> omega
 ·show u.gates ≤ (if J.gate.getD i false then u.gates + 1 else u.gates); split <;> omega
theorem JobM.useFrom_app (s : Int) : ∀ (l1 l2 : List Int) (i : Nat) (u : Use), J.useFrom s i (l1 ++ l2) u = J.useFrom s (i + l1.length) l2 (J.useFrom s i l1 u)
 | [], l2, i, u => by simp [JobM.useFrom]
 | x :: l1, l2, i, u => by
  simp only [List.cons_append, JobM.useFrom, List.length_cons]
  rw [JobM.useFrom_app s l1 l2]
  congr 1
  omega
theorem JobM.useFrom_ok (s : Int) : ∀ (l : List Int) (i : Nat) (u : Use), u.Ok → (J.useFrom s i l u).Ok ∧ u.Le (J.useFrom s i l u)
 | [], i, u, h => ⟨h, Use.Le.refl _⟩
 | x :: l, i, u, h => by
  simp only [JobM.useFrom]
  split
  ·have := JobM.useFrom_ok s l (i + 1) (J.add u i) (JobM.add_ok h i)
   exact ⟨this.1, (JobM.add_ge h i).trans this.2⟩
  ·exact JobM.useFrom_ok s l (i + 1) u h
theorem JobM.use_ok (st : List Int) (s : Int) : (J.use st s).Ok := (JobM.useFrom_ok s st 0 _ Use.zero_ok).1
theorem JobM.use_snoc (pre : List Int) (x s : Int) : J.use (pre ++ [x]) s = if x = s then J.add (J.use pre s) pre.length else J.use pre s := by
 unfold JobM.use
 rw [JobM.useFrom_app]
 simp [JobM.useFrom]
theorem zec {l : List Int} {i : Nat} {x d : Int} (h : l[i]? = some x) : l.getD i d = x := by simp [List.getD, h]
def JobM.earlyRow (J : JobM) (out : List Int) (j : Nat) : Int :=
 (List.range j).foldl (fun m i => if J.dep i j = 2 then max m (out.getD i 0 + 1) else if J.dep i j = 1 then max m (out.getD i 0) else m) 0
def JobM.earlyTo (J : JobM) : Nat → List Int
 | 0 => []
 | j + 1 => JobM.earlyTo J j ++ [J.earlyRow (JobM.earlyTo J j) j]
theorem JobM.earlyTo_len (j : Nat) : (J.earlyTo j).length = j := by
 induction j with
 | zero => rfl
 | succ j ih => rw [JobM.earlyTo, List.length_append, ih]; rfl
end
structure PlcM where
 status : Int
 stage : List Int
 steps : Int
 reason : Int
 units : List Int
def PlcM.no (e : Int) (k : Int) (l : List Int) : PlcM := ⟨2, [], k, e, l⟩
def Res.plc : Res → PlcM
 | .placed st k => ⟨1, st, k, 0, []⟩
 | .undecided k => ⟨3, [], k, 19, []⟩
 | .full k => ⟨2, [], k, 13, []⟩
def JobM.bigs (J : JobM) : Option Nat := (List.range J.n).find? fun i => !(J.add Use.zero i).fits J.chip
def JobM.lates (J : JobM) : Bool := (J.earlyTo J.n).any fun s => decide (J.chip.stages ≤ s)
def JobM.obst (J : JobM) (crit : List Int) : Int × List Int :=
 match J.bigs with
 | some i => (18, [(i : Int)])
 | none => if J.lates then (17, crit) else (0, [])
def zub (e : Int) (J : JobM) (crit : List Int) (b : Int) (r : PlcM) : Prop :=
 if e ≠ 0 then r = .no e 0 [] else if zAa J.chip ≠ 0 then r = .no (zAa J.chip) 0 [] else if b < 0 then r = .no 2 0 []
 else if (J.obst crit).1 ≠ 0 then r = .no (J.obst crit).1 0 (J.obst crit).2 else ∃ x, Srch J (min b 1048576).toNat [] 0 0 x ∧ r = x.plc
def zRb (e : Int) (J : JobM) (st : List Int) : Bool := decide (e = 0) && decide (zAa J.chip = 0) && J.valid st
section
variable {J : JobM} {e : Int} {crit : List Int}
theorem zOe {c : ChipD} (h : zAa c = 0) : Use.zero.fits c = true ∧ 1 ≤ c.stages ∧ c.stages ≤ 16 := by
 unfold zAa at h
 split at h
 ·omega
 ·rename_i h1
  split at h
  ·omega
  ·rename_i h2
   split at h
   ·omega
   ·rename_i h3
    rw [List.any_eq_true] at h2
    have k0 : bad64 c.tZ = false := by
     cases hb : bad64 c.tZ with
     | false => rfl
     | true => exact absurd ⟨0, by simp, hb⟩ h2
    have k1 : bad64 c.gates = false := by
     cases hb : bad64 c.gates with
     | false => rfl
     | true => exact absurd ⟨1, by simp, hb⟩ h2
    unfold bad64 at k0 k1
    simp only [Bool.or_eq_false_iff, decide_eq_false_iff_not] at k0 k1
    unfold Use.fits Use.zero
    simp only [Bool.and_eq_true, decide_eq_true_eq]
    omega
theorem res_steps (x : Res) : x.plc.steps = (x.steps : Int) := by cases x <;> rfl
theorem zub.grow {b b' : Int} {r r' : PlcM} (hb : 0 ≤ b) (hbb : b ≤ b') (h : zub e J crit b r) (h' : zub e J crit b' r') : r.steps ≤ b ∧ r.steps ≤ r'.steps ∧ (r.status = 3 ∨ r' = r) := by
 unfold zub at h h'
 by_cases he : e ≠ 0
 ·rw [if_pos he] at h h'
  rw [h, h']
  exact ⟨hb, Int.le_refl _, .inr rfl⟩
 ·rw [if_neg he] at h h'
  by_cases hc : zAa J.chip ≠ 0
  ·rw [if_pos hc] at h h'
   rw [h, h']
   exact ⟨hb, Int.le_refl _, .inr rfl⟩
  ·rw [if_neg hc, if_neg (by omega)] at h h'
   by_cases ho : (J.obst crit).1 ≠ 0
   ·rw [if_pos ho] at h h'
    rw [h, h']
    exact ⟨hb, Int.le_refl _, .inr rfl⟩
   ·rw [if_neg ho] at h h'
    obtain ⟨x, hx, rfl⟩ := h
    obtain ⟨y, hy, rfl⟩ := h'
    have hl := hx.le (Nat.zero_le _)
    rw [res_steps, res_steps]
    refine ⟨by omega, ?_⟩
    rcases hx.grow (Nat.zero_le _) (show (min b 1048576).toNat ≤ (min b' 1048576).toNat by omega) hy with h1 | ⟨h1, h2⟩
    ·rw [h1]; exact ⟨Int.le_refl _, .inr rfl⟩
    ·refine ⟨by omega, .inl ?_⟩
     rw [h1]
     rfl
end
structure UnitM where
 table : Int
 cond : List ExD
 guards : List (Int × Bool)
mutual
def nodU : NodD → List (Int × Bool) → Nat → List UnitM
 | .mk k t c _ _ tl _ _ el, gs, i =>
  { table := if k = 2 then -1 else t, cond := if k = 2 then c.l else [], guards := gs } ::
   (nodsU tl (gs ++ [((i : Int), true)]) (i + 1) ++ nodsU el (gs ++ [((i : Int), false)]) (i + 1 + (nodsU tl (gs ++ [((i : Int), true)]) (i + 1)).length))
def nodsU : List NodD → List (Int × Bool) → Nat → List UnitM
 | [], _, _ => []
 | x :: l, gs, i => nodU x gs i ++ nodsU l gs (i + (nodU x gs i).length)
end
def zed (d : PrgD) : List UnitM := if (zEc d).2 = 0 then nodsU d.cZ.l [] 0 else []
def exclB (l : List UnitM) (i j : Nat) : Bool := match l[i]?, l[j]? with
 | some u, some v => u.guards.any fun g => v.guards.any fun h => g.1 == h.1 && (!g.2) == h.2
 | _, _ => false
def guardsB (u : UnitM) (i : Int) : Bool := u.guards.any fun g => g.1 == i
def zCc (d : PrgD) : Int := isum (d.hZ.l.map fun h => (h.fields.l.length : Int))
def zgf (d : PrgD) (k : Int) : Int := if k = 0 then zCc d else if k = 1 then d.hZ.l.length else if k = 2 then d.mZ.l.length else if k = 3 then d.rZ.l.length else 0
def zRd (d : PrgD) (k : Int) : Int := if k ≤ 0 then 0 else if k = 1 then zCc d else if k = 2 then zCc d + d.hZ.l.length else if k = 3 then zCc d + d.hZ.l.length + d.mZ.l.length else zCc d + d.hZ.l.length + d.mZ.l.length + d.rZ.l.length
def zOb (d : PrgD) (k i : Int) : Int := if i < 0 ∨ zgf d k ≤ i then -1 else zRd d k + i
def zvb (d : PrgD) (h f : Int) : Int :=
 if h = -1 then zOb d 2 f else if h < 0 ∨ (d.hZ.l.length : Int) ≤ h then -1 else match d.hZ.l[h.toNat]? with
 | none => -1
 | some x => if f < 0 ∨ (x.fields.l.length : Int) ≤ f then -1 else f + isum ((d.hZ.l.take h.toNat).map fun h => (h.fields.l.length : Int))
def fieldsOf (n : List ExD) : List (Int × Int) := n.filterMap fun x => if x.op = 2 then some (x.n, x.w) else none
def zCa (n : List ExD) : List Int := n.filterMap fun x => if x.op = 4 then some x.n else none
structure Acc where
 f : List (Int × Int)
 h : List Int
 r : List Int
def Acc.app (a b : Acc) : Acc := ⟨a.f ++ b.f, a.h ++ b.h, a.r ++ b.r⟩
def Acc.none_ : Acc := ⟨[], [], []⟩
def exAcc (n : List ExD) : Acc := ⟨fieldsOf n, zCa n, []⟩
def zob (s : StD) : Acc :=
 Acc.app (if s.kind = 1 then exAcc s.value.l else if s.kind = 2 then ⟨[], [s.hdr], []⟩ else if s.kind = 4 then (exAcc s.index.l).app ⟨[], [], [s.reg]⟩ else if s.kind = 5 then (exAcc s.index.l).app (exAcc s.value.l) else .none_)
  (if (s.kind = 1 ∨ s.kind = 4) ∧ s.dh ≠ -1 then ⟨[], [s.dh], []⟩ else .none_)
def zBa (d : PrgD) (s : StD) : Acc :=
 if s.kind = 1 ∨ s.kind = 4 then ⟨[(s.dh, s.df)], [], []⟩
 else if s.kind = 2 ∨ s.kind = 3 then ⟨(List.range (zoc d s.hdr).length).map fun (f : Nat) => (s.hdr, (f : Int)), [s.hdr], []⟩
 else if s.kind = 5 then ⟨[], [], [s.reg]⟩ else .none_
def zVa (f : StD → Acc) : List StD → Acc
 | [] => .none_
 | s :: l => (f s).app (zVa f l)
def zef (d : PrgD) (i : Int) : List StD := if (zYa d i).2 = 0 then (match (if i < 0 then none else d.aZ.l[i.toNat]?) with | none => [] | some a => a.body.l) else []
def zjd (d : PrgD) (i : Int) : Acc := zVa zob (zef d i)
def zuc (d : PrgD) (i : Int) : Acc := zVa (zBa d) (zef d i)
def zwa (d : PrgD) (a : Acc) : List Int :=
 ((a.f.map fun x => zvb d x.1 x.2) ++ a.h.map (zOb d 1) ++ a.r.map (zOb d 3)).filter fun n => decide (0 ≤ n)
def tblOf (d : PrgD) (t : Int) : Option TblD := if t < 0 then none else d.tZ.l[t.toNat]?
def zhb (d : PrgD) (u : UnitM) : List Int :=
 if u.table = -1 then zwa d ⟨fieldsOf u.cond, zCa u.cond, []⟩ else match tblOf d u.table with
 | none => []
 | some t => zwa d ⟨t.keys.l.map fun k => (k.h, k.f), [], []⟩ ++ t.aZ.l.flatMap fun a => zwa d (zjd d a)
def zKa (d : PrgD) (u : UnitM) : List Int := match tblOf d u.table with
 | none => []
 | some t => t.aZ.l.flatMap fun a => zwa d (zuc d a)
def zga {α : Type} (a b : List α) : Prop := ∀ x, x ∈ a ↔ x ∈ b
theorem zga.refl {α : Type} (a : List α) : zga a a := fun _ => Iff.rfl
theorem zga.trans {α : Type} {a b c : List α} (h : zga a b) (h2 : zga b c) : zga a c := fun x => (h x).trans (h2 x)
theorem zga.app {α : Type} {a b c e : List α} (h : zga a b) (h2 : zga c e) : zga (a ++ c) (b ++ e) := fun x => by
 rw [List.mem_append, List.mem_append, h x, h2 x]
theorem zga.map {α β : Type} {a b : List α} (h : zga a b) (f : α → β) : zga (a.map f) (b.map f) := fun x => by
 simp only [List.mem_map, h _]
theorem zga.filter {α : Type} {a b : List α} (h : zga a b) (f : α → Bool) : zga (a.filter f) (b.filter f) := fun x => by
 simp only [List.mem_filter, h _]
theorem zId {a b a' b' : List Int} (h : zga a a') (h2 : zga b b') : zcc a b = zcc a' b' := by
 unfold zcc
 rw [Bool.eq_iff_iff, List.any_eq_true, List.any_eq_true]
 constructor
 ·rintro ⟨x, hx, hy⟩
  obtain ⟨y, hy1, hy2⟩ := List.any_eq_true.1 hy
  exact ⟨x, (h x).1 hx, List.any_eq_true.2 ⟨y, (h2 y).1 hy1, hy2⟩⟩
 ·rintro ⟨x, hx, hy⟩
  obtain ⟨y, hy1, hy2⟩ := List.any_eq_true.1 hy
  exact ⟨x, (h x).2 hx, List.any_eq_true.2 ⟨y, (h2 y).2 hy1, hy2⟩⟩
theorem zid {d : PrgD} {a b : Acc} (hf : zga a.f b.f) (hh : zga a.h b.h) (hr : zga a.r b.r) : zga (zwa d a) (zwa d b) :=
 ((hf.map _).app (hh.map _) |>.app (hr.map _)).filter _
def depOf (d : PrgD) (l : List UnitM) (i j : Nat) : Int := match l[i]?, l[j]? with
 | some u, some v => if j ≤ i then 0 else if exclB l i j then 0
  else if guardsB v i || zcc (zhb d v) (zKa d u) || zcc (zKa d v) (zKa d u) then 2
  else if zcc (zKa d v) (zhb d u) then 1 else 0
 | _, _ => 0
def depsOf (d : PrgD) (l : List UnitM) : List (List Int) := (List.range l.length).map fun i => (List.range l.length).map fun j => depOf d l i j
def zYe (d : PrgD) (t : TblD) : Int := t.aZ.l.foldl (fun m a => match (if a < 0 then none else d.aZ.l[a.toNat]?) with | none => m | some x => max m (sumW x.params.l)) 0
def zPb (d : PrgD) (i : Int) : Int × Int :=
 if (zUa d).1 = 0 then (match tblOf d i with
  | none => (0, 0)
  | some t => if t.keys.l.length = 0 then (0, 0) else if zEe d i = 1 then (zIb (t.size * (zce d i + (8 + zYe d t))) 4096, 0) else (zIb (t.size * (8 + zYe d t)) 4096, zIb (t.size * zce d i) 2048)) else (0, 0)
def ztb (d : PrgD) (u : UnitM) : Int × Int := if u.table = -1 then (0, 0) else zPb d u.table
def jobOf (d : PrgD) (c : ChipD) : JobM := ⟨c, (zed d).map fun u => decide (u.table < 0), (zed d).map (ztb d), depsOf d (zed d)⟩
open Go.RowKit
structure SLP {α : Type} (w : World) (F : Nat → Prop) (size : Nat) (enc : α → List Value) (s : SL α) : Prop where
 le : s.l.length ≤ s.c
 cap : s.c ≤ maxLen
 len : (s.l.flatMap enc).length = s.l.length * size
 rd : 0 < s.l.length → ∃ ad, s.a = some ad ∧ ¬ F ad.block ∧ ad.block < w.heap.size ∧ ∀ j u, (s.l.flatMap enc)[j]? = some u → w.cell? (ad.add j) = some u
section
variable {α : Type} {w w' : World} {F F' : Nat → Prop} {B size : Nat} {enc : α → List Value} {ok : α → Prop} {s : SL α}
theorem SLP.kept (h : SLP w F size enc s) (hk : KeptF F w w') (hs : Sub F F' w.heap.size) : SLP w' F' size enc s :=
 ⟨h.le, h.cap, h.len, fun hn => by
  obtain ⟨ad, e, hF, hb, hc⟩ := h.rd hn
  refine ⟨ad, e, fun h' => ?_, Nat.lt_of_lt_of_le hb hk.size, fun j u hu => ?_⟩
  ·rcases hs _ h' with h1 | h1
   ·exact hF h1
   ·omega
  ·exact (World.cell?_of_block (hk.block _ (by rw [zMe]; exact hb) (by rw [zMe]; exact hF))).trans (hc j u hu)⟩
theorem SLP.slr (h : SLP w F size enc s) : SLR w w.heap.size size enc (fun _ => True) s :=
 ⟨h.le, h.cap, ⟨h.len, fun hn => by
  obtain ⟨ad, e, _, hb, hc⟩ := h.rd hn
  exact ⟨ad, e, hb, hc⟩⟩, fun _ _ => trivial⟩
theorem SLP.nil_ : SLP w F size enc ⟨none, 0, []⟩ := ⟨Nat.le_refl _, Nat.zero_le _, by simp, fun h => absurd h (by simp)⟩
theorem SLP.below (h : SLP w F size enc s) (hb : Below w.heap.size w w') : SLP w' F size enc s := h.kept (KeptF.of_below hb) (Sub.refl _ _)
theorem SLP.of_own {e : TypeId} {A : Option Addr} {n c : Nat} {l : List α} (h : Own w B e size A n c (l.flatMap enc)) (hl : l.length = n) (hF : ∀ k, F k → ownB A ≠ some k) : SLP w F size enc ⟨A, c, l⟩ := by
 subst hl
 have hr := Own.reads h
 refine ⟨?_, ?_, hr.1, fun hn => ?_⟩
 ·rcases h.2 with ⟨h1, h2⟩ | ⟨g, cap, cur, hv, _, _, h1, h2, _⟩
  ·injection h1 with _ _ h1; subst h1; show l.length ≤ 0; omega
  ·injection hv with _ _ hv; subst hv; exact h1
 ·rcases h.2 with ⟨h1, h2⟩ | ⟨g, cap, cur, hv, _, _, h1, h2, _⟩
  ·injection h1 with _ _ h1; subst h1; exact Nat.zero_le _
  ·injection hv with _ _ hv; subst hv; exact h2
 ·obtain ⟨ad, e, hb, hc⟩ := hr.2 hn
  subst e
  exact ⟨ad, rfl, fun h' => hF _ h' rfl, hb, hc⟩
end
def UnitD.enc (u : UnitD) : List Value := [.int .i64 u.table, .slice u.cond.a u.cond.l.length u.cond.c, .slice u.guards.a u.guards.l.length u.guards.c]
def UnitD.m (u : UnitD) : UnitM := ⟨u.table, u.cond.l, u.guards.l.map fun g => (g.unit, g.want)⟩
structure UnitD.okP (w : World) (F : Nat → Prop) (u : UnitD) : Prop where
 cond : SLP w F 3 ExD.enc u.cond
 guards : SLP w F 2 zxa.enc u.guards
structure UnitD.ok (w : World) (B : Nat) (u : UnitD) : Prop where
 table : I64 u.table
 cond : SLR w B 3 ExD.enc (fun _ => True) u.cond
 guards : SLR w B 2 zxa.enc (fun _ => True) u.guards
theorem ztd (u : UnitD) : u.enc.length = 3 := rfl
theorem guard_len (g : zxa) : g.enc.length = 2 := rfl
theorem UnitD.okP.kept {w w' : World} {F F' : Nat → Prop} {u : UnitD} (h : u.okP w F) (hk : KeptF F w w') (hs : Sub F F' w.heap.size) : u.okP w' F' := ⟨h.cond.kept hk hs, h.guards.kept hk hs⟩
theorem UnitD.ok.below {w w' : World} {B : Nat} {u : UnitD} (h : u.ok w B) (hb : Below B w w') : u.ok w' B := ⟨h.table, h.cond.below hb, h.guards.below hb⟩
theorem UnitD.ok.more {w : World} {B B' : Nat} {u : UnitD} (h : u.ok w B) (hB : B ≤ B') : u.ok w B' := ⟨h.table, h.cond.more hB, h.guards.more hB⟩
open Go.RowKit
def rowF (n : Nat) (f : Nat → Value) : Array Value := ((List.range n).map f).toArray
theorem rowF_size (n : Nat) (f : Nat → Value) : (rowF n f).size = n := by simp [rowF]
theorem zbb {n i : Nat} {f : Nat → Value} (h : i < n) : (rowF n f)[i]? = some (f i) := by
 unfold rowF
 rw [List.getElem?_toArray, List.getElem?_map, List.getElem?_range h]
 rfl
theorem zDa {n : Nat} {f g : Nat → Value} (h : ∀ i, i < n → f i = g i) : rowF n f = rowF n g := by
 unfold rowF
 rw [List.map_congr_left fun i hi => h i (List.mem_range.1 hi)]
theorem zXc {n i : Nat} {f : Nat → Value} {v : Value} : (rowF n f).setIfInBounds i v = rowF n (fun k => if k = i then v else f k) := by
 apply Array.ext
 ·simp [rowF]
 ·intro k h1 h2
  have hk : k < n := by simpa [rowF] using h2
  simp only [rowF, List.getElem_toArray, List.getElem_map, List.getElem_range]
  by_cases h : i = k
  ·subst h; simp
  ·simp [h, Ne.symm h]
section
variable {N g : Nat} {w W W' : World} {t : TypeId} {cs : Array Value} {l : List (Nat × TypeId × Array Value)}
theorem Fr.set0 (h : Fr N w W ((g, t, cs) :: l)) (hg : ∀ x ∈ l, x.1 ≠ g) (i : Nat) (v : Value) : Fr N w (W.setCell ⟨g, i, none⟩ v) ((g, t, cs.setIfInBounds i v) :: l) := by
 have hb := h.blk _ (.head _)
 refine ⟨h.base, h.below.setCell (p := ⟨g, i, none⟩) hb.1 v, fun x hx => ?_⟩
 rcases List.mem_cons.1 hx with rfl | hx
 ·exact ⟨hb.1, hb.2.set_ i v⟩
 ·have hx2 := h.blk x (List.mem_cons_of_mem _ hx)
  exact ⟨hx2.1, zka hx2.2 (hg x hx) i v⟩
end
open Go.RowKit
structure PrgB (d : PrgD) : Prop where
 h : d.hZ.l.length ≤ 1000
 hf : ∀ x ∈ d.hZ.l, x.fields.l.length ≤ 1000
 m : d.mZ.l.length ≤ 1000
 r : d.rZ.l.length ≤ 1000
 a : d.aZ.l.length ≤ 1000
 t : d.tZ.l.length ≤ 1000
 ab : ∀ x ∈ d.aZ.l, x.body.l.length ≤ 1000 ∧ x.params.l.length ≤ 1000
 st : ∀ x ∈ d.aZ.l, (zgb d x).2 = 0 → ∀ s ∈ x.body.l, ((s.kind = 1 ∨ s.kind = 5) → s.value.l.length ≤ 1000) ∧ ((s.kind = 4 ∨ s.kind = 5) → s.index.l.length ≤ 1000) ∧ ((s.kind = 2 ∨ s.kind = 3) → 0 ≤ s.hdr ∧ s.hdr < d.hZ.l.length)
 tk : ∀ x ∈ d.tZ.l, x.keys.l.length ≤ 1000 ∧ x.aZ.l.length ≤ 1000
 n : (zda d.cZ.l).length ≤ 1000
 c : ∀ x ∈ zda d.cZ.l, x.kind = 2 → x.cond.l.length ≤ 1000
theorem isum_bdK {K : Int} : ∀ (l : List Int), (∀ x ∈ l, 0 ≤ x ∧ x ≤ K) → 0 ≤ isum l ∧ isum l ≤ K * l.length
 | [], _ => by simp [isum]
 | x :: l, h => by
  have h1 := h x (List.mem_cons_self ..)
  have h2 := isum_bdK l fun y hy => h y (List.mem_cons_of_mem _ hy)
  simp only [isum, List.length_cons]
  rw [show K * ((l.length + 1 : Nat) : Int) = K * (l.length : Int) + K by rw [Int.natCast_add, Int.mul_add]; simp]
  omega
theorem isum_takeK {l : List Int} {k : Nat} {x : Int} (h : l[k]? = some x) : isum (l.take (k + 1)) = isum (l.take k) + x := by
 have key : ∀ (a b : List Int), isum (a ++ b) = isum a + isum b := by
  intro a b
  induction a with
  | nil => simp [isum]
  | cons y a ih => simp only [List.cons_append, isum, ih]; omega
 rw [List.take_add_one, h, key]
 simp [isum]
theorem zvf {d : PrgD} (hb : PrgB d) (k : Nat) : 0 ≤ isum ((d.hZ.l.take k).map fun h => (h.fields.l.length : Int)) ∧ isum ((d.hZ.l.take k).map fun h => (h.fields.l.length : Int)) ≤ 1000000 := by
 have h1 := isum_bdK (K := 1000) ((d.hZ.l.take k).map fun h => (h.fields.l.length : Int)) (fun x hx => by
  obtain ⟨y, hy, rfl⟩ := List.mem_map.1 hx
  have := hb.hf y (List.mem_of_mem_take hy)
  omega)
 have h2 : ((d.hZ.l.take k).map fun h => (h.fields.l.length : Int)).length ≤ 1000 := by
  have := hb.h
  simp
  omega
 refine ⟨h1.1, ?_⟩
 have h3 := h1.2
 omega
theorem zAf {d : PrgD} (hb : PrgB d) : 0 ≤ zCc d ∧ zCc d ≤ 1000000 := by
 have := zvf hb d.hZ.l.length
 rwa [List.take_length] at this
theorem cellFst_bd {d : PrgD} (hb : PrgB d) (k : Int) : 0 ≤ zRd d k ∧ zRd d k ≤ 1003000 := by
 have h1 := zAf hb
 have h2 := hb.h
 have h3 := hb.m
 have h4 := hb.r
 unfold zRd
 split
 ·omega
 ·split
  ·omega
  ·split
   ·omega
   ·split <;> omega
def NZ (o : Option Diag) : Prop := ∀ e, o = some e → e.1 ≠ 0
theorem NZ.req (c p i s : Int) : NZ (req c p i s) := by
 intro e h
 unfold Go.Proofs.YtakgiamhdpgoeaaGreat.req at h
 split at h
 ·cases h
 ·injection h with h; subst h; assumption
theorem NZ.none_ : NZ none := fun e h => by cases h
theorem NZ.firstD : ∀ {l : List (Option Diag)}, (∀ x ∈ l, NZ x) → NZ (firstD l)
 | [], _ => NZ.none_
 | x :: l, h => by
  intro e he
  unfold Go.Proofs.YtakgiamhdpgoeaaGreat.firstD at he
  cases x with
  | none => exact NZ.firstD (fun y hy => h y (List.mem_cons_of_mem _ hy)) e he
  | some y => exact h _ (List.mem_cons_self ..) e he
theorem NZ.scan {n : Nat} {f : Nat → Option Diag} (h : ∀ i, NZ (f i)) : NZ (scan n f) := by
 intro e he
 unfold Go.Proofs.YtakgiamhdpgoeaaGreat.scan at he
 obtain ⟨i, _, hi⟩ := List.exists_of_findSome?_eq_some he
 exact h i e hi
theorem zZa {l : List (Option Diag)} (h : firstD l = none) : ∀ x ∈ l, x = none := by
 induction l with
 | nil => intro x hx; cases hx
 | cons y l ih =>
  intro x hx
  unfold firstD at h
  cases y with
  | none => rcases List.mem_cons.1 hx with rfl | hx; rfl; exact ih h x hx
  | some y => cases h
theorem zsc {c p i s : Int} (h : req c p i s = none) : c = 0 := by
 unfold req at h
 split at h
 ·assumption
 ·cases h
theorem zLf {E : Type} {n : Nat} {f : Nat → Option E} (h : scan n f = none) : ∀ i, i < n → f i = none := fun i hi =>
 List.findSome?_eq_none_iff.1 h i (List.mem_range.2 hi)
theorem NZ.hdr (d : PrgD) (i : Nat) : NZ (zgd d i) := by
 unfold zgd
 split
 ·exact NZ.none_
 ·exact NZ.firstD fun x hx => by simp at hx; rcases hx with rfl | rfl | rfl <;> exact NZ.req _ _ _ _
theorem NZ.met (d : PrgD) (i : Nat) : NZ (zEf d i) := by
 unfold zEf
 split
 ·exact NZ.none_
 ·exact NZ.firstD fun x hx => by simp at hx; rcases hx with rfl | rfl | rfl <;> exact NZ.req _ _ _ _
theorem NZ.reg (d : PrgD) (i : Nat) : NZ (prgReg d i) := by
 unfold prgReg
 split
 ·exact NZ.none_
 ·exact NZ.firstD fun x hx => by simp at hx; rcases hx with rfl | rfl <;> exact NZ.req _ _ _ _
theorem NZ.all (d : PrgD) : NZ (Go.Proofs.YtakgiamhdpgoeaaGreat.firstD [zmb d, Go.Proofs.YtakgiamhdpgoeaaGreat.scan d.hZ.l.length (zgd d), zUb d, zdd d, zng d]) := by
 refine NZ.firstD fun x hx => ?_
 simp only [List.mem_cons, List.not_mem_nil, or_false] at hx
 rcases hx with rfl | rfl | rfl | rfl | rfl
 ·exact NZ.firstD fun x hx => by simp only [List.mem_cons, List.not_mem_nil, or_false] at hx; rcases hx with rfl | rfl | rfl | rfl | rfl <;> exact NZ.req _ _ _ _
 ·exact NZ.scan (NZ.hdr d)
 ·exact NZ.firstD fun x hx => by
   simp only [List.mem_cons, List.not_mem_nil, or_false] at hx
   rcases hx with rfl | rfl | rfl | rfl | rfl
   ·exact NZ.req _ _ _ _
   ·exact NZ.scan (NZ.met d)
   all_goals exact NZ.req _ _ _ _
 ·exact NZ.firstD fun x hx => by
   simp only [List.mem_cons, List.not_mem_nil, or_false] at hx
   rcases hx with rfl | rfl | rfl
   ·exact NZ.scan (NZ.reg d)
   ·exact NZ.scan fun i => NZ.firstD fun x hx => by simp only [List.mem_cons, List.not_mem_nil, or_false] at hx; rcases hx with rfl | rfl <;> exact NZ.req _ _ _ _
   ·exact NZ.scan fun i => NZ.firstD fun x hx => by simp only [List.mem_cons, List.not_mem_nil, or_false] at hx; rcases hx with rfl | rfl <;> exact NZ.req _ _ _ _
 ·exact NZ.firstD fun x hx => by simp only [List.mem_cons, List.not_mem_nil, or_false] at hx; rcases hx with rfl | rfl | rfl <;> exact NZ.req _ _ _ _
structure PrgC (d : PrgD) : Prop where
 h : d.hZ.l.length ≤ 8
 r : d.rZ.l.length ≤ 4
 a : d.aZ.l.length ≤ 16
 t : d.tZ.l.length ≤ 12
 m : d.mZ.l.length ≤ 12
 hd : ∀ x ∈ d.hZ.l, zac x = 0
 ac : ∀ i : Nat, i < d.aZ.l.length → (zYa d i).2 = 0
 tc : ∀ i : Nat, i < d.tZ.l.length → (zJa d i).2 = 0
 cc : (zEc d).2 = 0
theorem zhg {p : Prop} [Decidable p] {x : Int} (hx : x ≠ 0) (h : (if p then x else 0) = 0) : ¬ p := by
 intro hp
 rw [if_pos hp] at h
 exact hx h
theorem prgC_of {d : PrgD} (h : (zUa d).1 = 0) : PrgC d := by
 have h0 : firstD [zmb d, scan d.hZ.l.length (zgd d), zUb d, zdd d, zng d] = none := by
  cases he : firstD [zmb d, scan d.hZ.l.length (zgd d), zUb d, zdd d, zng d] with
  | none => rfl
  | some e =>
   unfold zUa at h
   rw [he] at h
   exact absurd h (NZ.all d e he)
 have hall := zZa h0
 have h1 := zZa (show firstD _ = none from hall (zmb d) (by simp))
 have h2 := zLf (hall (scan d.hZ.l.length (zgd d)) (by simp))
 have h3 := zZa (show firstD _ = none from hall (zUb d) (by simp))
 have h4 := zZa (show firstD _ = none from hall (zdd d) (by simp))
 have h5 := zZa (show firstD _ = none from hall (zng d) (by simp))
 refine ⟨?_, ?_, ?_, ?_, ?_, fun x hx => ?_, fun i hi => ?_, fun i hi => ?_, ?_⟩
 ·have := zhg (by decide) (zsc (h1 (req (if 8 < d.hZ.l.length then 12 else 0) 0 1 0) (by simp))); omega
 ·have := zhg (by decide) (zsc (h1 (req (if 4 < d.rZ.l.length then 12 else 0) 0 3 0) (by simp))); omega
 ·have := zhg (by decide) (zsc (h1 (req (if 16 < d.aZ.l.length then 12 else 0) 0 4 0) (by simp))); omega
 ·have := zhg (by decide) (zsc (h1 (req (if 12 < d.tZ.l.length then 12 else 0) 0 5 0) (by simp))); omega
 ·have := zhg (by decide) (zsc (h3 (req (if 12 < d.mZ.l.length then 12 else 0) 2 0 0) (by simp))); omega
 ·obtain ⟨i, hi, rfl⟩ := List.mem_iff_getElem.1 hx
  have := h2 i hi
  unfold zgd at this
  rw [List.getElem?_eq_getElem hi] at this
  exact zsc (zZa this _ (List.mem_cons_self ..))
 ·have := zLf (h4 (scan d.aZ.l.length (prgAct d)) (by simp)) i hi
  exact zsc (zZa this _ (List.mem_cons_self ..))
 ·have := zLf (h4 (scan d.tZ.l.length (prgTbl d)) (by simp)) i hi
  exact zsc (zZa this _ (List.mem_cons_self ..))
 ·exact zsc (h5 (req (zEc d).2 7 (zEc d).1 0) (by simp))
theorem getD_zero {o : Option (Int × Int)} (hn : ∀ e, o = some e → e.2 ≠ 0) (h : (o.getD (0, 0)).2 = 0) : o = none := by
 cases o with
 | none => rfl
 | some e => exact absurd h (hn e rfl)
theorem zJc {d : PrgD} {ps : List FldD} {n : List ExD} (h : (zMa d ps n).2 = 0) : n.length ≤ 24 := by
 unfold zMa at h
 split at h
 ·cases h
 ·omega
theorem actC_of {d : PrgD} {a : ActD} (h : (zgb d a).2 = 0) : a.params.l.length ≤ 4 ∧ a.body.l.length ≤ 12 ∧ ∀ s ∈ a.body.l, zFa d a.params.l s = 0 := by
 unfold zgb at h
 split at h
 ·rename_i h1; exact absurd h h1
 ·rename_i h1
  have h1 : znc a = 0 := by omega
  have h2 : ¬ (4 < a.params.l.length ∨ 12 < a.body.l.length) := by
   unfold znc at h1
   split at h1
   ·cases h1
   ·split at h1
    ·cases h1
    ·assumption
  have h3 := getD_zero (fun e he => by
   unfold scan at he
   obtain ⟨i, _, hi⟩ := List.exists_of_findSome?_eq_some he
   split at hi
   ·cases hi
   ·split at hi
    ·cases hi
    ·injection hi with hi; subst hi; assumption) h
  refine ⟨by omega, by omega, fun s hs => ?_⟩
  obtain ⟨i, hi, rfl⟩ := List.mem_iff_getElem.1 hs
  have := zLf h3 i hi
  rw [List.getElem?_eq_getElem hi] at this
  simp only at this
  split at this
  ·assumption
  ·cases this
theorem stC_of {d : PrgD} {ps : List FldD} {s : StD} (h : zFa d ps s = 0) :
  (s.kind = 1 ∨ s.kind = 2 ∨ s.kind = 3 ∨ s.kind = 4 ∨ s.kind = 5) ∧ ((s.kind = 2 ∨ s.kind = 3) → 0 ≤ s.hdr ∧ s.hdr < d.hZ.l.length) ∧
  ((s.kind = 1 ∨ s.kind = 5) → s.value.l.length ≤ 24) ∧ ((s.kind = 4 ∨ s.kind = 5) → s.index.l.length ≤ 24) := by
 have hval : ∀ w, zVb d ps s.value.l w = 0 → s.value.l.length ≤ 24 := fun w hv => by
  unfold zVb at hv
  split at hv
  ·cases hv
  ·exact zJc hv
 unfold zFa at h
 split at h
 ·rename_i h1
  split at h
  ·cases h
  ·exact ⟨by omega, by omega, fun _ => hval _ h, by omega⟩
 ·rename_i h1
  split at h
  ·rename_i h2
   split at h
   ·cases h
   ·exact ⟨by omega, fun _ => by omega, by omega, by omega⟩
  ·rename_i h2
   split at h
   ·rename_i h3
    split at h
    ·cases h
    ·split at h
     ·cases h
     ·split at h
      ·exact absurd h (by assumption)
      ·rename_i h5
       have hi : (zMa d ps s.index.l).2 = 0 := by omega
       split at h
       ·exact ⟨by omega, by omega, fun _ => hval _ h, fun _ => zJc hi⟩
       ·exact ⟨by omega, by omega, by omega, fun _ => zJc hi⟩
   ·cases h
theorem hdrC_of {h : HdrD} (hc : zac h = 0) : h.fields.l.length ≤ 12 := by
 unfold zac at hc
 split at hc
 ·cases hc
 ·split at hc
  ·cases hc
  ·split at hc
   ·cases hc
   ·omega
theorem tblC_of {d : PrgD} {t : TblD} (h : (zlc d t).2 = 0) : t.keys.l.length ≤ 6 ∧ t.aZ.l.length ≤ 16 ∧ 1 ≤ t.size ∧ t.size ≤ 256 := by
 unfold zlc at h
 split at h
 ·cases h
 ·split at h
  ·cases h
  ·split at h
   ·cases h
   ·omega
theorem ctlGo_all (d : PrgD) : ∀ (l : List NodD) (u : List Int) (n : Nat), (ctlGo d l u n).2 = 0 → ∀ x ∈ l, ∃ u, zle d x u = 0
 | [], _, _, _, x, hx => by cases hx
 | y :: l, u, n, h, x, hx => by
  rw [ctlGo] at h
  split at h
  ·rename_i h1; exact absurd h h1
  ·rename_i h1
   rcases List.mem_cons.1 hx with rfl | hx
   ·exact ⟨u, by omega⟩
   ·exact ctlGo_all d l _ _ h x hx
theorem ctlC_of {d : PrgD} (h : (zEc d).2 = 0) : (zda d.cZ.l).length ≤ 24 ∧ ∀ x ∈ zda d.cZ.l, x.kind = 2 → x.cond.l.length ≤ 24 := by
 unfold zEc at h
 split at h
 ·cases h
 ·split at h
  ·cases h
  ·split at h
   ·rename_i h1; exact absurd h h1
   ·rename_i h1
    refine ⟨by omega, fun x hx hk => ?_⟩
    obtain ⟨u, hu⟩ := ctlGo_all d _ [] 0 (by omega) x hx
    unfold zle at hu
    rw [if_neg (by omega), if_pos hk] at hu
    split at hu
    ·rename_i h2; exact absurd hu h2
    ·rename_i h2
     exact zJc (d := d) (ps := []) (by omega)
theorem zcg {d : PrgD} {k : Nat} {x : ActD} (h : d.aZ.l[k]? = some x) : zYa d (k : Int) = zgb d x := by
 unfold zYa
 rw [if_neg (by omega), Int.toNat_natCast, h]
theorem tblCheck_at {d : PrgD} {k : Nat} {x : TblD} (h : d.tZ.l[k]? = some x) : zJa d (k : Int) = zlc d x := by
 unfold zJa
 rw [if_neg (by omega), Int.toNat_natCast, h]
theorem prgB_of {d : PrgD} (h : PrgC d) : PrgB d := by
 have hact : ∀ x ∈ d.aZ.l, (zgb d x).2 = 0 := fun x hx => by
  obtain ⟨i, hi, rfl⟩ := List.mem_iff_getElem.1 hx
  have := h.ac i hi
  rwa [zcg (List.getElem?_eq_getElem hi)] at this
 have htbl : ∀ x ∈ d.tZ.l, (zlc d x).2 = 0 := fun x hx => by
  obtain ⟨i, hi, rfl⟩ := List.mem_iff_getElem.1 hx
  have := h.tc i hi
  rwa [tblCheck_at (List.getElem?_eq_getElem hi)] at this
 have hctl := ctlC_of h.cc
 refine ⟨by have := h.h; omega, fun x hx => by have := hdrC_of (h.hd x hx); omega, by have := h.m; omega, by have := h.r; omega, by have := h.a; omega, by have := h.t; omega,
  fun x hx => by have := actC_of (hact x hx); omega, fun x hx h1 s hs => ?_, fun x hx => by have := tblC_of (htbl x hx); omega, by omega, fun x hx hk => by have := hctl.2 x hx hk; omega⟩
 have h2 := stC_of ((actC_of h1).2.2 s hs)
 exact ⟨fun hk => by have := h2.2.2.1 hk; omega, fun hk => by have := h2.2.2.2 hk; omega, h2.2.1⟩
open Go.RowKit
def rowE (r : SL Int) : List Value := [.slice r.a r.l.length r.c]
theorem rowE_len : ∀ x, (rowE x).length = 1 := fun _ => rfl
def frE (x : Int × Int) : List Value := [.int .i64 x.1, .int .i64 x.2]
theorem zab : ∀ x, (frE x).length = 2 := fun _ => rfl
abbrev MatR (w : World) (B : Nat) (d : SL (SL Int)) : Prop := SLR w B 1 rowE (fun r => SLR w B 1 intE (fun _ => True) r) d
theorem MatR.below {w w' : World} {B : Nat} {d : SL (SL Int)} (h : MatR w B d) (hb : Below B w w') : MatR w' B d := (SLR.below h hb).imp fun r hr => hr.below hb
theorem MatR.more {w : World} {B B' : Nat} {d : SL (SL Int)} (h : MatR w B d) (hB : B ≤ B') : MatR w B' d := (SLR.more h hB).imp fun r hr => hr.more hB
abbrev SL.rows (d : SL (SL Int)) : List (List Int) := d.l.map (·.l)
theorem rows_at {d : SL (SL Int)} {i : Nat} {r : SL Int} (h : d.l[i]? = some r) : d.rows.getD i [] = r.l := by simp [SL.rows, List.getD, h]
set_option maxRecDepth 100000 in
set_option maxHeartbeats 1000000 in
theorem kind_any (d : SL (SL Int)) (i j : Nat) (hi : i < d.l.length) (w : World) (hS : MatR w w.heap.size d) :
  Calls Tryz.prog 40 #[.slice d.a d.l.length d.c, .int .i64 i, .int .i64 j] w fun e w' => e = .returned (.int .i64 (kindM d.rows i j)) ∧ w = w' := by
 have hlen := hS.len
 obtain ⟨b2, off2, r, hA2, hb2, hr, hok, hc2⟩ := hS.at_ rowE_len (by omega) hi
 have p0 := hc2 0 _ rfl
 simp only [Nat.add_zero, Nat.mul_one] at p0
 have hrl := hok.len
 have HOk := Hd hok
 have HV := Hd (show kindM d.rows i j = if j ≤ i ∨ r.l.length ≤ j then 0 else if r.l.getD j 0 = 1 ∨ r.l.getD j 0 = 2 then r.l.getD j 0 else 0 by unfold kindM; rw [rows_at hr])
 obtain ⟨da, dc, dl⟩ := d
 simp only at hlen hA2 hi HV ⊢
 subst hA2
 clear hS hc2 hr hok
 have hi1 : (i : Int) < dl.length := by omega
 by_cases c1 : j ≤ i
 ·have HV2 := Hd (HV.out.trans (if_pos (.inl c1)))
  have c2 : (j : Int) ≤ i := by omega
  go_enter Tryz.func40, Tryz.ntmps40
  go_wp2_with fail
  go_returns
  exact ⟨by rw [HV2.out]; try rfl, rfl⟩
 ·have c2 : ¬ (j : Int) ≤ i := by omega
  have c2' : decide ((j : Int) ≤ i) = false := decide_eq_false c2
  by_cases c3 : r.l.length ≤ j
  ·have HV2 := Hd (HV.out.trans (if_pos (.inr c3)))
   have c4 : (r.l.length : Int) ≤ j := by omega
   go_enter Tryz.func40, Tryz.ntmps40
   go_wp2_with fail
   go_returns
   exact ⟨by rw [HV2.out]; try rfl, rfl⟩
  ·have c4 : ¬ (r.l.length : Int) ≤ j := by omega
   have c4' : decide ((r.l.length : Int) ≤ j) = false := decide_eq_false c4
   have HV2 := Hd (HV.out.trans (if_neg (by omega)))
   obtain ⟨b3, off3, x, hA3, hb3, hx, _, hc3⟩ := HOk.out.at_ zna (by omega) (Nat.lt_of_not_le c3)
   have p1 := hc3 0 _ rfl
   simp only [Nat.add_zero, Nat.mul_one] at p1
   have HX := Hd (zec (d := 0) hx)
   have hj1 : (j : Int) < r.l.length := by omega
   obtain ⟨ra, rc, rl⟩ := r
   simp only at hA3 hrl c3 c4 c4' hj1 HX HV2 p0
   subst hA3
   clear hc3 hx HOk HV
   by_cases c5 : x = 1
   ·have HV3 := Hd (HV2.out.trans (if_pos (.inl (by rw [HX.out]; exact c5))))
    have HV4 := Hd (HV3.out.trans HX.out)
    subst c5
    go_enter Tryz.func40, Tryz.ntmps40
    go_wp2_with fail
    go_returns
    exact ⟨by rw [HV4.out]; try rfl, rfl⟩
   ·have c5' : (x == 1) = false := by simp [c5]
    by_cases c6 : x = 2
    ·have HV3 := Hd (HV2.out.trans (if_pos (.inr (by rw [HX.out]; exact c6))))
     have HV4 := Hd (HV3.out.trans HX.out)
     subst c6
     go_enter Tryz.func40, Tryz.ntmps40
     go_wp2_with fail
     go_returns
     exact ⟨by rw [HV4.out]; try rfl, rfl⟩
    ·have c6' : (x == 2) = false := by simp [c6]
     have HV3 := Hd (HV2.out.trans (if_neg (by rw [HX.out]; omega)))
     go_enter Tryz.func40, Tryz.ntmps40
     go_wp2_with fail
     go_returns
     exact ⟨by rw [HV3.out]; try rfl, rfl⟩
abbrev plcV (r : PlcM) (sa : Option Addr) (sc : Nat) (ua : Option Addr) (uc : Nat) : Value := .agg #[.int .i64 r.status, .slice sa r.stage.length sc, .int .i64 r.steps, .int .i64 r.reason, .slice ua r.units.length uc]
theorem zJb (e k : Int) (u : SL Int) (w : World) :
  Calls Tryz.prog 17 #[.int .i64 e, .int .i64 k, .slice u.a u.l.length u.c] w fun e' w' => e' = .returned (plcV (.no e k u.l) none 0 u.a u.c) ∧ Below w.heap.size w w' := by
 go_enter Tryz.func17, Tryz.ntmps17
 go_wp2_with fail
 go_returns
 exact ⟨rfl, by (first | (refine zca ?_ _; go_grown; done) | (go_grown; done))⟩
abbrev useV (u : Use) : Value := .agg #[.int .i64 u.tZ, .int .i64 u.gates, .int .i64 u.sram, .int .i64 u.tcam]
set_option maxRecDepth 100000 in
theorem zQf (u : Use) (c : ChipD) (w : World) :
  Calls Tryz.prog 23 #[useV u, chipV c] w fun e w' => e = .returned (.bool (u.fits c)) ∧ Below w.heap.size w w' := by
 obtain ⟨N, hN⟩ : ∃ N, w.heap.size = N := ⟨_, rfl⟩
 have F0 := Fr.start w
 rw [hN] at F0 ⊢
 have HF0 := Hd F0
 clear F0
 obtain ⟨q1, h1⟩ : ∃ q, decide (u.tZ ≤ c.tZ) = q := ⟨_, rfl⟩
 obtain ⟨q2, h2⟩ : ∃ q, decide (u.gates ≤ c.gates) = q := ⟨_, rfl⟩
 obtain ⟨q3, h3⟩ : ∃ q, (decide (u.sram ≤ c.sram) && decide (u.tcam ≤ c.tcam)) = q := ⟨_, rfl⟩
 have HV := Hd (show u.fits c = (q1 && q2 && q3) by unfold Use.fits; rw [h1, h2, h3])
 have H3 := Hd h3
 rw [HV.out]
 clear h3
 unfold chipV useV
 cases q1
 ·clear h2
  go_enter Tryz.func23, Tryz.ntmps23
  go_wp2_with fail
  go_returns
  exact ⟨rfl, by rw [← hN]; (first | (refine zca ?_ _; go_grown; done) | (go_grown; done))⟩
 ·cases q2
  ·go_enter Tryz.func23, Tryz.ntmps23
   go_wp2_with fail
   go_returns
   exact ⟨rfl, by rw [← hN]; (first | (refine zca ?_ _; go_grown; done) | (go_grown; done))⟩
  ·go_enter Tryz.func23, Tryz.ntmps23
   go_wp2_with fail
   refine Calls.named ?_
   intro W hW
   have F1 := Hd ((HF0.out.alloc _ _).alloc _ _ |>.of_eq hW)
   clear hW
   with_reducible refine (fits_any u.sram u.tcam c W).mono ?_
   rintro e w1 ⟨rfl, hb⟩
   have F2 := Hd (F1.out.call hb)
   clear hb
   rw [H3.out]
   go_wp2_with fail
   go_returns
   exact ⟨rfl, F2.out.below⟩
end Go.Proofs.YtakgiamhdpgoeaaGreat
