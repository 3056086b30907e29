/- Texts of the proof: EVC1. -/
import Derived.Test.YtafenffmgpcjcaaGreatEVB1
import Derived.Lib.Strings
import Derived.Scope
import Derived.Sort.Row
import Derived.Sort.Grow
import Derived.ChangeArms
import Derived.DataReads
import Derived.ScopeJumps
namespace Go.Proofs.YtafenffmgpcjcaaGreat.Vf
open Go.RowKit
set_option linter.unusedVariables false
set_option linter.unusedSimpArgs false
variable {P : Program} {T : TV}
def tab (f : Nat→AV) : Nat→Nat→List (Nat × AV)→List AV
 | _,0,_=>[]
 | i,n + 1,[]=>f i :: tab f (i + 1) n []
 | i,n + 1,(j,v) :: fs=>if i = j then v :: tab f (i + 1) n fs else f i :: tab f (i + 1) n ((j,v) :: fs)
def Sl (fs : List (Nat × AV)) (n : Nat) (h : List (List AV)) (k : List (Nat × Nat)) (s : St) : Prop:=s.h = h∧s.k = k∧∃ f : Nat→AV,s.t = tab f 0 n fs
def picks (t : List AV) (fs : List (Nat × AV)) : List (Nat × AV):=fs.map fun p=>(p.1,(ix t p.1).getD undefA)
def ups : Nat→List (Nat × AV)→Bool
 | _,[]=>true
 | i,(j,_) :: fs=>decide (i ≤ j) && ups (j + 1) fs
theorem tab_of (t : List AV) : ∀ (n i : Nat) (fs : List (Nat × AV)),t.length = i + n→picks t fs = fs→ups i fs = true→t.drop i = tab (fun j=>(ix t j).getD undefA) i n fs:=by
 intro n
 induction n with
 | zero=>intro i fs hl _ _; rw [List.drop_eq_nil_of_le (by omega)]; rfl
 | succ n ih =>
  intro i fs hl hp hu
  have hd : t.drop i = (ix t i).getD undefA :: t.drop (i + 1):=by
   rw [List.drop_eq_getElem_cons (show i < t.length by omega)]
   simp only [ix]
   rw [List.getElem?_eq_getElem (show i < t.length by omega)]
   rfl
  cases fs with
  | nil=>rw [hd,ih (i + 1) [] (by omega) rfl rfl]; rfl
  | cons p fs =>
   obtain ⟨j,v⟩:=p
   simp only [picks,List.map_cons,List.cons.injEq,Prod.mk.injEq,true_and] at hp
   simp only [ups,Bool.and_eq_true,decide_eq_true_eq] at hu
   rw [tab]
   by_cases e : i = j
   ·subst e
    rw [if_pos rfl,hd,ih (i + 1) fs (by omega) hp.2 hu.2,hp.1]
   ·rw [if_neg e,hd,ih (i + 1) ((j,v) :: fs) (by omega) (by simp only [picks,List.map_cons,List.cons.injEq,Prod.mk.injEq,true_and]; exact hp) (by simp only [ups,Bool.and_eq_true,decide_eq_true_eq]; exact ⟨by omega,hu.2⟩)]
theorem Sl.of {t : List AV} {fs : List (Nat × AV)} {n : Nat} {h : List (List AV)} {k : List (Nat × Nat)} (h1 : picks t fs = fs) (h2 : t.length = n) (h3 : ups 0 fs = true) : Sl fs n h k ⟨t,h,k⟩ :=
 ⟨rfl,rfl,_,by simpa using tab_of t n 0 fs (by omega) h1 h3⟩
@[simp] theorem tab_zero {f : Nat→AV} {i : Nat} {fs : List (Nat × AV)} : tab f i 0 fs = []:=by cases fs <;> rfl
@[simp] theorem tab_nil {f : Nat→AV} {i n : Nat} : tab f i (n + 1) [] = f i :: tab f (i + 1) n []:=rfl
@[simp] theorem tab_cons {f : Nat→AV} {i n j : Nat} {v : AV} {fs : List (Nat × AV)} : tab f i (n + 1) ((j,v) :: fs) = if i = j then v :: tab f (i + 1) n fs else f i :: tab f (i + 1) n ((j,v) :: fs):=rfl
def OwnT (k : List (Nat × Nat)) (l : List FV) (sz : Nat) (x : AV) (t : Nat) : Prop:=(l = []∧x = .f (.sl [] .nil)) ∨ (l ≠ []∧x = .own l t∧k[t]? = some (l.length,sz))
theorem OwnT.nil {k : List (Nat × Nat)} {sz t : Nat} : OwnT k [] sz (.f (.sl [] .nil)) t:=.inl ⟨rfl,rfl⟩
theorem OwnT.keep {k k' : List (Nat × Nat)} {l : List FV} {sz t : Nat} {x : AV} (h : OwnT k l sz x t) (hk : l ≠ []→k'[t]? = k[t]?) : OwnT k' l sz x t:=by
 rcases h with h | ⟨h1,h2,h3⟩
 ·exact .inl h
 ·exact .inr ⟨h1,h2,by rw [hk h1]; exact h3⟩
theorem OwnT.lt {k : List (Nat × Nat)} {l : List FV} {sz t : Nat} {x : AV} (h : OwnT k l sz x t) (hl : l ≠ []) : t < k.length:=by
 rcases h with h | ⟨_,_,h3⟩
 ·exact absurd h.1 hl
 ·exact (List.getElem?_eq_some_iff.1 h3).1
def ownF (l : List FV) : FV:=if l = [] then .sl [] .nil else .sl l .un
theorem OwnT.fzA {k : List (Nat × Nat)} {l : List FV} {sz t : Nat} {x : AV} (h : OwnT k l sz x t) : Vf.fzA x = some (ownF l):=by
 rcases h with ⟨rfl,rfl⟩ | ⟨h1,rfl,_⟩
 ·rfl
 ·simp [Vf.fzA,ownF,h1]
theorem OwnT.ret {k : List (Nat × Nat)} {l : List FV} {sz t : Nat} {x : AV} (h : OwnT k l sz x t) {H : List (List AV)} {R : FV→Prop} : RetV H x R = R (ownF l):=by
 rcases h with ⟨rfl,rfl⟩ | ⟨h1,rfl,_⟩
 ·simp [ownF]
 ·simp [ownF,h1]
theorem OwnT.len {k : List (Nat × Nat)} {l : List FV} {sz t : Nat} {x : AV} (h : OwnT k l sz x t) {ty e : TypeId} {s b : Nat} {z : List AV} (ht : T ty = some ⟨s,b,.slice e,z⟩) : opLen T ty x = some (.f (.sc (.int .i64 l.length))):=by
 rcases h with ⟨rfl,rfl⟩ | ⟨h1,rfl,_⟩ <;> simp [opLen,ht]
theorem append_own {k : List (Nat × Nat)} {l ys : List FV} {x y : AV} {t : Nat} {ty e : TypeId} {s b : Nat} {z : List AV} {ety : Ty} (ht : T ty = some ⟨s,b,.slice e,z⟩) (he : T e = some ety) (hz : ety.size ≠ 0)
  (h : OwnT k l ety.size x t) (hy : elems y = some ys) (hys : ys ≠ []) (hall : ys.all (fun u=>u.cells.length == ety.size) = true) (hb : (l.length + ys.length) * ety.bytes ≤ 140737488355328) (hb2 : l.length + ys.length ≤ 4611686018427387904) :
  ∃ t' k',opAppend T k ty x y = some (.own (l ++ ys) t',k')∧OwnT k' (l ++ ys) ety.size (.own (l ++ ys) t') t'∧k.length ≤ k'.length∧∀ i,i < k.length→(l ≠ []→i ≠ t)→k'[i]? = k[i]?∧t' ≠ i:=by
 have hne : l ++ ys ≠ []:=by simp [hys]
 rcases h with ⟨rfl,rfl⟩ | ⟨h1,rfl,h2⟩
 ·refine ⟨k.length,k ++ [(ys.length,ety.size)],?_,.inr ⟨hne,rfl,by simp⟩,by simp,fun i hi _=>⟨List.getElem?_append_left hi,by omega⟩⟩
  simp only [List.length_nil,Nat.zero_add] at hb hb2
  unfold opAppend
  simp only [ht,he,hy,if_neg hz,hall,if_true,if_neg hys]
  rw [if_pos ⟨by simp,by simp,by simpa using hb,by simpa using hb2⟩]
  simp
 ·have hlt:=(List.getElem?_eq_some_iff.1 h2).1
  refine ⟨t,k.set t (l.length + ys.length,ety.size),?_,.inr ⟨hne,rfl,by rw [List.getElem?_set_self hlt]; simp⟩,by simp,fun i hi hit=>⟨List.getElem?_set_ne fun e=>hit h1 e.symm,fun e=>hit h1 e.symm⟩⟩
  unfold opAppend
  simp only [ht,he,hy,if_neg hz,hall,if_true,if_neg hys]
  rw [if_pos ⟨h2,hb,hb2⟩]
def noneT {α : Type} (p : α→Bool) (l : List α) (k : Nat) : Prop:=∀ j x,j < k→l[j]? = some x→p x = false
theorem noneT.zero {α : Type} {p : α→Bool} {l : List α} : noneT p l 0:=fun j x h=>by omega
theorem noneT.next {α : Type} {p : α→Bool} {l : List α} {k : Nat} {x : α} (h : noneT p l k) (hx : l[k]? = some x) (hp : p x = false) : noneT p l (k + 1):=fun j y hj hy=>by
 rcases Nat.lt_or_ge j k with h1 | h1
 ·exact h j y h1 hy
 ·obtain rfl : j = k:=by omega
  rw [hx] at hy; obtain rfl:=Option.some.inj hy; exact hp
theorem noneT.all {α : Type} {p : α→Bool} {l : List α} {k : Nat} (h : noneT p l k) (hk : ¬ k < l.length) : l.any p = false:=by
 rw [List.any_eq_false]
 intro x hx
 obtain ⟨j,hj,rfl⟩:=List.getElem_of_mem hx
 simpa using h j _ (by omega) (List.getElem?_eq_getElem hj)
theorem any_hit {α : Type} {p : α→Bool} {l : List α} {k : Nat} {x : α} (hx : l[k]? = some x) (hp : p x = true) : l.any p = true:=List.any_eq_true.2 ⟨x,List.mem_of_getElem? hx,hp⟩
end Go.Proofs.YtafenffmgpcjcaaGreat.Vf
namespace Go.Proofs.YtafenffmgpcjcaaGreat.Vf
open Go.RowKit
set_option linter.unusedVariables false
set_option linter.unusedSimpArgs false
variable {P : Program} {T : TV}
abbrev strF (s : ByteArray) : FV:=.sc (.string s)
theorem ix_app {α : Type} {l : List α} {a : α} : ix (l ++ [a]) l.length = some a:=by simp [ix]
theorem ix_appn {α : Type} {l m : List α} {n : Nat} : ix (l ++ m) (l.length + n) = ix m n:=by
 unfold ix; rw [List.getElem?_append_right (by omega)]; simp
theorem ix_app0 {α : Type} {l m : List α} : ix (l ++ m) l.length = ix m 0:=by
 unfold ix; rw [List.getElem?_append_right (by omega)]; simp
theorem set_appn {α : Type} {l m : List α} {n : Nat} {x : α} : (l ++ m).set (l.length + n) x = l ++ m.set n x:=by
 rw [List.set_append_right _ _ (by omega)]; simp
theorem set_app0 {α : Type} {l m : List α} {x : α} : (l ++ m).set l.length x = l ++ m.set 0 x:=by
 rw [List.set_append_right _ _ (by omega)]; simp
def mapTo {α β : Type} (f : α→β) (l : List α) (i : Nat) : List β:=(l.take i).map f
@[simp] theorem mapTo_zero {α β : Type} {f : α→β} {l : List α} : mapTo f l 0 = []:=by simp [mapTo]
theorem mapTo_next {α β : Type} {f : α→β} {l : List α} {i : Nat} {x : α} (h : l[i]? = some x) : mapTo f l (i + 1) = mapTo f l i ++ [f x]:=by
 unfold mapTo; rw [List.take_add_one,h]; simp
theorem mapTo_le {α β : Type} {f : α→β} {l : List α} {i : Nat} : (mapTo f l i).length ≤ i:=by simp [mapTo]; omega
theorem mapTo_all {α β : Type} {f : α→β} {l : List α} : mapTo f l l.length = l.map f:=by simp [mapTo]
attribute [simp] ix_appn ix_app0 set_appn set_app0
theorem runPure_program : runPure P program = some P:=rfl
theorem runPure_ite {α : Type} {c : Prop} [Decidable c] (x y : Sem α) : runPure P (if c then x else y) = if c then runPure P x else runPure P y:=by split <;> rfl
theorem runPure_map {α β : Type} (f : α→β) (m : Sem α) : runPure P (f <$> m) = (runPure P m).map f:=by
 have : f <$> m = m >>= fun a=>pure (f a):=rfl
 rw [this,runPure_bind]
 cases runPure P m <;> rfl
section bin
variable {ty : TypeId} {x y : Operand} {kd kd' : IntKind} {a b : Int}
theorem opBin_of {op : BinOp} {v : Value} (hop : op ≠ .eql∧op ≠ .neq) (h : runPure P (binOp op ty (.int kd a) (.int kd' b)) = some v) : opBin P T op ty x y (.f (.sc (.int kd a))) (.f (.sc (.int kd' b))) = some (ofVal v):=by
 unfold opBin
 rw [opNil_int]
 cases op <;> first | exact absurd rfl hop.1 | exact absurd rfl hop.2 | simp [AV.val,aggCells,cellVal,eqGuard,runPure_bind,h]
@[simp] theorem bin_rem (hy : b ≠ 0) : opBin P T .rem ty x y (.f (.sc (.int kd a))) (.f (.sc (.int kd b))) = some (.f (.sc (.int kd (a.tmod b)))) :=
 opBin_of (op:=.rem) (v:=.int kd (a.tmod b)) (by decide) (by simp [binOp,Op.intDiv,hy,runPure_pure])
@[simp] theorem bin_quo (hy : b ≠ 0) : opBin P T .quo ty x y (.f (.sc (.int kd a))) (.f (.sc (.int kd b))) = some (.f (.sc (.int kd (kd.wrap (a.tdiv b))))) :=
 opBin_of (op:=.quo) (v:=.int kd (kd.wrap (a.tdiv b))) (by decide) (by simp [binOp,Op.intDiv,hy,runPure_pure])
def shlI (k : IntKind) (a b : Int) : Int:=k.wrap (a * 2 ^ min b.toNat k.bits)
def shrI (k : IntKind) (a b : Int) : Int:=a.fdiv (2 ^ min b.toNat k.bits)
@[simp] theorem bin_shl (hy : ¬ b < 0) : opBin P T .shl ty x y (.f (.sc (.int kd a))) (.f (.sc (.int kd' b))) = some (.f (.sc (.int kd (shlI kd a b)))) :=
 opBin_of (op:=.shl) (v:=.int kd (shlI kd a b)) (by decide) (by simp [binOp,Op.shift,hy,runPure_pure,shlI])
@[simp] theorem bin_shr (hy : ¬ b < 0) : opBin P T .shr ty x y (.f (.sc (.int kd a))) (.f (.sc (.int kd' b))) = some (.f (.sc (.int kd (shrI kd a b)))) :=
 opBin_of (op:=.shr) (v:=.int kd (shrI kd a b)) (by decide) (by simp [binOp,Op.shift,hy,runPure_pure,shrI])
def andI (k : IntKind) (a b : Int) : Int:=k.wrap (BitVec.ofInt k.bits a &&& BitVec.ofInt k.bits b).toNat
def orI (k : IntKind) (a b : Int) : Int:=k.wrap (BitVec.ofInt k.bits a ||| BitVec.ofInt k.bits b).toNat
def xorI (k : IntKind) (a b : Int) : Int:=k.wrap (BitVec.ofInt k.bits a ^^^ BitVec.ofInt k.bits b).toNat
def notI (k : IntKind) (a b : Int) : Int:=k.wrap (BitVec.ofInt k.bits a &&& ~~~ BitVec.ofInt k.bits b).toNat
@[simp] theorem bin_and : opBin P T .and ty x y (.f (.sc (.int kd a))) (.f (.sc (.int kd b))) = some (.f (.sc (.int kd (andI kd a b)))) :=
 opBin_of (op:=.and) (v:=.int kd (andI kd a b)) (by decide) (by simp [binOp,Op.intBits,runPure_pure,andI])
@[simp] theorem bin_or : opBin P T .or ty x y (.f (.sc (.int kd a))) (.f (.sc (.int kd b))) = some (.f (.sc (.int kd (orI kd a b)))) :=
 opBin_of (op:=.or) (v:=.int kd (orI kd a b)) (by decide) (by simp [binOp,Op.intBits,runPure_pure,orI])
@[simp] theorem bin_xor : opBin P T .xor ty x y (.f (.sc (.int kd a))) (.f (.sc (.int kd b))) = some (.f (.sc (.int kd (xorI kd a b)))) :=
 opBin_of (op:=.xor) (v:=.int kd (xorI kd a b)) (by decide) (by simp [binOp,Op.intBits,runPure_pure,xorI])
@[simp] theorem bin_andNot : opBin P T .andNot ty x y (.f (.sc (.int kd a))) (.f (.sc (.int kd b))) = some (.f (.sc (.int kd (notI kd a b)))) :=
 opBin_of (op:=.andNot) (v:=.int kd (notI kd a b)) (by decide) (by simp [binOp,Op.intBits,runPure_pure,notI])
def sEq (a b : ByteArray) : Bool:=a.toList == b.toList
theorem opNil_str {op : BinOp} {s t : ByteArray} : opNil T op ty (.f (strF s)) (.f (strF t)) = none:=by
 unfold opNil
 split <;> first | rfl | (split <;> first | rfl | (rename_i h; simp [isNilA] at h))
@[simp] theorem bin_str_eql {s t : ByteArray} : opBin P T .eql ty x y (.f (strF s)) (.f (strF t)) = some (.f (.sc (.bool (sEq s t)))):=by
 unfold opBin
 rw [opNil_str]
 simp [AV.val,aggCells,cellVal,eqGuard,binOp,runPure_bind,Op.stringOp,runPure_pure,ofVal,constA,sEq]
@[simp] theorem bin_str_neq {s t : ByteArray} : opBin P T .neq ty x y (.f (strF s)) (.f (strF t)) = some (.f (.sc (.bool (!sEq s t)))):=by
 unfold opBin
 rw [opNil_str]
 simp [AV.val,aggCells,cellVal,eqGuard,binOp,runPure_bind,Op.stringOp,runPure_pure,ofVal,constA,sEq]
end bin
def outP (P : Program) (m : Sem Value) : Option AV:=match runPure P m with
 | some r=>some (ofVal r)
 | none=>none
def lenP (P : Program) (u : TypeId) (v : AV) : Option AV:=match v.val with
 | some w=>outP P (Builtin.len_ #[u] 0 #[w])
 | none=>none
theorem opPure_len {ρ : Operand→AV} {d : Option Tmp} {u ty : TypeId} {x : Operand} {pos : String} {af : Array Edge} {g : Option (Nat × Bool)} : opPure P ρ ⟨d,.call ⟨.builtin .len,#[x],#[u]⟩,ty,pos,af,g⟩ = lenP P u (ρ x):=by
 unfold lenP opPure outP
 cases h : (ρ x).val with
 | none=>simp [Op.operands,Call.operands,h]
 | some w =>
  have : runPure P (execOp (fun y=>((ρ y).val).getD undef) ⟨d,.call ⟨.builtin .len,#[x],#[u]⟩,ty,pos,af,g⟩) = (runPure P (Builtin.len_ #[u] 0 #[w])).map Next.value:=by
   rw [← runPure_map]
   simp [execOp,resolve,invoke,builtin,h,runPure_bind,runPure_pure,runPure_map]
   rfl
  rw [this]
  simp only [Op.operands,Call.operands]
  simp [h]
  cases runPure P (Builtin.len_ #[u] 0 #[w]) <;> rfl
theorem lenP_str {u : TypeId} {s : ByteArray} (hu : runPure P (underlying u) = some .string) : lenP P u (.f (strF s)) = some (.f (intF s.size)):=by
 show outP P (Builtin.len_ #[u] 0 #[.string s]) = _
 simp [outP,Builtin.len_,runPure_bind,hu,runPure_pure,goInt,ofVal,constA]
def idxP (P : Program) (t : TypeId) (a i : AV) : Option AV:=match a.val,i.val with
 | some v,some w=>outP P (Instr.index t v w)
 | _,_=>none
theorem opPure_index {ρ : Operand→AV} {d : Option Tmp} {u ty : TypeId} {x y : Operand} {pos : String} {af : Array Edge} {g : Option (Nat × Bool)} : opPure P ρ ⟨d,.index u x y,ty,pos,af,g⟩ = idxP P u (ρ x) (ρ y):=by
 unfold idxP opPure outP
 cases h : (ρ x).val with
 | none=>simp [Op.operands,h]
 | some v =>
  cases h' : (ρ y).val with
  | none=>simp [Op.operands,h']
  | some w =>
   have : runPure P (execOp (fun y=>((ρ y).val).getD undef) ⟨d,.index u x y,ty,pos,af,g⟩) = (runPure P (Instr.index u v w)).map Next.value:=by
    rw [← runPure_map]
    show runPure P (Next.value <$> Instr.index u (((ρ x).val).getD undef) (((ρ y).val).getD undef)) = _
    rw [h,h']; rfl
   rw [this]
   simp only [Op.operands]
   simp [h,h']
   cases runPure P (Instr.index u v w) <;> rfl
theorem bytes_toList (s : ByteArray) : s.toList = s.data.toList:=Lib.toList_data s
theorem idxP_str {u : TypeId} {s : ByteArray} {i : Nat} {b : UInt8} (hu : runPure P (underlying u) = some .string) (hb : s.data.toList[i]? = some b) : idxP P u (.f (strF s)) (.f (intF i)) = some (.f (.sc (.int .u8 b.toNat))):=by
 show outP P (Instr.index u (.string s) (.int .i64 i)) = _
 have hs : s[i]? = some b:=by
  have h2 : s.data[i]? = some b:=by simpa using hb
  obtain ⟨h3,h4⟩:=Array.getElem?_eq_some_iff.1 h2
  exact getElem?_eq_some_iff.2 ⟨h3,h4⟩
 simp [outP,Instr.index,asIntOf,runPure_bind,hu,runPure_pure,hs,ofVal,constA]
theorem pureEqInt {P : Program} (d : Nat) {t : TypeId} {k k' : IntKind} {a b : Int} (hu : runPure P (underlying t) = some (.int k')) : runPure P (Op.equalIn (d + 1) t (.int k a) (.int k b)) = some (decide (a = b)):=by
 simp only [Op.equalIn,runPure_bind,hu,Option.bind_some,if_true]
 rfl
theorem pureEqStr {P : Program} (d : Nat) {t : TypeId} {a b : ByteArray} (hu : runPure P (underlying t) = some .string) : runPure P (Op.equalIn (d + 1) t (.string a) (.string b)) = some (a == b):=by
 simp only [Op.equalIn,runPure_bind,hu,Option.bind_some]
 rfl
theorem pureEqBool {P : Program} (d : Nat) {t : TypeId} {a b : Bool} (hu : runPure P (underlying t) = some .bool) : runPure P (Op.equalIn (d + 1) t (.bool a) (.bool b)) = some (a == b):=by
 simp only [Op.equalIn,runPure_bind,hu,Option.bind_some]
 rfl
theorem pureEq2 {P : Program} (d : Nat) {t : TypeId} {f1 f2 : Field} {x1 x2 y1 y2 : Value} {p q : Bool} (hu : runPure P (underlying t) = some (.struct #[f1, f2])) (hp : P.stoodInHeld t = false) (h1 : f1.name ≠ "_") (h2 : f2.name ≠ "_")
  (px1 : runPure P (part f1.type #[x1,x2] f1.offset) = some x1) (py1 : runPure P (part f1.type #[y1,y2] f1.offset) = some y1) (px2 : runPure P (part f2.type #[x1,x2] f2.offset) = some x2) (py2 : runPure P (part f2.type #[y1,y2] f2.offset) = some y2)
  (e1 : runPure P (Op.equalIn d f1.type x1 y1) = some p) (e2 : runPure P (Op.equalIn d f2.type x2 y2) = some q) : runPure P (Op.equalIn (d + 1) t (.agg #[x1,x2]) (.agg #[y1,y2])) = some (p && q):=by
 simp only [Op.equalIn,runPure_bind,hu,Option.bind_some,runPure_program,hp,Bool.false_eq_true,if_false]
 rw [← Array.forIn_toList]
 simp only [List.forIn_cons,List.forIn_nil,runPure_bind,runPure_ite,h1,h2,ne_eq,not_false_eq_true,if_true,px1,py1,px2,py2,e1,e2,Option.bind_some]
 cases p <;> cases q <;> simp [runPure_pure,runPure_bind,runPure_ite,px2,py2,e2]
theorem opNil_agg {T : TV} {op : BinOp} {t : TypeId} {ca cb : List AV} : opNil T op t (.agg ca) (.agg cb) = none:=by
 unfold opNil
 split <;> first | rfl | (split <;> first | rfl | (rename_i h; simp [isNilA] at h))
theorem opBin_eq {P : Program} {T : TV} {t : TypeId} {x y : Operand} {ca cb : List AV} {xs ys : Array Value} {q : Bool} (hg : P.eqGuardType P.depth t = false) (ha : (AV.agg ca).val = some (.agg xs)) (hb : (AV.agg cb).val = some (.agg ys))
  (he : runPure P (Op.equalIn 10000 t (.agg xs) (.agg ys)) = some q) : opBin P T .eql t x y (.agg ca) (.agg cb) = some (.f (.sc (.bool q)))∧opBin P T .neq t x y (.agg ca) (.agg cb) = some (.f (.sc (.bool (!q)))):=by
 refine ⟨?_,?_⟩ <;> unfold opBin <;> rw [opNil_agg] <;> simp only [ha,hb] <;> simp [eqGuard,runPure_bind,runPure_program,runPure_ite,hg,binOp,Op.equal,Op.maxDepth,he,runPure_pure,runPure_map,ofVal]
theorem beq_bytes (a b : ByteArray) : (a == b) = sEq a b:=by
 unfold sEq
 rw [bytes_toList,bytes_toList,Bool.eq_iff_iff]
 simp only [beq_iff_eq,Array.toList_inj]
 obtain ⟨x⟩:=a
 obtain ⟨y⟩:=b
 show ByteArray.beq ⟨x⟩ ⟨y⟩ = true ↔ x = y
 unfold ByteArray.beq
 simp
@[simp] theorem ret_zero {T : TV} {R : FV→Prop} {s : St} : Ret T [] R .ret s = R (.tup []):=by
 have : Ret T [] R .ret s = RetV s.h (.tup []) R:=by
  simp [Ret,resultA,mapO,RetV]
 rw [this,retV_tup]
 rfl
@[simp] theorem retO_panic {T : TV} {rs : List ResultVar} {v u : Value} {s : St} : RetO T rs (.pan v) (panicX u) s = (u = v):=by
 simp [RetO,panicX]
@[simp] theorem retO_ret {T : TV} {rs : List ResultVar} {r : FV} : RetO T rs (.ret r) = Ret T rs (· = r):=(rfl)
theorem sc_vals {w : World} {F : Cells} {vs : List Value} {vals : Array Value} (hs : vals.size = (vs.map FV.sc).length) (hv : ∀ (j : Nat) x,(vs.map FV.sc)[j]? = some x→∃ v,vals[j]? = some v∧Rep w F x v) : vals = vs.toArray:=by
 apply Array.ext_getElem?
 intro j
 by_cases hj : j < vs.length
 ·obtain ⟨v,h1,h2⟩:=hv j (.sc vs[j]) (by simp [hj])
  cases h2
  rw [h1]; simp [hj]
 ·rw [Array.getElem?_eq_none (by simp at hs; omega),Array.getElem?_eq_none (by simp; omega)]
theorem Gives.of_sc {f : FuncId} {vs : List Value} {v : Value} {r : FV} (hb : HasBody P f) (h : ∀ w,Calls P f vs.toArray w fun e w'=>e = .returned v∧Below w.heap.size w w') (hr : ∀ w F,Rep w F r v) : Gives P f (vs.map .sc) r:=by
 refine ⟨hb,fun w F vals hF hs hv=>?_⟩
 obtain rfl:=sc_vals hs hv
 refine (h w).mono ?_
 rintro e w' ⟨rfl,hbel⟩
 exact ⟨v,F,rfl,hr _ _,hbel,fun _ _ h=>h,fun _ _ h=>.inl h,fun b o h=>Nat.lt_of_lt_of_le (hF b o h) hbel.size⟩
theorem Panics.of_sc {f : FuncId} {vs : List Value} {v : Value} (hb : HasBody P f) (h : ∀ w,Calls P f vs.toArray w fun e w'=>e = .panicked [{ v:=v,recovered:=false }]∧Below w.heap.size w w') : Panics P f (vs.map .sc) v:=by
 refine ⟨hb,fun w F vals hF hs hv=>?_⟩
 obtain rfl:=sc_vals hs hv
 exact h w
end Go.Proofs.YtafenffmgpcjcaaGreat.Vf
namespace Go.Proofs.YtafenffmgpcjcaaGreat.Vf
open Go.RowKit
set_option linter.unusedVariables false
set_option linter.unusedSimpArgs false
variable {B : Base} {L : Lk} {h : List (List AV)} {k : List (Nat × Nat)} {w : World} {P : Program} {T : TV} {rf : Bool} {ops : Array Oper} {l : List Oper} {Q : Pst} {t : List AV} {d : Option Tmp}
def fzC (h : List (List AV)) : AV→Option FV
 | .ref b off=>match ix h b with
  | some cs=>match mapO cellFz (cs.drop off) with
   | some fs=>some (.fp fs)
   | none=>none
  | none=>none
 | x=>cellFz x
def fzB (h : List (List AV)) : AV→Option FV
 | .fnr f cs=>match mapO (fzC h) cs with
  | some fs=>some (.fn f fs)
  | none=>none
 | .ref b off=>fzC h (.ref b off)
 | x=>fzA x
def FB (L : Lk) (h : List (List AV)) : Cells:=fun b o=>L.F b o ∨ ∃ (n : Nat) (cs : List AV),L.m[n]? = some b∧h[n]? = some cs∧o < cs.length
theorem fzC_rep (H : Mem B L h k w) {x : AV} {v : Value} {y : FV} (hx : RepA w L k x v) (hy : fzC h x = some y) : Rep w (FB L h) y v:=by
 unfold fzC at hy
 split at hy
 ·rename_i b off
  split at hy
  case h_2=>cases hy
  rename_i cs hcs
  split at hy
  case h_2=>cases hy
  rename_i fs hfs
  obtain rfl:=Option.some.inj hy
  cases hx with
  | ref b off c hm =>
   have hcs' : h[b]? = some cs:=hcs
   obtain ⟨q1,q2⟩:=mapO_get hfs
   have key : ∀ (j : Nat) (y : FV),fs[j]? = some y→∃ v,(FB L h c (off + j)∧w.cell? ⟨c,off + j,none⟩ = some v∧v.oneCell' = true)∧Rep w (FB L h) y v:=fun j y hj=>by
    have hjl : j < (cs.drop off).length:=by rw [← q1]; exact (List.getElem?_eq_some_iff.1 hj).1
    obtain ⟨y',hy',hcf⟩:=q2 j _ (List.getElem?_eq_getElem hjl)
    rw [hj] at hy'
    obtain rfl:=Option.some.inj hy'
    have hx' : cs[off + j]? = some ((cs.drop off)[j]):=by rw [← List.getElem?_drop]; exact List.getElem?_eq_getElem hjl
    obtain ⟨_,_,v,a3,a4,a5⟩:=H.heap b c (off + j) cs _ hm hcs' hx'
    exact ⟨v,⟨.inr ⟨b,cs,hm,hcs',(List.getElem?_eq_some_iff.1 hx').1⟩,a3,a5⟩,(cellFz_rep a4 hcf).mono (fun _ _ h=>.inl h) (Keep.refl _ _)⟩
   exact .fp fs c off (fun j=>(w.cell? ⟨c,off + j,none⟩).getD undef) (fun j y hj=>by
    obtain ⟨v,⟨b1,b2,b3⟩,b4⟩:=key j y hj
    rw [b2]; exact ⟨b1,rfl,b3⟩) (fun j y hj=>by
    obtain ⟨v,⟨b1,b2,b3⟩,b4⟩:=key j y hj
    rw [b2]; exact b4)
 ·exact (cellFz_rep hx hy).mono (fun _ _ h=>.inl h) (Keep.refl _ _)
theorem fzB_rep (H : Mem B L h k w) {x : AV} {v : Value} {y : FV} (hx : RepA w L k x v) (hy : fzB h x = some y) : Rep w (FB L h) y v:=by
 unfold fzB at hy
 split at hy
 ·rename_i f cs
  split at hy
  case h_2=>cases hy
  rename_i fs hfs
  obtain rfl:=Option.some.inj hy
  obtain ⟨q1,q2⟩:=mapO_get hfs
  cases hx with
  | fnr f cs a vs ha hv hr =>
   have key : ∀ (j : Nat) y,fs[j]? = some y→Rep w (FB L h) y (vs j)∧a[j]? = some (vs j):=fun j y hj=>by
    have hjl : j < cs.length:=by rw [← q1]; exact (List.getElem?_eq_some_iff.1 hj).1
    obtain ⟨y',hy',hcf⟩:=q2 j cs[j] (List.getElem?_eq_getElem hjl)
    rw [hj] at hy'
    obtain rfl:=Option.some.inj hy'
    exact ⟨fzC_rep H (hr j _ (List.getElem?_eq_getElem hjl)) hcf,hv j _ (List.getElem?_eq_getElem hjl)⟩
   exact .fn f fs a vs (by rw [ha,q1]) (fun j y hj=>(key j y hj).2) (fun j y hj=>(key j y hj).1)
 ·exact fzC_rep H hx hy
 ·exact (fzA_rep hx hy).mono (fun _ _ h=>.inl h) (Keep.refl _ _)
theorem GivesR.of_gives {f : FuncId} {as : List FV} {ra : List AV} {u : Value} (hg : Gives P f as (.sc u)) (hm : mapO (fzB h) ra = some as) : GivesR P f ra h k (.f (.sc u)) h k:=by
 obtain ⟨hb,hg⟩:=hg
 refine ⟨hb,fun B L w vals H hv=>?_⟩
 obtain ⟨q1,q2⟩:=mapO_get hm
 refine (hg w (FB L h) vals (fun b o hb=>?_) (by rw [hv.1,q1]) (fun j x hj=>?_)).mono ?_
 ·rcases hb with hb | ⟨n,cs,h1,h2,h3⟩
  ·exact H.fz b o hb
  ·exact (H.mge n b h1).2
 ·have hjl : j < ra.length:=by rw [← q1]; exact (List.getElem?_eq_some_iff.1 hj).1
  obtain ⟨y',hy',hcf⟩:=q2 j ra[j] (List.getElem?_eq_getElem hjl)
  rw [hj] at hy'
  obtain rfl:=Option.some.inj hy'
  obtain ⟨v,hv1,hr⟩:=hv.2 j _ (List.getElem?_eq_getElem hjl)
  exact ⟨v,hv1,fzB_rep H hr hcf⟩
 ·rintro e w' ⟨v,F',rfl,hr,hbl,-⟩
  obtain ⟨H',he⟩:=H.grow (F':=L.F) hbl (fun _ _ h=>h) (fun _ _ h=>.inl h) (fun b o h=>Nat.lt_of_lt_of_le (H.fz b o h) hbl.size)
  cases hr
  exact ⟨u,L,rfl,H',he,.f _ _ (.sc u),Nat.le_refl _⟩
theorem call_b {f : FuncId} {cs as : List FV} {ra : List AV} {o : Option (List FV)} {u : Value} (hg : Gives P f as (.sc u)) (hm : mapO (fzB h) ra = some as) (hk : OpsK P true ops l Q ⟨putT t d (.f (.sc u)),h,k⟩) : GivesK P true ops l Q t h k d f cs ra o :=
 call_r (GivesR.of_gives hg hm) hk
def unc1 : FV→FV
 | .sl l _=>.sl l .un
 | x=>x
def unc : FV→FV
 | .sl l _=>.sl l .un
 | .agg cs=>.agg (cs.map unc1)
 | x=>x
theorem Rep.un {w : World} {F : Cells} {l : List FV} {c : Cap} {v : Value} (h : Rep w F (.sl l c) v) : Rep w F (.sl l .un) v:=by
 cases h with
 | nil c=>exact .nil .un
 | emp a cap=>exact .emp a cap
 | sl l c b o cap sz vs hc hf hle hz h1 hr=>exact .sl l .un b o cap sz vs (by simp) (fun h=>by cases h) hle hz h1 hr
theorem Rep.unc1 {w : World} {F : Cells} {x : FV} {v : Value} (h : Rep w F x v) : Rep w F (Vf.unc1 x) v:=by
 unfold Vf.unc1
 split
 ·exact h.un
 ·exact h
theorem Rep.unc {w : World} {F : Cells} {x : FV} {v : Value} (h : Rep w F x v) : Rep w F (Vf.unc x) v:=by
 unfold Vf.unc
 split
 ·exact h.un
 ·cases h with
  | agg cs a vs ha hv hr =>
   refine .agg _ a vs (by simpa using ha) (fun j y hj=>?_) (fun j y hj=>?_)
   ·rw [List.getElem?_map] at hj
    obtain ⟨z,hz,rfl⟩:=Option.map_eq_some_iff.1 hj
    exact hv j z hz
   ·rw [List.getElem?_map] at hj
    obtain ⟨z,hz,rfl⟩:=Option.map_eq_some_iff.1 hj
    exact (hr j z hz).unc1
 ·exact h
theorem Gives.weak {f : FuncId} {as : List FV} {r : FV} (hg : Gives P f (as.map unc) r) : Gives P f as r:=by
 refine ⟨hg.1,fun w F vals hF hv hr=>hg.2 w F vals hF (by simpa using hv) fun j x hj=>?_⟩
 rw [List.getElem?_map] at hj
 obtain ⟨z,hz,rfl⟩:=Option.map_eq_some_iff.1 hj
 obtain ⟨v,h1,h2⟩:=hr j z hz
 exact ⟨v,h1,h2.unc⟩
theorem ops_max {P : Program} {rf : Bool} {ops : Array Oper} {l : List Oper} {Q : Pst} {t : List AV} {h : List (List AV)} {k : List (Nat × Nat)} {d : Option Tmp} {x y : Operand} {u v ty : TypeId} {pos : String} {af : Array Edge} {q : IntKind} {a b : Int} (hx : evA t x = .f (.sc (.int q a))) (hy : evA t y = .f (.sc (.int q b))) : OpsK P rf ops (⟨d,.call ⟨.builtin .max,#[x,y],#[u,v]⟩,ty,pos,af,none⟩ :: l) Q ⟨t,h,k⟩ = OpsK P rf ops l Q ⟨putT t d (.f (.sc (.int q (max a b)))),h,k⟩:=by
 have e : (if a < b then b else a) = max a b:=by rw [Int.max_def]; split <;> split <;> omega
 refine ((ops_op rfl rfl rfl).trans thenK_still).trans ?_
 show StillK P rf ops l Q t h k d (opPure P (evA t) _) = _
 have : opPure P (evA t) ⟨d,.call ⟨.builtin .max,#[x,y],#[u,v]⟩,ty,pos,af,none⟩ = some (.f (.sc (.int q (max a b)))):=by
  simp [opPure,execOp,hx,hy,AV.val,aggCells,cellVal,Op.operands,Call.operands,resolve,invoke,builtin,runPure_bind,runPure_pure,runPure,Builtin.max_,Builtin.max2,e,ofVal,constA]
 rw [this]; rfl
theorem ops_max3 {P : Program} {rf : Bool} {ops : Array Oper} {l : List Oper} {Q : Pst} {t : List AV} {h : List (List AV)} {k : List (Nat × Nat)} {d : Option Tmp} {x y z : Operand} {u v u2 ty : TypeId} {pos : String} {af : Array Edge} {q : IntKind} {a b c : Int} (hx : evA t x = .f (.sc (.int q a))) (hy : evA t y = .f (.sc (.int q b))) (hz : evA t z = .f (.sc (.int q c))) : OpsK P rf ops (⟨d,.call ⟨.builtin .max,#[x,y,z],#[u,v,u2]⟩,ty,pos,af,none⟩ :: l) Q ⟨t,h,k⟩ = OpsK P rf ops l Q ⟨putT t d (.f (.sc (.int q (max (max a b) c)))),h,k⟩:=by
 have e : ∀ a b : Int,(if a < b then b else a) = max a b:=fun a b=>by rw [Int.max_def]; split <;> split <;> omega
 refine ((ops_op rfl rfl rfl).trans thenK_still).trans ?_
 show StillK P rf ops l Q t h k d (opPure P (evA t) _) = _
 have : opPure P (evA t) ⟨d,.call ⟨.builtin .max,#[x,y,z],#[u,v,u2]⟩,ty,pos,af,none⟩ = some (.f (.sc (.int q (max (max a b) c)))):=by
  simp [opPure,execOp,hx,hy,hz,AV.val,aggCells,cellVal,Op.operands,Call.operands,resolve,invoke,builtin,runPure_bind,runPure_pure,runPure,Builtin.max_,Builtin.max2,e,ofVal,constA]
 rw [this]; rfl
@[simp] theorem ops_makeFunc {f : FuncId} {cs : Array Operand} {ty : TypeId} {pos : String} {af : Array Edge} : OpsK P rf ops (⟨d,.makeFunc (.func f) #[] cs,ty,pos,af,none⟩ :: l) Q ⟨t,h,k⟩ = StillK P rf ops l Q t h k d (match mapO cellFz (mapA t cs.toList) with | some fs=>some (.f (.fn f fs)) | none=>some (.fnr f (mapA t cs.toList))):=by
 rw [mapA_eq]
 exact (ops_op rfl rfl rfl).trans thenK_still
def ScQ (Q : Pst) : Pst
 | .goto _,_=>False
 | e,s=>Q e s
@[simp] theorem scQ_normal {Q : Pst} {s : St} : ScQ Q .normal s = Q .normal s:=(rfl)
@[simp] theorem scQ_exit {Q : Pst} {s : St} {i : Nat} : ScQ Q (.exit i) s = Q (.exit i) s:=(rfl)
@[simp] theorem scQ_ret {Q : Pst} {s : St} : ScQ Q .ret s = Q .ret s:=(rfl)
@[simp] theorem xC_label {i : Nat} {Q : Pst} {s : St} : xC P (.label i) Q s = Q .normal s:=(rfl)
theorem scopeX (hm : P.follows .mixedOrders = true) {c : Code} {Q : Pst} {s : St} (hok : okC c = true) (h : xC P c (ScQ Q) s) : W P (.scope c) s Q:=fun B L a w H =>
 wp_scope_straight (wp_mono ((xC_W hm c hok h) B L a w H) fun e a' w' hp=>by
  obtain ⟨s',L',hq,H',he,hl⟩:=hp
  cases e with
  | goto l=>exact hq.elim
  | _=>exact ⟨s',L',hq,H',he,hl⟩)
def BelC (h h' : List (List AV)) (n : Nat) : Prop:=∀ (b : Nat) (cs : List AV),h'[b]? = some cs→h[b]? = some cs ∨ ∀ z ∈ cs,Bel h.length n z
theorem BelC.refl {h : List (List AV)} {n : Nat} : BelC h h n:=fun b cs hc=>.inl hc
theorem BelC.set {h : List (List AV)} {n b : Nat} {cs : List AV} (hc : ∀ z ∈ cs,Bel h.length n z) : BelC h (h.set b cs) n:=fun b' cs' h'=>by
 rcases get_set h' with ⟨hne,hj⟩ | ⟨rfl,rfl,hlt⟩
 ·exact .inl hj
 ·exact .inr hc
theorem BelC.trans {h h1 h2 : List (List AV)} {n1 n2 : Nat} (a : BelC h h1 n1) (b : BelC h1 h2 n2) (hl : h1.length = h.length) (hn : n1 ≤ n2) : BelC h h2 n2:=fun i cs hc=>by
 rcases b i cs hc with h' | h'
 ·rcases a i cs h' with h'' | h''
  ·exact .inl h''
  ·exact .inr fun z hz=>(h'' z hz).mono (Nat.le_refl _) hn
 ·exact .inr fun z hz=>by rw [← hl]; exact h' z hz
theorem BelC.app {h h' g : List (List AV)} {n : Nat} (a : BelC h h' n) (hl : h'.length = h.length) : BelC (h ++ g) (h' ++ g) n:=fun i cs hc=>by
 rw [List.getElem?_append] at hc
 split at hc
 ·rename_i hlt
  rcases a i cs hc with h1 | h1
  ·exact .inl (by rw [List.getElem?_append_left (by omega)]; exact h1)
  ·exact .inr fun z hz=>(h1 z hz).mono (by simp) (Nat.le_refl _)
 ·rename_i hge
  exact .inl (by rw [List.getElem?_append_right (by omega),← hl]; exact hc)
theorem GivesR.agg {f : FuncId} {fs : List FV} {cs : List AV} {x : AV} {h' : List (List AV)} {k' : List (Nat × Nat)} (hg : GivesR P f (.f (.agg fs) :: cs) h k x h' k') : GivesR P f (.agg (fs.map .f) :: cs) h k x h' k':=by
 refine ⟨hg.1,fun B L w vals H hv=>hg.2 B L w vals H ⟨by simpa using hv.1,fun j y hj=>?_⟩⟩
 cases j with
 | zero =>
  obtain rfl : AV.f (.agg fs) = y:=by simpa using hj
  obtain ⟨v,h1,h2⟩:=hv.2 0 _ rfl
  have e : mapO cellFz (fs.map AV.f) = some fs:=by
   induction fs with
   | nil=>rfl
   | cons a fs ih =>
    have : ∀ l : List FV,mapO cellFz (l.map AV.f) = some l:=fun l=>by
     induction l with
     | nil=>rfl
     | cons a l ih=>simp only [List.map_cons,mapO,cellFz,ih]
    exact this _
  exact ⟨v,h1,.f _ _ (fzA_rep h2 (by simp only [fzA,e]))⟩
 | succ j=>exact hv.2 (j + 1) y (by simpa using hj)
theorem retR_eq {T : TV} {rs : List ResultVar} {h0 h' g hh : List (List AV)} {k0 k' gk kk : List (Nat × Nat)} {v : FV} {t : List AV} (hres : resultA T rs ⟨t,hh,kk⟩ = some (.f v)) (e1 : hh = h' ++ g) (e2 : kk = k' ++ gk) (hl : h'.length = h0.length) (hk : k0.length ≤ k'.length) (hb : BelC h0 h' k'.length) :
  RetR T rs h0 k0 (fun y h2 k2=>y = .f v∧h2 = h'∧k2 = k') .ret ⟨t,hh,kk⟩:=by
 subst e1 e2
 unfold RetR
 rw [hres]
 exact ⟨.inr rfl,h',g,k',gk,.f v,rfl,hl,rfl,hk,hb,.inr ⟨0,v,rfl,rfl⟩,rfl,rfl,rfl⟩
end Go.Proofs.YtafenffmgpcjcaaGreat.Vf
namespace Go.Proofs.YtafenffmgpcjcaaGreat.Vf
open Go.RowKit
set_option linter.unusedVariables false
set_option linter.unusedSimpArgs false
variable {B : Base} {L : Lk} {h : List (List AV)} {k : List (Nat × Nat)} {w : World} {P : Program} {T : TV}
theorem W.x (hm : P.follows .mixedOrders = true) {c : Code} {Q : Pst} {s : St} (hok : okC c = true) (h : xC P c Q s) : W P c s Q:=xC_W hm c hok h
theorem W.two {x y : Code} {Q : Pst} {s : St} (h : W P x s (SeqQ (fun Q s'=>W P y s' Q) Q)) : W P (.seq x y) s Q :=
 W.seq (W.mono h fun e s' h=>by cases e <;> exact h)
theorem W.blk {id : Nat} {c : Code} {Q : Pst} {s : St} (h : W P c s (BlkQ id Q)) : W P (.block id c) s Q :=
 W.block (W.mono h fun e s' h=>by cases e <;> exact h)
theorem forW {c : Code} {Q : Pst} {s : St} (N : Nat) (I : Nat→St→Prop) (h0 : I 0 s) (round : ∀ k s,k ≤ N→I k s→W P c s (SeqQ (fun _ s'=>k < N∧I (k + 1) s') Q)) : W P (.loop c) s Q :=
 W.loop (fun n s=>∃ k,k ≤ N∧n = N - k∧I k s) N ⟨0,Nat.zero_le _,rfl,h0⟩ fun n s ⟨k,hk,hn,hI⟩=>W.mono (round k s hk hI) fun e s' h=>by
  cases e with
  | normal=>exact ⟨N - (k + 1),by have:=h.1; omega,k + 1,h.1,rfl,h.2⟩
  | _=>exact h
theorem frz_W {c : Code} {Q : Pst} {s : St} {d b : Nat} {fs : List FV} (hd : s.t[d]? = some (.ref b 0)) (hb : s.h[b]? = some (fs.map .f)) (h : W P c ⟨s.t.set d (.f (.fp fs)),s.h.set b [],s.k⟩ Q) : W P c s Q:=by
 intro B L a w H
 obtain ⟨v,hv,hr⟩:=H.tmps.2 d _ hd
 obtain ⟨c0,hm,rfl⟩ : ∃ c0,L.m[b]? = some c0∧v = .pointer (some ⟨c0,0,none⟩):=by
  cases hr with | ref b off c hm=>exact ⟨c,hm,rfl⟩
 obtain ⟨H',he⟩:=H.mem.kill hm hb
 refine wp_mono (h B _ a w ⟨H',H.d,?_⟩) fun e a' w' hp=>hp.of he (Nat.le_refl _)
 have hold:=H.tmps.mono he (Nat.le_refl _)
 refine ⟨by simpa using hold.1,fun j x hj=>?_⟩
 by_cases hjd : j = d
 ·subst hjd
  have hlt:=(List.getElem?_eq_some_iff.1 hd).1
  rw [List.getElem?_set_self hlt] at hj
  obtain rfl:=Option.some.inj hj
  refine ⟨_,hv,.f _ _ ?_⟩
  have hc : ∀ (i : Nat) (y : FV),fs[i]? = some y→∃ u,w.cell? ⟨c0,i,none⟩ = some u∧u.oneCell' = true∧Rep w L.F y u:=fun i y hy=>by
   obtain ⟨_,_,u,q3,q4,q5⟩:=H.mem.heap b c0 i _ (.f y) hm hb (by simp [hy])
   cases q4 with | f x v hx=>exact ⟨u,q3,q5,hx⟩
  refine .fp fs c0 0 (fun i=>(w.cell? ⟨c0,i,none⟩).getD undef) (fun i y hy=>?_) fun i y hy=>?_
  ·obtain ⟨u,h1,h2,h3⟩:=hc i y hy
   rw [Nat.zero_add,h1]
   refine ⟨.inr ⟨rfl,?_⟩,rfl,h2⟩
   have:=(List.getElem?_eq_some_iff.1 hy).1
   simpa using this
  ·obtain ⟨u,h1,h2,h3⟩:=hc i y hy
   rw [h1]
   exact h3.mono he.F he.keep
 ·rw [List.getElem?_set_ne (fun e=>hjd e.symm)] at hj
  exact hold.2 j x hj
def RetOw (T : TV) (rs : List ResultVar) (l : List FV) (sz : Nat) : Pst:=fun e s=>(e = .normal ∨ e = .ret)∧∃ t,resultA T rs s = some (.own l t)∧s.k[t]? = some (l.length,sz)
theorem GivesT.of_W {f : FuncId} {fn : Func} {c : Code} {n : Nat} {rs : List ResultVar} {args : List FV} {l : List FV} {sz : Nat} (hf : P.funcs[f]? = some fn) (hb : fn.body = some c) (hnt : fn.ntmps = n) (hrs : fn.results.toList = rs) (hn : fn.name ≠ "runtime.NumGoroutine")
  (hw : W P c ⟨initT n args,[],[]⟩ (RetOw (tyOf P) rs l sz)) : GivesT P f args l sz:=by
 subst hnt hrs
 refine ⟨⟨fn,hf,by rw [hb]; rfl,hn⟩,fun w F vals hF hs hv=>calls_of_wp hf hb ?_⟩
 have hrel:=init_rel (n:=fn.ntmps) hF hs hv
 refine wp_mono (hw _ _ _ _ hrel) fun e a' w' ⟨s',L',hq,H',he,hl⟩=>?_
 obtain ⟨hex,t,hx,hk⟩:=hq
 obtain ⟨v,hv1,hr⟩:=results_run (tyOf_ok P) H' hx
 obtain ⟨b,o,cap,rfl,hrep,hz,htk⟩ : ∃ b o cap,v = .slice (some ⟨b,o,none⟩) l.length cap∧Rep w' L'.F (.sl l .un) (.slice (some ⟨b,o,none⟩) l.length cap)∧(∀ x ∈ l,x.cells.length = sz)∧L'.t[t]? = some ⟨b,o,cap⟩:=by
  cases hr with
  | own l t b o cap h n' sz' hk' hn' hz ht =>
   rw [hk] at hk'
   obtain ⟨rfl,rfl⟩:=Prod.mk.inj (Option.some.inj hk')
   exact ⟨b,o,cap,rfl,h,hz,ht rfl⟩
 obtain ⟨b1,b2,b3,b4,b5,b6⟩:=H'.mem.tok t l.length sz _ htk hk
 have fin : a'.defers = []∧∃ v,(results fn a'.tmps).run P w' = .ok v w'∧∃ b o cap F',Ending.returned v = .returned (.slice (some ⟨b,o,none⟩) l.length cap)∧Rep w' F' (.sl l .un) (.slice (some ⟨b,o,none⟩) l.length cap)∧Below w.heap.size w w'∧(∀ b o,F b o→F' b o)∧(∀ b o,F' b o→F b o ∨ w.heap.size ≤ b)∧(∀ b o,F' b o→b < w'.heap.size) ∧
   w.heap.size ≤ b∧b < w'.heap.size∧(l.length ≤ cap∧o = 0)∧(∀ j,o + l.length * sz ≤ j→¬ F' b j)∧(∀ j,o ≤ j→j < o + cap * sz→w'.frozen? ⟨b,j,none⟩ = false∧∃ v,w'.cell? ⟨b,j,none⟩ = some v)∧∀ x ∈ l,x.cells.length = sz :=
  ⟨H'.d,_,hv1,b,o,cap,L'.F,rfl,hrep,H'.mem.below,H'.mem.f0,H'.mem.f1,H'.mem.fz,b1,b2,b3,b5,b6,hz⟩
 rcases hex with rfl | rfl
 ·exact fin
 ·exact fin
theorem GivesT.of (hm : P.follows .mixedOrders = true) {f : FuncId} {fn : Func} {c : Code} {n : Nat} {rs : List ResultVar} {args : List FV} {l : List FV} {sz : Nat} (hf : P.funcs[f]? = some fn) (hb : fn.body = some c) (hnt : fn.ntmps = n) (hrs : fn.results.toList = rs) (hok : ((fn.name != "runtime.NumGoroutine") && okC c) = true)
  (hw : xC P c (RetOw (tyOf P) rs l sz) ⟨initT n args,[],[]⟩) : GivesT P f args l sz:=by
 simp only [Bool.and_eq_true,bne_iff_ne] at hok
 exact GivesT.of_W hf hb hnt hrs hok.1 (xC_W hm c hok.2 hw)
@[simp] theorem retOw_end {T : TV} {rs : List ResultVar} {l : List FV} {sz : Nat} {s : St} : RetOw T rs l sz .normal s = RetOw T rs l sz .ret s:=by simp [RetOw]
@[simp] theorem retOw_one {T : TV} {r : ResultVar} {l : List FV} {sz : Nat} {t : List AV} : RetOw T [r] l sz .ret ⟨t,h,k⟩ = ∃ i,resA T h t r = some (.own l i)∧k[i]? = some (l.length,sz):=by
 unfold RetOw resultA
 cases hr : resA T h t r <;> simp [mapO,hr]
theorem GivesT.gives {f : FuncId} {as l : List FV} {sz : Nat} (h : GivesT P f as l sz) : Gives P f as (.sl l .un) :=
 ⟨h.1,fun w F vals hF hs hv=>(h.2 w F vals hF hs hv).mono fun e w' ⟨b,o,cap,F',h1,h2,h3,h4,h5,h6,_⟩=>⟨_,F',h1,h2,h3,h4,h5,h6⟩⟩
theorem Gives.full {f : FuncId} {as : List FV} {l : List FV} {c : Cap} (h : Gives P f as (.sl l c)) : Gives P f as (.sl l .un) :=
 ⟨h.1,fun w F vals hF hs hv=>(h.2 w F vals hF hs hv).mono fun e w' ⟨v,F',h1,h2,h3⟩=>⟨v,F',h1,h2.un,h3⟩⟩
theorem weakH_W {c : Code} {Q : Pst} {s : St} {b j : Nat} {cs : List AV} {x x' : AV} (hb : s.h[b]? = some cs) (hj : cs[j]? = some x) (hw : ∀ (w : World) (L : Lk) (k : List (Nat × Nat)) (v : Value),RepA w L k x v→RepA w L k x' v) (h : W P c ⟨s.t,s.h.set b (cs.set j x'),s.k⟩ Q) : W P c s Q:=by
 intro B L a w H
 have hm:=H.mem
 have hm' : Mem B L (s.h.set b (cs.set j x')) s.k w:=by
  refine ⟨hm.below,hm.fz,hm.f0,hm.f1,by simpa using hm.mlen,hm.mge,hm.minj,fun b' c' j' cs' y g1 g2 g3=>?_,hm.tlen,hm.tok,hm.tinj⟩
  rcases get_set g2 with ⟨hne,g2⟩ | ⟨rfl,rfl,_⟩
  ·exact hm.heap b' c' j' cs' y g1 g2 g3
  ·rcases get_set g3 with ⟨hne,g3⟩ | ⟨rfl,rfl,_⟩
   ·exact hm.heap b' c' j' cs y g1 hb g3
   ·obtain ⟨q1,q2,v,q3,q4,q5⟩:=hm.heap b' c' j' cs x g1 hb hj
    exact ⟨q1,q2,v,q3,hw _ _ _ _ q4,q5⟩
 exact wp_mono (h B L a w ⟨hm',H.d,H.tmps⟩) fun e a' w' hp=>hp
theorem weak_nil (w : World) (L : Lk) (k : List (Nat × Nat)) (v : Value) (h : RepA w L k (.f (.sl [] .nil)) v) : RepA w L k (.f (.sl [] .un)) v:=by
 cases h with | f x v h=>exact .f _ _ h.un
theorem append_full {k : List (Nat × Nat)} {ys : List FV} {c : Cap} {y : AV} {ty e : TypeId} {s b : Nat} {z : List AV} {ety : Ty} (hc : c ≠ .un) (ht : T ty = some ⟨s,b,.slice e,z⟩) (he : T e = some ety) (hz : ety.size ≠ 0)
  (hy : elems y = some ys) (hys : ys ≠ []) (hall : ys.all (fun u=>u.cells.length == ety.size) = true) (hb : ys.length * ety.bytes ≤ 140737488355328) (hb2 : ys.length ≤ 4611686018427387904) :
  opAppend T k ty (.f (.sl [] c)) y = some (.own ys k.length,k ++ [(ys.length,ety.size)]):=by
 unfold opAppend
 simp only [ht,he,hy,if_neg hz,hall,if_true,if_neg hys]
 rw [if_pos ⟨by simp [hc],by simp,by simpa using hb,by simpa using hb2⟩]
 simp
def pickO (L : List Oper) : List Nat→List Oper
 | []=>[]
 | i :: l=>match ix L i with
  | some o=>o :: pickO L l
  | none=>pickO L l
@[simp] theorem pickO_nil {L : List Oper} : pickO L [] = []:=(rfl)
theorem opsOf_pick (ops : Array Oper) (l : List Nat) : opsOf ops l = pickO ops.toList l:=by
 induction l with
 | nil=>rfl
 | cons i l ih =>
  have ih : List.filterMap (ops[·]?) l = pickO ops.toList l:=ih
  show List.filterMap (ops[·]?) (i :: l) = _
  rw [List.filterMap_cons,pickO]
  simp only [ix,Array.getElem?_toList]
  cases ops[i]? <;> simp [ih]
@[simp] theorem pickO_step {L : List Oper} {i : Nat} {l : List Nat} : pickO L (i :: l) = (match ix L i with | some o=>o :: pickO L l | none=>pickO L l):=(rfl)
theorem W.two_orders (hm : P.follows .mixedOrders = true) {id : Nat} {ops : Array Oper} {s : St} {Q : Pst} {x y : Nat} {l1 l2 : List Nat} {L1 L2 : List Oper} (hok : twoOk false ops x y l1 l2 = true) (e1 : pickO ops.toList l1 = L1) (e2 : pickO ops.toList l2 = L2)
  (h1 : OpsK P false ops L1 Q s) (h2 : OpsK P false ops L2 Q s) : W P (.region id ops true) s Q:=by
 have imp : ∀ {l : List Oper} {K K' : St→Prop},(∀ s,K s→K' s)→∀ {s : St},wOps P (tyOf P) false ops l s K→wOps P (tyOf P) false ops l s K':=fun hk _ h=>wOps_imp hk h
 have h1 : xOps P false ops L1 Q s:=h1
 have h2 : xOps P false ops L2 Q s:=h2
 rw [xOps_eq] at h1 h2
 refine W.draw2 (z:=false) (tyOf_ok P) hm hok ?_ ?_
 ·rw [opsOf_pick,e1]; exact wOps_Z (fun h=>by cases h) (imp (fun s' hk=>⟨fun h=>(by cases h),hk⟩) h1)
 ·rw [opsOf_pick,e2]; exact wOps_Z (fun h=>by cases h) (imp (fun s' hk=>⟨fun h=>(by cases h),hk⟩) h2)
theorem W.scp {c : Code} {Q : Pst} {s : St} (h : W P c s (ScQ Q)) : W P (.scope c) s Q:=fun B L a w H =>
 wp_scope_straight (wp_mono (h B L a w H) fun e a' w' hp=>by
  obtain ⟨s',L',hq,H',he,hl⟩:=hp
  cases e with
  | goto l=>exact hq.elim
  | _=>exact ⟨s',L',hq,H',he,hl⟩)
theorem Gives.ofW {f : FuncId} {fn : Func} {c : Code} {n : Nat} {rs : List ResultVar} {args : List FV} {r : FV} (hf : P.funcs[f]? = some fn) (hb : fn.body = some c) (hnt : fn.ntmps = n) (hrs : fn.results.toList = rs) (hn : fn.name ≠ "runtime.NumGoroutine")
  (hw : W P c ⟨initT n args,[],[]⟩ (Ret (tyOf P) rs (· = r))) : Gives P f args r:=by
 subst hnt hrs
 exact Gives.of_W (tyOf_ok P) hf hb hn hw
end Go.Proofs.YtafenffmgpcjcaaGreat.Vf
namespace Go.Proofs.YtafenffmgpcjcaaGreat.Vf
open Go.RowKit
set_option linter.unusedVariables false
set_option linter.unusedSimpArgs false
variable {B : Base} {L : Lk} {h : List (List AV)} {k : List (Nat × Nat)} {w : World} {P : Program} {T : TV}
def BOk (B : Base) : Prop:=∀ b o,B.F b o→b < B.w.heap.size
def PostD (B : Base) (Q : Pst) : Exit→Act→World→Prop:=fun e a' w'=>∃ s' L',Q e s'∧Rel B L' s' a' w'
def Wd (P : Program) (c : Code) (s : St) (Q : Pst) : Prop:=∀ (B : Base) (L : Lk) (a : Act) (w : World),BOk B→Rel B L s a w→c.wp P (PostD B Q) a w
theorem W.d {c : Code} {s : St} {Q : Pst} (h : W P c s Q) : Wd P c s Q:=fun B L a w _ H=>wp_mono (h B L a w H) fun e a' w' ⟨s',L',h1,h2,_⟩=>⟨s',L',h1,h2⟩
theorem Wd.x (hm : P.follows .mixedOrders = true) {c : Code} {Q : Pst} {s : St} (hok : okC c = true) (h : xC P c Q s) : Wd P c s Q:=(W.x hm hok h).d
theorem Wd.two {x y : Code} {Q : Pst} {s : St} (h : W P x s (SeqQ (fun Q s'=>Wd P y s' Q) Q)) : Wd P (.seq x y) s Q:=fun B L a w hB H =>
 wp_seq (wp_mono (h B L a w H) fun e a' w' ⟨s',L',h1,h2,_⟩=>by
  cases e with
  | normal=>exact h1 B L' a' w' hB h2
  | _=>exact ⟨s',L',h1,h2⟩)
theorem Wd.two' {x y : Code} {Q : Pst} {s : St} (h : Wd P x s (SeqQ (fun Q s'=>Wd P y s' Q) Q)) : Wd P (.seq x y) s Q:=fun B L a w hB H =>
 wp_seq (wp_mono (h B L a w hB H) fun e a' w' ⟨s',L',h1,h2⟩=>by
  cases e with
  | normal=>exact h1 B L' a' w' hB h2
  | _=>exact ⟨s',L',h1,h2⟩)
theorem Wd.skip {s : St} {Q : Pst} (h : Q .normal s) : Wd P .skip s Q:=(W.skip h).d
theorem Wd.cond {c : Operand} {x y : Code} {q : Bool} {s : St} {Q : Pst} (hc : evA s.t c = .f (.sc (.bool q))) (h : if q then Wd P x s Q else Wd P y s Q) : Wd P (.cond c x y) s Q:=fun B L a w hB H=>by
 have:=H.ev c
 rw [hc] at this
 have hv : a.eval c = .bool q:=by
  generalize a.eval c = v at this
  cases this with | f x v hx=>cases hx; rfl
 cases q
 ·exact wp_cond_false hv (h B L a w hB H)
 ·exact wp_cond_true hv (h B L a w hB H)
def GivesD (P : Program) (f : FuncId) (args : List AV) (h : List (List AV)) (k : List (Nat × Nat)) (R : AV→List (List AV)→List (Nat × Nat)→Prop) : Prop :=
 HasBody P f∧∀ (B : Base) (L : Lk) (w : World) (vals : Array Value),BOk B→Mem B L h k w→RepL w L k args vals →
  Calls P f vals w fun e w'=>∃ x h' k' v L',R x h' k'∧e = .returned v∧Mem B L' h' k' w'∧RepA w' L' k' x v
def RetD (T : TV) (rs : List ResultVar) (R : AV→List (List AV)→List (Nat × Nat)→Prop) : Pst:=fun e s =>
 (e = .normal ∨ e = .ret)∧match resultA T rs s with
  | some x=>R x s.h s.k
  | none=>False
@[simp] theorem retD_end {T : TV} {rs : List ResultVar} {R : AV→List (List AV)→List (Nat × Nat)→Prop} {s : St} : RetD T rs R .normal s = RetD T rs R .ret s:=by simp [RetD]
@[simp] theorem retD_one {T : TV} {r : ResultVar} {R : AV→List (List AV)→List (Nat × Nat)→Prop} {t : List AV} : RetD T [r] R .ret ⟨t,h,k⟩ = (match resA T h t r with | some x=>R x h k | none=>False):=by
 unfold RetD resultA
 cases hr : resA T h t r <;> simp [mapO,hr]
@[simp] theorem retD_three {T : TV} {r r' r'' : ResultVar} {R : AV→List (List AV)→List (Nat × Nat)→Prop} {t : List AV} : RetD T [r,r',r''] R .ret ⟨t,h,k⟩ = (match resA T h t r with | some x=>(match resA T h t r' with | some y=>(match resA T h t r'' with | some z=>R (.tup [x,y,z]) h k | none=>False) | none=>False) | none=>False):=by
 unfold RetD resultA
 cases hr : resA T h t r <;> cases hr' : resA T h t r' <;> cases hr'' : resA T h t r'' <;> simp [mapO,hr,hr',hr'']
theorem GivesD.of_Wd {f : FuncId} {fn : Func} {c : Code} {n : Nat} {rs : List ResultVar} {args : List AV} {R : AV → List (List AV) → List (Nat × Nat) → Prop} (hf : P.funcs[f]? = some fn) (hb : fn.body = some c) (hnt : fn.ntmps = n) (hrs : fn.results.toList = rs) (hn : fn.name ≠ "runtime.NumGoroutine")
  (hw : Wd P c ⟨args ++ List.replicate (n - args.length) undefA,h,k⟩ (RetD (tyOf P) rs R)) : GivesD P f args h k R:=by
 subst hnt hrs
 refine ⟨⟨fn,hf,by rw [hb]; rfl,hn⟩,fun B L w vals hB hmem hv=>calls_of_wp hf hb ?_⟩
 have hrel : Rel B L ⟨args ++ List.replicate (fn.ntmps - args.length) undefA,h,k⟩ { tmps:=vals ++ Array.replicate (fn.ntmps - vals.size) undef,defers:=[] } w:=by
  refine ⟨hmem,rfl,⟨by simp [hv.1],fun j x hj=>?_⟩⟩
  rw [List.getElem?_append] at hj
  split at hj
  ·rename_i hlt
   obtain ⟨v,hv1,hr⟩:=hv.2 j x hj
   exact ⟨v,by rw [Array.getElem?_append_left (Array.getElem?_eq_some_iff.1 hv1).1]; exact hv1,hr⟩
  ·rename_i hge
   have hjl:=(List.getElem?_eq_some_iff.1 hj).1
   rw [List.length_replicate] at hjl
   rw [List.getElem?_replicate_of_lt hjl] at hj
   obtain rfl:=Option.some.inj hj
   refine ⟨undef,?_,.f _ _ (.sc _)⟩
   have:=hv.1
   rw [Array.getElem?_append_right (by omega),Array.getElem?_replicate,if_pos (by omega)]
 refine wp_mono (hw _ _ _ _ hB hrel) fun e a' w' ⟨s',L',hq,H'⟩=>?_
 obtain ⟨hex,hres⟩:=hq
 split at hres
 case h_2=>exact hres.elim
 rename_i z hz
 obtain ⟨v,hv1,hr⟩:=results_run (tyOf_ok P) H' hz
 have fin : a'.defers = []∧∃ v,(results fn a'.tmps).run P w' = .ok v w'∧∃ y h2 k2 v' L2,R y h2 k2∧Ending.returned v = .returned v'∧Mem B L2 h2 k2 w'∧RepA w' L2 k2 y v':=⟨H'.d,v,hv1,z,_,_,v,L',hres,rfl,H'.mem,hr⟩
 rcases hex with rfl | rfl
 ·exact fin
 ·exact fin
theorem Gives.of_Wd {f : FuncId} {fn : Func} {c : Code} {n : Nat} {rs : List ResultVar} {args : List FV} {r : FV} (hf : P.funcs[f]? = some fn) (hb : fn.body = some c) (hnt : fn.ntmps = n) (hrs : fn.results.toList = rs) (hn : fn.name ≠ "runtime.NumGoroutine")
  (hw : Wd P c ⟨initT n args,[],[]⟩ (Ret (tyOf P) rs (· = r))) : Gives P f args r:=by
 subst hnt hrs
 refine ⟨⟨fn,hf,by rw [hb]; rfl,hn⟩,fun w F vals hF hs hv=>calls_of_wp hf hb ?_⟩
 have hrel:=init_rel (n:=fn.ntmps) hF hs hv
 refine wp_mono (hw ⟨w,F⟩ _ _ _ hF hrel) fun e a' w' ⟨s',L',hq,H'⟩=>?_
 obtain ⟨hex,hres⟩:=hq
 split at hres
 case h_2=>exact hres.elim
 rename_i x hx
 obtain ⟨n,y,hy,rfl⟩:=hres
 obtain ⟨v,hv,hr⟩:=results_run (tyOf_ok P) H' hx
 have hrep:=fzH_rep H'.mem n hr hy
 have fin : a'.defers = []∧∃ v,(results fn a'.tmps).run P w' = .ok v w'∧∃ v' F',Ending.returned v = .returned v'∧Rep w' F' y v'∧Below w.heap.size w w'∧(∀ b o,F b o→F' b o)∧(∀ b o,F' b o→F b o ∨ w.heap.size ≤ b)∧∀ b o,F' b o→b < w'.heap.size:=by
  refine ⟨H'.d,v,hv,v,Fall 0 L' s'.h,rfl,hrep,H'.mem.below,fun b o h=>.inl (H'.mem.f0 b o h),fun b o h=>?_,fun b o h=>?_⟩
  ·rcases h with h | ⟨i,cs,_,h1,_,_⟩
   ·exact H'.mem.f1 b o h
   ·exact .inr (H'.mem.mge i b h1).1
  ·rcases h with h | ⟨i,cs,_,h1,_,_⟩
   ·exact H'.mem.fz b o h
   ·exact (H'.mem.mge i b h1).2
 rcases hex with rfl | rfl
 ·exact fin
 ·exact fin
theorem Sl.drop {a : Act} {L' : Lk} {k' : List (Nat × Nat)} {w' : World} {n d : Nat} {x : AV} (hs : a.tmps.size = n) (hd : d < n) (hx : ∃ v,a.tmps[d]? = some v∧RepA w' L' k' x v) :
  ∃ t : List AV,(∀ h' k'',Sl [(d,x)] n h' k'' ⟨t,h',k''⟩)∧RepL w' L' k' t a.tmps:=by
 refine ⟨tab (fun i=>.f (.sc (a.tmps.getD i undef))) 0 n [(d,x)],fun h' k''=>⟨rfl,rfl,_,rfl⟩,?_⟩
 have key : ∀ (m i : Nat) (f : Nat→AV),(tab f i m []).length = m∧∀ j,j < m→(tab f i m [])[j]? = some (f (i + j)):=by
  intro m
  induction m with
  | zero=>intro i f; exact ⟨by simp,fun j hj=>absurd hj (by omega)⟩
  | succ m ih =>
   intro i f
   obtain ⟨h1,h2⟩:=ih (i + 1) f
   refine ⟨by simp [h1],fun j hj=>?_⟩
   cases j with
   | zero=>simp
   | succ j=>rw [tab_nil,List.getElem?_cons_succ,h2 j (by omega)]; congr 2; omega
 have key2 : ∀ (m i : Nat) (f : Nat→AV) (d : Nat),i ≤ d→d < i + m→(tab f i m [(d,x)]).length = m∧∀ j,j < m→(tab f i m [(d,x)])[j]? = some (if i + j = d then x else f (i + j)):=by
  intro m
  induction m with
  | zero=>intro i f d h1 h2; omega
  | succ m ih =>
   intro i f d h1 h2
   by_cases e : i = d
   ·obtain ⟨g1,g2⟩:=key m (i + 1) f
    rw [tab_cons,if_pos e]
    refine ⟨by simp [g1],fun j hj=>?_⟩
    cases j with
    | zero=>simp [e]
    | succ j=>rw [List.getElem?_cons_succ,g2 j (by omega),if_neg (by omega)]; congr 2; omega
   ·obtain ⟨g1,g2⟩:=ih (i + 1) f d (by omega) (by omega)
    rw [tab_cons,if_neg e]
    refine ⟨by simp [g1],fun j hj=>?_⟩
    cases j with
    | zero=>simp [e]
    | succ j=>rw [List.getElem?_cons_succ,g2 j (by omega)]; congr 2 <;> (try congr 1) <;> omega
 obtain ⟨g1,g2⟩:=key2 n 0 (fun i=>.f (.sc (a.tmps.getD i undef))) d (Nat.zero_le _) (by omega)
 refine ⟨by rw [g1,hs],fun j y hj=>?_⟩
 have hjn : j < n:=by have:=(List.getElem?_eq_some_iff.1 hj).1; omega
 rw [g2 j hjn,Nat.zero_add] at hj
 obtain rfl:=Option.some.inj hj
 by_cases e : j = d
 ·subst e; rw [if_pos rfl]; exact hx
 ·rw [if_neg e]
  exact ⟨a.tmps[j],Array.getElem?_eq_getElem (by omega),.f _ _ (by simp [Array.getD,show j < a.tmps.size by omega]; exact .sc _)⟩
theorem wOps_app (hT : TOk P T) {rf : Bool} {ops : Array Oper} {rest : List Oper} {Q : Exit→Act→World→Prop} (l : List Oper) : ∀ {s : St} {L : Lk} {a : Act} {w : World} {K : St→Prop},Rel B L s a w→wOps P T rf ops l s K →
  (∀ s' L' a' w',K s'→Rel B L' s' a' w'→Ext L s.k w L' s'.k w'→s.k.length ≤ s'.k.length→wpList P ops Q rest a' w')→wpList P ops Q (l ++ rest) a w:=by
 induction l with
 | nil=>intro s L a w K H hk hQ; exact hQ s L a w hk H (Ext.refl _ _ _) (Nat.le_refl _)
 | cons o l ih =>
  intro s L a w K H hk hQ
  have hop : wOp P T rf o s (fun s'=>wOps P T rf ops l s' K)→o.wp P a w (wpList P ops Q (l ++ rest)) Q:=fun hw =>
   wOp_run hT H hw fun s' L' a' w' hk' H' he hl=>ih H' hk' fun s2 L2 a2 w2 h1 h2 h3 h4=>hQ s2 L2 a2 w2 h1 h2 (he.trans h3 hl) (Nat.le_trans hl h4)
  simp only [wOps] at hk
  simp only [wpList,List.cons_append]
  split at hk
  ·rename_i hg
   have : Region.wanted o (yielded ops a.tmps) = true:=by simp [Region.wanted,hg]
   rw [if_pos this]
   exact .inl (hop hk)
  ·rename_i j want hg
   split at hk
   case h_2=>exact hk.elim
   rename_i b hb
   have hy:=yieldedA_rep H hb
   split at hk
   ·rename_i hbw
    have : Region.wanted o (yielded ops a.tmps) = true:=by rw [Region.wanted,hg]; exact hy.trans hbw
    rw [if_pos this]
    exact .inl (hop hk)
   ·rename_i hbw
    have : Region.wanted o (yielded ops a.tmps) = false:=by rw [Region.wanted,hg]; exact hy.trans (by simpa using hbw)
    rw [if_neg (by simp [this])]
    refine ih (H.put (.f _ _ (.sc _))) hk fun s2 L2 a2 w2 h1 h2 h3 h4=>?_
    have hkk : ∀ x,(s.put o.dst x).k = s.k:=fun x=>by unfold St.put; cases o.dst <;> rfl
    rw [hkk] at h3 h4
    exact hQ s2 L2 a2 w2 h1 h2 h3 h4
theorem dropCall_run (hB : BOk B) {o : Oper} {s : St} {a : Act} {Q : Exit→Act→World→Prop} {K' : Act→World→Prop} {f : FuncId} {as : List AV} {R : AV→List (List AV)→List (Nat × Nat)→Prop} (H : Rel B L s a w) (hc : calleeR (evA s.t) o.op = some (f,as)) (hgr : GivesD P f as s.h s.k R)
  (hK : ∀ x h' k' v L' w',R x h' k'→Mem B L' h' k' w'→RepA w' L' k' x v→K' (a.put o.dst v) w') : o.wp P a w K' Q:=by
 obtain ⟨hb,hg⟩:=hgr
 unfold calleeR at hc
 split at hc
 case h_2=>cases hc
 rename_i g args ts hop
 split at hc
 case h_2=>cases hc
 rename_i f' cs hev
 obtain ⟨rfl,rfl⟩ : f' = f∧args.toList.map (evA s.t) ++ cs = as:=by simpa using hc
 obtain ⟨ca,hv,hcl⟩ : ∃ ca,a.eval g = .func (.func f') #[] ca∧RepL w L s.k cs ca:=by
  have hgv:=H.ev g
  generalize a.eval g = vg at hgv
  unfold fnOf at hev
  split at hev
  ·rename_i f2 cs2 hq
   obtain ⟨rfl,rfl⟩ : f2 = f'∧cs2.map AV.f = cs:=by simpa using hev
   rw [hq] at hgv
   cases hgv with
   | f x v hx =>
    cases hx with
    | fn f cs ca vs hca hcv hcr=>exact ⟨ca,rfl,by simpa using hca,fun j y hj=>by
      rw [List.getElem?_map,Option.map_eq_some_iff] at hj
      obtain ⟨u,hu,rfl⟩:=hj
      exact ⟨vs j,hcv j u hu,.f _ _ (hcr j u hu)⟩⟩
  ·rename_i f2 cs2 hq
   obtain ⟨rfl,rfl⟩ : f2 = f'∧cs2 = cs:=by simpa using hev
   rw [hq] at hgv
   cases hgv with
   | fnr f cs ca vs hca hcv hcr=>exact ⟨ca,rfl,hca,fun j y hj=>⟨vs j,hcv j y hj,hcr j y hj⟩⟩
  ·cases hev
 unfold Oper.wp
 have hrun : (execOp a.eval o).run P w = .ok (.enter f' (args.map a.eval ++ ca)) w:=by
  simp only [execOp,hop,resolve,hv,Deferred.ofValue,Sem.run_bind,Sem.run_pure,Result.andThen_ok,invoke]
  rw [run_callFunc hb]; simp
 rw [hrun,Oper.upon_enter]
 refine (hg B L w (args.map a.eval ++ ca) hB H.mem ⟨by simp [hcl.1],fun j y hj=>?_⟩).mono ?_
 ·rw [List.getElem?_append] at hj
  split at hj
  ·rename_i hlt
   rw [List.getElem?_map,Option.map_eq_some_iff] at hj
   obtain ⟨u,hu,rfl⟩:=hj
   have hul:=(List.getElem?_eq_some_iff.1 hu).1
   exact ⟨a.eval u,by rw [Array.getElem?_append_left (by simpa using hul),Array.getElem?_map]; simp at hu; simp [hu],H.ev u⟩
  ·rename_i hge
   simp only [List.length_map,Array.length_toList] at hge hj
   obtain ⟨v,h1,h2⟩:=hcl.2 _ y hj
   exact ⟨v,by rw [Array.getElem?_append_right (by simp; omega)]; simpa using h1,h2⟩
 ·rintro e w' ⟨x,h',k',v,L',hR,rfl,hm,hr⟩
  exact hK x h' k' v L' w' hR hm hr
theorem Wd.callD {id : Nat} {ops : Array Oper} {L1 L2 : List Oper} {o : Oper} {d : Nat} {s : St} {Q : Pst} (e : ops.toList = L1 ++ o :: L2) (hg : o.guard = none) (hd : o.dst = some d)
  (h : OpsK P false ops L1 (fun _ s1=>d < s1.t.length∧∃ f as R,calleeR (evA s1.t) o.op = some (f,as)∧GivesD P f as s1.h s1.k R∧∀ x h' k' s',R x h' k'→Sl [(d,x)] s1.t.length h' k' s'→OpsK P false ops L2 Q s') s) : Wd P (.region id ops false) s Q:=by
 intro B L a w hB H
 refine wp_region_list ?_
 rw [e]
 have h1 : xOps P false ops L1 _ s:=h
 rw [xOps_eq] at h1
 refine wOps_app (tyOf_ok P) L1 H h1 fun s1 L1' a1 w1 hk H1 _ _=>?_
 obtain ⟨hdl,f,as,R,hc,hgd,hnext⟩:=hk
 simp only [wpList]
 have : Region.wanted o (yielded ops a1.tmps) = true:=by simp [Region.wanted,hg]
 rw [if_pos this]
 refine .inl (dropCall_run hB H1 hc hgd fun x h' k' v L' w' hR hm hr=>?_)
 rw [hd]
 have hsz : (a1.put (some d) v).tmps.size = s1.t.length:=by
  have:=H1.tmps.1
  show (a1.tmps.setIfInBounds d v).size = _
  simpa using this
 obtain ⟨t,ht1,ht2⟩:=Sl.drop (a:=a1.put (some d) v) (n:=s1.t.length) (d:=d) (x:=x) hsz hdl ⟨v,by
  show (a1.tmps.setIfInBounds d v)[d]? = some v
  rw [Array.getElem?_setIfInBounds_self_of_lt (by rw [H1.tmps.1]; exact hdl)],hr⟩
 have h2 : xOps P false ops L2 Q ⟨t,h',k'⟩:=hnext x h' k' ⟨t,h',k'⟩ hR (ht1 h' k')
 rw [xOps_eq] at h2
 exact wOps_run (tyOf_ok P) L2 ⟨hm,H1.d,ht2⟩ h2 fun s' L'' a' w' q1 q2 _ _=>⟨s',L'',q1,q2⟩
structure Turned (w w' : World) (g : Nat) (ys : List Value) : Prop where
 os : w'.os = w.os
 tape : w'.tape = w.tape
 output : w'.output = w.output
 size : w.heap.size ≤ w'.heap.size
 block : ∀ k,k < w.heap.size→k ≠ g→w'.heap[k]? = w.heap[k]?
 new : ∀ (j : Nat) y,ys[j]? = some y→w'.cell? ⟨g,j,none⟩ = some y
 old : ∀ j,ys.length ≤ j→w'.cell? ⟨g,j,none⟩ = w.cell? ⟨g,j,none⟩
 frz : ∀ j,w'.frozen? ⟨g,j,none⟩ = w.frozen? ⟨g,j,none⟩
theorem Turned.other {w w' : World} {g : Nat} {ys : List Value} (T : Turned w w' g ys) {b j : Nat} (hb : b < w.heap.size) (hne : b ≠ g) : w'.cell? ⟨b,j,none⟩ = w.cell? ⟨b,j,none⟩∧w'.frozen? ⟨b,j,none⟩ = w.frozen? ⟨b,j,none⟩ :=
 ⟨by simp only [World.cell?,T.block b hb hne],by simp only [World.frozen?,T.block b hb hne]⟩
theorem turned_put {α : Type} [Inhabited α] (enc : α→Value) {w : World} {g q : Nat} {d0 d : Array α} {os : Array Obj} (h0 : Sort.Holds enc w g 0 d0) (hs : d.size = d0.size) (hg : g < w.heap.size) : Turned w (Sort.grow (Sort.putRow enc (Sort.ahead w q) g 0 d) os) g (d.toList.map enc):=by
 have hg' : g < (Sort.putRow enc (Sort.ahead w q) g 0 d).heap.size:=by simpa using hg
 have h0' : Sort.Holds enc (Sort.ahead w q) g 0 d0:=h0
 refine ⟨rfl,rfl,rfl,by simp [Sort.ahead],fun k hk hne=>?_,fun j y hj=>?_,fun j hj=>?_,fun j=>?_⟩
 ·rw [Sort.heap_grow_old _ _ (by simpa using hk)]
  simp only [Sort.putRow,Sort.mapBlock,Array.getElem?_modify,if_neg (Ne.symm hne)]
  rfl
 ·rw [Sort.cell?_grow _ _ _ hg']
  have hjl : j < d.size:=by have:=(List.getElem?_eq_some_iff.1 hj).1; simpa using this
  have:=Sort.cell?_putRow enc (Sort.ahead w q) g 0 d0 d h0' hs j hjl
  rw [Nat.zero_add] at this
  rw [this]
  rw [List.getElem?_map,Array.getElem?_toList,Array.getElem?_eq_getElem hjl] at hj
  simpa [hjl] using hj
 ·rw [Sort.cell?_grow _ _ _ hg',Sort.cell?_putRow_other _ _ _ _ _ _ (.inr (.inr (by simpa using hj)))]
  rfl
 ·rw [Sort.frozen?_grow _ _ _ hg',Sort.frozen?_putRow]
  rfl
theorem Mem.turn (H : Mem B L h k w) {w' : World} {g b : Nat} {cs : List AV} {ys : List Value} (T : Turned w w' g ys) (hm : L.m[b]? = some g) (hb : h[b]? = some cs) (hl : ys.length = cs.length) (ho : ∀ v ∈ ys,v.oneCell' = true) :
  Mem B L (h.set b (ys.map fun v=>.f (.sc v))) k w'∧Ext L k w L k w':=by
 have hg:=H.mge b g hm
 have hF : ∀ b' o,L.F b' o→w'.cell? ⟨b',o,none⟩ = w.cell? ⟨b',o,none⟩:=fun b' o hf=>by
  by_cases e : b' = g
  ·subst e
   by_cases ho : o < cs.length
   ·exact absurd hf (H.heap b b' o cs _ hm hb (List.getElem?_eq_getElem ho)).1
   ·exact T.old o (by omega)
  ·exact (T.other (H.fz b' o hf) e).1
 have he : Ext L k w L k w':=⟨fun _ _ h=>h,fun _ _ h=>h,hF,fun t n sz h _=>⟨n,Nat.le_refl _,h,fun _=>rfl⟩⟩
 refine ⟨⟨H.below.trans ⟨T.os,T.tape,T.output,T.size,fun i hi=>T.block i (Nat.lt_of_lt_of_le hi H.size) (by omega)⟩,fun b o hf=>Nat.lt_of_lt_of_le (H.fz b o hf) T.size,H.f0,H.f1,by simpa using H.mlen,fun b' c hb=>⟨(H.mge b' c hb).1,Nat.lt_of_lt_of_le (H.mge b' c hb).2 T.size⟩,H.minj,fun b' c' j' cs' x' g1 g2 g3=>?_,H.tlen,fun t n sz r g1 g2=>?_,H.tinj⟩,he⟩
 ·rcases get_set g2 with ⟨hne,g2⟩ | ⟨rfl,rfl,_⟩
  ·obtain ⟨q1,q2,v,q3,q4,q5⟩:=H.heap b' c' j' cs' x' g1 g2 g3
   have hcc : c' ≠ g:=fun e=>hne (H.minj _ _ _ g1 (e ▸ hm))
   obtain ⟨o1,o2⟩:=T.other (j:=j') (H.mge b' c' g1).2 hcc
   exact ⟨q1,o2.trans q2,v,o1.trans q3,q4.mono he (Nat.le_refl _),q5⟩
  ·obtain rfl : c' = g:=by rw [hm] at g1; exact (Option.some.inj g1).symm
   rw [List.getElem?_map,Option.map_eq_some_iff] at g3
   obtain ⟨y,hy,rfl⟩:=g3
   have hjl : j' < cs.length:=by rw [← hl]; exact (List.getElem?_eq_some_iff.1 hy).1
   obtain ⟨q1,q2,_⟩:=H.heap b' c' j' cs _ hm hb (List.getElem?_eq_getElem hjl)
   exact ⟨q1,(T.frz j').trans q2,y,T.new j' y hy,.f _ _ (.sc _),ho y (List.mem_of_getElem? hy)⟩
 ·obtain ⟨b1,b2,b3,b4,b5,b6⟩:=H.tok t n sz r g1 g2
  have hne : r.b ≠ g:=fun e=>b4 b (e ▸ hm)
  refine ⟨b1,Nat.lt_of_lt_of_le b2 T.size,b3,b4,b5,fun j hj hj2=>?_⟩
  obtain ⟨q1,v,q2⟩:=b6 j hj hj2
  obtain ⟨o1,o2⟩:=T.other (j:=j) b2 hne
  exact ⟨o2.trans q1,v,o1.trans q2⟩
theorem Mem.thaw (hB : BOk B) (H : Mem B L h k w) {m : List Nat} {h' : List (List AV)} (hl : m.length = h'.length) (hi : ∀ (i j c : Nat),m[i]? = some c→m[j]? = some c→i = j) (hg : ∀ (i c : Nat),m[i]? = some c→B.w.heap.size ≤ c∧c < w.heap.size)
  (hc : ∀ (i c j : Nat) (cs : List AV) (x : AV),m[i]? = some c→h'[i]? = some cs→cs[j]? = some x→w.frozen? ⟨c,j,none⟩ = false∧∃ v,w.cell? ⟨c,j,none⟩ = some v∧RepA w ⟨m,[],B.F⟩ [] x v∧v.oneCell' = true) : Mem B ⟨m,[],B.F⟩ h' [] w :=
 ⟨H.below,fun b o hf=>H.fz b o (H.f0 b o hf),fun _ _ h=>h,fun _ _ h=>.inl h,hl,hg,hi,fun b c j cs x h1 h2 h3=>⟨fun hf=>by
  have:=hB c j hf
  have:=(hg b c h1).1
  omega,hc b c j cs x h1 h2 h3⟩,rfl,fun t n sz r h=>by simp at h,fun t t' r r' h=>by simp at h⟩
theorem flat_cells {sz : Nat} : ∀ {l : List FV} {j : Nat} {y : FV},(∀ x ∈ l,x.cells.length = sz)→(l.flatMap FV.cells)[j]? = some y→∃ i q x,j = i * sz + q∧l[i]? = some x∧x.cells[q]? = some y
 | [],j,y,_,h=>by simp at h
 | x :: l,j,y,hsz,h=>by
  rw [List.flatMap_cons] at h
  have hx:=hsz x (.head _)
  by_cases hj : j < sz
  ·rw [List.getElem?_append_left (by omega)] at h
   exact ⟨0,j,x,by omega,rfl,h⟩
  ·rw [List.getElem?_append_right (by omega),hx] at h
   obtain ⟨i,q,x',e,h1,h2⟩:=flat_cells (fun z hz=>hsz z (.tail _ hz)) h
   exact ⟨i + 1,q,x',by rw [Nat.add_mul]; omega,h1,h2⟩
def Scs (l : List FV) : Prop:=∀ x ∈ l,∀ y ∈ x.cells,∃ v,y = .sc v
theorem own_block (H : Mem B L h k w) {l : List FV} {t sz : Nat} {v : Value} (hr : RepA w L k (.own l t) v) (hk : k[t]? = some (l.length,sz)) (h0 : 0 < sz) (hs : Scs l) :
  ∃ g cap,L.t[t]? = some ⟨g,0,cap⟩∧v = .slice (some ⟨g,0,none⟩) l.length cap∧l.length ≤ cap∧B.w.heap.size ≤ g∧g < w.heap.size∧(∀ b : Nat,L.m[b]? ≠ some g)∧(∀ x ∈ l,x.cells.length = sz) ∧
   ∀ (j : Nat) x,((l.flatMap FV.cells).map AV.f)[j]? = some x→w.frozen? ⟨g,j,none⟩ = false∧∃ u,w.cell? ⟨g,j,none⟩ = some u∧(∀ L' k',RepA w L' k' x u)∧u.oneCell' = true:=by
 cases hr with
 | own l t b o cap hrep n sz' hk' hn hz ht =>
  rw [hk] at hk'
  obtain ⟨rfl,rfl⟩:=Prod.mk.inj (Option.some.inj hk')
  have htk:=ht rfl
  obtain ⟨q1,q2,⟨q3,q4⟩,q5,q6,q7⟩:=H.tok t l.length sz _ htk hk
  dsimp only at q1 q2 q3 q4 q5 q6 q7
  subst q4
  refine ⟨b,cap,htk,rfl,q3,q1,q2,q5,hz,fun j x hj=>?_⟩
  rw [List.getElem?_map,Option.map_eq_some_iff] at hj
  obtain ⟨y,hy,rfl⟩:=hj
  obtain ⟨i,q,x,rfl,hx,hxq⟩:=flat_cells hz hy
  obtain ⟨cs,hfl,hcs⟩:=hrep.flat hz h0
  obtain ⟨u,hu,hru⟩:=hfl.2.2.2 i q x y hx hxq
  obtain ⟨u',rfl⟩:=hs x (List.mem_of_getElem? hx) y (List.mem_of_getElem? hxq)
  have e : u = u':=by cases hru; rfl
  subst e
  have hc:=(hcs _ u hu).1
  rw [Nat.zero_add] at hc
  have hlt : i * sz + q < l.length * sz:=by rw [← hfl.1]; exact (List.getElem?_eq_some_iff.1 hu).1
  have hle:=Nat.mul_le_mul_right sz q3
  exact ⟨(q7 (i * sz + q) (Nat.zero_le _) (by omega)).1,u,hc,fun _ _=>.f _ _ (.sc _),hfl.2.2.1 u (List.mem_of_getElem? hu)⟩
theorem Wd.thaw1 {c : Code} {s : St} {Q : Pst} {d t sz : Nat} {l : List FV} (hd : s.t[d]? = some (.own l t)) (hk : s.k[t]? = some (l.length,sz)) (h0 : 0 < sz) (hs : Scs l)
  (h : ∀ cap s',l.length ≤ cap→Sl [(d,.ms 0 0 l.length cap sz)] s.t.length [(l.flatMap FV.cells).map AV.f] [] s'→Wd P c s' Q) : Wd P c s Q:=by
 intro B L a w hB H
 obtain ⟨v,hv,hr⟩:=H.tmps.2 d _ hd
 obtain ⟨g,cap,htk,rfl,hcap,g1,g2,g3,hz,hc⟩:=own_block H.mem hr hk h0 hs
 have hm : Mem B ⟨[g],[],B.F⟩ [(l.flatMap FV.cells).map AV.f] [] w:=H.mem.thaw hB rfl (fun i j c h1 h2=>by
   have:=(List.getElem?_eq_some_iff.1 h1).1
   have:=(List.getElem?_eq_some_iff.1 h2).1
   simp at *; omega) (fun i c h1=>by
   have hi:=(List.getElem?_eq_some_iff.1 h1).1
   obtain rfl : i = 0:=by simpa using hi
   obtain rfl : g = c:=by simpa using h1
   exact ⟨g1,g2⟩) (fun i c j cs x h1 h2 h3=>by
   have hi:=(List.getElem?_eq_some_iff.1 h1).1
   obtain rfl : i = 0:=by simpa using hi
   obtain rfl : g = c:=by simpa using h1
   obtain rfl : _ = cs:=by simpa using h2
   obtain ⟨q1,u,q2,q3,q4⟩:=hc j x h3
   exact ⟨q1,u,q2,q3 _ _,q4⟩)
 obtain ⟨t',h1,h2⟩:=Sl.drop (a:=a) (n:=s.t.length) (d:=d) (x:=.ms 0 0 l.length cap sz) (k':=[]) (w':=w) (L':=⟨[g],[],B.F⟩) H.tmps.1 ((List.getElem?_eq_some_iff.1 hd).1) ⟨_,hv,.ms 0 0 l.length cap sz g rfl⟩
 exact h cap ⟨t',_,[]⟩ hcap (h1 _ _) B _ a w hB ⟨hm,H.d,h2⟩
inductive TC where
 | nil
 | own (l : List FV) (t sz : Nat)
 | any (x : AV)
def TC.av : TC→AV
 | .nil=>.f (.sl [] .nil)
 | .own l t _=>.own l t
 | .any x=>x
def TC.ok (k : List (Nat × Nat)) : TC→Prop
 | .own l t sz=>k[t]? = some (l.length,sz)∧0 < sz∧Scs l
 | _=>True
def tcTok : List TC→List Nat
 | []=>[]
 | .own _ t _ :: r=>t :: tcTok r
 | _ :: r=>tcTok r
def tcBox : List TC→List (List AV)
 | []=>[]
 | .own l _ _ :: r=>(l.flatMap FV.cells).map AV.f :: tcBox r
 | _ :: r=>tcBox r
def tcNew : List TC→Nat→List Nat→List AV
 | [],_,_=>[]
 | .nil :: r,i,cs=>.f (.sl [] .nil) :: tcNew r i cs
 | .own l _ sz :: r,i,c :: cs=>.ms i 0 l.length c sz :: tcNew r (i + 1) cs
 | .own _ _ _ :: _,_,[]=>[]
 | .any _ :: r,i,cs=>.any :: tcNew r i cs
def tcCap : List TC→List Nat→Prop
 | [],_=>True
 | .own l _ _ :: r,c :: cs=>l.length ≤ c∧tcCap r cs
 | .own _ _ _ :: _,[]=>False
 | _ :: r,cs=>tcCap r cs
theorem tc_mem (H : Mem B L h k w) {g0 : Nat} : ∀ (items : List TC) (n j0 : Nat),(∀ x ∈ items,x.ok k)→(tcTok items).Nodup →
  (∀ (j : Nat) x,items[j]? = some x→w.frozen? ⟨g0,j0 + j,none⟩ = false∧∃ v,w.cell? ⟨g0,j0 + j,none⟩ = some v∧RepA w L k x.av v∧v.oneCell' = true) →
  ∃ (cs gs : List Nat),tcCap items cs∧gs.length = (tcBox items).length ∧
   (∀ (i g : Nat),gs[i]? = some g→B.w.heap.size ≤ g∧g < w.heap.size∧(∀ b : Nat,L.m[b]? ≠ some g)∧(∃ t cap,t ∈ tcTok items∧L.t[t]? = some ⟨g,0,cap⟩) ∧
    ∀ (bs : List AV) (j : Nat) (x : AV),(tcBox items)[i]? = some bs→bs[j]? = some x→w.frozen? ⟨g,j,none⟩ = false∧∃ u,w.cell? ⟨g,j,none⟩ = some u∧(∀ L' k',RepA w L' k' x u)∧u.oneCell' = true) ∧
   (∀ (i i' g : Nat),gs[i]? = some g→gs[i']? = some g→i = i') ∧
   ∀ (m : List Nat) (F : Cells),(∀ (i g : Nat),gs[i]? = some g→m[n + i]? = some g)→∀ (j : Nat) x,(tcNew items n cs)[j]? = some x→w.frozen? ⟨g0,j0 + j,none⟩ = false∧∃ v,w.cell? ⟨g0,j0 + j,none⟩ = some v∧RepA w ⟨m,[],F⟩ [] x v∧v.oneCell' = true:=by
 intro items
 induction items with
 | nil=>intro n j0 _ _ _; exact ⟨[],[],trivial,rfl,fun i g h=>by simp at h,fun i i' g h=>by simp at h,fun m F _ j x h=>by simp [tcNew] at h⟩
 | cons a r ih =>
  intro n j0 hok hnd hc
  have hok' : ∀ x ∈ r,x.ok k:=fun x hx=>hok x (.tail _ hx)
  have hc' : ∀ (j : Nat) x,r[j]? = some x→w.frozen? ⟨g0,j0 + 1 + j,none⟩ = false∧∃ v,w.cell? ⟨g0,j0 + 1 + j,none⟩ = some v∧RepA w L k x.av v∧v.oneCell' = true:=fun j x hj=>by
   have:=hc (j + 1) x hj
   rwa [show j0 + (j + 1) = j0 + 1 + j by omega] at this
  obtain ⟨f0,v0,c0,r0,o0⟩:=hc 0 a rfl
  have hcons : ∀ {m : List Nat} {F : Cells} {y : AV} {l : List AV},RepA w ⟨m,[],F⟩ [] y v0→(∀ (j : Nat) x,l[j]? = some x→w.frozen? ⟨g0,j0 + 1 + j,none⟩ = false∧∃ v,w.cell? ⟨g0,j0 + 1 + j,none⟩ = some v∧RepA w ⟨m,[],F⟩ [] x v∧v.oneCell' = true) →
    ∀ (j : Nat) x,(y :: l)[j]? = some x→w.frozen? ⟨g0,j0 + j,none⟩ = false∧∃ v,w.cell? ⟨g0,j0 + j,none⟩ = some v∧RepA w ⟨m,[],F⟩ [] x v∧v.oneCell' = true:=fun {m F y l} hy hl j x hj=>by
   cases j with
   | zero => obtain rfl : y = x := by simpa using hj
             exact ⟨f0,v0,c0,hy,o0⟩
   | succ j=>rw [show j0 + (j + 1) = j0 + 1 + j by omega]; exact hl j x (by simpa using hj)
  cases a with
  | nil =>
   obtain ⟨cs,gs,q1,q2,q3,q4,q5⟩:=ih n (j0 + 1) hok' hnd hc'
   refine ⟨cs,gs,q1,q2,q3,q4,fun m F hm=>hcons ?_ (q5 m F hm)⟩
   obtain ⟨a',n',c',rfl⟩ : ∃ a' n' c',v0 = .slice a' n' c':=by
    cases r0 with | f x v hx=>cases hx <;> exact ⟨_,_,_,rfl⟩
   cases r0 with
   | f x v hx=>cases hx with
    | nil c=>exact .f _ _ (.nil _)
    | sl l c b o cap sz vs hc hf hle hz hF hr=>exact absurd rfl hc
  | any x =>
   obtain ⟨cs,gs,q1,q2,q3,q4,q5⟩:=ih n (j0 + 1) hok' hnd hc'
   exact ⟨cs,gs,q1,q2,q3,q4,fun m F hm=>hcons (.any _ o0) (q5 m F hm)⟩
  | own l t sz =>
   have hnd2:=List.nodup_cons.1 hnd
   obtain ⟨cs,gs,q1,q2,q3,q4,q5⟩:=ih (n + 1) (j0 + 1) hok' hnd2.2 hc'
   obtain ⟨hk,h0,hs⟩:=hok _ (.head _)
   obtain ⟨g,cap,htk,rfl,hcap,g1,g2,g3,hz,hcell⟩:=own_block H r0 hk h0 hs
   have hfresh : ∀ i : Nat,gs[i]? ≠ some g:=fun i hi=>by
    obtain ⟨_,_,_,⟨t',cap',ht1,ht2⟩,_⟩:=q3 i g hi
    have:=H.tinj t t' _ _ htk ht2 rfl
    subst this
    exact hnd2.1 ht1
   refine ⟨cap :: cs,g :: gs,⟨hcap,q1⟩,by simp [tcBox,q2],fun i g' hi=>?_,fun i i' g' h1 h2=>?_,fun m F hm=>hcons ?_ (q5 m F fun i g' hi=>?_)⟩
   ·cases i with
    | zero =>
     obtain rfl : g = g':=by simpa using hi
     exact ⟨g1,g2,g3,⟨t,cap,.head _,htk⟩,fun bs j x hb hj=>by
      obtain rfl : _ = bs:=by simpa [tcBox] using hb
      exact hcell j x hj⟩
    | succ i =>
     obtain ⟨p1,p2,p3,⟨t',cap',p4,p5⟩,p6⟩:=q3 i g' (by simpa using hi)
     exact ⟨p1,p2,p3,⟨t',cap',.tail _ p4,p5⟩,fun bs j x hb hj=>p6 bs j x (by simpa [tcBox] using hb) hj⟩
   ·cases i with
    | zero =>
     cases i' with
     | zero=>rfl
     | succ i' =>
      obtain rfl : g = g':=by simpa using h1
      exact absurd (by simpa using h2) (hfresh i')
    | succ i =>
     cases i' with
     | zero =>
      obtain rfl : g = g':=by simpa using h2
      exact absurd (by simpa using h1) (hfresh i)
     | succ i'=>rw [q4 i i' g' (by simpa using h1) (by simpa using h2)]
   ·exact .ms _ _ _ _ _ g (by simpa using hm 0 g rfl)
   ·have:=hm (i + 1) g' (by simpa using hi)
    rwa [show n + (i + 1) = n + 1 + i by omega] at this
theorem Wd.thawB {c : Code} {s : St} {Q : Pst} {d b : Nat} {items : List TC} (hd : s.t[d]? = some (.ref b 0)) (hb : s.h[b]? = some (items.map TC.av)) (hok : ∀ x ∈ items,x.ok s.k) (hnd : (tcTok items).Nodup)
  (h : ∀ cs s',tcCap items cs→Sl [(d,.ref 0 0)] s.t.length (tcNew items 1 cs :: tcBox items) [] s'→Wd P c s' Q) : Wd P c s Q:=by
 intro B L a w hB H
 obtain ⟨v,hv,hr⟩:=H.tmps.2 d _ hd
 obtain ⟨g0,hm0,rfl⟩ : ∃ g0,L.m[b]? = some g0∧v = .pointer (some ⟨g0,0,none⟩):=by
  cases hr with | ref b off c hm=>exact ⟨c,hm,rfl⟩
 obtain ⟨e1,e2⟩:=H.mem.mge b g0 hm0
 obtain ⟨cs,gs,q1,q2,q3,q4,q5⟩:=tc_mem (g0:=g0) H.mem items 1 0 hok hnd (fun j x hj=>by
  rw [Nat.zero_add]
  obtain ⟨_,p2,p3⟩:=H.mem.heap b g0 j _ x.av hm0 hb (by rw [List.getElem?_map,hj]; rfl)
  exact ⟨p2,p3⟩)
 have hm : Mem B ⟨g0 :: gs,[],B.F⟩ (tcNew items 1 cs :: tcBox items) [] w:=H.mem.thaw hB (by simp [q2]) (fun i j c h1 h2=>by
   cases i with
   | zero =>
    obtain rfl : g0 = c:=by simpa using h1
    cases j with
    | zero=>rfl
    | succ j=>exact absurd hm0 ((q3 j g0 (by simpa using h2)).2.2.1 b)
   | succ i =>
    cases j with
    | zero =>
     obtain rfl : g0 = c:=by simpa using h2
     exact absurd hm0 ((q3 i g0 (by simpa using h1)).2.2.1 b)
    | succ j=>rw [q4 i j c (by simpa using h1) (by simpa using h2)]) (fun i c h1=>by
   cases i with
   | zero => obtain rfl : g0 = c := by simpa using h1
             exact ⟨e1,e2⟩
   | succ i=>have:=q3 i c (by simpa using h1); exact ⟨this.1,this.2.1⟩) (fun i c j bs x h1 h2 h3=>by
   cases i with
   | zero =>
    obtain rfl : g0 = c:=by simpa using h1
    obtain rfl : _ = bs:=by simpa using h2
    have:=q5 (g0 :: gs) B.F (fun i g hi=>by rw [Nat.add_comm]; simpa using hi) j x h3
    rwa [Nat.zero_add] at this
   | succ i =>
    obtain ⟨p1,u,p2,p3,p4⟩:=(q3 i c (by simpa using h1)).2.2.2.2 bs j x (by simpa using h2) h3
    exact ⟨p1,u,p2,p3 _ _,p4⟩)
 obtain ⟨t',h1,h2⟩:=Sl.drop (a:=a) (n:=s.t.length) (d:=d) (x:=.ref 0 0) (k':=[]) (w':=w) (L':=⟨g0 :: gs,[],B.F⟩) H.tmps.1 ((List.getElem?_eq_some_iff.1 hd).1) ⟨_,hv,.ref 0 0 g0 rfl⟩
 exact h cs ⟨t',_,[]⟩ q1 (h1 _ _) B _ a w hB ⟨hm,H.d,h2⟩
def bkOk (ops : Array Oper) : Bool:=ops.toList.zipIdx.all fun (o,i)=>o.after.toList.all fun e=>!Region.binds .any e || decide (e.on < i)
theorem bkOk_edge {ops : Array Oper} (h : bkOk ops = true) {i : Nat} {o : Oper} (ho : ops[i]? = some o) {e : Edge} (he : e ∈ o.after) (hb : Region.binds .any e = true) : e.on < i:=by
 unfold bkOk at h
 have h1:=List.all_eq_true.1 h (o,i) (List.mem_zipIdx_iff_getElem?.2 (by simpa using ho))
 have h2:=List.all_eq_true.1 h1 e (by simpa using he)
 simpa [hb] using h2
theorem W.draw_sem (hm : P.follows .mixedOrders = true) {id : Nat} {ops : Array Oper} {s : St} {Q : Pst} (S : (Nat→Bool)→St→Prop) (hg : ∀ (i : Nat) o,ops[i]? = some o→o.guard = none) (h0 : S (fun _=>false) s)
  (step : ∀ (D : Nat→Bool) (s1 : St) (i : Nat) (o : Oper),ops[i]? = some o→D i = false→(∀ e ∈ o.after,Region.binds .any e = true→D e.on = true)→S D s1→OpsK P true ops [o] (fun e s2=>e = .normal∧S (fun j=>D j || j == i) s2) s1)
  (hend : ∀ (D : Nat→Bool) s1,(∀ i,i < ops.size→D i = true)→S D s1→Q .normal s1) (hbk : bkOk ops = true) : W P (.region id ops true) s Q:=by
 intro B L a w H
 have hnr : ∀ (listed : Array Bool),listed.size = ops.size→Region.ready .any ops listed = []→∀ i,i < ops.size→listed.getD i false = true:=fun listed hsz hr i=>by
  induction i using Nat.strongRecOn with
  | ind i ih =>
   intro hi
   cases hq : listed.getD i false with
   | true=>rfl
   | false =>
    have : i ∈ Region.ready .any ops listed:=mem_ready.2 ⟨by
     rw [Array.getD_eq_getD_getElem?,Array.getElem?_eq_getElem (by omega)] at hq ⊢
     simpa using hq,ops[i],Array.getElem?_eq_getElem hi,fun e he hb=>ih e.on (bkOk_edge hbk (Array.getElem?_eq_getElem hi) he hb) (Nat.lt_trans (bkOk_edge hbk (Array.getElem?_eq_getElem hi) he hb) hi)⟩
    rw [hr] at this; cases this
 have hsame : ∀ {listed : Array Bool} {i : Nat},listed.size = ops.size→i < ops.size→listed.getD i true = false→listed.getD i false = false:=fun {listed i} hsz hi h=>by
  rw [Array.getD_eq_getD_getElem?,Array.getElem?_eq_getElem (by omega)] at h ⊢
  simpa using h
 have H' : Rel B L s a w.drew:=⟨H.mem.drew,H.d,H.tmps.mono (Ext.drew _ _ _) (Nat.le_refl _)⟩
 refine wp_region_any hm ?_
 have key : ∀ (fuel : Nat) (listed : Array Bool) (s1 : St) (L1 : Lk) (a1 : Act) (w1 : World),listed.size = ops.size→(ops.size ≤ fuel + ((List.range ops.size).filter fun i=>listed.getD i false).length)→Rel B L1 s1 a1 w1→Ext L s.k w L1 s1.k w1→s.k.length ≤ s1.k.length→S (fun i=>listed.getD i false) s1→wpAny P .any ops (Post B L s w Q) fuel listed a1 w1:=by
  intro fuel
  have fin : ∀ (listed : Array Bool) (s1 : St) (L1 : Lk) (a1 : Act) (w1 : World),listed.size = ops.size→Rel B L1 s1 a1 w1→Ext L s.k w L1 s1.k w1→s.k.length ≤ s1.k.length→S (fun i=>listed.getD i false) s1→Region.ready .any ops listed = []→Post B L s w Q .normal a1 w1:=fun listed s1 L1 a1 w1 hsz H1 he hl hS hr =>
   ⟨s1,L1,hend _ s1 (hnr listed hsz hr) hS,H1,he,hl⟩
  induction fuel with
  | zero =>
   intro listed s1 L1 a1 w1 hsz hf H1 he hl hS
   have hr : Region.ready .any ops listed = []:=by
    apply List.eq_nil_iff_forall_not_mem.2
    intro i hi
    obtain ⟨g1,o,g2,_⟩:=mem_ready.1 hi
    have hil:=(Array.getElem?_eq_some_iff.1 g2).1
    have hall : ((List.range ops.size).filter fun i=>listed.getD i false).length = ops.size:=by
     have:=List.length_filter_le (fun i=>listed.getD i false) (List.range ops.size)
     rw [List.length_range] at this; omega
    have hall2:=List.filter_eq_self.1 ((List.filter_sublist (p:=fun i=>listed.getD i false) (l:=List.range ops.size)).eq_of_length (by rw [hall]; simp)) i (List.mem_range.2 hil)
    rw [hsame hsz hil g1] at hall2
    cases hall2
   exact ⟨hr,fin listed s1 L1 a1 w1 hsz H1 he hl hS hr⟩
  | succ fuel ih =>
   intro listed s1 L1 a1 w1 hsz hf H1 he hl hS
   refine ⟨fun hr=>fin listed s1 L1 a1 w1 hsz H1 he hl hS hr,fun i hi=>?_⟩
   obtain ⟨g1,o,g2,g3⟩:=mem_ready.1 hi
   have hil:=(Array.getElem?_eq_some_iff.1 g2).1
   have hi0 : listed.getD i false = false:=hsame hsz hil g1
   have hstep:=step (fun i=>listed.getD i false) s1 i o g2 hi0 g3 hS
   unfold wpOp
   simp only [g2]
   rw [if_pos (by simp [Region.wanted,hg i o g2])]
   have hst : xOps P true ops [o] _ s1:=hstep
   simp only [xOps,hg i o g2] at hst
   have hstep2 : wOp P (tyOf P) true o s1 (fun s2=>S (fun j=>listed.getD j false || j == i) s2):=by
    rcases hst with hst | ⟨_,f,as,v,_,_,hq⟩
    ·exact wOp_imp (fun s' h=>h.2) hst
    ·cases hq.1
   have eD : (fun j=>(listed.setIfInBounds i true).getD j false) = fun j=>listed.getD j false || j == i:=by
    funext j
    by_cases hji : j = i
    ·subst hji
     simp only [Array.getD_eq_getD_getElem?,Array.getElem?_setIfInBounds_self_of_lt (show j < listed.size by omega)]
     simp
    ·rw [getD_set_ne false (fun e=>hji e.symm)]
     simp [hji]
   refine .inl (wOp_run (tyOf_ok P) H1 hstep2 fun s2 L2 a2 w2 hS2 H2 he2 hl2=>ih _ s2 L2 a2 w2 (by simpa using hsz) ?_ H2 (he.trans he2 hl) (Nat.le_trans hl hl2) ?_)
   ·have hcount : ∀ (l : List Nat),l.Nodup→i ∈ l→((l.filter fun j=>listed.getD j false || j == i)).length = (l.filter fun j=>listed.getD j false).length + 1:=fun l=>by
     induction l with
     | nil=>intro _ h; cases h
     | cons x l ihl =>
      intro hnd hmem
      obtain ⟨n1,n2⟩:=List.nodup_cons.1 hnd
      by_cases e : x = i
      ·subst e
       have hno : (l.filter fun j=>listed.getD j false || j == x) = l.filter fun j=>listed.getD j false:=List.filter_congr fun j hj=>by
        have : j ≠ x:=fun e=>n1 (e ▸ hj)
        simp [this]
       rw [List.filter_cons_of_pos (by simp),List.filter_cons_of_neg (by rw [hi0]; decide),hno]
       rfl
      ·have hm' : i ∈ l := by rcases List.mem_cons.1 hmem with h | h
                              ·exact absurd h.symm e
                              ·exact h
       have:=ihl n2 hm'
       by_cases hx : listed.getD x false = true
       ·rw [List.filter_cons_of_pos (by simp only [hx,Bool.true_or]),List.filter_cons_of_pos (p:=fun j=>listed.getD j false) hx]
        simp only [List.length_cons,this]
       ·rw [List.filter_cons_of_neg (by rw [Bool.eq_false_iff.2 hx]; simp [e]),List.filter_cons_of_neg (p:=fun j=>listed.getD j false) hx]
        exact this
    have:=hcount (List.range ops.size) List.nodup_range (List.mem_range.2 hil)
    simp only [congrFun eD]
    omega
   ·rw [eD]; exact hS2
 refine key ops.size (Array.replicate ops.size false) s L a _ (by simp) (by omega) H' (Ext.drew L s.k w) (Nat.le_refl _) ?_
 have e : (fun i=>(Array.replicate ops.size false).getD i false) = fun _=>false:=by
  funext i
  rw [Array.getD_eq_getD_getElem?]
  rcases Nat.lt_or_ge i ops.size with h | h
  ·rw [Array.getElem?_eq_getElem (by simpa using h)]; simp
  ·rw [Array.getElem?_eq_none (by simpa using h)]; rfl
 rw [e]; exact h0
def opClear (T : TV) (h : List (List AV)) (t : TypeId) (x : AV) : Option (List (List AV)):=match T t,x with
 | some ⟨_,_,.slice e,_⟩,.ms b off len _ sz=>match T e,ix h b with
  | some ty,some cs=>if sz = ty.size∧ty.size ≠ 0∧off + len * sz ≤ cs.length∧ty.z.all AV.one = true∧len ≠ 0 then some (h.set b (over cs off (zeroRow ty.z len))) else none
  | _,_=>none
 | _,_=>none
theorem opClear_run (hT : TOk P T) (H : Mem B L h k w) {t u : TypeId} {x : AV} {v : Value} {h' : List (List AV)} (hx : RepA w L k x v) (ho : opClear T h t x = some h') :
  ∃ w',(Builtin.clear_ #[t] u #[v]).run P w = .ok (.tuple #[]) w'∧Mem B L h' k w'∧Ext L k w L k w':=by
 unfold opClear at ho
 split at ho
 case h_2=>cases ho
 rename_i s1 s2 e s3 b off len cap sz ht
 split at ho
 case h_2=>cases ho
 rename_i ty cs hte hcs
 split at ho
 case isFalse=>cases ho
 rename_i hcond
 obtain ⟨rfl,h0,hle,hone,hl0⟩:=hcond
 obtain rfl:=Option.some.inj ho
 obtain ⟨i,zt,Ht⟩:=hT _ _ ht
 have hu : P.underlying t = some (.slice e):=Ht.d
 obtain ⟨ie,ze,He⟩:=hT _ _ hte
 obtain ⟨c,hm,rfl⟩ : ∃ c,L.m[b]? = some c∧v = .slice (some ⟨c,off,none⟩) len cap:=by
  cases hx with | ms b off len cap sz c h=>exact ⟨c,h,rfl⟩
 have hzl : ty.z.length = ty.size:=by rw [← He.zc,List.length_map,Array.length_toList,He.zs]
 have hrl : (zeroRow ty.z len).length = len * ty.size:=by rw [zeroRow_length,hzl]
 obtain ⟨w',h1,h2,h3⟩:=storeCells_run (P:=P) (i:=0) (o:=off) (zeroRow ty.z len) (vs:=(Builtin.zeroCells ze.cells len).toList) H hm hcs (by rw [hrl]; omega) (by rw [hrl]; simp [Builtin.zeroCells,He.zs]) (fun j y hj=>by
  have hjl : j < len * ty.size:=by rw [← hrl]; exact (List.getElem?_eq_some_iff.1 hj).1
  rw [zeroRow_get _ _ _ (by rw [hzl]; exact hjl),hzl,← He.zc,List.getElem?_map,Option.map_eq_some_iff] at hj
  obtain ⟨z0,hz0,rfl⟩:=hj
  refine ⟨z0,?_,constA_rep z0,?_⟩
  ·have hsz : ze.cells.size = ty.size:=He.zs
   simp only [Builtin.zeroCells,Array.toList_map,List.getElem?_map,Array.toList_range,hsz,List.getElem?_range hjl,Option.map_some]
   rw [Array.getElem?_toList] at hz0
   rw [getElem!_def,hz0]
  ·have:=List.all_eq_true.1 hone (constA z0) (by rw [← He.zc]; exact List.mem_map.2 ⟨z0,List.mem_of_getElem? hz0,rfl⟩)
   exact this)
 rw [Nat.add_zero] at h2
 refine ⟨w',?_,h2,h3⟩
 obtain ⟨m,rfl⟩ : ∃ m,len = m + 1:=⟨len - 1,by omega⟩
 simp [Builtin.clear_,run_under hu,He.run_zero,h1]
theorem W.regClear {id : Nat} {ops : Array Oper} {L1 : List Oper} {o : Oper} {t : TypeId} {x : Operand} {s : St} {Q : Pst} (e : ops.toList = L1 ++ [o]) (hg : o.guard = none) (ho : o.op = .call ⟨.builtin .clear,#[x],#[t]⟩)
  (h : OpsK P false ops L1 (fun _ s1=>∃ h',opClear (tyOf P) s1.h t (evA s1.t x) = some h'∧Q .normal ((⟨s1.t,h',s1.k⟩ : St).put o.dst (.tup []))) s) : W P (.region id ops false) s Q:=by
 intro B L a w H
 refine wp_region_list ?_
 rw [e]
 have h1 : xOps P false ops L1 _ s:=h
 rw [xOps_eq] at h1
 refine wOps_app (tyOf_ok P) L1 H h1 fun s1 L1' a1 w1 hk H1 he1 hl1=>?_
 obtain ⟨h',hc,hq⟩:=hk
 simp only [wpList]
 have : Region.wanted o (yielded ops a1.tmps) = true:=by simp [Region.wanted,hg]
 rw [if_pos this]
 obtain ⟨w',g1,g2,g3⟩:=opClear_run (u:=o.type) (tyOf_ok P) H1.mem (H1.ev x) hc
 refine .inl ?_
 unfold Oper.wp
 have hrun : (execOp a1.eval o).run P w1 = .ok (.value (.tuple #[])) w':=by
  simp only [execOp,ho,resolve,invoke,builtin,Sem.run_bind,Sem.run_pure,Result.andThen_ok,List.map_toArray,List.map_cons,List.map_nil,g1]
 rw [hrun,Oper.upon_value]
 have H2 : Rel B L1' ⟨s1.t,h',s1.k⟩ a1 w':=⟨g2,H1.d,H1.tmps.mono g3 (Nat.le_refl _)⟩
 have hkk : ((⟨s1.t,h',s1.k⟩ : St).put o.dst (.tup [])).k = s1.k:=by unfold St.put; cases o.dst <;> rfl
 exact ⟨_,L1',hq,H2.put (s:=⟨s1.t,h',s1.k⟩) (.tup [] #[] (fun _=>undef) rfl (fun j y h=>by simp at h) (fun j y h=>by simp at h)),by rw [hkk]; exact he1.trans g3 hl1,by rw [hkk]; exact hl1⟩
end Go.Proofs.YtafenffmgpcjcaaGreat.Vf
namespace Go.Proofs.YtafenffmgpcjcaaGreat.Vf
open Go.RowKit
set_option linter.unusedVariables false
set_option linter.unusedSimpArgs false
variable {P : Program}
def below (w : World) : Cells:=fun b _=>b < w.heap.size
def RepC (w : World) (f : FV) (cs : List Value) : Prop:=cs.length = f.cells.length∧∀ (j : Nat) g,f.cells[j]? = some g→∃ v,cs[j]? = some v∧Rep w (below w) g v∧v.oneCell' = true
theorem repC_one {w : World} {f : FV} {v : Value} (hc : f.cells = [f]) (hr : Rep w (below w) f v) (h1 : v.oneCell' = true) : RepC w f [v]:=by
 refine ⟨by rw [hc]; rfl,fun j g hj=>?_⟩
 rw [hc] at hj
 cases j with
 | zero => obtain rfl : f = g := by simpa using hj
           exact ⟨v,rfl,hr,h1⟩
 | succ j=>simp at hj
theorem RepC.agg {w : World} {l : List FV} {a : Array Value} (h : RepC w (.agg l) a.toList) : Rep w (below w) (.agg l) (.agg a):=by
 obtain ⟨h1,h2⟩:=h
 have key : ∀ (j : Nat) y,l[j]? = some y→a[j]? = some (a.getD j undef)∧Rep w (below w) y (a.getD j undef):=fun j y hj=>by
  obtain ⟨v,hv,hr,_⟩:=h2 j y hj
  have hv : a[j]? = some v:=by simpa using hv
  simp [hv,hr]
 exact .agg l a (fun j=>a.getD j undef) (by simpa using h1) (fun j y hj=>(key j y hj).1) (fun j y hj=>(key j y hj).2)
end Go.Proofs.YtafenffmgpcjcaaGreat.Vf
namespace Go.Proofs.YtafenffmgpcjcaaGreat.Vf
open Go.RowKit
set_option linter.unusedVariables false
set_option linter.unusedSimpArgs false
variable {P : Program}
mutual
def blk {H : Type} : DataW H→Nat
 | .lit (.string b)=>b.length + 1
 | .slice es _=>blkL es + 1
 | .agg ps=>blkL ps + 1
 | _=>1
def blkL {H : Type} : List (DataW H)→Nat
 | []=>0
 | d :: r=>blk d + blkL r
end
theorem blk_pos {H : Type} (d : DataW H) : 1 ≤ blk d:=by
 unfold blk
 split <;> omega
def lsum {α : Type} (f : α→Nat) : List α→Nat
 | []=>0
 | x :: l=>f x + lsum f l
theorem lsum_mem {α : Type} {f : α→Nat} {l : List α} {x : α} (h : x ∈ l) : f x ≤ lsum f l:=by
 induction l with
 | nil=>cases h
 | cons y l ih =>
  rcases List.mem_cons.1 h with rfl | h
  ·exact Nat.le_add_right _ _
  ·exact Nat.le_trans (ih h) (Nat.le_add_left _ _)
theorem lsum_len {α : Type} {f : α→Nat} (hf : ∀ x,1 ≤ f x) (l : List α) : l.length ≤ lsum f l:=by
 induction l with
 | nil=>exact Nat.le_refl _
 | cons y l ih =>
  have:=hf y
  simp only [List.length_cons,lsum]
  omega
theorem lsum_app {α : Type} {f : α→Nat} (l m : List α) : lsum f (l ++ m) = lsum f l + lsum f m:=by
 induction l with
 | nil=>simp [lsum]
 | cons y l ih=>simp only [List.cons_append,lsum,ih]; omega
structure OpB (P : Program) (N : Nat) (t : TypeId) (α : Type) (enc : α→FV) (ok : α→Prop) (ms : α→Nat) : Prop where
 go : ∀ {n : Nat},n ≤ N→∀ {H : Type} {eH : TypeId × Value→H} {w : World} {base : Nat} {spare : Nat→Bool} {held : Bool} {cs : List Value} {x : DataW H × List MemPlace},
 DataW.trod eH P w base spare held n t cs = some x→∃ y : α,ok y∧RepC w (enc y) cs∧ms y ≤ blk x.1
theorem OpB.zero {t : TypeId} {α : Type} {enc : α→FV} {ok : α→Prop} {ms : α→Nat} : OpB P 0 t α enc ok ms:=⟨fun {n} hn {H eH w base spare held cs x} h=>by
 obtain rfl:=Nat.le_zero.1 hn
 simp [DataW.trod] at h⟩
theorem OpB.mono {N M : Nat} {t : TypeId} {α : Type} {enc : α→FV} {ok : α→Prop} {ms : α→Nat} (h : OpB P N t α enc ok ms) (hm : M ≤ N) : OpB P M t α enc ok ms:=⟨fun hn=>h.go (Nat.le_trans hn hm)⟩
theorem opb_int {N : Nat} {t : TypeId} {k : IntKind} (ht : P.underlying t = some (.int k)) : OpB P N t Int (fun y=>.sc (.int k y)) (fun y=>(Lit.int k y).wf = true) (fun _=>1):=⟨fun {n} hn {H eH w base spare held cs x} h=>by
 obtain ⟨y,rfl,rfl,hw⟩:=DataW.trod_int ht h
 exact ⟨y,hw,repC_one rfl (.sc _) rfl,blk_pos _⟩⟩
theorem opb_bool {N : Nat} {t : TypeId} (ht : P.underlying t = some .bool) : OpB P N t Bool (fun y=>.sc (.bool y)) (fun _=>True) (fun _=>1):=⟨fun {n} hn {H eH w base spare held cs x} h=>by
 obtain ⟨y,rfl,rfl⟩:=DataW.trod_bool ht h
 exact ⟨y,trivial,repC_one rfl (.sc _) rfl,blk_pos _⟩⟩
theorem opb_string {N : Nat} {t : TypeId} (ht : P.underlying t = some .string) : OpB P N t ByteArray (fun y=>.sc (.string y)) (fun _=>True) (fun y=>y.size + 1):=⟨fun {n} hn {H eH w base spare held cs x} h=>by
 obtain ⟨y,rfl,rfl,hw⟩:=DataW.trod_string ht h
 refine ⟨y,trivial,repC_one rfl (.sc _) rfl,?_⟩
 show y.size + 1 ≤ y.data.toList.length + 1
 simp⟩
theorem opb_slice {N : Nat} {t e : TypeId} {α : Type} {enc : α→FV} {ok : α→Prop} {ms : α→Nat} {sz : Nat} (ht : P.underlying t = some (.slice e)) (hc : P.cellsOf e = sz) (hs : 0 < sz) (hl : ∀ y,(enc y).cells.length = sz) (he : OpB P N e α enc ok ms) :
  OpB P (N + 1) t (List α) (fun l=>.sl (encL enc l) .un) (fun l=>∀ y ∈ l,ok y) (fun l=>lsum ms l + 1):=by
 refine ⟨fun {n0} hn {H eH w base spare held cs x} h=>?_⟩
 rcases DataW.trod_slice ht h with ⟨rfl,rfl⟩ | ⟨a,len,cap,elems,rest,n,rfl,rfl,rfl,_,hle,hcap,hlen,hel,_,_⟩
 ·exact ⟨[],by simp,repC_one rfl (.nil _) rfl,blk_pos _⟩
 ·rw [hc] at hel
  have each : ∀ i,i < len→∃ y,(ok y∧∃ z,elems[i]? = some z∧ms y ≤ blk z.1)∧∀ (j : Nat) g,(enc y).cells[j]? = some g→∃ v,w.cell? (a.add (i * sz + j)) = some v∧Rep w (below w) g v∧v.oneCell' = true:=fun i hi=>by
   have h3:=hel i hi
   rw [List.getElem?_eq_getElem (by omega)] at h3
   cases hcs : w.cells? base (a.add (i * sz)) sz with
   | none=>rw [hcs] at h3; simp at h3
   | some cs' =>
    rw [hcs] at h3
    obtain ⟨y,hy,⟨h4,h5⟩,hms⟩:=he.go (by omega) h3
    obtain ⟨_,h6,hcell⟩:=World.cells?_some hcs
    refine ⟨y,⟨hy,_,List.getElem?_eq_getElem (by omega),hms⟩,fun j g hj=>?_⟩
    obtain ⟨v,h7,h8⟩:=h5 j g hj
    have hjs : j < sz:=by rw [← hl y]; exact (List.getElem?_eq_some_iff.1 hj).1
    refine ⟨v,?_,h8⟩
    rw [← h7,← hcell j hjs]
    congr 1
    unfold Addr.add
    split <;> split <;> split <;> simp_all <;> omega
  have list : ∀ m,m ≤ len→∃ l : List α,l.length = m∧lsum ms l ≤ blkL ((elems.take m).map (·.1))∧∀ (i : Nat) y,l[i]? = some y→ok y∧∀ (j : Nat) g,(enc y).cells[j]? = some g→∃ v,w.cell? (a.add (i * sz + j)) = some v∧Rep w (below w) g v∧v.oneCell' = true:=by
   intro m
   induction m with
   | zero=>intro _; exact ⟨[],rfl,Nat.zero_le _,fun i y hy=>by simp at hy⟩
   | succ m ih =>
    intro hm
    obtain ⟨l,h1,h0,h2⟩:=ih (by omega)
    obtain ⟨y,⟨hok,z,hz,hms⟩,hy⟩:=each m (by omega)
    refine ⟨l ++ [y],by simp [h1],?_,fun i z' hz'=>?_⟩
    ·have happ : ∀ (p q : List (DataW H)),blkL (p ++ q) = blkL p + blkL q:=fun p q=>by
      induction p with
      | nil=>simp [blkL]
      | cons d p ih=>simp only [List.cons_append,blkL,ih]; omega
     rw [List.take_add_one,hz,List.map_append,happ,lsum_app]
     have e1 : lsum ms [y] = ms y:=by simp [lsum]
     have e2 : blkL (List.map (·.1) (some z).toList) = blk z.1:=by simp [blkL]
     rw [e1,e2]
     omega
    rcases Nat.lt_or_ge i m with hi | hi
    ·rw [List.getElem?_append_left (by omega)] at hz'; exact h2 i z' hz'
    ·have hi2 : i = m:=by
      have:=(List.getElem?_eq_some_iff.1 hz').1
      simp at this; omega
     subst hi2
     rw [List.getElem?_append_right (by omega),h1] at hz'
     simp at hz'
     subst hz'
     exact ⟨hok,hy⟩
  obtain ⟨l,h1,h0,h2⟩:=list len (Nat.le_refl _)
  refine ⟨l,fun y hy=>?_,repC_one rfl ?_ rfl,?_⟩
  ·obtain ⟨i,hi⟩:=List.mem_iff_getElem?.1 hy
   exact (h2 i y hi).1
  ·cases hl0 : l with
   | nil =>
    subst hl0
    simp only [List.length_nil] at h1
    subst h1
    exact .emp _ _
   | cons y0 l0 =>
    rw [← hl0]
    have hget : ∀ (i j : Nat) (x y : FV),(encL enc l)[i]? = some x→x.cells[j]? = some y→∃ v,w.cell? (a.add (i * sz + j)) = some v∧Rep w (below w) y v∧v.oneCell' = true:=fun i j x y hi hj=>by
     unfold encL at hi
     rw [List.getElem?_map,Option.map_eq_some_iff] at hi
     obtain ⟨z,hz,rfl⟩:=hi
     exact (h2 i z hz).2 j y hj
    have hsp : a.spot = none:=by
     have h00 : (encL enc l)[0]? = some (enc y0):=by rw [hl0]; rfl
     have hp : 0 < (enc y0).cells.length:=by rw [hl]; exact hs
     obtain ⟨v,hv,_⟩:=hget 0 0 (enc y0) _ h00 (List.getElem?_eq_getElem hp)
     have hv' : w.cell? a = some v:=by simpa [Addr.add] using hv
     unfold World.cell? at hv'
     split at hv'
     ·split at hv'
      ·cases hv'
      ·rename_i hh; simpa using hh
     all_goals first | (cases hv'; done) | (simp_all; done)
    obtain ⟨b,o,sp⟩:=a
    simp only at hsp
    subst hsp
    have hadd : ∀ k,(⟨b,o,none⟩ : Addr).add k = ⟨b,o + k,none⟩:=fun k=>by unfold Addr.add; split <;> simp_all
    have hlen2 : l.length = (encL enc l).length:=by simp
    rw [← h1,hlen2]
    refine .sl (encL enc l) .un b o cap sz (fun i j=>(w.cell? ⟨b,o + i * sz + j,none⟩).getD undef) (by simp) (by simp) (by simp; omega) (fun i x hi=>?_) (fun i j x y hi hj=>?_) (fun i j x y hi hj=>?_)
    ·unfold encL at hi
     rw [List.getElem?_map,Option.map_eq_some_iff] at hi
     obtain ⟨z,_,rfl⟩:=hi
     exact hl z
    ·obtain ⟨v,hv,hr,h1v⟩:=hget i j x y hi hj
     rw [hadd,← Nat.add_assoc] at hv
     refine ⟨?_,by rw [hv]; rfl,by rw [hv]; exact h1v⟩
     exact World.block_lt_of_cell? _ _ hv
    ·obtain ⟨v,hv,hr,h1v⟩:=hget i j x y hi hj
     rw [hadd,← Nat.add_assoc] at hv
     rw [hv]; exact hr
  ·show lsum ms l + 1 ≤ blkL (elems.map (·.1)) + 1
   rw [List.take_of_length_le (by omega)] at h0
   omega
structure FldB (P : Program) (N : Nat) (fs : List Field) (o : Nat) (γ : Type) (enc : γ→List FV) (ok : γ→Prop) (ms : γ→Nat) : Prop where
 go : ∀ {n : Nat},n ≤ N→∀ {H : Type} {eH : TypeId × Value→H} {w : World} {base : Nat} {spare : Nat→Bool} {held : Bool} {cs : List Value} {xs : List (DataW H × List MemPlace)},xs.length = fs.length →
 (∀ (i : Nat) f,fs[i]? = some f→DataW.trod eH P w base spare held n f.type ((cs.drop f.offset).take (P.cellsOf f.type)) = xs[i]?)→∃ y : γ,ok y∧(∀ (j : Nat) g,(enc y)[j]? = some g→∃ v,cs[o + j]? = some v∧Rep w (below w) g v∧v.oneCell' = true)∧ms y ≤ blkL (xs.map (·.1))
theorem fldb_nil {N o : Nat} : FldB P N [] o Unit (fun _=>[]) (fun _=>True) (fun _=>0):=⟨fun _ _ _ _ _ _ _ _ _ _ _=>⟨(),trivial,(fun j g hj=>by simp at hj),Nat.zero_le _⟩⟩
theorem fldb_cons {N : Nat} {f : Field} {fs : List Field} {o sz : Nat} {α γ : Type} {enc : α→FV} {ok : α→Prop} {ms : α→Nat} {encs : γ→List FV} {oks : γ→Prop} {mss : γ→Nat} (he : OpB P N f.type α enc ok ms) (ho : f.offset = o) (hc : P.cellsOf f.type = sz) (hl : ∀ y,(enc y).cells.length = sz) (hf : FldB P N fs (o + sz) γ encs oks mss) :
  FldB P N (f :: fs) o (α × γ) (fun p=>(enc p.1).cells ++ encs p.2) (fun p=>ok p.1∧oks p.2) (fun p=>ms p.1 + mss p.2):=by
 refine ⟨fun {n} hn {H eH w base spare held cs xs} hlen h=>?_⟩
 cases xs with
 | nil=>cases hlen
 | cons x xs =>
  have hx:=h 0 f rfl
  obtain ⟨y,hy,⟨h1,h2⟩,hm⟩:=he.go hn (hx.trans rfl)
  obtain ⟨z,hz,h3,hm2⟩:=hf.go hn (xs:=xs) (by simpa using hlen) fun i g hg=>h (i + 1) g hg
  refine ⟨(y,z),⟨hy,hz⟩,fun j g hj=>?_,by show ms y + mss z ≤ blk x.1 + blkL (xs.map (·.1)); omega⟩
  rw [hc,ho] at h2
  rcases Nat.lt_or_ge j (enc y).cells.length with hjl | hjl
  ·rw [List.getElem?_append_left hjl] at hj
   obtain ⟨v,hv,hr⟩:=h2 j g hj
   rw [List.getElem?_take_of_lt (by rw [← hl y]; exact hjl),List.getElem?_drop] at hv
   exact ⟨v,hv,hr⟩
  ·rw [List.getElem?_append_right hjl] at hj
   obtain ⟨v,hv,hr⟩:=h3 _ g hj
   rw [hl y] at hv hjl
   rw [show o + sz + (j - sz) = o + j by omega] at hv
   exact ⟨v,hv,hr⟩
theorem opb_struct {N : Nat} {t : TypeId} {fs : Array Field} {γ : Type} {enc : γ→List FV} {ok : γ→Prop} {ms : γ→Nat} (ht : P.underlying t = some (.struct fs)) (hl : ∀ y,(enc y).length = P.cellsOf t) (hf : FldB P N fs.toList 0 γ enc ok ms) : OpB P (N + 1) t γ (fun y=>.agg (enc y)) ok (fun y=>ms y + 1):=by
 refine ⟨fun {n0} hn {H eH w base spare held cs x} h=>?_⟩
 obtain ⟨xs,n',rfl,rfl,hlen,hxs,hfs⟩:=DataW.trod_struct ht h
 obtain ⟨y,hy,h1,hm⟩:=hf.go (n:=n') (by omega) (cs:=cs) (eH:=eH) (w:=w) (base:=base) (spare:=spare) (held:=held) (xs:=xs) (by simpa using hxs) fun i f hf=>hfs i f (by simpa using hf)
 refine ⟨y,hy,⟨by show cs.length = (enc y).length; rw [hlen,hl],fun j g hj=>?_⟩,by show ms y + 1 ≤ blkL (xs.map (·.1)) + 1; omega⟩
 obtain ⟨v,hv,hr⟩:=h1 j g hj
 exact ⟨v,by simpa using hv,hr⟩
theorem OpB.map {N : Nat} {t : TypeId} {α β : Type} {enc : α→FV} {ok : α→Prop} {enc' : β→FV} {ok' : β→Prop} {ms : α→Nat} {ms' : β→Nat} (h : OpB P N t α enc ok ms) (g : α→β) (he : ∀ a,enc' (g a) = enc a) (hok : ∀ a,ok a→ok' (g a)) (hms : ∀ a,ms' (g a) ≤ ms a) : OpB P N t β enc' ok' ms':=⟨fun {n} hn {H eH w base spare held cs x} hx=>by
 obtain ⟨y,hy,hr,hm⟩:=h.go hn hx
 exact ⟨g y,hok y hy,by rw [he]; exact hr,Nat.le_trans (hms y) hm⟩⟩
theorem opb_all {t : TypeId} {α : Type} {enc : α→FV} {ok : α→Prop} {ms : α→Nat} (h : ∀ N,OpB P (N + 1) t α enc ok ms) (N : Nat) : OpB P N t α enc ok ms:=(h N).mono (Nat.le_succ N)
end Go.Proofs.YtafenffmgpcjcaaGreat.Vf
namespace Go.Proofs.YtafenffmgpcjcaaGreat.Vf
open Go.RowKit
set_option linter.unusedVariables false
set_option linter.unusedSimpArgs false
variable {P : Program}
theorem wp_jumps {c rest : Code} {Q : Exit→Act→World→Prop} {a : Act} {w : World} (l : Nat) (J : Nat→Act→World→Prop) (hf : findLabel c l = some rest)
  (pass : ∀ n a w,J n a w→rest.wp P (Exit.jump l (fun a' w'=>∃ m,m < n∧J m a' w') Q) a w)
  (first : c.wp P (Exit.jump l (fun a w=>∃ n,J n a w) Q) a w) : (Code.scope c).wp P Q a w:=by
 intro b k cs
 have hg : gotoIn l (.inScope c :: k) = some (.code rest :: .inScope c :: k):=by simp [gotoIn,hf]
 have key : ∀ n a w,J n a w→∃ e a' w',Q e a' w'∧Arrives P (lone (b.at a (.code rest :: .inScope c :: k)) cs w) b k cs e a' w':=by
  intro n
  induction n using Nat.strongRecOn with
  | _ n ih =>
   intro a w hJ
   obtain ⟨e,a₁,w₁,hq,harr⟩:=pass n a w hJ b (.inScope c :: k) cs
   cases e with
   | normal=>exact ⟨.normal,a₁,w₁,hq,Steps.trans harr (.one step_inScope)⟩
   | exit id=>exact ⟨.exit id,a₁,w₁,hq,fun k' hk=>harr k' (by simp [exitTo,hk])⟩
   | goto l' =>
    obtain ⟨rfl,m,hlt,hJ'⟩:=hq
    obtain ⟨e₂,a₂,w₂,hq₂,harr₂⟩:=ih m hlt a₁ w₁ hJ'
    exact ⟨e₂,a₂,w₂,hq₂,.of_steps (harr _ hg) harr₂⟩
   | ret=>exact ⟨_,a₁,w₁,hq,harr⟩
   | panic ch=>exact ⟨_,a₁,w₁,hq,harr⟩
   | outgrown=>exact ⟨_,a₁,w₁,hq,harr⟩
 obtain ⟨e,a₁,w₁,hq,harr⟩:=first b (.inScope c :: k) cs
 cases e with
 | normal=>exact ⟨.normal,a₁,w₁,hq,.head step_scope (Steps.trans harr (.one step_inScope))⟩
 | exit id=>exact ⟨.exit id,a₁,w₁,hq,fun k' hk=>.head step_scope (harr k' (by simp [exitTo,hk]))⟩
 | goto l' =>
  obtain ⟨rfl,m,hJ'⟩:=hq
  obtain ⟨e₂,a₂,w₂,hq₂,harr₂⟩:=key m a₁ w₁ hJ'
  exact ⟨e₂,a₂,w₂,hq₂,.of_steps (.head step_scope (harr _ hg)) harr₂⟩
 | ret=>exact ⟨_,a₁,w₁,hq,.of_steps (.one step_scope) harr⟩
 | panic ch=>exact ⟨_,a₁,w₁,hq,.of_steps (.one step_scope) harr⟩
 | outgrown=>exact ⟨_,a₁,w₁,hq,.of_steps (.one step_scope) harr⟩
def JmpQ (l : Nat) (J : St→Prop) (Q : Pst) : Pst
 | .goto l',s=>l' = l∧J s
 | e,s=>Q e s
section
variable {l : Nat} {J : St→Prop} {Q : Pst} {s : St} {i : Nat}
@[simp] theorem jmpQ_normal : JmpQ l J Q .normal s = Q .normal s:=rfl
@[simp] theorem jmpQ_exit : JmpQ l J Q (.exit i) s = Q (.exit i) s:=rfl
@[simp] theorem jmpQ_ret : JmpQ l J Q .ret s = Q .ret s:=rfl
@[simp] theorem jmpQ_goto : JmpQ l J Q (.goto i) s = (i = l∧J s):=rfl
end
theorem W.scopeJ {c R : Code} {l : Nat} {Q : Pst} {s : St} (I : Nat→St→Prop) (hf : findLabel c l = some (.seq .skip R))
  (pass : ∀ n s,I n s→W P R s (JmpQ l (fun s'=>∃ m,m < n∧I m s') Q))
  (first : (∀ n s,I n s→W P R s (JmpQ l (fun s'=>∃ m,I m s') Q))→W P c s (JmpQ l (fun s'=>∃ n,I n s') Q)) : W P (.scope c) s Q:=fun B L a w H =>
 wp_jumps l (fun n a' w'=>∃ s' L',I n s'∧Rel B L' s' a' w'∧Ext L s.k w L' s'.k w'∧s.k.length ≤ s'.k.length) hf
  (fun n a' w' ⟨s',L',h1,h2,h3,h4⟩=>wp_seq (wp_skip (wp_mono (pass n s' h1 B L' a' w' h2) fun e a2 w2 ⟨s2,L2,g1,g2,g3,g4⟩=>by
   cases e with
   | goto l'=>obtain ⟨rfl,m,hm,hI⟩:=g1; exact ⟨rfl,m,hm,s2,L2,hI,g2,h3.trans g3 h4,Nat.le_trans h4 g4⟩
   | _=>exact ⟨s2,L2,g1,g2,h3.trans g3 h4,Nat.le_trans h4 g4⟩)))
  (wp_mono (first (fun n s hI=>(pass n s hI).mono fun e s' hq=>by
   cases e with
   | goto l'=>obtain ⟨rfl,m,_,hI⟩:=hq; exact ⟨rfl,m,hI⟩
   | _=>exact hq) B L a w H) fun e a2 w2 ⟨s2,L2,g1,g2,g3,g4⟩=>by
   cases e with
   | goto l'=>obtain ⟨rfl,m,hI⟩:=g1; exact ⟨rfl,m,s2,L2,hI,g2,g3,g4⟩
   | _=>exact ⟨s2,L2,g1,g2,g3,g4⟩)
end Go.Proofs.YtafenffmgpcjcaaGreat.Vf
namespace Go.Proofs.YtafenffmgpcjcaaGreat.Vf
open Go.RowKit
set_option linter.unusedVariables false
set_option linter.unusedSimpArgs false
variable {B : Base} {L : Lk} {h : List (List AV)} {k : List (Nat × Nat)} {w : World} {P : Program} {T : TV} {rf : Bool} {ops : Array Oper} {l : List Oper} {Q : Pst} {t : List AV} {d : Option Tmp}
theorem W.draw_semG (hm : P.follows .mixedOrders = true) {id : Nat} {ops : Array Oper} {s : St} {Q : Pst} (S : (Nat→Bool)→St→Prop) (h0 : S (fun _=>false) s)
  (step : ∀ (D : Nat→Bool) (s1 : St) (i : Nat) (o : Oper),ops[i]? = some o→D i = false→(∀ e ∈ o.after,Region.binds .any e = true→D e.on = true)→S D s1→OpsK P true ops [o] (fun e s2=>e = .normal∧S (fun j=>D j || j == i) s2) s1)
  (hend : ∀ (D : Nat→Bool) s1,(∀ i,i < ops.size→D i = true)→S D s1→Q .normal s1) (hbk : bkOk ops = true) : W P (.region id ops true) s Q:=by
 intro B L a w H
 have hnr : ∀ (listed : Array Bool),listed.size = ops.size→Region.ready .any ops listed = []→∀ i,i < ops.size→listed.getD i false = true:=fun listed hsz hr i=>by
  induction i using Nat.strongRecOn with
  | ind i ih =>
   intro hi
   cases hq : listed.getD i false with
   | true=>rfl
   | false =>
    have : i ∈ Region.ready .any ops listed:=mem_ready.2 ⟨by
     rw [Array.getD_eq_getD_getElem?,Array.getElem?_eq_getElem (by omega)] at hq ⊢
     simpa using hq,ops[i],Array.getElem?_eq_getElem hi,fun e he hb=>ih e.on (bkOk_edge hbk (Array.getElem?_eq_getElem hi) he hb) (Nat.lt_trans (bkOk_edge hbk (Array.getElem?_eq_getElem hi) he hb) hi)⟩
    rw [hr] at this; cases this
 have hsame : ∀ {listed : Array Bool} {i : Nat},listed.size = ops.size→i < ops.size→listed.getD i true = false→listed.getD i false = false:=fun {listed i} hsz hi h=>by
  rw [Array.getD_eq_getD_getElem?,Array.getElem?_eq_getElem (by omega)] at h ⊢
  simpa using h
 have H' : Rel B L s a w.drew:=⟨H.mem.drew,H.d,H.tmps.mono (Ext.drew _ _ _) (Nat.le_refl _)⟩
 refine wp_region_any hm ?_
 have key : ∀ (fuel : Nat) (listed : Array Bool) (s1 : St) (L1 : Lk) (a1 : Act) (w1 : World),listed.size = ops.size→(ops.size ≤ fuel + ((List.range ops.size).filter fun i=>listed.getD i false).length)→Rel B L1 s1 a1 w1→Ext L s.k w L1 s1.k w1→s.k.length ≤ s1.k.length→S (fun i=>listed.getD i false) s1→wpAny P .any ops (Post B L s w Q) fuel listed a1 w1:=by
  intro fuel
  have fin : ∀ (listed : Array Bool) (s1 : St) (L1 : Lk) (a1 : Act) (w1 : World),listed.size = ops.size→Rel B L1 s1 a1 w1→Ext L s.k w L1 s1.k w1→s.k.length ≤ s1.k.length→S (fun i=>listed.getD i false) s1→Region.ready .any ops listed = []→Post B L s w Q .normal a1 w1:=fun listed s1 L1 a1 w1 hsz H1 he hl hS hr =>
   ⟨s1,L1,hend _ s1 (hnr listed hsz hr) hS,H1,he,hl⟩
  induction fuel with
  | zero =>
   intro listed s1 L1 a1 w1 hsz hf H1 he hl hS
   have hr : Region.ready .any ops listed = []:=by
    apply List.eq_nil_iff_forall_not_mem.2
    intro i hi
    obtain ⟨g1,o,g2,_⟩:=mem_ready.1 hi
    have hil:=(Array.getElem?_eq_some_iff.1 g2).1
    have hall : ((List.range ops.size).filter fun i=>listed.getD i false).length = ops.size:=by
     have:=List.length_filter_le (fun i=>listed.getD i false) (List.range ops.size)
     rw [List.length_range] at this; omega
    have hall2:=List.filter_eq_self.1 ((List.filter_sublist (p:=fun i=>listed.getD i false) (l:=List.range ops.size)).eq_of_length (by rw [hall]; simp)) i (List.mem_range.2 hil)
    rw [hsame hsz hil g1] at hall2
    cases hall2
   exact ⟨hr,fin listed s1 L1 a1 w1 hsz H1 he hl hS hr⟩
  | succ fuel ih =>
   intro listed s1 L1 a1 w1 hsz hf H1 he hl hS
   refine ⟨fun hr=>fin listed s1 L1 a1 w1 hsz H1 he hl hS hr,fun i hi=>?_⟩
   obtain ⟨g1,o,g2,g3⟩:=mem_ready.1 hi
   have hil:=(Array.getElem?_eq_some_iff.1 g2).1
   have hi0 : listed.getD i false = false:=hsame hsz hil g1
   have hstep:=step (fun i=>listed.getD i false) s1 i o g2 hi0 g3 hS
   have hst : xOps P true ops [o] _ s1:=hstep
   have eD : (fun j=>(listed.setIfInBounds i true).getD j false) = fun j=>listed.getD j false || j == i:=by
    funext j
    by_cases hji : j = i
    ·subst hji
     simp only [Array.getD_eq_getD_getElem?,Array.getElem?_setIfInBounds_self_of_lt (show j < listed.size by omega)]
     simp
    ·rw [getD_set_ne false (fun e=>hji e.symm)]
     simp [hji]
   have cont : ∀ s2 L2 a2 w2,S (fun j=>listed.getD j false || j == i) s2→Rel B L2 s2 a2 w2→Ext L1 s1.k w1 L2 s2.k w2→s1.k.length ≤ s2.k.length→wpAny P .any ops (Post B L s w Q) fuel (listed.setIfInBounds i true) a2 w2:=fun s2 L2 a2 w2 hS2 H2 he2 hl2=>by
    refine ih _ s2 L2 a2 w2 (by simpa using hsz) ?_ H2 (he.trans he2 hl) (Nat.le_trans hl hl2) ?_
    ·have hcount : ∀ (l : List Nat),l.Nodup→i ∈ l→((l.filter fun j=>listed.getD j false || j == i)).length = (l.filter fun j=>listed.getD j false).length + 1:=fun l=>by
      induction l with
      | nil=>intro _ h; cases h
      | cons x l ihl =>
       intro hnd hmem
       obtain ⟨n1,n2⟩:=List.nodup_cons.1 hnd
       by_cases e : x = i
       ·subst e
        have hno : (l.filter fun j=>listed.getD j false || j == x) = l.filter fun j=>listed.getD j false:=List.filter_congr fun j hj=>by
         have : j ≠ x:=fun e=>n1 (e ▸ hj)
         simp [this]
        rw [List.filter_cons_of_pos (by simp),List.filter_cons_of_neg (by rw [hi0]; decide),hno]
        rfl
       ·have hm' : i ∈ l := by rcases List.mem_cons.1 hmem with h | h
                               ·exact absurd h.symm e
                               ·exact h
        have:=ihl n2 hm'
        by_cases hx : listed.getD x false = true
        ·rw [List.filter_cons_of_pos (by simp only [hx,Bool.true_or]),List.filter_cons_of_pos (p:=fun j=>listed.getD j false) hx]
         simp only [List.length_cons,this]
        ·rw [List.filter_cons_of_neg (by rw [Bool.eq_false_iff.2 hx]; simp [e]),List.filter_cons_of_neg (p:=fun j=>listed.getD j false) hx]
         exact this
     have:=hcount (List.range ops.size) List.nodup_range (List.mem_range.2 hil)
     simp only [congrFun eD]
     omega
    ·rw [eD]; exact hS2
   have two : ∀ {K : St→Prop} {Q' : Pst},xOp P true o s1 K Q'→(∀ s',K s'→S (fun j=>listed.getD j false || j == i) s')→(∀ v s',¬ Q' (panicX v) s')→wOp P (tyOf P) true o s1 (fun s2=>S (fun j=>listed.getD j false || j == i) s2):=fun hx hk hn=>by
    rcases hx with hx | ⟨_,f,as,v,_,_,hq⟩
    ·exact wOp_imp hk hx
    ·exact absurd hq (hn _ _)
   unfold wpOp
   simp only [g2]
   cases hgd : o.guard with
   | none =>
    rw [if_pos (by simp [Region.wanted,hgd])]
    simp only [xOps,hgd] at hst
    exact .inl (wOp_run (tyOf_ok P) H1 (two hst (fun _ h=>h.2) fun v s' h=>by cases h.1) cont)
   | some jw =>
    obtain ⟨j,want⟩:=jw
    simp only [xOps,hgd] at hst
    split at hst
    case h_2=>exact hst.elim
    rename_i b hb
    have hy:=yieldedA_rep H1 hb
    split at hst
    ·rename_i hbw
     have hw : Region.wanted o (yielded ops a1.tmps) = true:=by rw [Region.wanted,hgd]; exact hy.trans hbw
     rw [if_pos hw]
     exact .inl (wOp_run (tyOf_ok P) H1 (two hst (fun _ h=>h.2) fun v s' h=>by cases h.1) cont)
    ·rename_i hbw
     have hw : Region.wanted o (yielded ops a1.tmps) = false:=by rw [Region.wanted,hgd]; exact hy.trans (by simpa using hbw)
     rw [if_neg (by simp [hw])]
     have hkk : ∀ x,(s1.put o.dst x).k = s1.k:=fun x=>by unfold St.put; cases o.dst <;> rfl
     exact cont _ _ _ _ hst.2 (H1.put (.f _ _ (.sc _))) (by rw [hkk]; exact Ext.refl _ _ _) (by rw [hkk]; exact Nat.le_refl _)
 refine key ops.size (Array.replicate ops.size false) s L a _ (by simp) (by omega) H' (Ext.drew L s.k w) (Nat.le_refl _) ?_
 have e : (fun i=>(Array.replicate ops.size false).getD i false) = fun _=>false:=by
  funext i
  rw [Array.getD_eq_getD_getElem?]
  rcases Nat.lt_or_ge i ops.size with h | h
  ·rw [Array.getElem?_eq_getElem (by simpa using h)]; simp
  ·rw [Array.getElem?_eq_none (by simpa using h)]; rfl
 rw [e]; exact h0
theorem hangs_told {D : Nat→Bool} (hD : ∀ (i : Nat) (o : Oper),D i = true→ops[i]? = some o→∀ e ∈ o.after,Region.binds .any e = true→D e.on = true) : ∀ (n i j : Nat),hangs ops n i j = true →
  (∀ o,ops[i]? = some o→∀ e ∈ o.after,Region.binds .any e = true→D e.on = true)→D j = true:=by
 intro n
 induction n with
 | zero=>intro i j h; simp [hangs] at h
 | succ n ih =>
  intro i j h hi
  simp only [hangs] at h
  cases ho : ops[i]? with
  | none=>simp [ho] at h
  | some o =>
   simp only [ho] at h
   obtain ⟨q,hq,h⟩:=Array.any_eq_true.1 h
   simp only [Bool.and_eq_true,Bool.or_eq_true,beq_iff_eq] at h
   obtain ⟨hb,h⟩:=h
   have h1:=hi o ho o.after[q] (Array.getElem_mem hq) hb
   rcases h with h | h
   ·rw [← h]; exact h1
   ·exact ih _ j h fun o' ho' e he hb'=>hD _ o' h1 ho' e he hb'
def fzM (h : List (List AV)) : AV→Option FV
 | .ms b off len cap sz=>fzH 0 h 1 (.ms b off len cap sz)
 | x=>fzB h x
theorem fzM_rep (H : Mem B L h k w) {x : AV} {v : Value} {y : FV} (hx : RepA w L k x v) (hy : fzM h x = some y) : Rep w (FB L h) y v:=by
 unfold fzM at hy
 split at hy
 ·exact (fzH_rep H 1 hx hy).mono (fun b o hb=>by
   rcases hb with hb | ⟨i,cs,_,h1,h2,h3⟩
   ·exact .inl hb
   ·exact .inr ⟨i,cs,h1,h2,h3⟩) (Keep.refl _ _)
 ·exact fzB_rep H hx hy
def plainF : FV→Bool
 | .sc _=>true
 | .agg cs=>cs.all fun | .sc _=>true | _=>false
 | _=>false
theorem Rep.plain {w w' : World} {F F' : Cells} {x : FV} {v : Value} (hp : plainF x = true) (h : Rep w F x v) : Rep w' F' x v:=by
 cases h with
 | sc v=>exact .sc v
 | agg cs a vs ha hv hr =>
  refine .agg cs a vs ha hv fun j y hj=>?_
  have hy:=List.all_eq_true.1 hp y (List.mem_of_getElem? hj)
  have hrj:=hr j y hj
  generalize vs j = u at hrj ⊢
  cases hrj with
  | sc v=>exact .sc _
  | _=>cases hy
 | _=>cases hp
theorem GivesR.of_givesM {f : FuncId} {as : List FV} {ra : List AV} {r : FV} (hp : plainF r = true) (hg : Gives P f as r) (hm : mapO (fzM h) ra = some as) : GivesR P f ra h k (.f r) h k:=by
 obtain ⟨hb,hg⟩:=hg
 refine ⟨hb,fun B L w vals H hv=>?_⟩
 obtain ⟨q1,q2⟩:=mapO_get hm
 refine (hg w (FB L h) vals (fun b o hb=>?_) (by rw [hv.1,q1]) (fun j x hj=>?_)).mono ?_
 ·rcases hb with hb | ⟨n,cs,h1,h2,h3⟩
  ·exact H.fz b o hb
  ·exact (H.mge n b h1).2
 ·have hjl : j < ra.length:=by rw [← q1]; exact (List.getElem?_eq_some_iff.1 hj).1
  obtain ⟨y',hy',hcf⟩:=q2 j ra[j] (List.getElem?_eq_getElem hjl)
  rw [hj] at hy'
  obtain rfl:=Option.some.inj hy'
  obtain ⟨v,hv1,hr⟩:=hv.2 j _ (List.getElem?_eq_getElem hjl)
  exact ⟨v,hv1,fzM_rep H hr hcf⟩
 ·rintro e w' ⟨v,F',rfl,hr,hbl,-⟩
  obtain ⟨H',he⟩:=H.grow (F':=L.F) hbl (fun _ _ h=>h) (fun _ _ h=>.inl h) (fun b o h=>Nat.lt_of_lt_of_le (H.fz b o h) hbl.size)
  exact ⟨v,L,rfl,H',he,.f _ _ (hr.plain hp),Nat.le_refl _⟩
theorem call_m {f : FuncId} {cs as : List FV} {ra : List AV} {o : Option (List FV)} {r : FV} (hp : plainF r = true) (hg : Gives P f as r) (hm : mapO (fzM h) ra = some as) (hk : OpsK P true ops l Q ⟨putT t d (.f r),h,k⟩) : GivesK P true ops l Q t h k d f cs ra o :=
 call_r (GivesR.of_givesM hp hg hm) hk
theorem ops_min {x y : Operand} {u v ty : TypeId} {pos : String} {af : Array Edge} {q : IntKind} {a b : Int} (hx : evA t x = .f (.sc (.int q a))) (hy : evA t y = .f (.sc (.int q b))) : OpsK P rf ops (⟨d,.call ⟨.builtin .min,#[x,y],#[u,v]⟩,ty,pos,af,none⟩ :: l) Q ⟨t,h,k⟩ = OpsK P rf ops l Q ⟨putT t d (.f (.sc (.int q (min a b)))),h,k⟩:=by
 have e : (if b < a then b else a) = min a b:=by rw [Int.min_def]; split <;> split <;> omega
 refine ((ops_op rfl rfl rfl).trans thenK_still).trans ?_
 show StillK P rf ops l Q t h k d (opPure P (evA t) _) = _
 have : opPure P (evA t) ⟨d,.call ⟨.builtin .min,#[x,y],#[u,v]⟩,ty,pos,af,none⟩ = some (.f (.sc (.int q (min a b)))):=by
  simp [opPure,execOp,hx,hy,AV.val,aggCells,cellVal,Op.operands,Call.operands,resolve,invoke,builtin,runPure_bind,runPure_pure,runPure,Builtin.min_,Builtin.min2,e,ofVal,constA]
 rw [this]; rfl
def DrwT (H : List (List AV)) (keep : List (Nat × AV)) (s0 n : Nat) (val : Nat→AV) (N : Nat) (D : Nat→Bool) (st : St) : Prop :=
 st.h = H∧st.k = []∧st.t.length = N∧(∀ p ∈ keep,ix st.t p.1 = some p.2)∧∀ i,i < n→D i = true→ix st.t (s0 + i) = some (val i)
theorem DrwT.put {H : List (List AV)} {keep : List (Nat × AV)} {s0 n : Nat} {val : Nat→AV} {N : Nat} {D : Nat→Bool} {t : List AV} (S : DrwT H keep s0 n val N D ⟨t,h,k⟩) (i : Nat) (hi : i < n) (hN : s0 + n ≤ N) (hk : (keep.all fun p=>decide (p.1 < s0)) = true) {x : AV} (hx : val i = x) :
  DrwT H keep s0 n val N (fun j=>D j || j == i) ⟨putT t (some (s0 + i)) x,h,k⟩:=by
 obtain ⟨h1,h2,h3,h4,h5⟩:=S
 have hl : (putT t (some (s0 + i)) x).length = t.length:=by simp [putT]
 refine ⟨h1,h2,hl.trans h3,fun p hp=>?_,fun j hj hd=>?_⟩
 ·have hlt : p.1 < s0:=by simpa using List.all_eq_true.1 hk p hp
  have:=h4 p hp
  simp only [ix] at this ⊢
  rw [putT_get (d:=some (s0 + i)) (i:=p.1) (fun e he h=>by have h : s0 + i = p.1:=(Option.some.inj he).trans h; omega)]
  exact this
 ·by_cases e : j = i
  ·subst e
   simp only [ix,putT]
   rw [List.getElem?_set_self (by simp only at h3; omega),hx]
  ·have hd' : D j = true:=by simpa [e] using hd
   have:=h5 j hj hd'
   simp only [ix] at this ⊢
   rw [putT_get (d:=some (s0 + i)) (i:=s0 + j) (fun e' he h=>by have h : s0 + i = s0 + j:=(Option.some.inj he).trans h; omega)]
   exact this
theorem picks_of {t : List AV} {fs : List (Nat × AV)} (hf : ∀ p ∈ fs,ix t p.1 = some p.2) : picks t fs = fs:=by
 induction fs with
 | nil=>rfl
 | cons p fs ih =>
  show (p.1,(ix t p.1).getD undefA) :: picks t fs = p :: fs
  rw [hf p (.head _),ih fun q hq=>hf q (.tail _ hq)]
  rfl
end Go.Proofs.YtafenffmgpcjcaaGreat.Vf
namespace Go.Proofs.YtafenffmgpcjcaaGreat.Vf
open Go.RowKit
set_option linter.unusedVariables false
set_option linter.unusedSimpArgs false
variable {P : Program} {ops : Array Oper} {Q : Pst} {h : List (List AV)} {k : List (Nat × Nat)} {t : List AV}
theorem xOps_imp {rf : Bool} {Q Q' : Pst} (hk : ∀ e s,Q e s→Q' e s) (l : List Oper) : ∀ {s : St},xOps P rf ops l Q s→xOps P rf ops l Q' s:=by
 induction l with
 | nil=>intro s h; exact hk _ _ h
 | cons o l ih =>
  intro s h
  have hop : xOp P rf o s (xOps P rf ops l Q) Q→xOp P rf o s (xOps P rf ops l Q') Q':=fun h=>by
   rcases h with h | ⟨h1,f,as,v,h2,h3,h4⟩
   ·exact .inl (wOp_imp (fun s' hk=>ih hk) h)
   ·exact .inr ⟨h1,f,as,v,h2,h3,hk _ _ h4⟩
  simp only [xOps] at h ⊢
  cases hg : o.guard with
  | none=>simp only [hg] at h ⊢; exact hop h
  | some p =>
   obtain ⟨j,want⟩:=p
   simp only [hg] at h ⊢
   cases hy : yieldedA ops s.t j want with
   | none=>simp [hy] at h
   | some b =>
    simp only [hy] at h ⊢
    cases b
    ·simp only [Bool.false_eq_true,if_false] at h ⊢; exact ih h
    ·simp only [if_true] at h ⊢; exact hop h
theorem W.draw_last2 (hm : P.follows .mixedOrders = true) {id : Nat} {s : St} (m : Nat) (S : (Nat→Bool)→St→Prop) (h0 : S (fun _=>false) s)
  (step : ∀ (D : Nat→Bool) (s1 : St) (i : Nat) (o : Oper),i < m→ops[i]? = some o→D i = false→(∀ e ∈ o.after,Region.binds .any e = true→D e.on = true)→S D s1→OpsK P true ops [o] (fun e s2=>e = .normal∧S (fun j=>D j || j == i) s2) s1)
  (hend : ∀ (D : Nat→Bool) s1 o,(∀ i,i < m→D i = true)→S D s1→ops[m]? = some o→OpsK P true ops [o] (fun e s2=>e = .normal∧∀ o',ops[m + 1]? = some o'→OpsK P true ops [o'] (fun e s3=>e = .normal∧Q .normal s3) s2) s1)
  (hsz : ops.size = m + 2) (hok : ((List.range m).all fun j=>hangs ops 12 m j) = true) (hok2 : ((List.range (m + 1)).all fun j=>hangs ops 12 (m + 1) j) = true) (hbk : bkOk ops = true) : W P (.region id ops true) s Q:=by
 have hall : ∀ j,j < m→hangs ops 12 m j = true:=fun j hj=>List.all_eq_true.1 hok j (List.mem_range.2 hj)
 have hall2 : ∀ j,j < m + 1→hangs ops 12 (m + 1) j = true:=fun j hj=>List.all_eq_true.1 hok2 j (List.mem_range.2 hj)
 let Mid : St→Prop:=fun st=>∀ o',ops[m + 1]? = some o'→OpsK P true ops [o'] (fun e s3=>e = .normal∧Q .normal s3) st
 refine W.draw_semG hm (fun D st=>(∀ (i : Nat) (o : Oper),D i = true→ops[i]? = some o→∀ e ∈ o.after,Region.binds .any e = true→D e.on = true)∧(if D (m + 1) = true then Q .normal st else if D m = true then Mid st else S D st)) ⟨fun _ _ h=>by (cases h),by simpa using h0⟩ ?_ ?_ hbk
 ·rintro D s1 i o ho hD hdep ⟨cl,hS⟩
  have cl' : ∀ (i' : Nat) (o : Oper),(D i' || i' == i) = true→ops[i']? = some o→∀ e ∈ o.after,Region.binds .any e = true→(D e.on || e.on == i) = true:=fun i' o' hi' ho' e he hb=>by
   rw [Bool.or_eq_true] at hi' ⊢
   refine .inl ?_
   rcases hi' with h | h
   ·exact cl i' o' h ho' e he hb
   ·obtain rfl : i' = i:=by simpa using h
    rw [ho] at ho'
    exact hdep e (Option.some.inj ho' ▸ he) hb
  have hi : i < m + 2:=by rw [← hsz]; exact (Array.getElem?_eq_some_iff.1 ho).1
  have told2 : D (m + 1) = true→∀ j,j < m + 1→D j = true:=fun h j hj=>hangs_told cl 12 (m + 1) j (hall2 j hj) fun o' ho' e he hb=>cl (m + 1) o' h ho' e he hb
  have told : D m = true→∀ j,j < m→D j = true:=fun h j hj=>hangs_told cl 12 m j (hall j hj) fun o' ho' e he hb=>cl m o' h ho' e he hb
  have key : ∀ T : St→Prop,(∀ s2,T s2→(if (D (m + 1) || (m + 1) == i) = true then Q .normal s2 else if (D m || m == i) = true then Mid s2 else S (fun j=>D j || j == i) s2))→OpsK P true ops [o] (fun e s2=>e = .normal∧T s2) s1 →
    OpsK P true ops [o] (fun ex s2=>ex = .normal∧((∀ (i' : Nat) (o : Oper),(D i' || i' == i) = true→ops[i']? = some o→∀ e ∈ o.after,Region.binds .any e = true→(D e.on || e.on == i) = true)∧(if (D (m + 1) || (m + 1) == i) = true then Q .normal s2 else if (D m || m == i) = true then Mid s2 else S (fun j=>D j || j == i) s2))) s1:=fun T hT h=>by
   refine xOps_imp (fun e s2 h2=>?_) _ h
   exact ⟨h2.1,cl',hT s2 h2.2⟩
  by_cases e2 : i = m + 1
  ·subst e2
   have hDm : D m = true:=hangs_told cl 12 (m + 1) m (hall2 m (by omega)) fun o' ho' e he hb=>by rw [ho] at ho'; exact hdep e (Option.some.inj ho' ▸ he) hb
   rw [if_neg (by rw [hD]; decide),if_pos hDm] at hS
   exact key (Q .normal) (fun s2 h=>by rw [if_pos (by simp)]; exact h) (hS o ho)
  have hl2 : D (m + 1) = false:=by
   cases hl : D (m + 1) with
   | false=>rfl
   | true=>have:=told2 hl i (by omega); rw [hD] at this; cases this
  rw [if_neg (by rw [hl2]; decide)] at hS
  by_cases e : i = m
  ·subst e
   rw [if_neg (by rw [hD]; decide)] at hS
   exact key Mid (fun s2 h=>by rw [if_neg (by rw [hl2]; simp),if_pos (by simp)]; exact h) (hend D s1 o (fun j hj=>hangs_told cl 12 i j (hall j hj) fun o' ho' e he hb=>by rw [ho] at ho'; exact hdep e (Option.some.inj ho' ▸ he) hb) hS ho)
  ·have hl : D m = false:=by
    cases hl : D m with
    | false=>rfl
    | true=>have:=told hl i (by omega); rw [hD] at this; cases this
   rw [if_neg (by rw [hl]; decide)] at hS
   exact key (S fun j=>D j || j == i) (fun s2 h=>by rw [if_neg (by rw [hl2]; simp; omega),if_neg (by rw [hl]; simp; omega)]; exact h) (step D s1 i o (by omega) ho hD hdep hS)
 ·rintro D s1 hall' ⟨cl,hS⟩
  rwa [if_pos (hall' (m + 1) (by omega))] at hS
def DrwK (H : List (List AV)) (K : List (Nat × Nat)) (keep : List (Nat × AV)) (s0 n : Nat) (val : Nat→AV) (N : Nat) (D : Nat→Bool) (st : St) : Prop :=
 st.h = H∧st.k = K∧st.t.length = N∧(∀ p ∈ keep,ix st.t p.1 = some p.2)∧∀ i,i < n→D i = true→ix st.t (s0 + i) = some (val i)
theorem DrwK.put {H : List (List AV)} {K : List (Nat × Nat)} {keep : List (Nat × AV)} {s0 n : Nat} {val : Nat→AV} {N : Nat} {D : Nat→Bool} {t : List AV} (S : DrwK H K keep s0 n val N D ⟨t,h,k⟩) (i : Nat) (hi : i < n) (hN : s0 + n ≤ N) (hk : (keep.all fun p=>decide (p.1 < s0)) = true) {x : AV} (hx : val i = x) :
  DrwK H K keep s0 n val N (fun j=>D j || j == i) ⟨putT t (some (s0 + i)) x,h,k⟩:=by
 obtain ⟨h1,h2,h3,h4,h5⟩:=S
 have hl : (putT t (some (s0 + i)) x).length = t.length:=by simp [putT]
 refine ⟨h1,h2,hl.trans h3,fun p hp=>?_,fun j hj hd=>?_⟩
 ·have hlt : p.1 < s0:=by simpa using List.all_eq_true.1 hk p hp
  have:=h4 p hp
  simp only [ix] at this ⊢
  rw [putT_get (d:=some (s0 + i)) (i:=p.1) (fun e he h=>by have h : s0 + i = p.1:=(Option.some.inj he).trans h; omega)]
  exact this
 ·by_cases e : j = i
  ·subst e
   simp only [ix,putT]
   rw [List.getElem?_set_self (by simp only at h3; omega),hx]
  ·have hd' : D j = true:=by simpa [e] using hd
   have:=h5 j hj hd'
   simp only [ix] at this ⊢
   rw [putT_get (d:=some (s0 + i)) (i:=s0 + j) (fun e' he h=>by have h : s0 + i = s0 + j:=(Option.some.inj he).trans h; omega)]
   exact this
theorem frzM_W {c : Code} {s : St} {d b n : Nat} {fs : List FV} (hd : s.t[d]? = some (.ms b 0 n n 1)) (hb : s.h[b]? = some (fs.map .f)) (hn : fs.length = n) (h1 : ∀ x ∈ fs,x.cells = [x]) (h : W P c ⟨s.t.set d (.f (.sl fs .un)),s.h.set b [],s.k⟩ Q) : W P c s Q:=by
 intro B L a w H
 obtain ⟨v,hv,hr⟩:=H.tmps.2 d _ hd
 obtain ⟨c0,hm,rfl⟩ : ∃ c0,L.m[b]? = some c0∧v = .slice (some ⟨c0,0,none⟩) n n:=by
  cases hr with | ms b off len cap sz c hm=>exact ⟨c,hm,rfl⟩
 obtain ⟨H',he⟩:=H.mem.kill hm hb
 refine wp_mono (h B _ a w ⟨H',H.d,?_⟩) fun e a' w' hp=>hp.of he (Nat.le_refl _)
 have hold:=H.tmps.mono he (Nat.le_refl _)
 refine ⟨by simpa using hold.1,fun j x hj=>?_⟩
 by_cases hjd : j = d
 ·subst hjd
  have hlt:=(List.getElem?_eq_some_iff.1 hd).1
  rw [List.getElem?_set_self hlt] at hj
  obtain rfl:=Option.some.inj hj
  refine ⟨_,hv,.f _ _ ?_⟩
  have hc : ∀ (i : Nat) (y : FV),fs[i]? = some y→∃ u,w.cell? ⟨c0,i,none⟩ = some u∧u.oneCell' = true∧Rep w L.F y u:=fun i y hy=>by
   obtain ⟨_,_,u,q3,q4,q5⟩:=H.mem.heap b c0 i _ (.f y) hm hb (by simp [hy])
   cases q4 with | f x v hx=>exact ⟨u,q3,q5,hx⟩
  subst hn
  have hj0 : ∀ (i j : Nat) (x y : FV),fs[i]? = some x→x.cells[j]? = some y→j = 0∧y = x:=fun i j x y hx hy=>by
   rw [h1 x (List.mem_of_getElem? hx)] at hy
   match j,hy with
   | 0,hy=>exact ⟨rfl,(Option.some.inj hy).symm⟩
  refine .sl fs .un c0 0 fs.length 1 (fun i _=>(w.cell? ⟨c0,i,none⟩).getD undef) (by decide) (fun h=>by cases h) (Nat.le_refl _) (fun i x hx=>by rw [h1 x (List.mem_of_getElem? hx)]; rfl) (fun i j x y hx hy=>?_) fun i j x y hx hy=>?_
  ·obtain ⟨rfl,rfl⟩:=hj0 i j x y hx hy
   obtain ⟨u,h1,h2,h3⟩:=hc i y hx
   rw [show 0 + i * 1 + 0 = i by omega,h1]
   refine ⟨.inr ⟨rfl,?_⟩,rfl,h2⟩
   have:=(List.getElem?_eq_some_iff.1 hx).1
   simpa using this
  ·obtain ⟨rfl,rfl⟩:=hj0 i j x y hx hy
   obtain ⟨u,h1,h2,h3⟩:=hc i y hx
   rw [h1]
   exact h3.mono he.F he.keep
 ·rw [List.getElem?_set_ne (fun e=>hjd e.symm)] at hj
  exact hold.2 j x hj
end Go.Proofs.YtafenffmgpcjcaaGreat.Vf
namespace Go.Proofs.YtafenffmgpcjcaaGreat.Vf
open Go.RowKit
set_option linter.unusedVariables false
set_option linter.unusedSimpArgs false
variable {P : Program} {w : World} {F : Cells}
def unD : Nat→FV→FV
 | n + 1,.sl l c=>.sl (l.map (unD n)) .un
 | n + 1,.agg cs=>.agg (cs.map (unD n))
 | _,x=>x
theorem unD_sc (n : Nat) (v : Value) : unD n (.sc v) = .sc v:=by cases n <;> rfl
theorem unD_cells (n : Nat) (x : FV) : ∃ m,(unD n x).cells = x.cells.map (unD m):=by
 cases n with
 | zero=>exact ⟨0,by simp [show (unD 0 : FV→FV) = id from funext fun x=>by cases x <;> rfl]⟩
 | succ n =>
  cases x with
  | agg cs=>exact ⟨n,rfl⟩
  | sc v =>
   refine ⟨0,?_⟩
   rw [unD_sc]
   simp [show (unD 0 : FV→FV) = id from funext fun x=>by cases x <;> rfl]
  | sl l c=>exact ⟨n + 1,rfl⟩
  | fp cs=>exact ⟨n + 1,rfl⟩
  | fn f cs=>exact ⟨n + 1,rfl⟩
  | tup cs=>exact ⟨n + 1,rfl⟩
theorem Rep.unD {x : FV} {v : Value} (h : Rep w F x v) : ∀ n,Rep w F (Vf.unD n x) v:=by
 have h0 : ∀ x : FV,Vf.unD 0 x = x:=fun x=>by cases x <;> rfl
 induction h with
 | sc v=>intro n; rw [unD_sc]; exact .sc v
 | nil c=>intro n; cases n <;> exact .nil _
 | emp a cap=>intro n; cases n <;> exact .emp a cap
 | sl l c b o cap sz vs hc hf hle hz hF hr ih =>
  intro n
  cases n with
  | zero=>exact .sl l c b o cap sz vs hc hf hle hz hF hr
  | succ n =>
   have key : ∀ (i j : Nat) (x y : FV),(l.map (Vf.unD n))[i]? = some x→x.cells[j]? = some y→∃ x0 y0 m,l[i]? = some x0∧x0.cells[j]? = some y0∧y = Vf.unD m y0:=fun i j x y hx hy=>by
    rw [List.getElem?_map] at hx
    obtain ⟨x0,e1,rfl⟩:=Option.map_eq_some_iff.1 hx
    obtain ⟨m,hm⟩:=unD_cells n x0
    rw [hm,List.getElem?_map] at hy
    obtain ⟨y0,e2,rfl⟩:=Option.map_eq_some_iff.1 hy
    exact ⟨x0,y0,m,e1,e2,rfl⟩
   have : Rep w F (.sl (l.map (Vf.unD n)) .un) (.slice (some ⟨b,o,none⟩) (l.map (Vf.unD n)).length cap):=by
    refine .sl _ .un b o cap sz vs (by decide) (fun h=>by cases h) (by simpa using hle) (fun i x hx=>?_) (fun i j x y hx hy=>?_) fun i j x y hx hy=>?_
    ·rw [List.getElem?_map] at hx
     obtain ⟨x0,e1,rfl⟩:=Option.map_eq_some_iff.1 hx
     obtain ⟨m,hm⟩:=unD_cells n x0
     rw [hm,List.length_map]
     exact hz i x0 e1
    ·obtain ⟨x0,y0,m,e1,e2,rfl⟩:=key i j x y hx hy
     exact hF i j x0 y0 e1 e2
    ·obtain ⟨x0,y0,m,e1,e2,rfl⟩:=key i j x y hx hy
     exact ih i j x0 y0 e1 e2 m
   rw [List.length_map] at this
   exact this
 | fp cs b o vs hF hr ih=>intro n; cases n <;> exact .fp cs b o vs hF hr
 | fn f cs a vs ha hv hr ih=>intro n; cases n <;> exact .fn f cs a vs ha hv hr
 | tup cs a vs ha hv hr ih=>intro n; cases n <;> exact .tup cs a vs ha hv hr
 | agg cs a vs ha hv hr ih =>
  intro n
  cases n with
  | zero=>exact .agg cs a vs ha hv hr
  | succ n =>
   refine .agg _ a vs (by simpa using ha) (fun j y hj=>?_) (fun j y hj=>?_)
   ·rw [List.getElem?_map] at hj
    obtain ⟨z,hz,rfl⟩:=Option.map_eq_some_iff.1 hj
    exact hv j z hz
   ·rw [List.getElem?_map] at hj
    obtain ⟨z,hz,rfl⟩:=Option.map_eq_some_iff.1 hj
    exact ih j z hz n
theorem weakT_W {c : Code} {Q : Pst} {s : St} {d : Nat} {x x' : AV} (hd : s.t[d]? = some x) (hw : ∀ (w : World) (L : Lk) (k : List (Nat × Nat)) (v : Value),RepA w L k x v→RepA w L k x' v) (h : W P c ⟨s.t.set d x',s.h,s.k⟩ Q) : W P c s Q:=by
 intro B L a w H
 refine wp_mono (h B L a w ⟨H.mem,H.d,by simpa using H.tmps.1,fun j y hj=>?_⟩) fun e a' w' hp=>hp
 rcases get_set hj with ⟨hne,hj⟩ | ⟨rfl,rfl,_⟩
 ·exact H.tmps.2 j y hj
 ·obtain ⟨v,hv,hr⟩:=H.tmps.2 j x hd
  exact ⟨v,hv,hw _ _ _ _ hr⟩
theorem weak_un {l : List FV} {c : Cap} (w : World) (L : Lk) (k : List (Nat × Nat)) (v : Value) (h : RepA w L k (.f (.sl l c)) v) : RepA w L k (.f (.sl l .un)) v:=by
 cases h with | f x v h=>exact .f _ _ h.un
theorem loopW {c : Code} {Q : Pst} {s : St} (n : Nat) (I : Nat→St→Prop) (h0 : I n s) (round : ∀ m s,I m s→W P c s (SeqQ (fun _ s'=>∃ m',m' < m∧I m' s') Q)) : W P (.loop c) s Q :=
 W.loop I n h0 fun m s hI=>W.mono (round m s hI) fun e s' h=>by cases e <;> exact h
theorem Gives.unD {f : FuncId} {as : List FV} {r : FV} (n : Nat) (h : Gives P f as r) : Gives P f as (Vf.unD n r) :=
 ⟨h.1,fun w F vals hF hs hv=>(h.2 w F vals hF hs hv).mono fun e w' ⟨v,F',h1,h2,h3⟩=>⟨v,F',h1,h2.unD n,h3⟩⟩
end Go.Proofs.YtafenffmgpcjcaaGreat.Vf
