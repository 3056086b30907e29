/- Texts of the proof: ES8. -/
import Derived.Test.YtafenffmgpcjcaaGreatES7
import Derived.Test.YtafenffmgpcjcaaGreatES5
import Derived.Test.YtafenffmgpcjcaaGreatEVC1
import Derived.Shelf.SortG.Plain
import Derived.Shelf.SortG.SortNone
namespace Go.Proofs.YtafenffmgpcjcaaGreat
open Go.RowKit Go.Proofs.YtafenffmgpcjcaaGreat.Vf
set_option linter.unusedVariables false
set_option linter.unusedSimpArgs false
set_option maxRecDepth 100000
set_option maxHeartbeats 4000000
structure JobD where
 chip : ChipD
 units : List UnitD
 costs : List (Int × Int)
 deps : List (List Int)
abbrev cChip (c : ChipD) : List FV:=[intF c.stages,intF c.tables,intF c.gates,intF c.sram,intF c.tcam,intF c.c8,intF c.c16,intF c.c32]
abbrev cJob (j : JobD) (c1 c2 c3 : Cap) : List FV:=[intF j.chip.stages,intF j.chip.tables,intF j.chip.gates,intF j.chip.sram,intF j.chip.tcam,intF j.chip.c8,intF j.chip.c16,intF j.chip.c32,.sl (encL fUnit j.units) c1,.sl (encL fRes j.costs) c2,.sl (encL rowF j.deps) c3]
structure UsD where
 tables : Int
 gates : Int
 cost : Int × Int
abbrev fUs (u : UsD) : FV:=.agg [intF u.tables,intF u.gates,intF u.cost.1,intF u.cost.2]
def withinM (u : UsD) (c : ChipD) : Bool:=decide (u.tables ≤ c.tables) && decide (u.gates ≤ c.gates) && (decide (u.cost.1 ≤ c.sram) && decide (u.cost.2 ≤ c.tcam))
theorem within_g (u : UsD) (c : ChipD) : Gives Tryz.prog 42 [fUs u,fChip c] (boolF (withinM u c)):=by
 refine Gives.of mixed Tryz.func42 rfl rfl rfl (by kernel_rfl) ?_
 unfold withinM
 by_cases c1 : u.tables ≤ c.tables <;> by_cases c2 : u.gates ≤ c.gates <;> simp [c1,c2]
 refine call_g (fits2_g u.cost.1 u.cost.2 c) ?_
 simp
def usAdd (u : UsD) (un : UnitD) (co : Int × Int) : UsD :=
 ⟨if un.table < 0 then u.tables else IntKind.i64.wrap (u.tables + 1),if un.table < 0 then IntKind.i64.wrap (u.gates + 1) else u.gates,sumR [u.cost,co]⟩
theorem add_g (j : JobD) (c1 c2 c3 : Cap) (u : UsD) (i : Nat) {un : UnitD} {co : Int × Int} (hu : j.units[i]? = some un) (hc : j.costs[i]? = some co) :
  Gives Tryz.prog 58 [.fp (cJob j c1 c2 c3),fUs u,intF i] (fUs (usAdd u un co)):=by
 refine Gives.of mixed Tryz.func58 rfl rfl rfl (by kernel_rfl) ?_
 obtain ⟨hi,_⟩:=List.getElem?_eq_some_iff.1 hu
 obtain ⟨hi2,_⟩:=List.getElem?_eq_some_iff.1 hc
 obtain ⟨x,hx,hx'⟩:=nth_of hi
 obtain ⟨y,hy,hy'⟩:=nth_of hi2
 rw [hu] at hx'
 obtain rfl:=Option.some.inj hx'
 rw [hc] at hy'
 obtain rfl:=Option.some.inj hy'
 unfold usAdd
 by_cases c0 : un.table < 0
 ·simp [hx,hi,c0,hy,hi2]
  refine call_g (sum2_g [u.cost,co] .full (by show 2 ≤ maxLen; decide)) ?_
  simp
 ·simp [hx,hi,c0,hy,hi2]
  refine call_g (sum2_g [u.cost,co] .full (by show 2 ≤ maxLen; decide)) ?_
  simp
def usTo (j : JobD) (S : List Int) (s : Int) : Nat→UsD
 | 0=>⟨0,0,(0,0)⟩
 | k + 1=>match S[k]?,j.units[k]?,j.costs[k]? with
  | some x,some un,some co=>if x = s then usAdd (usTo j S s k) un co else usTo j S s k
  | _,_,_=>usTo j S s k
def usI (j : JobD) (c1 c2 c3 : Cap) (S : List Int) (c : Cap) (s : Int) (i : Nat) (st : St) : Prop:=∃ a b x y,usTo j S s i = ⟨a,b,(x,y)⟩ ∧
 Vf.Sl [(0,.f (.fp (cJob j c1 c2 c3))),(2,.f (intF s)),(6,.ref 0 0),(7,.ref 1 0),(10,.f (.sl (encL intF S) c)),(11,.f (intF S.length)),(12,.f (intF i))] 26 [[.f (intF 0),.f (intF 0),.f (intF 0),.f (intF 0)],[.f (intF a),.f (intF b),.f (intF x),.f (intF y)]] [] st
theorem usage_g (j : JobD) (c1 c2 c3 : Cap) (S : List Int) (c : Cap) (s : Int) (h1 : S.length ≤ j.units.length) (h2 : S.length ≤ j.costs.length) (hl : S.length ≤ maxLen) :
  Gives Tryz.prog 39 [.fp (cJob j c1 c2 c3),.sl (encL intF S) c,intF s] (fUs (usTo j S s S.length)):=by
 refine Gives.of mixed Tryz.func39 rfl rfl rfl (by kernel_rfl) ?_
 simp
 refine forX mixed S.length (usI j c1 c2 c3 S c s) (by kernel_rfl) ⟨0,0,0,0,rfl,Sl.of rfl rfl rfl⟩ ?_
 rintro i ⟨ts,hh,kk⟩ hi ⟨a,b,x,y,hu,rfl,rfl,ff,rfl⟩
 by_cases hlt : i < S.length
 ·obtain ⟨v,hv,hv'⟩:=nth_of hlt
  obtain ⟨un,hun,hun'⟩:=nth_of (show i < j.units.length by omega)
  obtain ⟨co,hco,hco'⟩:=nth_of (show i < j.costs.length by omega)
  have hw:=wrap64 (x:=(i : Int) + 1) (by omega) (by unfold maxLen at hl; omega)
  have hn : usTo j S s (i + 1) = if v = s then usAdd (usTo j S s i) un co else usTo j S s i:=by
   rw [usTo,hv',hun',hco']
  by_cases c0 : v = s
  ·rw [if_pos c0,hu] at hn
   simp [hlt,hv,c0]
   refine call_g (add_g j c1 c2 c3 ⟨a,b,(x,y)⟩ i hun' hco') ?_
   simp [hw]
   exact ⟨_,_,_,_,hn,Sl.of rfl rfl rfl⟩
  ·rw [if_neg c0] at hn
   simp [hlt,hv,c0,hw]
   exact ⟨_,_,_,_,hn.trans hu,Sl.of rfl rfl rfl⟩
 ·obtain rfl : i = S.length:=by omega
  simp [hu]
theorem uGd : runPure Tryz.prog (underlying 174) = some (.struct #[⟨ "Unit", 3, 0, false, "", "", 0⟩, ⟨ "Want", 4, 1, false, "", "", 8⟩]) := by kernel_rfl
def gdEq (a b : GuardD) : Bool:=decide (a.unit = b.unit) && (a.thn == b.thn)
@[simp] theorem eqlGd {T : TV} {x y : Operand} {a a' : Int} {b b' : Bool} : opBin Tryz.prog T .eql 174 x y (.agg [.f (intF a),.f (boolF b)]) (.agg [.f (intF a'),.f (boolF b')]) = some (.f (.sc (.bool (decide (a = a') && (b == b'))))) :=
 (opBin_eq (by kernel_rfl) rfl rfl (pureEq2 9999 uGd (by kernel_rfl) (by decide) (by decide) (by kernel_rfl) (by kernel_rfl) (by kernel_rfl) (by kernel_rfl) (pureEqInt (k':=.i64) 9998 (by kernel_rfl)) (pureEqBool 9998 (by kernel_rfl)))).1
def gdVI (g : GuardD) (l : List GuardD) (k : Nat) (s : St) : Prop:=∃ e,Vf.Sl [(0,.f (sl (encL fGd l))),(3,.ref 0 0),(7,.f (intF l.length)),(8,.f (intF k))] 19 ([.f (intF g.unit),.f (boolF g.thn)] :: e) [] s
theorem idxGdV_g (g : GuardD) (l : List GuardD) (hl : l.length < 2^62) : ∃ i : Int,(decide (0 ≤ i) = l.any (gdEq g))∧Gives Tryz.prog 226 [sl (encL fGd l),fGd g] (intF i):=by
 cases h : l.any (gdEq g) with
 | false =>
  refine ⟨-1,rfl,Gives.of mixed Tryz.func226 rfl rfl rfl (by kernel_rfl) ?_⟩
  simp
  refine forX mixed l.length (gdVI g l) (by kernel_rfl) ⟨_,Sl.of rfl rfl rfl⟩ ?_
  rintro k ⟨t,hh,kk⟩ hk ⟨e,rfl,rfl,f,rfl⟩
  by_cases hlt : k < l.length
  ·obtain ⟨x,hx,hx'⟩:=nth_of hlt
   have hw:=wrap64 (x:=(k : Int) + 1) (by omega) (by omega)
   have hq : gdEq g x = false:=by
    have:=List.any_eq_false.1 h x (List.mem_of_getElem? hx')
    simpa using this
   unfold gdEq at hq
   simp [hlt,hx,hq,hw]
   exact ⟨_,Sl.of rfl rfl rfl⟩
  ·obtain rfl : k = l.length:=by omega
   simp
 | true =>
  have hex : ∃ k : Nat,∃ x,l[k]? = some x∧gdEq g x = true∧noneT (gdEq g) l k:=by
   clear hl
   induction l with
   | nil=>simp at h
   | cons a l ih =>
    cases ha : gdEq g a with
    | true=>exact ⟨0,a,rfl,ha,.zero⟩
    | false =>
     rw [List.any_cons,ha,Bool.false_or] at h
     obtain ⟨k,x,h1,h2,h3⟩:=ih h
     refine ⟨k + 1,x,by simpa using h1,h2,fun j y hj hy=>?_⟩
     cases j with
     | zero=>simp at hy; rw [← hy]; exact ha
     | succ j=>exact h3 j y (by omega) (by simpa using hy)
  obtain ⟨m,z,hm,hz,hno⟩:=hex
  have hml:=(List.getElem?_eq_some_iff.1 hm).1
  refine ⟨m,by simp,Gives.of mixed Tryz.func226 rfl rfl rfl (by kernel_rfl) ?_⟩
  simp
  refine forX mixed m (gdVI g l) (by kernel_rfl) ⟨_,Sl.of rfl rfl rfl⟩ ?_
  rintro k ⟨t,hh,kk⟩ hk ⟨e,rfl,rfl,f,rfl⟩
  have hlt : k < l.length:=by omega
  obtain ⟨x,hx,hx'⟩:=nth_of hlt
  have hw:=wrap64 (x:=(k : Int) + 1) (by omega) (by omega)
  by_cases hkm : k < m
  ·have hq:=hno k x hkm hx'
   unfold gdEq at hq
   simp [hlt,hx,hq,hw]
   exact ⟨hkm,_,Sl.of rfl rfl rfl⟩
  ·obtain rfl : k = m:=by omega
   rw [hm] at hx'
   obtain rfl:=Option.some.inj hx'
   unfold gdEq at hz
   simp [hlt,hx,hz]
theorem hasGdV_g (g : GuardD) (l : List GuardD) (hl : l.length < 2^62) : Gives Tryz.prog 168 [sl (encL fGd l),fGd g] (boolF (l.any (gdEq g))):=by
 refine Gives.of mixed Tryz.func168 rfl rfl rfl (by kernel_rfl) ?_
 simp
 obtain ⟨i,hi,hg⟩:=idxGdV_g g l hl
 refine call_g hg ?_
 simp [hi]
theorem excl1_g (us : List UnitD) (c : Cap) (j : Nat) (v : UnitD) (hj : us[j]? = some v) (hv : v.guards.l.length < 2^62) (g : GuardD) : Gives Tryz.prog 167 [fGd g,.fp [.sl (encL fUnit us) c],.fp [intF j]] (boolF (v.guards.l.any (gdEq ⟨g.unit,!g.thn⟩))):=by
 refine Gives.of mixed Tryz.func167 rfl rfl rfl (by kernel_rfl) ?_
 obtain ⟨hlt,_⟩:=List.getElem?_eq_some_iff.1 hj
 obtain ⟨x,hx,hx'⟩:=nth_of hlt
 rw [hj] at hx'
 obtain rfl:=Option.some.inj hx'
 simp [hlt,hx]
 refine call_g (hasGdV_g ⟨g.unit,!g.thn⟩ v.guards.l hv) ?_
 simp
theorem idxGdF_g (f : FuncId) (cs : List FV) (p : GuardD→Bool) (l : List GuardD) (hl : l.length < 2^62) (hp : ∀ x ∈ l,Gives Tryz.prog f (fGd x :: cs) (boolF (p x))) : ∃ i : Int,(decide (0 ≤ i) = l.any p)∧Gives Tryz.prog 225 [sl (encL fGd l),.fn f cs] (intF i):=by
 cases h : l.any p with
 | false =>
  refine ⟨-1,rfl,Gives.of mixed Tryz.func225 rfl rfl rfl (by kernel_rfl) ?_⟩
  simp
  refine forX mixed l.length (fun k s=>Vf.Sl [(0,.f (sl (encL fGd l))),(1,.f (.fn f cs)),(7,.f (intF l.length)),(8,.f (intF k))] 19 [] [] s) (by kernel_rfl) (Sl.of rfl rfl rfl) ?_
  rintro k ⟨t,hh,kk⟩ hk ⟨rfl,rfl,f,rfl⟩
  by_cases hlt : k < l.length
  ·obtain ⟨x,hx,hx'⟩:=nth_of hlt
   have hw:=wrap64 (x:=(k : Int) + 1) (by omega) (by omega)
   have hq : p x = false:=by
    have:=List.any_eq_false.1 h x (List.mem_of_getElem? hx')
    simpa using this
   simp [hlt,hx]
   refine call_g (hp x (List.mem_of_getElem? hx')) ?_
   simp [hq,hw]
   exact Sl.of rfl rfl rfl
  ·obtain rfl : k = l.length:=by omega
   simp
 | true =>
  have hex : ∃ k : Nat,∃ x,l[k]? = some x∧p x = true∧noneT p l k:=by
   clear hp hl
   induction l with
   | nil=>simp at h
   | cons a l ih =>
    cases ha : p a with
    | true=>exact ⟨0,a,rfl,ha,.zero⟩
    | false =>
     rw [List.any_cons,ha,Bool.false_or] at h
     obtain ⟨k,x,h1,h2,h3⟩:=ih h
     refine ⟨k + 1,x,by simpa using h1,h2,fun j y hj hy=>?_⟩
     cases j with
     | zero=>simp at hy; rw [← hy]; exact ha
     | succ j=>exact h3 j y (by omega) (by simpa using hy)
  obtain ⟨m,z,hm,hz,hno⟩:=hex
  have hml:=(List.getElem?_eq_some_iff.1 hm).1
  refine ⟨m,by simp,Gives.of mixed Tryz.func225 rfl rfl rfl (by kernel_rfl) ?_⟩
  simp
  refine forX mixed m (fun k s=>Vf.Sl [(0,.f (sl (encL fGd l))),(1,.f (.fn f cs)),(7,.f (intF l.length)),(8,.f (intF k))] 19 [] [] s) (by kernel_rfl) (Sl.of rfl rfl rfl) ?_
  rintro k ⟨t,hh,kk⟩ hk ⟨rfl,rfl,f,rfl⟩
  have hlt : k < l.length:=by omega
  obtain ⟨x,hx,hx'⟩:=nth_of hlt
  have hw:=wrap64 (x:=(k : Int) + 1) (by omega) (by omega)
  simp [hlt,hx]
  refine call_g (hp x (List.mem_of_getElem? hx')) ?_
  by_cases hkm : k < m
  ·simp [hno k x hkm hx',hw]
   exact ⟨hkm,Sl.of rfl rfl rfl⟩
  ·obtain rfl : k = m:=by omega
   rw [hm] at hx'
   obtain rfl:=Option.some.inj hx'
   simp [hz]
theorem hasGdF_g (f : FuncId) (cs : List FV) (p : GuardD→Bool) (l : List GuardD) (hl : l.length < 2^62) (hp : ∀ x ∈ l,Gives Tryz.prog f (fGd x :: cs) (boolF (p x))) : Gives Tryz.prog 166 [sl (encL fGd l),.fn f cs] (boolF (l.any p)):=by
 refine Gives.of mixed Tryz.func166 rfl rfl rfl (by kernel_rfl) ?_
 simp
 obtain ⟨i,hi,hg⟩:=idxGdF_g f cs p l hl hp
 refine call_g hg ?_
 simp [hi]
def exclM (u v : UnitD) : Bool:=u.guards.l.any fun g=>v.guards.l.any (gdEq ⟨g.unit,!g.thn⟩)
theorem excl_g (us : List UnitD) (c : Cap) (i j : Nat) (u v : UnitD) (hi : us[i]? = some u) (hj : us[j]? = some v) (hu : u.guards.l.length < 2^62) (hv : v.guards.l.length < 2^62) : Gives Tryz.prog 115 [.sl (encL fUnit us) c,intF i,intF j] (boolF (exclM u v)):=by
 refine Gives.of mixed Tryz.func115 rfl rfl rfl (by kernel_rfl) ?_
 obtain ⟨hlt,_⟩:=List.getElem?_eq_some_iff.1 hi
 obtain ⟨hlt2,_⟩:=List.getElem?_eq_some_iff.1 hj
 obtain ⟨x,hx,hx'⟩:=nth_of hlt
 rw [hi] at hx'
 obtain rfl:=Option.some.inj hx'
 have n1 : ¬ ((i : Int) < 0):=by omega
 have n2 : ¬ ((j : Int) < 0):=by omega
 have n3 : ¬ us.length ≤ i:=by omega
 have n4 : ¬ us.length ≤ j:=by omega
 simp [hlt,hlt2,hx,n1,n2,n3,n4]
 refine call_b (hasGdF_g 167 [.fp [.sl (encL fUnit us) c],.fp [intF j]] (fun g=>v.guards.l.any (gdEq ⟨g.unit,!g.thn⟩)) u.guards.l hu (fun g _=>excl1_g us c j v hj hv g)) ?_ ?_
 ·simp [fzB,fzC,mapO,cellFz,fzA]
 simp
 rfl
def rowS (R : Nat→List Int) (k n : Nat) : List AV:=(List.range n).map fun a=>if a < k then .f (ownF (encL intF (R a))) else .f (.sl [] .nil)
@[simp] theorem rowS_len {R : Nat→List Int} {k n : Nat} : (rowS R k n).length = n:=by simp [rowS]
theorem rowS_set (R : Nat→List Int) {k n : Nat} (hk : k < n) : (rowS R k n).set k (.f (ownF (encL intF (R k)))) = rowS R (k + 1) n:=by
 apply List.ext_getElem
 ·simp
 ·intro i h1 h2
  simp only [List.length_set,rowS_len] at h1
  by_cases h : k = i
  ·subst h; simp [rowS]
  ·rw [List.getElem_set_ne h]
   simp only [rowS,List.getElem_map,List.getElem_range]
   by_cases hlt : i < k
   ·rw [if_pos hlt,if_pos (by omega)]
   ·rw [if_neg hlt,if_neg (by omega)]
theorem rowS_at (R : Nat→List Int) {a k n : Nat} (ha : a < k) (hn : a < n) : ((rowS R k n).drop a).head? = some (.f (ownF (encL intF (R a)))):=by
 simp [rowS,List.head?_drop,hn,ha]
theorem make_s {h : List (List AV)} {k : List (Nat × Nat)} {i n : Nat} (R : Nat→List Int) (hn : n < 2^32) : opMake (tyOf Tryz.prog) h k 58 (isZero (.tmp i)) (.f (.sc (.int .i64 n))) (.f (.sc (.int .i64 n))) = some (.ms h.length 0 n n 1,h ++ [rowS R 0 n],k):=by
 have hz : ∀ n,zeroRow [.f (.sl [] .nil)] n = rowS R 0 n:=fun n=>by
  apply List.ext_getElem
  ·have : ∀ n,(zeroRow [AV.f (.sl [] .nil)] n).length = n:=fun n=>by
    induction n with
    | zero=>rfl
    | succ n ih=>simp [zeroRow,ih]
   rw [this]; simp
  ·intro i h1 h2
   have : ∀ n i (h : i < (zeroRow [AV.f (.sl [] .nil)] n).length),(zeroRow [AV.f (.sl [] .nil)] n)[i] = .f (.sl [] .nil):=fun n=>by
    induction n with
    | zero=>intro i h; simp [zeroRow] at h
    | succ n ih =>
     intro i h
     cases i with
     | zero=>rfl
     | succ i=>simpa [zeroRow] using ih i (by simpa [zeroRow] using h)
   rw [this]
   simp [rowS]
 simp only [opMake,idx,isZero,ty58,Int.natCast_nonneg,if_true,Int.toNat_natCast]
 simp only [ty29]
 rw [if_neg (by simp; omega),if_neg (by simp)]
 simp [AV.one,hz]
def rstH (us : List UnitD) (M : Nat→List Int) (k : Nat) : List (List AV):=(List.range k).flatMap fun a=>[[.f (intF ((us.getD a ⟨0,⟨[]⟩,⟨[]⟩⟩).table)),.f (sl (encL fEx ((us.getD a ⟨0,⟨[]⟩,⟨[]⟩⟩).cond.l))),.f (sl (encL fGd ((us.getD a ⟨0,⟨[]⟩,⟨[]⟩⟩).guards.l)))],rowA (M a)]
theorem rstH_len (us : List UnitD) (M : Nat→List Int) (k : Nat) : (rstH us M k).length = 2 * k:=by
 induction k with
 | zero=>rfl
 | succ k ih=>simp only [rstH,List.range_succ,List.flatMap_append,List.length_append] at ih ⊢; rw [ih]; simp; omega
theorem rstH_next (us : List UnitD) (M : Nat→List Int) {k : Nat} {u : UnitD} (hu : us[k]? = some u) : rstH us M (k + 1) = rstH us M k ++ [[.f (intF u.table),.f (sl (encL fEx u.cond.l)),.f (sl (encL fGd u.guards.l))],rowA (M k)]:=by
 simp [rstH,List.range_succ,hu]
theorem rstH_at (us : List UnitD) (M : Nat→List Int) {a k : Nat} (ha : a < k) : (rstH us M k)[2 * a + 1]? = some (rowA (M a)):=by
 induction k with
 | zero=>omega
 | succ k ih =>
  have e : rstH us M (k + 1) = rstH us M k ++ [[.f (intF ((us.getD k ⟨0,⟨[]⟩,⟨[]⟩⟩).table)),.f (sl (encL fEx ((us.getD k ⟨0,⟨[]⟩,⟨[]⟩⟩).cond.l))),.f (sl (encL fGd ((us.getD k ⟨0,⟨[]⟩,⟨[]⟩⟩).guards.l)))],rowA (M k)]:=by simp [rstH,List.range_succ]
  have hl:=rstH_len us M k
  rw [e]
  by_cases h : a < k
  ·rw [List.getElem?_append_left (by omega)]; exact ih h
  ·obtain rfl : a = k:=by omega
   rw [List.getElem?_append_right (by omega),hl]
   simp
theorem rstH_set (us : List UnitD) (M : Nat→List Int) {a k : Nat} (ha : a < k) (r : List Int) : (rstH us M k).set (2 * a + 1) (rowA r) = rstH us (fun b=>if b = a then r else M b) k:=by
 induction k with
 | zero=>omega
 | succ k ih =>
  have e : ∀ M : Nat→List Int,rstH us M (k + 1) = rstH us M k ++ [[.f (intF ((us.getD k ⟨0,⟨[]⟩,⟨[]⟩⟩).table)),.f (sl (encL fEx ((us.getD k ⟨0,⟨[]⟩,⟨[]⟩⟩).cond.l))),.f (sl (encL fGd ((us.getD k ⟨0,⟨[]⟩,⟨[]⟩⟩).guards.l)))],rowA (M k)]:=fun M=>by simp [rstH,List.range_succ]
  have hl:=rstH_len us M k
  rw [e,e]
  by_cases h : a < k
  ·rw [List.set_append_left _ _ (by omega),ih h,if_neg (by omega)]
  ·obtain rfl : a = k:=by omega
   rw [List.set_append_right _ _ (by omega),hl,if_pos rfl]
   have e2 : rstH us (fun b=>if b = a then r else M b) a = rstH us M a:=by
    unfold rstH
    simp only [List.flatMap_def]
    congr 1
    apply List.map_congr_left
    intro b hb
    have:=List.mem_range.1 hb
    rw [if_neg (by omega)]
   rw [e2]
   simp
def rowP (k n : Nat) : List AV:=(List.range n).map fun a=>if a < k then .ms (2 * a + 5) 0 n n 1 else .f (.sl [] .nil)
@[simp] theorem rowP_len {k n : Nat} : (rowP k n).length = n:=by simp [rowP]
theorem rowP_set {k n : Nat} (hk : k < n) : (rowP k n).set k (.ms (2 * k + 5) 0 n n 1) = rowP (k + 1) n:=by
 apply List.ext_getElem
 ·simp
 ·intro i h1 h2
  simp only [List.length_set,rowP_len] at h1
  by_cases h : k = i
  ·subst h; simp [rowP]
  ·rw [List.getElem_set_ne h]
   simp only [rowP,List.getElem_map,List.getElem_range]
   by_cases hlt : i < k
   ·rw [if_pos hlt,if_pos (by omega)]
   ·rw [if_neg hlt,if_neg (by omega)]
theorem rowP_at {a k n : Nat} (ha : a < k) (hn : a < n) : ((rowP k n).drop a).head? = some (.ms (2 * a + 5) 0 n n 1):=by
 simp [rowP,List.head?_drop,hn,ha]
theorem rowP_zero (R : Nat→List Int) (n : Nat) : rowS R 0 n = rowP 0 n:=by simp [rowS,rowP]
def comB (l m : List Int) : Bool:=l.any fun x=>m.any fun y=>x == y
def depM (Rd Wr : Nat→List Int) (us : List UnitD) (a b : Nat) : Int:=if b ≤ a then 0 else match us[a]?,us[b]? with
 | some u,some v=>if exclM u v then 0 else if (v.guards.l.any fun g=>g.unit == (a : Int)) || comB (Rd b) (Wr a) || comB (Wr b) (Wr a) then 2 else if comB (Wr b) (Rd a) then 1 else 0
 | _,_=>0
def rowTo (Rd Wr : Nat→List Int) (us : List UnitD) (i j a : Nat) : List Int:=(List.range us.length).map fun b=>if a < i ∨ (a = i∧b < j) then depM Rd Wr us a b else 0
def depsM (Rd Wr : Nat→List Int) (us : List UnitD) : List (List Int):=(List.range us.length).map fun a=>(List.range us.length).map fun b=>depM Rd Wr us a b
def dbM (d : PrgD) (us : List UnitD) (cu : Cap) (ra wa : Nat) (A1 A2 : List AV) (s : St) : Prop :=
 Vf.Sl [(1,.f (.sl (encL fUnit us) cu)),(2,.ref 0 0),(5,.f (intF us.length)),(6,.ms ra 0 us.length us.length 1),(7,.ms wa 0 us.length us.length 1)] 120 [aPrg d,A1,A2] [] s
def dbH (d : PrgD) (ra : Nat) (A1 A2 D : List AV) (r : List (List AV)) : List (List AV):=aPrg d :: (if ra = 1 then A1 else A2) :: (if ra = 1 then A2 else A1) :: D :: r
@[simp] theorem dbH_app {d : PrgD} {ra : Nat} {A1 A2 D : List AV} {r x : List (List AV)} : dbH d ra A1 A2 D r ++ x = dbH d ra A1 A2 D (r ++ x):=rfl
@[simp] theorem dbH_len {d : PrgD} {ra : Nat} {A1 A2 D : List AV} {r : List (List AV)} : (dbH d ra A1 A2 D r).length = r.length + 4:=rfl
@[simp] theorem dbH_0 {d : PrgD} {ra : Nat} {A1 A2 D : List AV} {r : List (List AV)} : ix (dbH d ra A1 A2 D r) 0 = some (aPrg d):=rfl
@[simp] theorem dbH_3 {d : PrgD} {ra : Nat} {A1 A2 D : List AV} {r : List (List AV)} : ix (dbH d ra A1 A2 D r) 3 = some D:=rfl
@[simp] theorem dbH_n {d : PrgD} {ra n : Nat} {A1 A2 D : List AV} {r : List (List AV)} : ix (dbH d ra A1 A2 D r) (n + 4) = ix r n:=rfl
@[simp] theorem dbH_s3 {d : PrgD} {ra : Nat} {A1 A2 D c : List AV} {r : List (List AV)} : (dbH d ra A1 A2 D r).set 3 c = dbH d ra A1 A2 c r:=rfl
@[simp] theorem dbH_sn {d : PrgD} {ra n : Nat} {A1 A2 D c : List AV} {r : List (List AV)} : (dbH d ra A1 A2 D r).set (n + 4) c = dbH d ra A1 A2 D (r.set n c):=rfl
def Sides (ra wa : Nat) : Prop:=(ra = 1∧wa = 2) ∨ (ra = 2∧wa = 1)
theorem dbH_ra {ra wa : Nat} (h : Sides ra wa) (d : PrgD) (A1 A2 D : List AV) (r : List (List AV)) : ix (dbH d ra A1 A2 D r) ra = some A1:=by rcases h with ⟨rfl,rfl⟩ | ⟨rfl,rfl⟩ <;> rfl
theorem dbH_wa {ra wa : Nat} (h : Sides ra wa) (d : PrgD) (A1 A2 D : List AV) (r : List (List AV)) : ix (dbH d ra A1 A2 D r) wa = some A2:=by rcases h with ⟨rfl,rfl⟩ | ⟨rfl,rfl⟩ <;> rfl
theorem dbH_sra {ra wa : Nat} (h : Sides ra wa) (d : PrgD) (A1 A2 D c : List AV) (r : List (List AV)) : (dbH d ra A1 A2 D r).set ra c = dbH d ra c A2 D r:=by rcases h with ⟨rfl,rfl⟩ | ⟨rfl,rfl⟩ <;> rfl
theorem dbH_swa {ra wa : Nat} (h : Sides ra wa) (d : PrgD) (A1 A2 D c : List AV) (r : List (List AV)) : (dbH d ra A1 A2 D r).set wa c = dbH d ra A1 c D r:=by rcases h with ⟨rfl,rfl⟩ | ⟨rfl,rfl⟩ <;> rfl
def zeroI (n : Nat) (_ : Nat) : List Int:=List.replicate n 0
def db1 (d : PrgD) (us : List UnitD) (cu : Cap) (Rd Wr : Nat→List Int) (ra wa : Nat) (i : Nat) (s : St) : Prop :=
 Vf.Sl [(1,.f (.sl (encL fUnit us) cu)),(2,.ref 0 0),(5,.f (intF us.length)),(6,.ms ra 0 us.length us.length 1),(7,.ms wa 0 us.length us.length 1),(8,.ms 3 0 us.length us.length 1),(21,.f (.sl (encL fUnit us) cu)),(22,.f (intF us.length)),(23,.f (intF i))] 120
  (dbH d ra (rowS Rd i us.length) (rowS Wr i us.length) (rowP i us.length) (rstH us (zeroI us.length) i)) [] s
theorem rowTo_zero (Rd Wr : Nat→List Int) (us : List UnitD) : zeroI us.length = rowTo Rd Wr us 0 0:=by
 funext a
 apply List.ext_getElem
 ·simp [zeroI,rowTo]
 ·intro i h1 h2
  simp [zeroI,rowTo]
theorem rowTo_same {Rd Wr : Nat→List Int} {us : List UnitD} {i j : Nat} (h : depM Rd Wr us i j = 0) : rowTo Rd Wr us i (j + 1) = rowTo Rd Wr us i j:=by
 funext a
 unfold rowTo
 apply List.map_congr_left
 intro b hb
 by_cases h1 : a < i
 ·rw [if_pos (.inl h1),if_pos (.inl h1)]
 by_cases h2 : a = i
 ·subst h2
  by_cases h3 : b < j
  ·rw [if_pos (by omega),if_pos (by omega)]
  ·by_cases h4 : b = j
   ·subst h4; rw [if_pos (by omega),if_neg (by omega),h]
   ·rw [if_neg (by omega),if_neg (by omega)]
 ·rw [if_neg (by omega),if_neg (by omega)]
theorem rowTo_put {Rd Wr : Nat→List Int} {us : List UnitD} {i j : Nat} {x : Int} (h : depM Rd Wr us i j = x) (hj : j < us.length) : (fun b=>if b = i then (rowTo Rd Wr us i j i).set j x else rowTo Rd Wr us i j b) = rowTo Rd Wr us i (j + 1):=by
 funext a
 by_cases h2 : a = i
 ·subst h2
  rw [if_pos rfl]
  apply List.ext_getElem
  ·simp [rowTo]
  ·intro b h3 h4
   by_cases h5 : j = b
   ·subst h5; simp [rowTo,h]
   ·rw [List.getElem_set_ne h5]
    simp only [rowTo,List.getElem_map,List.getElem_range]
    by_cases h6 : b < j
    ·rw [if_pos (by simp [h6]),if_pos (by simp; omega)]
    ·rw [if_neg (by omega),if_neg (by omega)]
 ·rw [if_neg h2]
  unfold rowTo
  apply List.map_congr_left
  intro b hb
  by_cases h1 : a < i
  ·rw [if_pos (.inl h1),if_pos (.inl h1)]
  ·rw [if_neg (by omega),if_neg (by omega)]
theorem rowTo_next (Rd Wr : Nat→List Int) (us : List UnitD) (i : Nat) : rowTo Rd Wr us i us.length = rowTo Rd Wr us (i + 1) 0:=by
 funext a
 unfold rowTo
 apply List.map_congr_left
 intro b hb
 have hb:=List.mem_range.1 hb
 by_cases h1 : a < i + 1
 ·rw [if_pos (by omega),if_pos (.inl h1)]
 ·rw [if_neg (by omega),if_neg (by omega)]
def db2 (d : PrgD) (us : List UnitD) (cu : Cap) (Rd Wr : Nat→List Int) (ra wa : Nat) (i : Nat) (s : St) : Prop :=
 Vf.Sl [(1,.f (.sl (encL fUnit us) cu)),(5,.f (intF us.length)),(6,.ms ra 0 us.length us.length 1),(7,.ms wa 0 us.length us.length 1),(8,.ms 3 0 us.length us.length 1),(46,.f (intF us.length)),(47,.f (intF i))] 120
  (dbH d ra (rowS Rd us.length us.length) (rowS Wr us.length us.length) (rowP us.length us.length) (rstH us (rowTo Rd Wr us i 0) us.length)) [] s
def db3 (d : PrgD) (us : List UnitD) (cu : Cap) (Rd Wr : Nat→List Int) (ra wa : Nat) (i j : Nat) (s : St) : Prop :=
 Vf.Sl [(1,.f (.sl (encL fUnit us) cu)),(5,.f (intF us.length)),(6,.ms ra 0 us.length us.length 1),(7,.ms wa 0 us.length us.length 1),(8,.ms 3 0 us.length us.length 1),(11,.f (intF i)),(46,.f (intF us.length)),(47,.f (intF i)),(50,.f (intF us.length)),(51,.f (intF j))] 120
  (dbH d ra (rowS Rd us.length us.length) (rowS Wr us.length us.length) (rowP us.length us.length) (rstH us (rowTo Rd Wr us i j) us.length)) [] s
def db4 (d : PrgD) (us : List UnitD) (cu : Cap) (Rd Wr : Nat→List Int) (ra wa : Nat) (i j : Nat) (s : St) : Prop :=
 Vf.Sl [(1,.f (.sl (encL fUnit us) cu)),(5,.f (intF us.length)),(6,.ms ra 0 us.length us.length 1),(7,.ms wa 0 us.length us.length 1),(8,.ms 3 0 us.length us.length 1),(11,.f (intF i)),(12,.f (intF j)),(46,.f (intF us.length)),(47,.f (intF i)),(50,.f (intF us.length)),(51,.f (intF j))] 120
  (dbH d ra (rowS Rd us.length us.length) (rowS Wr us.length us.length) (rowP us.length us.length) (rstH us (rowTo Rd Wr us i (j + 1)) us.length)) [] s
theorem mapO_all {α β γ : Type} {f : β→Option γ} {g : α→β} {h : α→γ} : ∀ {l : List α},(∀ a ∈ l,f (g a) = some (h a))→mapO f (l.map g) = some (l.map h)
 | [],_=>rfl
 | x :: l,hl=>by
  simp only [List.map_cons,mapO]
  rw [hl x (.head _),mapO_all fun a ha=>hl a (.tail _ ha)]
theorem ret_rows {d : PrgD} {ra : Nat} {A1 A2 : List AV} {us : List UnitD} {M : Nat→List Int} {R : FV→Prop} (hM : ∀ a,(M a).length = us.length) (h : R (sl (encL rowF ((List.range us.length).map M)))) : RetV (dbH d ra A1 A2 (rowP us.length us.length) (rstH us M us.length)) (.ms 3 0 us.length us.length 1) R:=by
 refine ⟨2,_,?_,h⟩
 generalize hH : dbH d ra A1 A2 (rowP us.length us.length) (rstH us M us.length) = H
 have h3 : ix H 3 = some (rowP us.length us.length):=by rw [← hH]; rfl
 have hrow : ∀ a ∈ List.range us.length,fzH 0 H 1 (if a < us.length then AV.ms (2 * a + 5) 0 us.length us.length 1 else .f (.sl [] .nil)) = some (rowF (M a)):=fun a ha=>by
  have ha:=List.mem_range.1 ha
  rw [if_pos ha]
  have hx : ix H (2 * a + 5) = some (rowA (M a)):=by
   rw [← hH]
   exact rstH_at us M ha
  show (match ix H (2 * a + 5) with
   | some cs=>if _ then _ else _
   | none=>none) = _
  rw [hx]
  have ht : ((rowA (M a)).drop 0).take (us.length * 1) = rowA (M a):=by rw [← hM a]; simp [List.take_of_length_le]
  simp only
  rw [ht,if_pos ⟨by omega,by omega,by simp [hM a],by omega,rowA_one (M a)⟩,rowA_fz]
  simp only
  rw [if_pos (ints_one (M a))]
  have hc:=chunk_ints (M a)
  rw [hM a] at hc
  show some (FV.sl (chunk false 1 us.length ((M a).map intF)) .un) = _
  rw [hc]; rfl
 show (match ix H 3 with
  | some cs=>if _ then _ else _
  | none=>none) = _
 rw [h3]
 have ht : ((rowP us.length us.length).drop 0).take (us.length * 1) = rowP us.length us.length:=by simp [List.take_of_length_le]
 have hone : (rowP us.length us.length).all AV.one = true:=by
  simp only [rowP,List.all_map,List.all_eq_true]
  intro a _
  simp only [Function.comp]
  split <;> rfl
 simp only
 rw [ht,if_pos ⟨by omega,by omega,by simp,by omega,hone⟩]
 have hm : mapO (fzH 0 H 1) (rowP us.length us.length) = some ((List.range us.length).map fun a=>rowF (M a)):=mapO_all hrow
 rw [hm]
 simp only
 have hall : ((List.range us.length).map fun a=>rowF (M a)).all (fun y=>(AV.f y).one) = true:=by
  simp only [List.all_map,List.all_eq_true]
  intro a _
  rfl
 rw [if_pos hall]
 have hch : ∀ (l : List FV),chunk false 1 l.length l = l:=fun l=>by
  induction l with
  | nil=>rfl
  | cons x r ih=>simpa [chunk] using ih
 have hch2:=hch ((List.range us.length).map fun a=>rowF (M a))
 simp only [List.length_map,List.length_range] at hch2
 show some (FV.sl (chunk false 1 us.length ((List.range us.length).map fun a=>rowF (M a))) .un) = _
 rw [hch2]
 simp [encL]
theorem rowTo_len (Rd Wr : Nat→List Int) (us : List UnitD) (i j a : Nat) : (rowTo Rd Wr us i j a).length = us.length:=by simp [rowTo]
theorem rowTo_end (Rd Wr : Nat→List Int) (us : List UnitD) : (List.range us.length).map (rowTo Rd Wr us us.length 0) = depsM Rd Wr us:=by
 unfold depsM
 apply List.map_congr_left
 intro a ha
 have ha:=List.mem_range.1 ha
 unfold rowTo
 apply List.map_congr_left
 intro b hb
 rw [if_pos (.inl ha)]
theorem deps_g (d : PrgD) (us : List UnitD) (cu : Cap) (Rd Wr : Nat→List Int) (hn : us.length < 100000) (hRl : ∀ a,(Rd a).length ≤ maxLen) (hWl : ∀ a,(Wr a).length ≤ maxLen) (hg : ∀ u ∈ us,u.guards.l.length < 2^62)
  (hR : ∀ (a : Nat) u,us[a]? = some u→Gives Tryz.prog 113 [fPrg d,fUnit u] (ownF (encL intF (Rd a))))
  (hW : ∀ (a : Nat) u,us[a]? = some u→Gives Tryz.prog 114 [fPrg d,fUnit u] (ownF (encL intF (Wr a)))) :
  Gives Tryz.prog 56 [fPrg d,.sl (encL fUnit us) cu] (sl (encL rowF (depsM Rd Wr us))):=by
 refine Gives.ofW Tryz.func56 rfl rfl rfl (by decide) ?_
 refine W.two (W.x mixed (by kernel_rfl) ?_)
 simp [fPrg,cPrg]
 refine W.scp (W.two (W.x mixed (by kernel_rfl) ?_))
 simp
 have hn2 : us.length < 2^32:=by omega
 refine W.two (W.mono (Q:=fun ex s'=>ex = .normal∧∃ ra wa,((ra = 1∧wa = 2) ∨ (ra = 2∧wa = 1))∧dbM d us cu ra wa (rowS Rd 0 us.length) (rowS Rd 0 us.length) s') (W.two_orders mixed (x:=1) (y:=3) (l1:=[0,1,2,3,4,5]) (l2:=[0,2,3,1,4,5]) (by kernel_rfl) rfl rfl ?_ ?_) ?_)
 ·simp [make_s Rd hn2]
  exact ⟨1,2,.inl ⟨rfl,rfl⟩,Sl.of rfl rfl rfl⟩
 ·simp [make_s Rd hn2]
  exact ⟨2,1,.inr ⟨rfl,rfl⟩,Sl.of rfl rfl rfl⟩
 rintro _ ⟨ts,hh,kk⟩ ⟨rfl,ra,wa,hrw,rfl,rfl,ff,rfl⟩
 replace hrw : Sides ra wa:=hrw
 have hra:=dbH_ra hrw
 have hwa:=dbH_wa hrw
 have hsra:=dbH_sra hrw
 have hswa:=dbH_swa hrw
 have hh0 : [aPrg d,rowP 0 us.length,rowP 0 us.length,rowP 0 us.length] = dbH d ra (rowS Rd 0 us.length) (rowS Wr 0 us.length) (rowP 0 us.length) (rstH us (zeroI us.length) 0):=by
  simp [dbH,rstH,rowP_zero]
 simp
 refine W.two (W.x mixed (by kernel_rfl) ?_)
 simp [make_s Rd hn2,rowP_zero]
 rw [hh0]
 refine W.two (W.two (W.x mixed (by kernel_rfl) ?_))
 simp
 refine W.blk (forW us.length (db1 d us cu Rd Wr ra wa) (Sl.of rfl rfl rfl) ?_)
 rintro i ⟨ts,hh,kk⟩ hi ⟨rfl,rfl,ff,rfl⟩
 by_cases hlt : i < us.length
 ·obtain ⟨u,hu,hu'⟩:=nth_of hlt
  have hw:=wrap64 (x:=(i : Int) + 1) (by omega) (by omega)
  refine W.two (W.x mixed (by kernel_rfl) ?_)
  simp [hlt]
  refine W.two (W.x mixed (by kernel_rfl) ?_)
  simp
  refine W.two (W.blk (W.two (W.x mixed (by kernel_rfl) ?_)))
  simp [hu,hlt]
  refine W.two (W.x mixed (by kernel_rfl) ?_)
  obtain ⟨c1,hc1⟩:=ownF_is (encL intF (Rd i))
  obtain ⟨c2,hc2⟩:=ownF_is (encL intF (Wr i))
  have hRi:=hR i u hu'
  have hWi:=hW i u hu'
  rw [hc1] at hRi
  rw [hc2] at hWi
  have hs1 : (rowS Rd i us.length).set i (.f (.sl (encL intF (Rd i)) c1)) = rowS Rd (i + 1) us.length:=by rw [← hc1]; exact rowS_set Rd hlt
  have hs2 : (rowS Wr i us.length).set i (.f (.sl (encL intF (Wr i)) c2)) = rowS Wr (i + 1) us.length:=by rw [← hc2]; exact rowS_set Wr hlt
  simp [aPrg]
  refine call_g hRi ?_
  simp [aPrg]
  refine call_g hWi ?_
  have hi1 : i + 1 ≤ us.length:=hlt
  have hs3:=rowP_set hlt
  have hlr:=rstH_len us (zeroI us.length) i
  simp [hlt,hi1,hra,hwa,hsra,hswa,hs1,hs2]
  refine W.x mixed (by kernel_rfl) ?_
  simp [make_i hn2,hlt,hi1,hlr,hs3]
  refine W.x mixed (by kernel_rfl) ?_
  simp [hw]
  unfold db1
  rw [rstH_next us _ hu']
  exact Sl.of rfl rfl rfl
 obtain rfl : i = us.length:=by omega
 refine W.x mixed (by kernel_rfl) ?_
 simp
 rw [rowTo_zero Rd Wr us]
 refine W.two (W.x mixed (by kernel_rfl) ?_)
 simp
 refine W.two (W.two (W.x mixed (by kernel_rfl) ?_))
 simp
 refine W.blk (forW us.length (db2 d us cu Rd Wr ra wa) (Sl.of rfl rfl rfl) ?_)
 clear hi hlt
 rintro i ⟨ts,hh,kk⟩ hi ⟨rfl,rfl,ff,rfl⟩
 by_cases hlt : i < us.length
 case neg =>
  obtain rfl : i = us.length:=by omega
  refine W.x mixed (by kernel_rfl) ?_
  simp
  refine W.x mixed (by kernel_rfl) ?_
  simp
  exact ret_rows (rowTo_len Rd Wr us us.length 0) (by rw [rowTo_end])
 obtain ⟨u,hu,hu'⟩:=nth_of hlt
 have hw:=wrap64 (x:=(i : Int) + 1) (by omega) (by omega)
 refine W.two (W.x mixed (by kernel_rfl) ?_)
 simp [hlt]
 refine W.two (W.x mixed (by kernel_rfl) ?_)
 simp
 refine W.two (W.blk (W.two (W.x mixed (by kernel_rfl) ?_)))
 simp
 refine W.two (W.x mixed (by kernel_rfl) ?_)
 simp
 refine W.blk (forW us.length (db3 d us cu Rd Wr ra wa i) (Sl.of rfl rfl rfl) ?_)
 rintro j ⟨ts,hh,kk⟩ hj ⟨rfl,rfl,ff,rfl⟩
 by_cases hjl : j < us.length
 case neg =>
  obtain rfl : j = us.length:=by omega
  refine W.x mixed (by kernel_rfl) ?_
  simp
  refine W.x mixed (by kernel_rfl) ?_
  simp [hw]
  unfold db2
  rw [← rowTo_next]
  exact Sl.of rfl rfl rfl
 obtain ⟨v,hv,hv'⟩:=nth_of hjl
 have hwj:=wrap64 (x:=(j : Int) + 1) (by omega) (by omega)
 refine W.two (W.x mixed (by kernel_rfl) ?_)
 simp [hjl]
 refine W.two (W.x mixed (by kernel_rfl) ?_)
 simp
 refine W.two (W.blk (W.two (W.x mixed (by kernel_rfl) ?_)))
 simp
 refine W.two (W.x mixed (by kernel_rfl) ?_)
 by_cases hji : j ≤ i
 ·simp [hji]
  refine W.x mixed (by kernel_rfl) ?_
  simp [hwj]
  unfold db3
  rw [rowTo_same (show depM Rd Wr us i j = 0 from if_pos hji)]
  exact Sl.of rfl rfl rfl
 simp [hji]
 have hd : depM Rd Wr us i j = if exclM u v then 0 else if (v.guards.l.any fun g=>g.unit == (i : Int)) || comB (Rd j) (Wr i) || comB (Wr j) (Wr i) then 2 else if comB (Wr j) (Rd i) then 1 else 0:=by
  unfold depM
  rw [if_neg hji,hu',hv']
 obtain ⟨c1,hc1⟩:=ownF_is (encL intF (Rd j))
 obtain ⟨c2,hc2⟩:=ownF_is (encL intF (Wr i))
 obtain ⟨c3,hc3⟩:=ownF_is (encL intF (Wr j))
 obtain ⟨c4,hc4⟩:=ownF_is (encL intF (Rd i))
 have r1:=rowS_at Rd hjl hjl
 have r2:=rowS_at Wr hlt hlt
 have r3:=rowS_at Wr hjl hjl
 have r4:=rowS_at Rd hlt hlt
 have r5:=rowP_at hlt hlt
 rw [hc1] at r1
 rw [hc2] at r2
 rw [hc3] at r3
 rw [hc4] at r4
 have r6:=rstH_at us (rowTo Rd Wr us i j) hlt
 refine W.two (W.mono (Q:=fun ex s'=>ex = .normal∧db4 d us cu Rd Wr ra wa i j s') (W.x mixed (by kernel_rfl) ?_) ?_)
 ·simp
  refine call_g (excl_g us cu i j u v hu' hv' (hg u (List.mem_of_getElem? hu')) (hg v (List.mem_of_getElem? hv'))) ?_
  cases hq : exclM u v with
  | true =>
   simp
   unfold db4
   rw [rowTo_same (by rw [hd,hq]; rfl)]
   exact Sl.of rfl rfl rfl
  | false =>
   have r6 : ix (rstH us (rowTo Rd Wr us i j) us.length) (2 * i + 1) = some (rowA (rowTo Rd Wr us i j i)):=rstH_at us (rowTo Rd Wr us i j) hlt
   have hrl : (rowA (rowTo Rd Wr us i j i)).length = us.length:=by simp [rowA,rowTo]
   have hi1 : i + 1 ≤ us.length:=hlt
   have hj1 : j + 1 ≤ us.length:=hjl
   have hput : ∀ x : Int,depM Rd Wr us i j = x→(rstH us (rowTo Rd Wr us i j) us.length).set (2 * i + 1) (rowA ((rowTo Rd Wr us i j i).set j x)) = rstH us (rowTo Rd Wr us i (j + 1)) us.length:=fun x hx=>by
    rw [← rowTo_put hx hjl,← rstH_set us (rowTo Rd Wr us i j) hlt]
   rw [hq,if_neg (by decide)] at hd
   have q1:=common_g (Rd j) (Wr i) c1 c2 (hRl j) (hWl i)
   have q2:=common_g (Wr j) (Wr i) c3 c2 (hWl j) (hWl i)
   have q3:=common_g (Wr j) (Rd i) c3 c4 (hWl j) (hRl i)
   simp [hjl,hv]
   refine call_g (guarded_g v i (Nat.le_trans (Nat.le_of_lt (hg v (List.mem_of_getElem? hv'))) (by decide))) ?_
   simp
   cases hq2 : (v.guards.l.any fun g=>g.unit == (i : Int)) with
   | true =>
    simp only [hq2,Bool.true_or,if_true] at hd
    simp [hra,hwa,hi1,hlt,hjl,r5,r6,hrl,hj1,hput 2 hd]
    unfold db4
    exact Sl.of rfl rfl rfl
   | false =>
    rw [hq2,Bool.false_or] at hd
    simp [hra,hwa,hjl,hlt,r1,r2]
    refine call_g q1 ?_
    change depM Rd Wr us i j = if (((Rd j).any fun x=>(Wr i).any fun y=>x == y) || ((Wr j).any fun x=>(Wr i).any fun y=>x == y)) = true then 2 else if ((Wr j).any fun x=>(Rd i).any fun y=>x == y) = true then 1 else 0 at hd
    simp
    cases hq3 : ((Rd j).any fun x=>(Wr i).any fun y=>x == y) with
    | true =>
     simp only [hq3,Bool.true_or,if_true] at hd
     simp [hra,hwa,hi1,hlt,hjl,r5,r6,hrl,hj1,hput 2 hd]
     unfold db4
     exact Sl.of rfl rfl rfl
    | false =>
     rw [hq3,Bool.false_or] at hd
     simp [hra,hwa,hjl,hlt,r3,r2]
     refine call_g q2 ?_
     simp
     cases hq4 : ((Wr j).any fun x=>(Wr i).any fun y=>x == y) with
     | true =>
      simp only [hq4,Bool.true_or,if_true] at hd
      simp [hra,hwa,hi1,hlt,hjl,r5,r6,hrl,hj1,hput 2 hd]
      unfold db4
      exact Sl.of rfl rfl rfl
     | false =>
      rw [hq4,if_neg (by decide)] at hd
      simp [hra,hwa,hjl,hlt,r3,r4]
      refine call_g q3 ?_
      simp
      cases hq5 : ((Wr j).any fun x=>(Rd i).any fun y=>x == y) with
      | true =>
       simp only [hq5,if_true] at hd
       simp [hra,hwa,hi1,hlt,hjl,r5,r6,hrl,hj1,hput 1 hd]
       unfold db4
       exact Sl.of rfl rfl rfl
      | false =>
       rw [hq5,if_neg (by decide)] at hd
       simp
       unfold db4
       rw [rowTo_same hd]
       exact Sl.of rfl rfl rfl
 ·rintro _ ⟨ts,hh,kk⟩ ⟨rfl,rfl,rfl,ff2,rfl⟩
  simp
  refine W.two (W.x mixed (by kernel_rfl) ?_)
  have hwn:=wrap64 (x:=(us.length : Int) - 1) (by omega) (by omega)
  by_cases hlast : (j : Int) = us.length - 1
  ·simp [hlast,hwn]
   refine W.x mixed (by kernel_rfl) ?_
   simp
   refine W.x mixed (by kernel_rfl) ?_
   simp [hw]
   obtain hj1 : j + 1 = us.length:=by omega
   unfold db2
   rw [← rowTo_next,hj1]
   exact Sl.of rfl rfl rfl
  ·simp [hlast,hwn]
   refine W.x mixed (by kernel_rfl) ?_
   simp
   refine W.x mixed (by kernel_rfl) ?_
   simp [hwj]
   exact Sl.of rfl rfl rfl
def RowB (h : List (List AV)) (x : AV) (n : Nat) (cs : List AV) (sz : Nat) : Prop:=(n = 0∧x = .f (.sl [] .nil)) ∨ ∃ b cap,x = .ms b 0 n cap sz∧ix h b = some cs∧n ≤ cap
def rPut (h : List (List AV)) (x : AV) (cs : List AV) : List (List AV):=match x with
 | .ms b _ _ _ _=>h.set b cs
 | _=>h
def rCut (x : AV) (m : Nat) : AV:=match x with
 | .ms b o _ c s=>.ms b o m c s
 | y=>y
theorem one_val {w : World} {L : Lk} {k : List (Nat × Nat)} {x : AV} {vals : Array Value} (h : RepL w L k [x] vals) : ∃ v,vals = #[v]∧RepA w L k x v:=by
 obtain ⟨h1,h2⟩:=h
 obtain ⟨v,hv,hr⟩:=h2 0 x rfl
 refine ⟨v,?_,hr⟩
 apply Array.ext
 ·simpa using h1
 ·intro i g1 g2
  have : i = 0:=by simp at g2; exact g2
  subst this
  rw [Array.getElem?_eq_getElem g1] at hv
  simpa using hv
theorem nil_val {w : World} {L : Lk} {k : List (Nat × Nat)} {v : Value} (h : RepA w L k (.f (.sl [] .nil)) v) : ∃ c,v = .slice none 0 c:=by
 cases h with
 | f x v hx=>cases hx with
  | nil c=>exact ⟨_,rfl⟩
  | sl l c b o cap sz vs hc=>exact absurd rfl hc
theorem ms_val {w : World} {L : Lk} {k : List (Nat × Nat)} {v : Value} {b o n c sz : Nat} (h : RepA w L k (.ms b o n c sz) v) : ∃ g,L.m[b]? = some g∧v = .slice (some ⟨g,o,none⟩) n c:=by
 cases h with
 | ms b off len cap sz c h=>exact ⟨c,h,rfl⟩
theorem row_holds {B : Base} {L : Lk} {h : List (List AV)} {k : List (Nat × Nat)} {w : World} {b g : Nat} {l : List Int} (H : Mem B L h k w) (hm : L.m[b]? = some g) (hb : ix h b = some (rowA l)) : Sort.Holds (Value.int .i64) w g 0 l.toArray:=fun j hj=>by
 have hj : j < l.length:=by simpa using hj
 obtain ⟨_,q2,v,q3,q4,_⟩:=H.heap b g j _ (.f (intF l[j])) hm hb (by simp [rowA,hj])
 rw [Nat.zero_add]
 refine ⟨?_,q2⟩
 rw [q3]
 cases q4 with | f x v hx=>cases hx; simp [hj]
def sortZM (l : List Int) : List Int:=l.mergeSort fun x y=>decide (x ≤ y)
theorem sortZM_len (l : List Int) : (sortZM l).length = l.length:=List.length_mergeSort _
theorem rowA_map (l : List Int) : rowA l = (l.map (Value.int .i64)).map fun v=>AV.f (.sc v):=by simp [rowA,intF]
theorem sortZ_x {h : List (List AV)} {k : List (Nat × Nat)} {x : AV} {l : List Int} (hr : RowB h x l.length (rowA l) 1) (hl : l.length < 2^62) :
  GivesX Tryz.prog 220 [x] h k (fun y h' k'=>y = .tup []∧h' = rPut h x (rowA (sortZM l))∧k' = k):=by
 refine ⟨⟨_,Tryz.func220,rfl,by decide⟩,fun B L w vals H hv=>?_⟩
 obtain ⟨v,rfl,hx⟩:=one_val hv
 have htup : ∀ {w' : World} {L' : Lk} {k' : List (Nat × Nat)},RepA w' L' k' (.tup []) (.tuple #[]):=.tup [] #[] (fun _=>undef) rfl (fun j y h=>by simp at h) (fun j y h=>by simp at h)
 rcases hr with ⟨h0,rfl⟩ | ⟨b,cap,rfl,hb,hcap⟩
 ·obtain ⟨c,rfl⟩:=nil_val hx
  have hcon:=AnyG.slices_Sort_int_none sortZ none c w
  change Calls Tryz.prog 220 _ _ _ at hcon
  refine hcon.mono ?_
  rintro e w' ⟨rfl,rfl⟩
  exact ⟨_,_,_,_,L,⟨rfl,rfl,rfl⟩,rfl,H,Ext.refl _ _ _,htup,Nat.le_refl _⟩
 ·obtain ⟨g,hm,rfl⟩:=ms_val hx
  have hh:=row_holds H hm hb
  have hg:=(H.mge b g hm).2
  have hcon:=AnyG.slices_Sort_int sortZ g 0 cap l w hh hg (by omega)
  change Calls Tryz.prog 220 _ _ _ at hcon
  refine hcon.mono ?_
  rintro e w' ⟨rfl,n,os,rfl⟩
  have T:=turned_put (Value.int .i64) (q:=n) (os:=os) (d:=(sortZM l).toArray) hh (by simp [sortZM_len]) hg
  obtain ⟨H',he⟩:=H.turn T hm hb (by simp [sortZM_len]) (fun v hv=>by
   obtain ⟨x,_,rfl⟩:=List.mem_map.1 hv
   rfl)
  exact ⟨_,_,_,_,L,⟨rfl,by rw [rowA_map]; rfl,rfl⟩,rfl,H',he,htup,Nat.le_refl _⟩
def compZM (l : List Int) : List Int:=Lib.compact l
theorem compZM_len (l : List Int) : (compZM l).length ≤ l.length:=by
 unfold compZM Lib.compact Lib.compactUpTo
 rw [List.length_map]
 have:=List.length_filter_le (Lib.keeps l.toArray) (List.range l.length)
 simpa using this
def padZ (l : List Int) : List Int:=compZM l ++ List.replicate (l.length - (compZM l).length) 0
theorem padZ_len (l : List Int) : (padZ l).length = l.length:=by have:=compZM_len l; simp [padZ]; omega
theorem compZ_x {h : List (List AV)} {k : List (Nat × Nat)} {x : AV} {l : List Int} (hr : RowB h x l.length (rowA l) 1) (hl : l.length < 2^62) :
  GivesX Tryz.prog 221 [x] h k (fun y h' k'=>y = rCut x (compZM l).length∧h' = rPut h x (rowA (padZ l))∧k' = k):=by
 refine ⟨⟨_,Tryz.func221,rfl,by decide⟩,fun B L w vals H hv=>?_⟩
 obtain ⟨v,rfl,hx⟩:=one_val hv
 rcases hr with ⟨h0,rfl⟩ | ⟨b,cap,rfl,hb,hcap⟩
 ·obtain ⟨c,rfl⟩:=nil_val hx
  have hcon:=AnyG.slices_Compact_int_empty compZ none c w
  change Calls Tryz.prog 221 _ _ _ at hcon
  refine hcon.mono ?_
  rintro e w' ⟨rfl,rfl⟩
  exact ⟨_,_,_,_,L,⟨rfl,rfl,rfl⟩,rfl,H,Ext.refl _ _ _,hx,Nat.le_refl _⟩
 ·obtain ⟨g,hm,rfl⟩:=ms_val hx
  have hh:=row_holds H hm hb
  have hg:=(H.mge b g hm).2
  have hcon:=AnyG.slices_Compact_int compZ g 0 cap l w hh (by omega) hcap
  change Calls Tryz.prog 221 _ _ _ at hcon
  refine hcon.mono ?_
  rintro e w' ⟨rfl,n,rfl⟩
  have T:=turned_put (Value.int .i64) (q:=n) (os:=#[]) (d:=(padZ l).toArray) hh (by simp [padZ_len]) hg
  rw [Sort.grow_empty] at T
  obtain ⟨H',he⟩:=H.turn T hm hb (by simp [padZ_len]) (fun v hv=>by
   obtain ⟨x,_,rfl⟩:=List.mem_map.1 hv
   rfl)
  exact ⟨_,_,_,_,L,⟨rfl,by rw [rowA_map]; rfl,rfl⟩,rfl,H',he,.ms _ _ _ _ _ g hm,Nat.le_refl _⟩
theorem enc_one (l : List Int) (x : Int) : encL intF l ++ [intF x] = encL intF (l ++ [x]):=by simp [encL]
def canZ (l : List Int) : List Int:=compZM (sortZM l)
theorem canZ_nil : canZ [] = []:=by
 refine List.eq_nil_of_length_eq_zero ?_
 have h1:=compZM_len (sortZM [])
 rw [sortZM_len] at h1
 exact Nat.le_zero.1 h1
theorem compZM_ne {l : List Int} (h : l ≠ []) : compZM l ≠ []:=by
 have hl : 0 < l.length:=List.length_pos_iff.2 h
 have : (0 : Nat) ∈ (List.range l.length).filter (Lib.keeps l.toArray):=List.mem_filter.2 ⟨List.mem_range.2 hl,by simp [Lib.keeps]⟩
 intro e
 unfold compZM Lib.compact Lib.compactUpTo at e
 rw [List.map_eq_nil_iff] at e
 rw [e] at this
 cases this
theorem canZ_ne {l : List Int} (h : l ≠ []) : canZ l ≠ []:=compZM_ne fun e=>h (List.eq_nil_of_length_eq_zero (by rw [← sortZM_len,e]; rfl))
theorem canZ_len (l : List Int) : (canZ l).length ≤ l.length:=by
 have:=compZM_len (sortZM l)
 rw [sortZM_len] at this
 exact this
def hdrsTo (l : List ExD) : List Int:=(l.filter fun x=>x.op == 4).map ExD.n
def hdrsM (l : List ExD) : List Int:=canZ (hdrsTo l)
theorem hdrsTo_next {l : List ExD} {i : Nat} {x : ExD} (hx : l[i]? = some x) : hdrsTo (l.take (i + 1)) = if x.op = 4 then hdrsTo (l.take i) ++ [x.n] else hdrsTo (l.take i):=by
 unfold hdrsTo
 rw [List.take_add_one,hx,List.filter_append,List.map_append]
 by_cases h : x.op = 4 <;> simp [h]
theorem hdrsTo_len (l : List ExD) (i : Nat) : (hdrsTo (l.take i)).length ≤ l.length:=by
 unfold hdrsTo
 rw [List.length_map]
 exact Nat.le_trans (List.length_filter_le _ _) (by simp; omega)
def hdI (l : List ExD) (c : Cap) (i : Nat) (s : St) : Prop:=∃ g k x tk,OwnT k (encL intF (hdrsTo (l.take i))) 1 x tk∧Vf.Sl [(3,x),(6,.f (.sl (encL fEx l) c)),(7,.f (intF l.length)),(8,.f (intF i))] 25 g k s
theorem intF_scs (l : List Int) : Scs (encL intF l):=fun x hx y hy=>by
 obtain ⟨z,_,rfl⟩:=List.mem_map.1 hx
 obtain rfl:=by simpa [FV.cells] using hy
 exact ⟨_,rfl⟩
theorem intF_cells (l : List Int) : ((encL intF l).flatMap FV.cells).map AV.f = rowA l:=by
 induction l with
 | nil=>rfl
 | cons x l ih=>show AV.f (intF x) :: _ = AV.f (intF x) :: _; congr 1
theorem compZM_pre (l : List Int) : (padZ l).take (compZM l).length = compZM l:=by simp [padZ]
theorem ret_cut {H : List (List AV)} {b : Nat} {l : List Int} {cap : Nat} {R : FV→Prop} (hb : ix H b = some (rowA (padZ l))) (hcap : l.length ≤ cap) (h : R (sl (encL intF (compZM l)))) : RetV H (.ms b 0 (compZM l).length cap 1) R:=by
 refine ⟨1,_,?_,h⟩
 show (match ix H b with
  | some cs=>if _ then _ else _
  | none=>none) = _
 have hc:=compZM_len l
 have ht : ((rowA (padZ l)).drop 0).take ((compZM l).length * 1) = rowA (compZM l):=by
  rw [List.drop_zero,Nat.mul_one]
  unfold rowA
  rw [← List.map_take,compZM_pre]
 rw [hb]
 show (if _ then _ else _) = _
 rw [ht,if_pos ⟨by omega,by omega,by simp [padZ_len]; omega,by omega,rowA_one _⟩,rowA_fz]
 simp only
 rw [if_pos (ints_one _)]
 have:=chunk_ints (compZM l)
 show some (FV.sl (chunk false 1 (compZM l).length ((compZM l).map intF)) .un) = _
 rw [this]; rfl
theorem exHdrs_g (l : List ExD) (c : Cap) (hl : l.length ≤ 1000000) : Gives Tryz.prog 161 [.sl (encL fEx l) c] (ownF (encL intF (hdrsM l))):=by
 refine Gives.of_Wd Tryz.func161 rfl rfl rfl (by decide) ?_
 refine Wd.two (W.x mixed (by kernel_rfl) ?_)
 simp
 refine Wd.two (W.x mixed (by kernel_rfl) ?_)
 simp
 refine Wd.two (W.two (W.x mixed (by kernel_rfl) ?_))
 simp
 refine W.blk (forW l.length (hdI l c) ⟨_,_,_,0,.nil,Sl.of rfl rfl rfl⟩ ?_)
 rintro i ⟨ts,hh,kk⟩ hi ⟨g,k,x,tk,ho,rfl,rfl,f,rfl⟩
 by_cases hlt : i < l.length
 ·obtain ⟨y,hy,hy'⟩:=nth_of hlt
  have hw:=wrap64 (x:=(i : Int) + 1) (by omega) (by omega)
  have hn:=hdrsTo_next hy'
  have hln:=hdrsTo_len l i
  by_cases h4 : y.op = 4
  ·rw [if_pos h4] at hn
   refine W.x mixed (by kernel_rfl) ?_
   simp [hlt,hy,h4,-opAppend]
   obtain ⟨t',k',e,ho',_⟩:=append_own ty29 ty3 (by simp) ho (y:=.f (.sl [intF y.n] .full)) rfl (by simp) (by simp) (by simp; omega) (by simp; omega)
   rw [e]
   simp [hw]
   exact ⟨_,_,_,_,by rw [hn,← enc_one]; exact ho',Sl.of rfl rfl rfl⟩
  ·rw [if_neg h4] at hn
   refine W.x mixed (by kernel_rfl) ?_
   simp [hlt,hy,h4,hw]
   exact ⟨_,_,_,_,by rw [hn]; exact ho,Sl.of rfl rfl rfl⟩
 obtain rfl : i = l.length:=by omega
 refine W.x mixed (by kernel_rfl) ?_
 simp
 rw [List.take_length] at ho
 have hln:=hdrsTo_len l l.length
 rw [List.take_length] at hln
 rcases ho with ⟨h0,rfl⟩ | ⟨h0,rfl,hk⟩
 ·have h0' : hdrsTo l = []:=by simpa [encL] using h0
  have hm : hdrsM l = []:=by unfold hdrsM; rw [h0']; exact canZ_nil
  refine Wd.x mixed (by kernel_rfl) ?_
  simp
  refine call_x (sortZ_x (l:=[]) (.inl ⟨rfl,rfl⟩) (by decide)) ?_
  rintro _ _ _ ⟨rfl,rfl,rfl⟩
  simp [rPut]
  refine call_x (compZ_x (l:=[]) (.inl ⟨rfl,rfl⟩) (by decide)) ?_
  rintro _ _ _ ⟨rfl,rfl,rfl⟩
  simp [rPut,rCut,hm,ownF,encL]
 ·have hne : hdrsTo l ≠ []:=fun e=>h0 (by rw [e]; rfl)
  refine Wd.thaw1 (d:=3) (t:=tk) (sz:=1) (l:=encL intF (hdrsTo l)) rfl hk (by decide) (intF_scs _) ?_
  rintro cap ⟨ts,hh,kk⟩ hcap ⟨rfl,rfl,ff,rfl⟩
  rw [intF_cells]
  rw [encL_length] at hcap ⊢
  refine Wd.x mixed (by kernel_rfl) ?_
  simp
  refine call_x (sortZ_x (l:=hdrsTo l) (.inr ⟨0,cap,rfl,rfl,hcap⟩) (by omega)) ?_
  rintro _ _ _ ⟨rfl,rfl,rfl⟩
  simp [rPut]
  have hsl:=sortZM_len (hdrsTo l)
  refine call_x (compZ_x (l:=sortZM (hdrsTo l)) (.inr ⟨0,cap,by rw [hsl],rfl,by omega⟩) (by omega)) ?_
  rintro _ _ _ ⟨rfl,rfl,rfl⟩
  simp [rPut,rCut]
  exact ret_cut rfl (by rw [hsl]; exact hcap) (by unfold ownF hdrsM; rw [if_neg (fun e=>canZ_ne hne (by simpa [encL] using e))]; rfl)
end Go.Proofs.YtafenffmgpcjcaaGreat
