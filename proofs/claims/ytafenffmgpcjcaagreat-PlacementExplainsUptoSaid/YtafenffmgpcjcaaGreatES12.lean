/- Texts of the proof: ES12. -/
import Derived.Test.YtafenffmgpcjcaaGreatES5
import Derived.Test.YtafenffmgpcjcaaGreatES11
import Derived.Test.YtafenffmgpcjcaaGreatES8
import Derived.Test.YtafenffmgpcjcaaGreatES2
import Derived.Test.YtafenffmgpcjcaaGreatES6
namespace Go.Proofs.YtafenffmgpcjcaaGreat
open Go.RowKit Go.Proofs.YtafenffmgpcjcaaGreat.Vf
set_option linter.unusedVariables false
set_option linter.unusedSimpArgs false
def gp (l : List (Bool × Bool)) (k : Nat) : Bool × Bool:=l.getD k (false,false)
def fR (D : List (List Int)) (l : List (Bool × Bool)) (j m : Nat) : Bool:=(List.range m).any fun k=>(gp l k).1 && decide (kindM D k j ≠ 0)
def fL (D : List (List Int)) (l : List (Bool × Bool)) (j m : Nat) : Bool:=(List.range m).any fun k=>(decide (kindM D k j = 2) && (gp l k).1) || (decide (kindM D k j = 1) && (gp l k).2)
def folTo (D : List (List Int)) (i : Nat) : Nat→List (Bool × Bool)
 | 0=>[]
 | j + 1=>folTo D i j ++ [(decide (j = i) || fR D (folTo D i j) j j,fL D (folTo D i j) j j)]
theorem folTo_len (D : List (List Int)) (i : Nat) : ∀ n,(folTo D i n).length = n
 | 0=>rfl
 | n + 1=>by rw [folTo,List.length_append,folTo_len D i n]; rfl
theorem folTo_pre (D : List (List Int)) (i : Nat) {k n : Nat} (h : k < n) : ∀ m,n ≤ m→gp (folTo D i m) k = gp (folTo D i n) k:=by
 intro m hm
 induction m with
 | zero=>omega
 | succ m ih =>
  by_cases e : n = m + 1
  ·rw [e]
  ·rw [← ih (by omega),folTo]
   unfold gp
   rw [List.getD_eq_getElem?_getD,List.getD_eq_getElem?_getD,List.getElem?_append_left (by rw [folTo_len]; omega)]
def folP (D : List (List Int)) (i k : Nat) : Bool × Bool:=gp (folTo D i (k + 1)) k
theorem folP_eq (D : List (List Int)) (i : Nat) {k n : Nat} (h : k < n) : gp (folTo D i n) k = folP D i k:=folTo_pre D i (Nat.lt_succ_self k) n h
def fRq (D : List (List Int)) (i j m : Nat) : Bool:=(List.range m).any fun k=>(folP D i k).1 && decide (kindM D k j ≠ 0)
def fLq (D : List (List Int)) (i j m : Nat) : Bool:=(List.range m).any fun k=>(decide (kindM D k j = 2) && (folP D i k).1) || (decide (kindM D k j = 1) && (folP D i k).2)
theorem any_same {p q : Nat→Bool} {n : Nat} (h : ∀ k,k < n→p k = q k) : (List.range n).any p = (List.range n).any q:=by
 rw [Bool.eq_iff_iff,List.any_eq_true,List.any_eq_true]
 constructor
 ·rintro ⟨k,hk,e⟩; exact ⟨k,hk,by rw [← h k (List.mem_range.1 hk)]; exact e⟩
 ·rintro ⟨k,hk,e⟩; exact ⟨k,hk,by rw [h k (List.mem_range.1 hk)]; exact e⟩
theorem folP_1 (D : List (List Int)) (i j : Nat) : (folP D i j).1 = (decide (j = i) || fRq D i j j):=by
 have h : fR D (folTo D i j) j j = fRq D i j j:=any_same fun k hk=>by rw [folP_eq D i hk]
 rw [← h]
 unfold folP gp
 rw [folTo,List.getD_eq_getElem?_getD,List.getElem?_append_right (by rw [folTo_len]; exact Nat.le_refl _),folTo_len]
 simp
theorem folP_2 (D : List (List Int)) (i j : Nat) : (folP D i j).2 = fLq D i j j:=by
 have h : fL D (folTo D i j) j j = fLq D i j j:=any_same fun k hk=>by rw [folP_eq D i hk]
 rw [← h]
 unfold folP gp
 rw [folTo,List.getD_eq_getElem?_getD,List.getElem?_append_right (by rw [folTo_len]; exact Nat.le_refl _),folTo_len]
 simp
theorem any_next (p : Nat→Bool) (n : Nat) : (List.range (n + 1)).any p = ((List.range n).any p || p n):=by
 rw [List.range_succ,List.any_append]; simp
theorem fRq_next (D : List (List Int)) (i j m : Nat) : fRq D i j (m + 1) = (fRq D i j m || ((folP D i m).1 && decide (kindM D m j ≠ 0))):=any_next _ _
theorem fLq_next (D : List (List Int)) (i j m : Nat) : fLq D i j (m + 1) = (fLq D i j m || ((decide (kindM D m j = 2) && (folP D i m).1) || (decide (kindM D m j = 1) && (folP D i m).2))):=any_next _ _
theorem any_false {p : Nat→Bool} {n : Nat} (h : ∀ k,k < n→p k = false) : (List.range n).any p = false:=by
 rw [List.any_eq_false]
 intro k hk
 rw [h k (List.mem_range.1 hk)]
 decide
theorem folP_low (D : List (List Int)) (i : Nat) : ∀ j,j < i→folP D i j = (false,false):=by
 intro j
 induction j using Nat.strongRecOn with
 | ind j ih =>
  intro hj
  have h1 : fRq D i j j = false:=any_false fun k hk=>by rw [ih k hk (by omega)]; rfl
  have h2 : fLq D i j j = false:=any_false fun k hk=>by rw [ih k hk (by omega)]; simp
  apply Prod.ext
  ·rw [folP_1,h1,decide_eq_false (by omega)]; rfl
  ·rw [folP_2,h2]
theorem folP_lead (D : List (List Int)) (i : Nat) : ∀ j,(folP D i j).2 = true→(folP D i j).1 = true:=by
 intro j
 induction j using Nat.strongRecOn with
 | ind j ih =>
  intro h
  rw [folP_2] at h
  obtain ⟨k,hk,hp⟩:=List.any_eq_true.1 h
  have hk:=List.mem_range.1 hk
  rw [folP_1]
  have : fRq D i j j = true:=by
   refine List.any_eq_true.2 ⟨k,List.mem_range.2 hk,?_⟩
   simp only [Bool.or_eq_true,Bool.and_eq_true,decide_eq_true_eq] at hp ⊢
   rcases hp with ⟨a,b⟩ | ⟨a,b⟩
   ·exact ⟨b,by omega⟩
   ·exact ⟨ih k hk b,by omega⟩
  rw [this,Bool.or_true]
theorem folP_self (D : List (List Int)) (i : Nat) : folP D i i = (true,false):=by
 have h2 : fLq D i i i = false:=any_false fun k hk=>by rw [folP_low D i k hk]; simp
 apply Prod.ext
 ·rw [folP_1,decide_eq_true rfl]; rfl
 ·rw [folP_2,h2]
theorem fRq_low (D : List (List Int)) (i j m : Nat) (h : m ≤ i) : fRq D i j m = false:=any_false fun k hk=>by rw [folP_low D i k (by omega)]; rfl
theorem fLq_low (D : List (List Int)) (i j m : Nat) (h : m ≤ i) : fLq D i j m = false:=any_false fun k hk=>by rw [folP_low D i k (by omega)]; simp
def folRow (D : List (List Int)) (n i : Nat) : List Bool:=(List.range n).map fun j=>(folP D i j).2
def folAll (D : List (List Int)) (n : Nat) : List (List Bool):=(List.range n).map (folRow D n)
end Go.Proofs.YtafenffmgpcjcaaGreat
namespace Go.Proofs.YtafenffmgpcjcaaGreat
open Go.RowKit Go.Proofs.YtafenffmgpcjcaaGreat.Vf
set_option linter.unusedVariables false
set_option linter.unusedSimpArgs false
set_option maxRecDepth 100000
set_option maxHeartbeats 4000000
def rowBo (r : List Bool) : List AV:=r.map fun b=>.f (boolF b)
@[simp] theorem rowBo_len (r : List Bool) : (rowBo r).length = r.length:=by simp [rowBo]
theorem rowBo_at {r : List Bool} {j : Nat} {b : Bool} (h : r[j]? = some b) : ((rowBo r).drop j).head? = some (.f (boolF b)):=by
 rw [List.head?_drop]; simp [rowBo,h]
@[simp] theorem rowBo_set (r : List Bool) (j : Nat) (b : Bool) : (rowBo r).set j (.f (.sc (.bool b))) = rowBo (r.set j b):=by simp [rowBo,List.map_set]
theorem zrow_rep (x : AV) : ∀ n,zeroRow [x] n = List.replicate n x
 | 0=>rfl
 | n + 1=>by rw [zeroRow,zrow_rep x n]; rfl
theorem make_bo {h : List (List AV)} {k : List (Nat × Nat)} {i n : Nat} (hn : n < 2^32) : opMake (tyOf Tryz.prog) h k 110 (isZero (.tmp i)) (.f (.sc (.int .i64 n))) (.f (.sc (.int .i64 n))) = some (.ms h.length 0 n n 1,h ++ [rowBo (List.replicate n false)],k):=by
 simp only [opMake,idx,isZero,ty110,Int.natCast_nonneg,if_true,Int.toNat_natCast]
 simp only [ty4]
 rw [if_neg (by simp; omega),if_neg (by simp)]
 simp [AV.one,zrow_rep,rowBo]
def ptrs (P : Nat→Nat) (i n : Nat) : List AV:=(List.range n).map fun a=>if a < i then .ms (P a) 0 n n 1 else .f (.sl [] .nil)
@[simp] theorem ptrs_len {P : Nat→Nat} {i n : Nat} : (ptrs P i n).length = n:=by simp [ptrs]
theorem ptrs_at {P : Nat→Nat} {i n a : Nat} (ha : a < i) (hn : a < n) : ((ptrs P i n).drop a).head? = some (.ms (P a) 0 n n 1):=by
 rw [List.head?_drop]; simp [ptrs,hn,ha]
theorem ptrs_set (P : Nat→Nat) {i n p : Nat} (hi : i < n) : (ptrs P i n).set i (.ms p 0 n n 1) = ptrs (fun a=>if a = i then p else P a) (i + 1) n:=by
 apply List.ext_getElem
 ·simp
 ·intro a h1 h2
  simp only [List.length_set,ptrs_len] at h1
  rw [List.getElem_set]
  by_cases e : i = a
  ·subst e
   simp [ptrs]
  ·have e' : ¬ a = i:=fun h=>e h.symm
   simp only [if_neg e,ptrs,List.getElem_map,List.getElem_range,if_neg e']
   by_cases h : a < i
   ·rw [if_pos h,if_pos (by omega)]
   ·rw [if_neg h,if_neg (by omega)]
theorem make_pp {h : List (List AV)} {k : List (Nat × Nat)} {i n : Nat} (P : Nat→Nat) (hn : n < 2^32) : opMake (tyOf Tryz.prog) h k 178 (isZero (.tmp i)) (.f (.sc (.int .i64 n))) (.f (.sc (.int .i64 n))) = some (.ms h.length 0 n n 1,h ++ [ptrs P 0 n],k):=by
 simp only [opMake,idx,isZero,ty178,Int.natCast_nonneg,if_true,Int.toNat_natCast]
 simp only [ty110]
 rw [if_neg (by simp; omega),if_neg (by simp)]
 simp [AV.one,zrow_rep,ptrs,List.map_const']
theorem map_set_range {α : Type} (f : Nat→α) {n j : Nat} (x : α) : ((List.range n).map f).set j x = (List.range n).map fun b=>if b = j then x else f b:=by
 apply List.ext_getElem
 ·simp
 ·intro b h1 h2
  rw [List.getElem_set]
  by_cases e : j = b
  ·subst e; simp
  ·have e' : ¬ b = j:=fun h=>e h.symm
   simp [e,e']
theorem mapO_all' {α β γ : Type} {f : β→Option γ} {g : α→β} {h : α→γ} : ∀ {l : List α},(∀ a ∈ l,f (g a) = some (h a))→mapO f (l.map g) = some (l.map h)
 | [],_=>rfl
 | x :: l,hl=>by
  simp only [List.map_cons,mapO]
  rw [hl x (.head _),mapO_all' fun a ha=>hl a (.tail _ ha)]
theorem rowBo_one (r : List Bool) : (rowBo r).all AV.one = true:=by
 induction r with
 | nil=>rfl
 | cons x r ih=>show (AV.one _ && (rowBo r).all AV.one) = true; rw [ih]; rfl
theorem rowBo_fz (H : List (List AV)) (r : List Bool) : mapO (fzH 0 H 0) (rowBo r) = some (r.map boolF):=by
 induction r with
 | nil=>rfl
 | cons x r ih=>show mapO (fzH 0 H 0) (.f (boolF x) :: rowBo r) = _; rw [mapO,ih]; rfl
theorem bools_one (r : List Bool) : (r.map boolF).all (fun y=>(AV.f y).one) = true:=by
 induction r with
 | nil=>rfl
 | cons x r ih=>show (AV.one _ && (r.map boolF).all (fun y=>(AV.f y).one)) = true; rw [ih]; rfl
theorem chunk_one : ∀ l : List FV,chunk false 1 l.length l = l
 | []=>rfl
 | x :: r=>by have:=chunk_one r; simpa [chunk] using this
theorem ret_bools {H : List (List AV)} {wa n : Nat} {Q : Nat→Nat} {M : Nat→List Bool} {R : FV→Prop} (hM : ∀ a,(M a).length = n) (h3 : ix H wa = some (ptrs Q n n)) (hrow : ∀ a,a < n→ix H (Q a) = some (rowBo (M a))) (h : R (.sl (encL browF ((List.range n).map M)) .un)) : RetV H (.ms wa 0 n n 1) R:=by
 refine ⟨2,_,?_,h⟩
 have hrow : ∀ a ∈ List.range n,fzH 0 H 1 (if a < n then AV.ms (Q a) 0 n n 1 else .f (.sl [] .nil)) = some (browF (M a)):=fun a ha=>by
  have ha:=List.mem_range.1 ha
  rw [if_pos ha]
  show (match ix H (Q a) with
   | some cs=>if _ then _ else _
   | none=>none) = _
  rw [hrow a ha]
  have ht : ((rowBo (M a)).drop 0).take (n * 1) = rowBo (M a):=by rw [← hM a]; simp [List.take_of_length_le]
  simp only
  rw [ht,if_pos ⟨by omega,by omega,by simp [hM a],by omega,rowBo_one (M a)⟩,rowBo_fz]
  simp only
  rw [if_pos (bools_one (M a))]
  have hc:=chunk_one ((M a).map boolF)
  rw [List.length_map,hM a] at hc
  show some (FV.sl (chunk false 1 n ((M a).map boolF)) .un) = _
  rw [hc]; rfl
 show (match ix H wa with
  | some cs=>if _ then _ else _
  | none=>none) = _
 rw [h3]
 have ht : ((ptrs Q n n).drop 0).take (n * 1) = ptrs Q n n:=by simp [List.take_of_length_le]
 have hone : (ptrs Q n n).all AV.one = true:=by
  simp only [ptrs,List.all_map,List.all_eq_true]
  intro a _
  simp only [Function.comp]
  split <;> rfl
 simp only
 rw [ht,if_pos ⟨by omega,by omega,by simp,by omega,hone⟩]
 have hm : mapO (fzH 0 H 1) (ptrs Q n n) = some ((List.range n).map fun a=>browF (M a)):=mapO_all' hrow
 rw [hm]
 simp only
 have hall : ((List.range n).map fun a=>browF (M a)).all (fun y=>(AV.f y).one) = true:=by
  simp only [List.all_map,List.all_eq_true]
  intro a _
  rfl
 rw [if_pos hall]
 have hch2:=chunk_one ((List.range n).map fun a=>browF (M a))
 simp only [List.length_map,List.length_range] at hch2
 show some (FV.sl (chunk false 1 n ((List.range n).map fun a=>browF (M a))) .un) = _
 rw [hch2]
 simp [encL]
def reR (D : List (List Int)) (n i j k : Nat) : List Bool:=(List.range n).map fun b=>if b < j then (folP D i b).1 else if b = j then (decide (j = i) || fRq D i j k) else decide (b = i)
def leR (D : List (List Int)) (n i j k : Nat) : List Bool:=(List.range n).map fun b=>if b < j then (folP D i b).2 else if b = j then fLq D i j k else false
@[simp] theorem reR_len {D : List (List Int)} {n i j k : Nat} : (reR D n i j k).length = n:=by simp [reR]
@[simp] theorem leR_len {D : List (List Int)} {n i j k : Nat} : (leR D n i j k).length = n:=by simp [leR]
theorem reR_zero (D : List (List Int)) {n i : Nat} : (List.replicate n false).set i true = reR D n i 0 0:=by
 have : List.replicate n false = (List.range n).map fun _=>false:=by simp [List.map_const']
 rw [this,map_set_range]
 refine List.map_congr_left fun b _=>?_
 rw [if_neg (Nat.not_lt_zero b)]
 by_cases e : b = i
 ·subst e
  simp
  by_cases e0 : b = 0
  ·exact .inr (.inl e0.symm)
  ·exact .inl e0
 ·by_cases e0 : b = 0
  ·subst e0
   have e' : ¬ 0 = i:=e
   simp [e',fRq]
  ·simp [e,e0]
theorem leR_zero (D : List (List Int)) {n i : Nat} : List.replicate n false = leR D n i 0 0:=by
 have : List.replicate n false = (List.range n).map fun _=>false:=by simp [List.map_const']
 rw [this]
 refine List.map_congr_left fun b _=>?_
 rw [if_neg (Nat.not_lt_zero b)]
 split <;> simp [fLq]
theorem reR_end (D : List (List Int)) (n i j : Nat) : reR D n i j j = reR D n i (j + 1) 0:=by
 refine List.map_congr_left fun b _=>?_
 by_cases h1 : b < j
 ·rw [if_pos h1,if_pos (by omega)]
 rw [if_neg h1]
 by_cases h2 : b = j
 ·subst h2
  rw [if_pos rfl,if_pos (by omega),folP_1]
 ·rw [if_neg h2,if_neg (by omega)]
  by_cases h3 : b = j + 1
  ·subst h3; simp [fRq]
  ·rw [if_neg h3]
theorem leR_end (D : List (List Int)) (n i j : Nat) : leR D n i j j = leR D n i (j + 1) 0:=by
 refine List.map_congr_left fun b _=>?_
 by_cases h1 : b < j
 ·rw [if_pos h1,if_pos (by omega)]
 rw [if_neg h1]
 by_cases h2 : b = j
 ·subst h2
  rw [if_pos rfl,if_pos (by omega),folP_2]
 ·rw [if_neg h2,if_neg (by omega)]
  by_cases h3 : b = j + 1
  ·subst h3; simp [fLq]
  ·rw [if_neg h3]
theorem leR_all (D : List (List Int)) (n i : Nat) : leR D n i n 0 = folRow D n i:=by
 refine List.map_congr_left fun b hb=>?_
 rw [if_pos (List.mem_range.1 hb)]
theorem reR_k (D : List (List Int)) {n i j k m : Nat} (hk : k < j) (hn : k < n) : (reR D n i j m)[k]? = some (folP D i k).1:=by simp [reR,hn,hk]
theorem leR_k (D : List (List Int)) {n i j k m : Nat} (hk : k < j) (hn : k < n) : (leR D n i j m)[k]? = some (folP D i k).2:=by simp [leR,hn,hk]
theorem reR_j (D : List (List Int)) {n i j m : Nat} (hn : j < n) : (reR D n i j m)[j]? = some (decide (j = i) || fRq D i j m):=by simp [reR,hn]
theorem leR_j (D : List (List Int)) {n i j m : Nat} (hn : j < n) : (leR D n i j m)[j]? = some (fLq D i j m):=by simp [leR,hn]
theorem reR_set (D : List (List Int)) {n i j k : Nat} : (reR D n i j k).set j ((decide (j = i) || fRq D i j k) || ((folP D i k).1 && decide (kindM D k j ≠ 0))) = reR D n i j (k + 1):=by
 unfold reR
 rw [map_set_range]
 refine List.map_congr_left fun b _=>?_
 by_cases e : b = j
 ·subst e
  rw [if_pos rfl,if_neg (Nat.lt_irrefl _),if_pos rfl,fRq_next,Bool.or_assoc]
 ·rw [if_neg e,if_neg e,if_neg e]
theorem leR_set (D : List (List Int)) {n i j k : Nat} : (leR D n i j k).set j (fLq D i j k || ((decide (kindM D k j = 2) && (folP D i k).1) || (decide (kindM D k j = 1) && (folP D i k).2))) = leR D n i j (k + 1):=by
 unfold leR
 rw [map_set_range]
 refine List.map_congr_left fun b _=>?_
 by_cases e : b = j
 ·subst e
  rw [if_pos rfl,if_neg (Nat.lt_irrefl _),if_pos rfl,fLq_next]
 ·rw [if_neg e,if_neg e,if_neg e]
theorem set_none {D : List (List Int)} {n i j k : Nat} (h : kindM D k j = 0) : reR D n i j (k + 1) = reR D n i j k∧leR D n i j (k + 1) = leR D n i j k:=by
 constructor
 ·refine List.map_congr_left fun b _=>?_
  rw [fRq_next]
  simp [h]
 ·refine List.map_congr_left fun b _=>?_
  rw [fLq_next]
  simp [h]
theorem ix_set_ne {h : List (List AV)} {p b : Nat} {x : List AV} (hp : p ≠ b) : ix (h.set p x) b = ix h b:=by
 simp only [ix]; rw [List.getElem?_set_ne hp]
theorem ix_set_eq {h : List (List AV)} {p : Nat} {x y : List AV} (hp : ix h p = some y) : ix (h.set p x) p = some x:=by
 simp only [ix] at hp ⊢; rw [List.getElem?_set_self (List.getElem?_eq_some_iff.1 hp).1]
structure Fi (D : List (List Int)) (n ra wa : Nat) (P Q : Nat→Nat) (i : Nat) (r l : List Bool) (h : List (List AV)) : Prop where
 old : ∀ a,a < i→ix h (Q a) = some (rowBo (folRow D n a))∧Q a ≠ P i∧Q a ≠ Q i
 pr : ix h (P i) = some (rowBo r)
 pl : ix h (Q i) = some (rowBo l)
 hr : ix h ra = some (ptrs P (i + 1) n)
 hl : ix h wa = some (ptrs Q (i + 1) n)
 ne : P i ≠ Q i∧P i ≠ ra∧P i ≠ wa∧Q i ≠ ra∧Q i ≠ wa∧ra ≠ wa
 far : ∀ a,a < i→Q a ≠ ra∧Q a ≠ wa
variable {D : List (List Int)} {n ra wa i : Nat} {P Q : Nat→Nat} {r l : List Bool} {h : List (List AV)}
theorem Fi.setR (F : Fi D n ra wa P Q i r l h) (r' : List Bool) : Fi D n ra wa P Q i r' l (h.set (P i) (rowBo r')) :=
 ⟨fun a ha=>⟨by rw [ix_set_ne (Ne.symm (F.old a ha).2.1)]; exact (F.old a ha).1,(F.old a ha).2⟩,ix_set_eq F.pr,by rw [ix_set_ne F.ne.1]; exact F.pl,by rw [ix_set_ne F.ne.2.1]; exact F.hr,by rw [ix_set_ne F.ne.2.2.1]; exact F.hl,F.ne,F.far⟩
theorem Fi.setL (F : Fi D n ra wa P Q i r l h) (l' : List Bool) : Fi D n ra wa P Q i r l' (h.set (Q i) (rowBo l')) :=
 ⟨fun a ha=>⟨by rw [ix_set_ne (Ne.symm (F.old a ha).2.2)]; exact (F.old a ha).1,(F.old a ha).2⟩,by rw [ix_set_ne (Ne.symm F.ne.1)]; exact F.pr,ix_set_eq F.pl,by rw [ix_set_ne F.ne.2.2.2.1]; exact F.hr,by rw [ix_set_ne F.ne.2.2.2.2.1]; exact F.hl,F.ne,F.far⟩
end Go.Proofs.YtafenffmgpcjcaaGreat
namespace Go.Proofs.YtafenffmgpcjcaaGreat
open Go.RowKit Go.Proofs.YtafenffmgpcjcaaGreat.Vf
set_option linter.unusedVariables false
set_option linter.unusedSimpArgs false
set_option maxRecDepth 100000
set_option maxHeartbeats 4000000
theorem rlet_g (c : UInt8) : Gives Tryz.prog 174 [.sc (.int .u8 c.toNat)] (boolF (isLet c)):=by
 refine Gives.of mixed Tryz.func174 rfl rfl rfl (by kernel_rfl) ?_
 by_cases c1 : (97 : Int) ≤ c.toNat <;> by_cases c2 : (c.toNat : Int) ≤ 122 <;> by_cases c3 : (65 : Int) ≤ c.toNat <;> by_cases c4 : (c.toNat : Int) ≤ 90 <;> simp [c1,c2,c3,c4,isLet] <;> omega
theorem rdig_g (c : UInt8) : Gives Tryz.prog 175 [.sc (.int .u8 c.toNat)] (boolF (isDig c)):=by
 refine Gives.of mixed Tryz.func175 rfl rfl rfl (by kernel_rfl) ?_
 by_cases c1 : (48 : Int) ≤ c.toNat <;> by_cases c2 : (c.toNat : Int) ≤ 57 <;> simp [c1,c2,isDig] <;> omega
theorem sEq_nil (s : ByteArray) : sEq s ⟨#[]⟩ = decide (s.size = 0):=by
 unfold sEq
 rw [bytes_toList,bytes_toList,Bool.eq_iff_iff,beq_iff_eq,decide_eq_true_eq,Lib.size_eq]
 simp
 exact ⟨fun h=>ByteArray.ext h,fun h=>by rw [h]; rfl⟩
def ridI (s : ByteArray) (i : Nat) (st : St) : Prop:=noneT (fun c=>!idc c) s.data.toList i∧Vf.Sl [(0,.f (strF s)),(3,.f (intF i))] 41 [] [] st
theorem rident_g (s : ByteArray) (hs : s.size < 2^62) : Gives Tryz.prog 121 [strF s] (boolF (ident s)):=by
 refine Gives.of mixed Tryz.func121 rfl rfl rfl (by kernel_rfl) ?_
 have hsz:=size_len s
 by_cases c1 : s.size = 0
 ·simp [sEq_nil,c1,ident]
 by_cases c2 : (16 : Int) < s.size
 ·simp [sEq_nil,c1,c2,ident]; omega
 obtain ⟨c,hc,hc'⟩:=nth_of (show 0 < s.data.toList.length by omega)
 have h0 : idxP Tryz.prog 9 (.f (strF s)) (.f (intF 0)) = some (.f (.sc (.int .u8 c.toNat))):=idx_s (i:=0) hc'
 have hd : s.data.toList.headD 0 = c:=by
  cases h : s.data.toList with
  | nil=>rw [h] at hc'; cases hc'
  | cons a l=>rw [h] at hc'; simpa using hc'
 have hI : ident s = (isLet c && decide ((idLen s.data.toList : Int) = s.size)):=by
  unfold ident
  rw [hd,decide_eq_true (show 0 < s.size by omega),decide_eq_true (show s.size ≤ 16 by omega)]
  simp only [Bool.true_and]
  congr 1
  rw [Bool.eq_iff_iff,beq_iff_eq,decide_eq_true_eq]
  omega
 simp [sEq_nil,c1,c2,h0]
 refine call_g (rlet_g c) ?_
 cases h1 : isLet c with
 | false=>simp [hI,h1]
 | true =>
  simp
  refine forX mixed s.size (ridI s) (by kernel_rfl) ⟨.zero,Sl.of rfl rfl rfl⟩ ?_
  rintro i ⟨ts,h,kk⟩ hi ⟨hn,rfl,rfl,f,rfl⟩
  by_cases hlt : i < s.size
  ·obtain ⟨c,hc,hc'⟩:=nth_of (show i < s.data.toList.length by omega)
   have hw:=wrap64 (x:=(i : Int) + 1) (by omega) (by omega)
   have hbad : idc c = false→ident s = false:=fun hb=>by
    rw [hI,h1]
    have hne : idLen s.data.toList = i:=by
     have:=tw_len hn (by omega) (fun x hx'=>by rw [hc'] at hx'; obtain rfl:=Option.some.inj hx'; exact hb)
     unfold idLen; omega
    rw [hne,decide_eq_false (by omega)]
    rfl
   simp [hlt,idx_s hc']
   refine call_g (rlet_g c) ?_
   cases l1 : isLet c with
   | true =>
    simp [hw,hlt]
    exact ⟨hn.next hc' (by simp [idc,l1]),Sl.of rfl rfl rfl⟩
   | false =>
    simp [idx_s hc']
    refine call_g (rdig_g c) ?_
    cases l2 : isDig c with
    | true =>
     simp [hw,hlt]
     exact ⟨hn.next hc' (by simp [idc,l2]),Sl.of rfl rfl rfl⟩
    | false =>
     by_cases h3 : (c.toNat : Int) = 95
     ·simp [idx_s hc',h3,hw,hlt]
      exact ⟨hn.next hc' (by simp [idc]; omega),Sl.of rfl rfl rfl⟩
     ·have hb:=hbad (by simp [idc,l1,l2]; omega)
      simp [idx_s hc',h3,hb]
  ·have hall : ident s = true:=by
    rw [hI,h1]
    have hne : idLen s.data.toList = i:=by
     have:=tw_len hn (by omega) (fun x hx'=>by rw [List.getElem?_eq_none (by omega)] at hx'; cases hx')
     unfold idLen; omega
    rw [hne,decide_eq_true (by omega)]
    rfl
   simp [hlt,hall]
@[simp] theorem conv_u32_u64 {n : Int} : opOne Tryz.prog (convert 197 297) (.f (.sc (.int .u32 n))) = some (.f (.sc (.int .u64 (IntKind.u64.wrap n)))):=by kernel_rfl
@[simp] theorem conv_u64_u32 {n : Int} : opOne Tryz.prog (convert 297 197) (.f (.sc (.int .u64 n))) = some (.f (.sc (.int .u32 (IntKind.u32.wrap n)))):=by kernel_rfl
theorem wrapU {x : Int} (h0 : 0 ≤ x) (h1 : x < 18446744073709551616) : IntKind.u64.wrap x = x:=by
 simp [IntKind.wrap,IntKind.bits,IntKind.signed]; omega
theorem wrap32 {x : Int} (h0 : 0 ≤ x) (h1 : x < 4294967296) : IntKind.u32.wrap x = x:=by
 simp [IntKind.wrap,IntKind.bits,IntKind.signed]; omega
theorem pow_bd {n : Nat} (h : n ≤ 32) : 1 ≤ (2 : Int) ^ n∧(2 : Int) ^ n ≤ 4294967296:=by
 have : ∀ n : Nat,n ≤ 32→1 ≤ (2 : Int) ^ n∧(2 : Int) ^ n ≤ 4294967296:=by decide
 exact this n h
def U32 (x : Int) : Prop:=0 ≤ x∧x < 4294967296
theorem rvalid_g (w : Int) : Gives Tryz.prog 283 [intF w] (boolF (!badW w)):=by
 refine Gives.of mixed Tryz.func283 rfl rfl rfl (by kernel_rfl) ?_
 by_cases c1 : 1 ≤ w <;> by_cases c2 : w ≤ 32 <;> simp [c1,c2,badW] <;> omega
theorem rpower_g (n : Nat) (hn : n ≤ 32) : Gives Tryz.prog 284 [intF n] (.sc (.int .u64 (2 ^ n))):=by
 refine Gives.of mixed Tryz.func284 rfl rfl rfl (by kernel_rfl) ?_
 simp
 refine forX mixed n (fun i st=>Vf.Sl [(0,.f (intF n)),(3,.f (.sc (.int .u64 (2 ^ i)))),(4,.f (intF i))] 13 [] [] st) (by kernel_rfl) (Sl.of rfl rfl rfl) ?_
 rintro i ⟨ts,h,kk⟩ hi ⟨rfl,rfl,f,rfl⟩
 by_cases hlt : i < n
 ·have hw:=wrap64 (x:=(i : Int) + 1) (by omega) (by omega)
  have hb:=pow_bd (n:=i) (by omega)
  have hm:=wrapU (x:=2 * (2 : Int) ^ i) (by omega) (by omega)
  have hp : 2 * (2 : Int) ^ i = 2 ^ (i + 1):=by rw [Int.pow_succ]; omega
  simp [hlt,hw,hm]
  rw [hp]
  exact Sl.of rfl rfl rfl
 ·obtain rfl : i = n:=by omega
  simp
theorem toNat_w {w : Int} (h : badW w = false) : ((w.toNat : Nat) : Int) = w∧w.toNat ≤ 32:=by
 simp only [badW,Bool.or_eq_false_iff,decide_eq_false_iff_not] at h
 omega
theorem rmask_g (w : Int) : Gives Tryz.prog 257 [intF w] (u32F (maskM w)):=by
 refine Gives.of mixed Tryz.func257 rfl rfl rfl (by kernel_rfl) ?_
 simp
 refine call_g (rvalid_g w) ?_
 cases h : badW w with
 | true=>simp [maskM,h]
 | false =>
  obtain ⟨e,hle⟩:=toNat_w h
  have hp:=rpower_g w.toNat hle
  rw [e] at hp
  have hb:=pow_bd hle
  have w1:=wrapU (x:=(2 : Int) ^ w.toNat - 1) (by omega) (by omega)
  have w2:=wrap32 (x:=(2 : Int) ^ w.toNat - 1) (by omega) (by omega)
  simp
  refine call_g hp ?_
  simp [maskM,h,w1,w2]
theorem rarity_g (op : Int) : Gives Tryz.prog 239 [intF op] (intF (arity op)):=by
 refine Gives.of mixed Tryz.func239 rfl rfl rfl (by kernel_rfl) ?_
 have h : op < 1 ∨ (1 ≤ op∧op ≤ 4) ∨ (5 ≤ op∧op ≤ 8) ∨ (9 ≤ op∧op ≤ 16) ∨ op = 17 ∨ 17 < op:=by omega
 rcases h with h | h | h | h | h | h
 ·have hv : arity op = -1:=by unfold arity; rw [if_neg (by omega),if_neg (by omega),if_neg (by omega),if_neg (by omega)]
  simp [hv,(show ¬ 1 ≤ op by omega),(show ¬ 5 ≤ op by omega),(show ¬ 9 ≤ op by omega),(show ¬ op = 17 by omega)]
 ·have hv : arity op = 0:=by unfold arity; rw [if_pos (by omega)]
  simp [hv,h.1,h.2]
 ·have hv : arity op = 1:=by unfold arity; rw [if_neg (by omega),if_pos (by omega)]
  simp [hv,(show 1 ≤ op by omega),(show ¬ op ≤ 4 by omega),h.1,h.2]
 ·have hv : arity op = 2:=by unfold arity; rw [if_neg (by omega),if_neg (by omega),if_pos (by omega)]
  simp [hv,(show 1 ≤ op by omega),(show ¬ op ≤ 4 by omega),(show 5 ≤ op by omega),(show ¬ op ≤ 8 by omega),h.1,h.2]
 ·subst h
  simp [arity]
 ·have hv : arity op = -1:=by unfold arity; rw [if_neg (by omega),if_neg (by omega),if_neg (by omega),if_neg (by omega)]
  simp [hv,(show 1 ≤ op by omega),(show ¬ op ≤ 4 by omega),(show 5 ≤ op by omega),(show ¬ op ≤ 8 by omega),(show 9 ≤ op by omega),(show ¬ op ≤ 16 by omega),(show ¬ op = 17 by omega)]
theorem rdecl_g (d : PrgD) (h f : Int) : Gives Tryz.prog 229 [fPrg d,fRef h f] (.tup [intF (fldW (fldAt d h f)),boolF (fldAt d h f).isSome]):=by
 refine Gives.of mixed Tryz.func229 rfl rfl rfl (by kernel_rfl) ?_
 generalize hv : fldAt d h f = v
 by_cases c1 : h = -1
 ·subst c1
  by_cases c3 : f < 0
  ·have hf : fldAt d (-1) f = none:=by unfold fldAt; rw [if_pos c3]
   rw [hf] at hv
   subst hv
   simp [fPrg,cPrg,c3,fldW]
  by_cases c4 : (d.meta_.l.length : Int) ≤ f
  ·have hf : fldAt d (-1) f = none:=by unfold fldAt fldsOf; rw [if_neg c3,if_pos rfl]; exact List.getElem?_eq_none (by omega)
   rw [hf] at hv
   subst hv
   simp [fPrg,cPrg,c3,c4,fldW]
  obtain ⟨x,hx,hx'⟩:=nth_of (show f.toNat < d.meta_.l.length by omega)
  have hf : fldAt d (-1) f = some x:=by unfold fldAt fldsOf; rw [if_neg c3,if_pos rfl]; exact hx'
  have hxm : f.toNat < d.meta_.l.length:=by omega
  rw [hf] at hv
  subst hv
  simp [fPrg,cPrg,c3,c4,hx,hxm,(show 0 ≤ f by omega),fldW]
 by_cases c0 : h < 0
 ·have hl : fldsOf d h = []:=by unfold fldsOf; rw [if_neg c1,if_pos (Or.inl c0)]
  have hf : fldAt d h f = none:=by unfold fldAt; rw [hl]; split <;> simp
  rw [hf] at hv
  subst hv
  simp [fPrg,cPrg,c0,c1,fldW]
 by_cases c2 : (d.headers.l.length : Int) ≤ h
 ·have hl : fldsOf d h = []:=by unfold fldsOf; rw [if_neg c1,if_pos (Or.inr c2)]
  have hf : fldAt d h f = none:=by unfold fldAt; rw [hl]; split <;> simp
  rw [hf] at hv
  subst hv
  simp [fPrg,cPrg,c0,c1,c2,fldW]
 obtain ⟨y,hy,hy'⟩:=nth_of (show h.toNat < d.headers.l.length by omega)
 have hm : h.toNat < d.headers.l.length:=by omega
 have hl : fldsOf d h = y.fields.l:=by unfold fldsOf; rw [if_neg c1,if_neg (by omega),hy']
 have c0' : 0 ≤ h:=by omega
 by_cases c3 : f < 0
 ·have hf : fldAt d h f = none:=by unfold fldAt; rw [if_pos c3]
  rw [hf] at hv
  subst hv
  simp [fPrg,cPrg,c0,c0',c1,c2,c3,hy,hm,fldW]
 by_cases c4 : (y.fields.l.length : Int) ≤ f
 ·have hf : fldAt d h f = none:=by unfold fldAt; rw [if_neg c3,hl]; exact List.getElem?_eq_none (by omega)
  rw [hf] at hv
  subst hv
  simp [fPrg,cPrg,c0,c0',c1,c2,c3,c4,hy,hm,fldW]
 obtain ⟨x,hx,hx'⟩:=nth_of (show f.toNat < y.fields.l.length by omega)
 have hf : fldAt d h f = some x:=by unfold fldAt; rw [if_neg c3,hl]; exact hx'
 have hxm : f.toNat < y.fields.l.length:=by omega
 rw [hf] at hv
 subst hv
 simp [fPrg,cPrg,c0,c0',c1,c2,c3,c4,hy,hm,hx,hxm,(show 0 ≤ f by omega),fldW]
theorem rwide_g (w : Int) : Gives Tryz.prog 256 [intF w] (two (wide w)):=by
 refine Gives.of mixed Tryz.func256 rfl rfl rfl (by kernel_rfl) ?_
 by_cases c1 : w < 1
 ·simp [c1,wide,badW]
 by_cases c2 : 32 < w
 ·simp [c1,c2,wide,badW]
 simp [c1,c2,wide,badW]
theorem rleaf_g (d : PrgD) (ps : List FldD) (x : ExD) : Gives Tryz.prog 240 [fEx x,fScp d ps] (two (primary d ps x)):=by
 refine Gives.of mixed Tryz.func240 rfl rfl rfl (by kernel_rfl) ?_
 simp [fScp,cPrg]
 by_cases o1 : x.op = 1
 ·simp [o1]
  refine call_g (rwide_g x.w) ?_
  cases hw : badW x.w with
  | true=>simp [wide,hw,primary,o1]
  | false =>
   have h':=(badW_not x.w).1 hw
   have hp : (2 : Int) ^ x.w.toNat - 1 ≤ 4294967295∧0 ≤ (2 : Int) ^ x.w.toNat - 1:=by
    have:=pow_bd (n:=x.w.toNat) (by omega)
    omega
   by_cases c1 : x.n < 0
   ·simp [wide,hw,primary,o1,c1]
   simp [wide,hw,o1,c1]
   refine call_g (rmask_g x.w) ?_
   have hk:=wrap64 (x:=(2 : Int) ^ x.w.toNat - 1) (by omega) (by omega)
   by_cases c2 : (2 : Int) ^ x.w.toNat - 1 < x.n
   ·simp [maskM,hw,hk,c2,primary,o1,c1]
   ·simp [maskM,hw,hk,c2,primary,o1,c1]
 by_cases o2 : x.op = 2
 ·simp [o1,o2]
  refine call_g (rdecl_g d x.n x.w) ?_
  cases hf : fldAt d x.n x.w with
  | none=>simp [primary,o2,hf]
  | some f =>
   simp [fldW]
   refine call_g (rwide_g f.width) ?_
   simp [primary,o2,hf]
 by_cases o3 : x.op = 3
 ·by_cases c1 : x.n < 0
  ·simp [o3,c1,primary]
  by_cases c2 : (ps.length : Int) ≤ x.n
  ·have hn : ps[x.n.toNat]? = none:=List.getElem?_eq_none (by omega)
   simp [o3,c1,c2,primary,hn]
  obtain ⟨f,hx,hx'⟩:=nth_of (show x.n.toNat < ps.length by omega)
  simp [o3,c1,c2,(show 0 ≤ x.n by omega),(show x.n.toNat < ps.length by omega),hx]
  refine call_g (rwide_g f.width) ?_
  simp [primary,o3,c1,hx']
 by_cases c1 : x.n < 0
 ·simp [o1,o2,o3,c1,primary]
 by_cases c2 : (d.headers.l.length : Int) ≤ x.n
 ·simp [o1,o2,o3,c1,c2,primary]
 ·simp [o1,o2,o3,c1,c2,primary]
theorem nt0 {α : Type} {a : α} {l : List α} : nth (a :: l) 0 = some a:=rfl
theorem nt1 {α : Type} {a b : α} {l : List α} : nth (a :: b :: l) 1 = some b:=rfl
theorem nt2 {α : Type} {a b c : α} {l : List α} : nth (a :: b :: c :: l) 2 = some c:=rfl
theorem rop1_g (x : ExD) (c : Cap) (a : Int) (ha : 0 ≤ a∧a ≤ 32) (h1 : arity x.op = 1) : Gives Tryz.prog 241 [fEx x,.sl (encL intF [a]) c] (two (combine x a 0 0)):=by
 refine Gives.of mixed Tryz.func241 rfl rfl rfl (by kernel_rfl) ?_
 have h : x.op = 5 ∨ x.op = 6 ∨ x.op = 7 ∨ x.op = 8:=by unfold arity at h1; repeat' split at h1 <;> omega
 rcases h with o | o | o | o
 ·simp [nt0,nt1,nt2,o,combine,arity]
 ·by_cases c1 : x.n < 0
  ·simp [nt0,nt1,nt2,o,c1,combine]
  by_cases c2 : 31 < x.n
  ·simp [nt0,nt1,nt2,o,c1,c2,combine]
  simp [nt0,nt1,nt2,o,c1,c2,combine,arity]
 ·by_cases c1 : x.n < 0
  ·simp [nt0,nt1,nt2,o,c1,combine]
  by_cases c2 : 31 < x.n
  ·simp [nt0,nt1,nt2,o,c1,c2,combine]
  simp [nt0,nt1,nt2,o,c1,c2,combine,arity]
 ·by_cases c1 : x.n < 0
  ·simp [nt0,nt1,nt2,o,c1,combine]
  by_cases c2 : x.w < 1
  ·simp [nt0,nt1,nt2,o,c1,c2,combine,badW]
  by_cases c3 : 32 < x.w
  ·simp [nt0,nt1,nt2,o,c1,c2,c3,combine,badW]
  have hs:=wrap64 (x:=a - x.w) (by omega) (by omega)
  by_cases c4 : a - x.w < x.n
  ·simp [nt0,nt1,nt2,o,c1,c2,c3,c4,hs,combine,badW]
  ·simp [nt0,nt1,nt2,o,c1,c2,c3,c4,hs,combine,badW]
theorem rop2_g (x : ExD) (c : Cap) (a b : Int) (ha : 0 ≤ a∧a ≤ 32) (hb : 0 ≤ b∧b ≤ 32) (h1 : arity x.op = 2) : Gives Tryz.prog 241 [fEx x,.sl (encL intF [a,b]) c] (two (combine x a b 0)):=by
 refine Gives.of mixed Tryz.func241 rfl rfl rfl (by kernel_rfl) ?_
 have h : 9 ≤ x.op∧x.op ≤ 16:=by unfold arity at h1; repeat' split at h1 <;> omega
 have o5 : ¬ x.op = 5:=by omega
 have o6 : ¬ x.op = 6:=by omega
 have o7 : ¬ x.op = 7:=by omega
 have o8 : ¬ x.op = 8:=by omega
 have o17 : ¬ x.op = 17:=by omega
 by_cases o14 : x.op = 14
 ·have hab:=wrap64 (x:=a + b) (by omega) (by omega)
  simp [nt0,nt1,nt2,o14,hab]
  refine call_g (rwide_g (a + b)) ?_
  simp [combine,o14]
 by_cases e : a = b
 ·by_cases o15 : x.op = 15
  ·simp [nt0,nt1,nt2,o15,e,combine,arity]
  by_cases o16 : x.op = 16
  ·simp [nt0,nt1,nt2,o16,e,combine,arity]
  simp [nt0,nt1,nt2,o5,o6,o7,o8,o14,o15,o16,o17,e,combine]
 ·simp [nt0,nt1,nt2,o5,o6,o7,o8,o14,o17,e,combine,h1]
theorem rop3_g (x : ExD) (c : Cap) (a b e : Int) (h1 : arity x.op = 3) : Gives Tryz.prog 241 [fEx x,.sl (encL intF [a,b,e]) c] (two (combine x a b e)):=by
 refine Gives.of mixed Tryz.func241 rfl rfl rfl (by kernel_rfl) ?_
 have o : x.op = 17:=by unfold arity at h1; repeat' split at h1 <;> omega
 by_cases c1 : a = 1
 ·by_cases c2 : b = e
  ·simp [nt0,nt1,nt2,o,c1,c2,combine]
  ·simp [nt0,nt1,nt2,o,c1,c2,combine]
 ·simp [nt0,nt1,nt2,o,c1,combine]
def opWs (d : PrgD) (ps : List FldD) (n : List ExD) (i j : Nat) : List Int:=(List.range j).map fun q=>(exI d ps n (opAt d ps n i q)).1
theorem opWs_next (d : PrgD) (ps : List FldD) (n : List ExD) (i j : Nat) : opWs d ps n i (j + 1) = opWs d ps n i j ++ [(exI d ps n (opAt d ps n i j)).1]:=by simp [opWs,List.range_succ]
def rckI (d : PrgD) (ps : List FldD) (n : List ExD) (i : Nat) (x : ExD) (j : Nat) (s : St) : Prop:=(∀ q,q < j→(exI d ps n (opAt d ps n i q)).2.2 = 0)∧opAt d ps n i j ≤ n.length∧i < opAt d ps n i j∧∃ g k y t,OwnT k (encL intF (opWs d ps n i j)) 1 y t ∧
 Vf.Sl [(0,.f (sl (encL fEx n))),(1,.f (intF i)),(5,.ref 0 0),(9,.f (intF (arity x.op))),(12,y),(13,.f (intF (opAt d ps n i j))),(14,.f (intF j))] 85 ([.f (strF d.name),.f (sl (encL fHdr d.headers.l)),.f (sl (encL fFld d.meta_.l)),.f (sl (encL fReg d.regs.l)),.f (sl (encL fAct d.acts.l)),.f (sl (encL fTbl d.tables.l)),.f (sl (encL fSta d.states.l)),.f (sl (encL fNod d.control.l)),.f (sl (encL intF d.dep.l)),.f (sl (encL fFld ps))] :: g) k s
def rckT (d : PrgD) (ps : List FldD) (n : List ExD) (i : Nat) (w to : Int) : Prop:=(exI d ps n i).2.2 = 0→w = (exI d ps n i).1∧to = (exI d ps n i).2.1
theorem rcheck_g (d : PrgD) (ps : List FldD) (n : List ExD) (hn : n.length < 100000) : ∀ (k i : Nat),n.length < i + k→∃ w to,rckT d ps n i w to∧Gives Tryz.prog 186 [sl (encL fEx n),intF i,fScp d ps] (.tup [intF w,intF to,intF (exI d ps n i).2.2])
 | 0,i,h=>by
  have e:=exI_none d ps n i (by omega)
  refine ⟨0,i,(fun h=>by rw [e] at h; cases h),?_⟩
  refine Gives.of mixed Tryz.func186 rfl rfl rfl (by kernel_rfl) ?_
  have q : (n.length : Int) ≤ i:=by omega
  simp [q,fScp,cPrg,e]
 | k + 1,i,h=>by
  by_cases hlt : i < n.length
  case neg =>
   have e:=exI_none d ps n i (by omega)
   refine ⟨0,i,(fun h=>by rw [e] at h; cases h),?_⟩
   refine Gives.of mixed Tryz.func186 rfl rfl rfl (by kernel_rfl) ?_
   have q : (n.length : Int) ≤ i:=by omega
   simp [q,fScp,cPrg,e]
  obtain ⟨x,hx,hx'⟩:=nth_of hlt
  have q : ¬ ((n.length : Int) ≤ i):=by omega
  have hw:=wrap64 (x:=(i : Int) + 1) (by omega) (by omega)
  have hS:=exI_some d ps n i x hx'
  by_cases a0 : arity x.op < 0
  ·rw [if_pos a0] at hS
   refine ⟨0,i,(fun h=>by rw [hS] at h; cases h),?_⟩
   refine Gives.of mixed Tryz.func186 rfl rfl rfl (by kernel_rfl) ?_
   simp [q,hlt,hx,fScp,cPrg]
   refine call_g (rarity_g x.op) ?_
   simp [a0,hS]
  rw [if_neg a0] at hS
  by_cases a1 : arity x.op = 0
  ·rw [if_pos a1] at hS
   refine ⟨(primary d ps x).1,(i : Int) + 1,(fun h=>by rw [hS]; exact ⟨rfl,by simp⟩),?_⟩
   refine Gives.of mixed Tryz.func186 rfl rfl rfl (by kernel_rfl) ?_
   simp [q,hlt,hx,fScp,cPrg]
   refine call_g (rarity_g x.op) ?_
   simp [a1,hlt,hx]
   refine call_g (rleaf_g d ps x) ?_
   simp [hw,hS]
  clear hS
  have a3:=arity_le x.op
  obtain ⟨m,hm⟩ : ∃ m : Nat,arity x.op = m:=⟨(arity x.op).toNat,by omega⟩
  have hop : ∀ j,(∀ q,q < j→(exI d ps n (opAt d ps n i q)).2.2 = 0)→j = 0 ∨ opAt d ps n i j ≤ n.length:=fun j hj=>by
   cases j with
   | zero=>exact .inl rfl
   | succ j=>exact .inr (exI_ok _ _ _ _ (hj j (Nat.lt_succ_self j))).2.1
  have hgt : ∀ j,(∀ q,q < j→(exI d ps n (opAt d ps n i q)).2.2 = 0)→i < opAt d ps n i j:=fun j=>by
   induction j with
   | zero=>intro _; exact Nat.lt_succ_self i
   | succ j ih =>
    intro hj
    have h1:=ih fun q hq=>hj q (by omega)
    have h2:=(exI_ok _ _ _ _ (hj j (Nat.lt_succ_self j))).1
    rw [opAt]; omega
  have key : ∀ r : FV,((∀ q,q < m→(exI d ps n (opAt d ps n i q)).2.2 = 0)→r = .tup [intF (exI d ps n i).1,intF (exI d ps n i).2.1,intF (exI d ps n i).2.2]) →
    (∀ j,j < m→(∀ q,q < j→(exI d ps n (opAt d ps n i q)).2.2 = 0)→(exI d ps n (opAt d ps n i j)).2.2 ≠ 0→∃ w2 to2,Gives Tryz.prog 186 [sl (encL fEx n),intF (opAt d ps n i j),fScp d ps] (.tup [intF w2,intF to2,intF (exI d ps n (opAt d ps n i j)).2.2])∧r = .tup [intF 0,intF to2,intF (exI d ps n (opAt d ps n i j)).2.2]) →
    Gives Tryz.prog 186 [sl (encL fEx n),intF i,fScp d ps] r:=by
   intro r hfin hbad
   refine Gives.of mixed Tryz.func186 rfl rfl rfl (by kernel_rfl) ?_
   simp [q,hlt,hx,fScp,cPrg]
   refine call_g (rarity_g x.op) ?_
   simp [a0,a1,hw]
   refine forX mixed m (rckI d ps n i x) (by kernel_rfl) ⟨fun q h=>by omega,hlt,Nat.lt_succ_self i,[],[],_,0,.nil,Sl.of rfl rfl rfl⟩ ?_
   rintro j ⟨ts,hh,kk⟩ hj ⟨hz,hle,hg,g,kt,y,t,ho,rfl,rfl,f,rfl⟩
   by_cases hlj : j < m
   ·have hwj:=wrap64 (x:=(j : Int) + 1) (by omega) (by omega)
    by_cases he : (exI d ps n (opAt d ps n i j)).2.2 = 0
    ·have ho2:=exI_ok _ _ _ _ he
     have hnx : i < opAt d ps n i (j + 1):=by rw [opAt]; have:=ho2.1; omega
     obtain ⟨w,to,hT,hG⟩:=rcheck_g d ps n hn k (opAt d ps n i j) (by omega)
     obtain ⟨rfl,rfl⟩:=hT he
     obtain ⟨t',k',e,ho',_⟩:=append_own ty29 ty3 (by simp) ho (y:=.f (.sl [intF (exI d ps n (opAt d ps n i j)).1] .full)) rfl (by simp) (by simp) (by simp [opWs]; omega) (by simp [opWs]; omega)
     rw [show encL intF (opWs d ps n i j) ++ [intF (exI d ps n (opAt d ps n i j)).1] = encL intF (opWs d ps n i j ++ [(exI d ps n (opAt d ps n i j)).1]) by simp [encL]] at ho'
     simp [hm,hlj]
     refine call_g hG ?_
     simp [he,hwj,-opAppend]
     rw [e]
     simp [hwj]
     refine ⟨fun q hq=>?_,ho2.2.1,hnx,?_⟩
     ·rcases Nat.lt_or_ge q j with h1 | h1
      ·exact hz q h1
      ·obtain rfl : q = j:=by omega
       exact he
     ·rw [hm,opWs_next]; exact ⟨_,_,_,_,ho',Sl.of rfl rfl rfl⟩
    ·obtain ⟨w2,to2,hG,hr⟩:=hbad j hlj hz he
     simp [hm,hlj]
     refine call_g hG ?_
     simp [he,hr]
   ·obtain rfl : j = m:=by omega
    have hr:=hfin hz
    have hfinE:=exI_fin hx' hm (by omega) hz
    have b0:=opW_ok hz 0
    have b1:=opW_ok hz 1
    have hne : encL intF (opWs d ps n i j) ≠ []:=fun h=>by
     have:=congrArg List.length h
     simp [opWs] at this
     omega
    rcases ho with ⟨h1,_⟩ | ⟨_,rfl,_⟩
    ·exact absurd h1 hne
    have hW : ∀ q,q < j→opW d ps n i j q = (exI d ps n (opAt d ps n i q)).1:=fun q hq=>if_pos hq
    have hW0 : ∀ q,¬ q < j→opW d ps n i j q = 0:=fun q hq=>if_neg hq
    have hop : Gives Tryz.prog 241 [fEx x,sl (encL intF (opWs d ps n i j))] (two (combine x (opW d ps n i j 0) (opW d ps n i j 1) (opW d ps n i j 2))):=by
     have h3 : j = 1 ∨ j = 2 ∨ j = 3:=by omega
     rcases h3 with rfl | rfl | rfl
     ·rw [hW 0 (by omega)] at b0 ⊢
      rw [hW0 1 (by omega),hW0 2 (by omega)]
      exact rop1_g x .un _ b0 (by omega)
     ·rw [hW 0 (by omega)] at b0 ⊢
      rw [hW 1 (by omega)] at b1 ⊢
      rw [hW0 2 (by omega)]
      exact rop2_g x .un _ _ b0 b1 (by omega)
     ·rw [hW 0 (by omega),hW 1 (by omega),hW 2 (by omega)]
      exact rop3_g x .un _ _ _ (by omega)
    simp [hm,hlt,hx]
    refine call_g hop ?_
    rw [hfinE] at hr
    simp [hr]
  rcases Classical.em (∀ q,q < m→(exI d ps n (opAt d ps n i q)).2.2 = 0) with hall | hall
  ·exact ⟨(exI d ps n i).1,((exI d ps n i).2.1 : Int),(fun _=>⟨rfl,rfl⟩),key _ (fun _=>rfl) (fun j hj _ hb=>absurd (hall j hj) hb)⟩
  ·obtain ⟨j,hj,hz,hb⟩ : ∃ j,j < m∧(∀ q,q < j→(exI d ps n (opAt d ps n i q)).2.2 = 0)∧(exI d ps n (opAt d ps n i j)).2.2 ≠ 0:=by
    have : ∀ t,t ≤ m→(∀ q,q < t→(exI d ps n (opAt d ps n i q)).2.2 = 0) ∨ ∃ j,j < m∧(∀ q,q < j→(exI d ps n (opAt d ps n i q)).2.2 = 0)∧(exI d ps n (opAt d ps n i j)).2.2 ≠ 0:=by
     intro t
     induction t with
     | zero=>intro _; exact .inl fun q h=>by omega
     | succ t ih =>
      intro ht
      rcases ih (by omega) with h1 | h1
      ·by_cases h2 : (exI d ps n (opAt d ps n i t)).2.2 = 0
       ·refine .inl fun q hq=>?_
        rcases Nat.lt_or_ge q t with h3 | h3
        ·exact h1 q h3
        ·obtain rfl : q = t:=by omega
         exact h2
       ·exact .inr ⟨t,by omega,h1,h2⟩
      ·exact .inr h1
    rcases this m (Nat.le_refl _) with h1 | h1
    ·exact absurd h1 hall
    ·exact h1
   have hE:=exI_err hx' hm (by omega) hj hz hb
   obtain ⟨w2,to2,hT,hG⟩:=rcheck_g d ps n hn k (opAt d ps n i j) (by have:=hgt j hz; omega)
   refine ⟨0,to2,(fun h=>by rw [hE] at h; exact absurd h hb),?_⟩
   rw [hE]
   refine key _ (fun h=>absurd (h j hj) hb) fun j2 hj2 hz2 hb2=>?_
   have : j2 = j:=by
    rcases Nat.lt_trichotomy j2 j with l | l | l
    ·exact absurd (hz j2 l) hb2
    ·exact l
    ·exact absurd (hz2 j l) hb
   subst this
   exact ⟨w2,to2,hG,rfl⟩
theorem rexCheck_g (d : PrgD) (ps : List FldD) (n : List ExD) : Gives Tryz.prog 132 [sl (encL fEx n),fScp d ps] (two (exCheck d ps n)):=by
 refine Gives.of mixed Tryz.func132 rfl rfl rfl (by kernel_rfl) ?_
 rw [exCheck_eq]
 by_cases c1 : 24 < n.length
 ·have c1' : 24 < (n.length : Int):=by omega
  simp [c1,c1',fScp,cPrg]
 have c1' : ¬ 24 < (n.length : Int):=by omega
 obtain ⟨w,to,hT,hG⟩:=rcheck_g d ps n (by omega) (n.length + 1) 0 (by omega)
 simp [c1,c1',fScp,cPrg]
 refine call_g hG ?_
 by_cases c2 : (exI d ps n 0).2.2 = 0
 ·obtain ⟨rfl,rfl⟩:=hT c2
  by_cases c3 : (exI d ps n 0).2.1 < n.length
  ·have c3' : ((exI d ps n 0).2.1 : Int) < n.length:=by omega
   simp [c2,c3,c3']
  ·have c3' : ¬ ((exI d ps n 0).2.1 : Int) < n.length:=by omega
   simp [c2,c3,c3']
 ·simp [c2]
def rpaI (l : List FldD) (c : Cap) (i : Nat) (st : St) : Prop:=noneT (fldHit l) (List.range l.length) i∧∃ g,Vf.Sl [(0,.f (.sl (encL fFld l) c)),(3,.f (intF i))] 50 g [] st
def rpaJ (l : List FldD) (c : Cap) (i : Nat) (x : FldD) (k : Nat) (st : St) : Prop:=noneT (fun y=>sEq y.name x.name) (l.take i) k∧∃ g,Vf.Sl [(0,.f (.sl (encL fFld l) c)),(3,.f (intF i)),(4,.f (intF k))] 50 g [] st
theorem rparams_g (l : List FldD) (c : Cap) (hl : l.length < 2^62) (hs : ∀ x ∈ l,x.name.size < 2^62) : Gives Tryz.prog 177 [.sl (encL fFld l) c] (intF ((scan l.length (hdrField l)).getD 0)):=by
 refine Gives.of mixed Tryz.func177 rfl rfl rfl (by kernel_rfl) ?_
 generalize hv : (scan l.length (hdrField l)).getD 0 = v
 simp
 refine forX mixed l.length (rpaI l c) (by kernel_rfl) ⟨.zero,[],Sl.of rfl rfl rfl⟩ ?_
 rintro i ⟨ts,hh,kk⟩ hi ⟨hno,g,rfl,rfl,f,rfl⟩
 by_cases hlt : i < l.length
 ·obtain ⟨x,hx,hx'⟩:=nth_of hlt
  have hw:=wrap64 (x:=(i : Int) + 1) (by omega) (by omega)
  have hf : hdrField l i = if !ident x.name then some 6 else if badW x.width then some 10 else if (l.take i).any (fun g=>sEq g.name x.name) then some 7 else none:=by simp [hdrField,hx']
  have out : ∀ e,hdrField l i = some e→v = e:=fun e he=>by rw [← hv,scan_at hno hlt he]; rfl
  simp [hlt,hx]
  refine call_g (rident_g x.name (hs x (List.mem_of_getElem? hx'))) ?_
  cases i1 : ident x.name with
  | false=>simp [out 6 (by rw [hf,i1]; rfl)]
  | true =>
  by_cases w1 : x.width < 1
  ·simp [hlt,hx,w1,out 10 (by rw [hf,i1]; simp [badW,w1])]
  by_cases w2 : 32 < x.width
  ·simp [hlt,hx,w1,w2,out 10 (by rw [hf,i1]; simp [badW,w2])]
  have wb : badW x.width = false:=by simp [badW,w1,w2]
  simp [hlt,hx,w1,w2]
  refine forX mixed i (rpaJ l c i x) (by kernel_rfl) ⟨.zero,_,Sl.of rfl rfl rfl⟩ ?_
  rintro k ⟨ts,hh,kk⟩ hk ⟨hno2,g,rfl,rfl,f,rfl⟩
  by_cases hkt : k < i
  ·obtain ⟨y,hy,hy'⟩:=nth_of (show k < l.length by omega)
   have hyt : (l.take i)[k]? = some y:=by rw [List.getElem?_take_of_lt hkt]; exact hy'
   have hw':=wrap64 (x:=(k : Int) + 1) (by omega) (by omega)
   cases he : sEq y.name x.name with
   | true =>
    have:=any_hit (p:=fun y : FldD=>sEq y.name x.name) hyt he
    simp [hkt,hlt,(show k < l.length by omega),hx,hy,he,hw',hw]
    exact (out 7 (by rw [hf,i1,wb,this]; rfl)).symm
   | false =>
    simp [hkt,hlt,(show k < l.length by omega),hx,hy,he,hw',hw]
    exact ⟨hno2.next hyt he,_,Sl.of rfl rfl rfl⟩
  ·obtain rfl : k = i:=by omega
   have:=hno2.all (by simp; omega)
   simp [hw]
   exact ⟨hno.next (range_at hlt) (by simp [fldHit,hf,i1,wb,this]),_,Sl.of rfl rfl rfl⟩
 ·obtain rfl : i = l.length:=by omega
  rw [scan_of hno] at hv
  subst hv
  simp
theorem rscope_g (d : PrgD) (r : Int) (a : ActD) (h0 : 0 ≤ r) (ha : d.acts.l[r.toNat]? = some a) : Gives Tryz.prog 179 [fPrg d,intF r] (fScp d a.params.l):=by
 refine Gives.of mixed Tryz.func179 rfl rfl rfl (by kernel_rfl) ?_
 obtain ⟨hlt,_⟩:=List.getElem?_eq_some_iff.1 ha
 obtain ⟨x,hx,hx'⟩:=nth_of hlt
 rw [ha] at hx'
 obtain rfl:=Option.some.inj hx'
 simp [fPrg,cPrg,h0,hlt,hx,fScp]
 try exact ⟨3,_,rfl,by simp⟩
theorem rsized_g (d : PrgD) (ps : List FldD) (n : List ExD) (w : Int) : Gives Tryz.prog 230 [sl (encL fEx n),fScp d ps,intF w] (intF (valCheck d ps n w)):=by
 refine Gives.of mixed Tryz.func230 rfl rfl rfl (by kernel_rfl) ?_
 simp [fScp,cPrg]
 refine call_g (rexCheck_g d ps n) ?_
 by_cases c1 : (exCheck d ps n).2 = 0
 ·by_cases c2 : (exCheck d ps n).1 = w <;> simp [c1,c2,valCheck]
 ·simp [c1,valCheck]
theorem rst_g (d : PrgD) (ps : List FldD) (s : StD) : Gives Tryz.prog 178 [fPrg d,fSt s,fScp d ps] (intF (stCheck d ps s)):=by
 refine Gives.of mixed Tryz.func178 rfl rfl rfl (by kernel_rfl) ?_
 simp [fScp,fPrg,cPrg]
 refine call_g (rdecl_g d s.dh s.df) ?_
 by_cases k1 : s.kind = 1
 ·cases hf : fldAt d s.dh s.df with
  | none=>rcases regAt (d:=d) s.reg with ⟨c1,hr⟩ | ⟨c1,c2,hr⟩ | ⟨c1,c2,c3,y,hy,hr⟩ <;> simp [*,stCheck,fldW]
  | some f =>
   have hv : stCheck d ps s = valCheck d ps s.value.l f.width:=by unfold stCheck; rw [if_pos k1,hf]
   rw [hv]
   rcases regAt (d:=d) s.reg with ⟨c1,hr⟩ | ⟨c1,c2,hr⟩ | ⟨c1,c2,c3,y,hy,hr⟩
   ·simp [c1,k1,fldW]; exact call_g (rsized_g d ps s.value.l f.width) (by simp)
   ·simp [c1,c2,k1,fldW]; exact call_g (rsized_g d ps s.value.l f.width) (by simp)
   ·simp [c1,c2,k1,fldW]; exact call_g (rsized_g d ps s.value.l f.width) (by simp)
 by_cases k2 : s.kind = 2 ∨ s.kind = 3
 ·have hv : stCheck d ps s = if s.hdr < 0 ∨ (d.headers.l.length : Int) ≤ s.hdr then 8 else 0:=by unfold stCheck; rw [if_neg k1,if_pos k2]
  rw [hv]
  by_cases h1 : s.hdr < 0 <;> by_cases h2 : (d.headers.l.length : Int) ≤ s.hdr <;> rcases k2 with k2 | k2 <;> rcases regAt (d:=d) s.reg with ⟨c1,hr⟩ | ⟨c1,c2,hr⟩ | ⟨c1,c2,c3,y,hy,hr⟩ <;> simp [*]
 have k2a : ¬ s.kind = 2:=fun h=>k2 (.inl h)
 have k2b : ¬ s.kind = 3:=fun h=>k2 (.inr h)
 by_cases k4 : s.kind = 4 ∨ s.kind = 5
 ·rcases regAt (d:=d) s.reg with ⟨c1,hr⟩ | ⟨c1,c2,hr⟩ | ⟨c1,c2,c3,y,hy,hr⟩
  ·have hv : stCheck d ps s = 8:=by unfold stCheck; rw [if_neg k1,if_neg k2,if_pos k4,hr]
   cases hf : (fldAt d s.dh s.df).isSome <;> rcases k4 with k4 | k4 <;> simp [c1,k4,hv,hf]
  ·have hv : stCheck d ps s = 8:=by unfold stCheck; rw [if_neg k1,if_neg k2,if_pos k4,hr]
   cases hf : (fldAt d s.dh s.df).isSome <;> rcases k4 with k4 | k4 <;> simp [c1,c2,k4,hv,hf]
  ·have hv : stCheck d ps s = if s.kind = 4∧(fldAt d s.dh s.df).isNone then 8
    else if (exCheck d ps s.index.l).2 ≠ 0 then (exCheck d ps s.index.l).2
    else if s.kind = 5 then valCheck d ps s.value.l y.width
    else if fldW (fldAt d s.dh s.df) = y.width then 0 else 10:=by
     unfold stCheck; rw [if_neg k1,if_neg k2,if_pos k4,hr]; rfl
   rw [hv]
   rcases k4 with k4 | k4
   ·cases hf : fldAt d s.dh s.df with
    | none=>simp [c1,c2,k4,fldW]
    | some f =>
     simp [c1,c2,k4,fldW]
     refine call_g (rexCheck_g d ps s.index.l) ?_
     by_cases h1 : (exCheck d ps s.index.l).2 = 0
     ·by_cases h2 : f.width = y.width <;> simp [h1,k4,c1,c3,hy,h2]
     ·simp [h1]
   ·simp [c1,c2,k4]
    refine call_g (rexCheck_g d ps s.index.l) ?_
    by_cases h1 : (exCheck d ps s.index.l).2 = 0
    ·simp [h1,k4,c1,c3,hy]
     exact call_g (rsized_g d ps s.value.l y.width) (by simp)
    ·simp [h1]
 ·have k4a : ¬ s.kind = 4:=fun h=>k4 (.inl h)
  have k4b : ¬ s.kind = 5:=fun h=>k4 (.inr h)
  have hv : stCheck d ps s = 11:=by unfold stCheck; rw [if_neg k1,if_neg k2,if_neg k4]
  rcases regAt (d:=d) s.reg with ⟨c1,hr⟩ | ⟨c1,c2,hr⟩ | ⟨c1,c2,c3,y,hy,hr⟩ <;> simp [*]
def racI (d : PrgD) (a : ActD) (r : Int) (i : Nat) (s : St) : Prop:=noneT (fun i=>(stScan d a i).isSome) (List.range a.body.l.length) i∧∃ g,Vf.Sl [(1,.f (intF r)),(2,.ref 0 0),(6,.ref 1 0),(7,.f (intF i))] 68 (aPrg d :: [.f (strF a.name),.f (sl (encL fFld a.params.l)),.f (sl (encL fSt a.body.l))] :: g) [] s
theorem ract_g (d : PrgD) (hn : NmOk d) (r : Int) : Gives Tryz.prog 126 [fPrg d,intF r] (two (actCheck d r)):=by
 refine Gives.of mixed Tryz.func126 rfl rfl rfl (by kernel_rfl) ?_
 rcases actAt (d:=d) r with ⟨c1,hr⟩ | ⟨c1,c2,hr⟩ | ⟨c1,c2,c3,a,ha,ha',hr⟩
 ·have hv : actCheck d r = (-1,8):=by unfold actCheck; rw [hr]
  simp [c1,fPrg,cPrg,hv]
 ·have hv : actCheck d r = (-1,8):=by unfold actCheck; rw [hr]
  simp [c1,c2,fPrg,cPrg,hv]
 have c0 : 0 ≤ r:=by omega
 have hv : actCheck d r = actCheckA d a:=by unfold actCheck; rw [hr]
 rw [hv,actCheckA_eq]
 have hna:=hn.acts a (List.mem_of_getElem? ha')
 simp [c0,c1,c2,c3,ha,fPrg,cPrg]
 refine call_g (rident_g a.name hna.1) ?_
 have hD : actDecl a = if !ident a.name then 6 else if 4 < a.params.l.length ∨ 12 < a.body.l.length then 12 else (scan a.params.l.length (hdrField a.params.l)).getD 0:=rfl
 cases h1 : ident a.name with
 | false=>simp [hD,h1]
 | true =>
 rw [h1] at hD
 by_cases p1 : 4 < a.params.l.length
 ·have p1' : 4 < (a.params.l.length : Int):=by omega
  simp [hD,p1,p1']
 have p1' : ¬ 4 < (a.params.l.length : Int):=by omega
 by_cases p2 : 12 < a.body.l.length
 ·have p2' : 12 < (a.body.l.length : Int):=by omega
  simp [hD,p1,p1',p2,p2']
 have p2' : ¬ 12 < (a.body.l.length : Int):=by omega
 have hD2 : actDecl a = (scan a.params.l.length (hdrField a.params.l)).getD 0:=by rw [hD]; simp [p1,p2]
 have hpar:=rparams_g a.params.l .un (by omega) hna.2
 rw [← hD2] at hpar
 simp [p1',p2']
 refine call_g hpar ?_
 by_cases h2 : actDecl a = 0
 case neg =>
  simp [h2]
  refine call_g hpar ?_
  simp
 simp [h2]
 refine forX mixed a.body.l.length (racI d a r) (by kernel_rfl) ⟨.zero,[],Sl.of rfl rfl rfl⟩ ?_
 rintro i ⟨ts,hh,kk⟩ hi ⟨hno,g,rfl,rfl,f,rfl⟩
 by_cases hlt : i < a.body.l.length
 ·obtain ⟨x,hx,hx'⟩:=nth_of hlt
  have hw:=wrap64 (x:=(i : Int) + 1) (by omega) (by omega)
  have hf : stScan d a i = if stCheck d a.params.l x = 0 then none else some ((i : Int),stCheck d a.params.l x):=by simp only [stScan,hx']
  have out : ∀ e,stScan d a i = some e→scan a.body.l.length (stScan d a) = some e:=fun e he=>scan_at hno hlt he
  simp [hlt,hx,aPrg]
  refine call_g (rscope_g d r a c0 ha') ?_
  simp
  refine call_g (rst_g d a.params.l x) ?_
  by_cases h3 : stCheck d a.params.l x = 0
  ·simp [h3,hw]
   exact ⟨hno.next (range_at hlt) (by rw [hf,if_pos h3]; rfl),_,Sl.of rfl rfl rfl⟩
  ·simp [h3,out _ (hf.trans (if_neg h3))]
 ·obtain rfl : i = a.body.l.length:=by omega
  simp [hlt,scan_of hno]
end Go.Proofs.YtafenffmgpcjcaaGreat
