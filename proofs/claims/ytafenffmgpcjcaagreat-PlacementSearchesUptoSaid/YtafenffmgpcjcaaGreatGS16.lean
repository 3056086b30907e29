/- Texts of the proof: GS16. -/
import Derived.Test.YtafenffmgpcjcaaGreatGS15
import Derived.Test.YtafenffmgpcjcaaGreatGS14
import Derived.Test.YtafenffmgpcjcaaGreatGS9
import Derived.Test.YtafenffmgpcjcaaGreatGS13
import Derived.Test.YtafenffmgpcjcaaGreatGVC1
namespace Go.Proofs.YtafenffmgpcjcaaGreat
open Go.RowKit Go.Proofs.YtafenffmgpcjcaaGreat.Vf
set_option linter.unusedVariables false
set_option linter.unusedSimpArgs false
set_option maxRecDepth 100000
set_option maxHeartbeats 4000000
def rowBo (r:List Bool):List AV:=r.map fun b=>.f (boolF b)
@[simp] theorem rowBo_len (r:List Bool):(rowBo r).length=r.length:=by simp [rowBo]
theorem rowBo_at {r:List Bool} {j:Nat} {b:Bool} (h:r[j]?=some b):((rowBo r).drop j).head?=some (.f (boolF b)):=by
 rw [List.head?_drop]; simp [rowBo,h]
@[simp] theorem rowBo_set (r:List Bool) (j:Nat) (b:Bool):(rowBo r).set j (.f (.sc (.bool b)))=rowBo (r.set j b):=by simp [rowBo,List.map_set]
theorem zrow_rep (x:AV):∀ n,zeroRow [x] n=List.replicate n x
 | 0=>rfl
 | n+1=>by rw [zeroRow,zrow_rep x n]; rfl
theorem make_bo {h:List (List AV)} {k:List (Nat × Nat)} {i n:Nat} (hn:n < 2^32):opMake (tyOf Tryz.prog) h k 110 (isZero (.tmp i)) (.f (.sc (.int .i64 n))) (.f (.sc (.int .i64 n)))=some (.ms h.length 0 n n 1,h ++ [rowBo (List.replicate n false)],k):=by
 simp only [opMake,idx,isZero,ty110,Int.natCast_nonneg,if_true,Int.toNat_natCast]
 simp only [ty4]
 rw [if_neg (by simp; omega),if_neg (by simp)]
 simp [AV.one,zrow_rep,rowBo]
def ptrs (P:Nat→Nat) (i n:Nat):List AV:=(List.range n).map fun a=>if a < i then .ms (P a) 0 n n 1 else .f (.sl [] .nil)
@[simp] theorem ptrs_len {P:Nat→Nat} {i n:Nat}:(ptrs P i n).length=n:=by simp [ptrs]
theorem ptrs_at {P:Nat→Nat} {i n a:Nat} (ha:a < i) (hn:a < n):((ptrs P i n).drop a).head?=some (.ms (P a) 0 n n 1):=by
 rw [List.head?_drop]; simp [ptrs,hn,ha]
theorem ptrs_set (P:Nat→Nat) {i n p:Nat} (hi:i < n):(ptrs P i n).set i (.ms p 0 n n 1)=ptrs (fun a=>if a=i then p else P a) (i+1) n:=by
 apply List.ext_getElem
 ·simp
 ·intro a h1 h2
  simp only [List.length_set,ptrs_len] at h1
  rw [List.getElem_set]
  by_cases e:i=a
  ·subst e
   simp [ptrs]
  ·have e':¬ a=i:=fun h=>e h.symm
   simp only [if_neg e,ptrs,List.getElem_map,List.getElem_range,if_neg e']
   by_cases h:a < i
   ·rw [if_pos h,if_pos (by omega)]
   ·rw [if_neg h,if_neg (by omega)]
theorem make_pp {h:List (List AV)} {k:List (Nat × Nat)} {i n:Nat} (P:Nat→Nat) (hn:n < 2^32):opMake (tyOf Tryz.prog) h k 178 (isZero (.tmp i)) (.f (.sc (.int .i64 n))) (.f (.sc (.int .i64 n)))=some (.ms h.length 0 n n 1,h ++ [ptrs P 0 n],k):=by
 simp only [opMake,idx,isZero,ty178,Int.natCast_nonneg,if_true,Int.toNat_natCast]
 simp only [ty110]
 rw [if_neg (by simp; omega),if_neg (by simp)]
 simp [AV.one,zrow_rep,ptrs,List.map_const']
theorem map_set_range {α:Type} (f:Nat→α) {n j:Nat} (x:α):((List.range n).map f).set j x=(List.range n).map fun b=>if b=j then x else f b:=by
 apply List.ext_getElem
 ·simp
 ·intro b h1 h2
  rw [List.getElem_set]
  by_cases e:j=b
  ·subst e; simp
  ·have e':¬ b=j:=fun h=>e h.symm
   simp [e,e']
theorem mapO_all' {α β γ:Type} {f:β→Option γ} {g:α→β} {h:α→γ}:∀ {l:List α},(∀ a ∈ l,f (g a)=some (h a))→mapO f (l.map g)=some (l.map h)
 | [],_=>rfl
 | x::l,hl=>by
  simp only [List.map_cons,mapO]
  rw [hl x (.head _),mapO_all' fun a ha=>hl a (.tail _ ha)]
theorem rowBo_one (r:List Bool):(rowBo r).all AV.one=true:=by
 induction r with
 | nil=>rfl
 | cons x r ih=>show (AV.one _ && (rowBo r).all AV.one)=true; rw [ih]; rfl
theorem rowBo_fz (H:List (List AV)) (r:List Bool):mapO (fzH 0 H 0) (rowBo r)=some (r.map boolF):=by
 induction r with
 | nil=>rfl
 | cons x r ih=>show mapO (fzH 0 H 0) (.f (boolF x)::rowBo r)=_; rw [mapO,ih]; rfl
theorem bools_one (r:List Bool):(r.map boolF).all (fun y=>(AV.f y).one)=true:=by
 induction r with
 | nil=>rfl
 | cons x r ih=>show (AV.one _ && (r.map boolF).all (fun y=>(AV.f y).one))=true; rw [ih]; rfl
theorem chunk_one:∀ l:List FV,chunk false 1 l.length l=l
 | []=>rfl
 | x::r=>by have:=chunk_one r; simpa [chunk] using this
theorem ret_bools {H:List (List AV)} {wa n:Nat} {Q:Nat→Nat} {M:Nat→List Bool} {R:FV→Prop} (hM:∀ a,(M a).length=n) (h3:ix H wa=some (ptrs Q n n)) (hrow:∀ a,a < n→ix H (Q a)=some (rowBo (M a))) (h:R (.sl (encL browF ((List.range n).map M)) .un)):RetV H (.ms wa 0 n n 1) R:=by
 refine ⟨2,_,?_,h⟩
 have hrow:∀ a ∈ List.range n,fzH 0 H 1 (if a < n then AV.ms (Q a) 0 n n 1 else .f (.sl [] .nil))=some (browF (M a)):=fun a ha=>by
  have ha:=List.mem_range.1 ha
  rw [if_pos ha]
  show (match ix H (Q a) with
   | some cs=>if _ then _ else _
   | none=>none)=_
  rw [hrow a ha]
  have ht:((rowBo (M a)).drop 0).take (n * 1)=rowBo (M a):=by rw [← hM a]; simp [List.take_of_length_le]
  simp only
  rw [ht,if_pos ⟨by omega,by omega,by simp [hM a],by omega,rowBo_one (M a)⟩,rowBo_fz]
  simp only
  rw [if_pos (bools_one (M a))]
  have hc:=chunk_one ((M a).map boolF)
  rw [List.length_map,hM a] at hc
  show some (FV.sl (chunk false 1 n ((M a).map boolF)) .un)=_
  rw [hc]; rfl
 show (match ix H wa with
  | some cs=>if _ then _ else _
  | none=>none)=_
 rw [h3]
 have ht:((ptrs Q n n).drop 0).take (n * 1)=ptrs Q n n:=by simp [List.take_of_length_le]
 have hone:(ptrs Q n n).all AV.one=true:=by
  simp only [ptrs,List.all_map,List.all_eq_true]
  intro a _
  simp only [Function.comp]
  split <;> rfl
 simp only
 rw [ht,if_pos ⟨by omega,by omega,by simp,by omega,hone⟩]
 have hm:mapO (fzH 0 H 1) (ptrs Q n n)=some ((List.range n).map fun a=>browF (M a)):=mapO_all' hrow
 rw [hm]
 simp only
 have hall:((List.range n).map fun a=>browF (M a)).all (fun y=>(AV.f y).one)=true:=by
  simp only [List.all_map,List.all_eq_true]
  intro a _
  rfl
 rw [if_pos hall]
 have hch2:=chunk_one ((List.range n).map fun a=>browF (M a))
 simp only [List.length_map,List.length_range] at hch2
 show some (FV.sl (chunk false 1 n ((List.range n).map fun a=>browF (M a))) .un)=_
 rw [hch2]
 simp [encL]
def reR (D:List (List Int)) (n i j k:Nat):List Bool:=(List.range n).map fun b=>if b < j then (folP D i b).1 else if b=j then (decide (j=i) || fRq D i j k) else decide (b=i)
def leR (D:List (List Int)) (n i j k:Nat):List Bool:=(List.range n).map fun b=>if b < j then (folP D i b).2 else if b=j then fLq D i j k else false
@[simp] theorem reR_len {D:List (List Int)} {n i j k:Nat}:(reR D n i j k).length=n:=by simp [reR]
@[simp] theorem leR_len {D:List (List Int)} {n i j k:Nat}:(leR D n i j k).length=n:=by simp [leR]
theorem reR_zero (D:List (List Int)) {n i:Nat}:(List.replicate n false).set i true=reR D n i 0 0:=by
 have:List.replicate n false=(List.range n).map fun _=>false:=by simp [List.map_const']
 rw [this,map_set_range]
 refine List.map_congr_left fun b _=>?_
 rw [if_neg (Nat.not_lt_zero b)]
 by_cases e:b=i
 ·subst e
  simp
  by_cases e0:b=0
  ·exact .inr (.inl e0.symm)
  ·exact .inl e0
 ·by_cases e0:b=0
  ·subst e0
   have e':¬ 0=i:=e
   simp [e',fRq]
  ·simp [e,e0]
theorem leR_zero (D:List (List Int)) {n i:Nat}:List.replicate n false=leR D n i 0 0:=by
 have:List.replicate n false=(List.range n).map fun _=>false:=by simp [List.map_const']
 rw [this]
 refine List.map_congr_left fun b _=>?_
 rw [if_neg (Nat.not_lt_zero b)]
 split <;> simp [fLq]
theorem reR_end (D:List (List Int)) (n i j:Nat):reR D n i j j=reR D n i (j+1) 0:=by
 refine List.map_congr_left fun b _=>?_
 by_cases h1:b < j
 ·rw [if_pos h1,if_pos (by omega)]
 rw [if_neg h1]
 by_cases h2:b=j
 ·subst h2
  rw [if_pos rfl,if_pos (by omega),folP_1]
 ·rw [if_neg h2,if_neg (by omega)]
  by_cases h3:b=j+1
  ·subst h3; simp [fRq]
  ·rw [if_neg h3]
theorem leR_end (D:List (List Int)) (n i j:Nat):leR D n i j j=leR D n i (j+1) 0:=by
 refine List.map_congr_left fun b _=>?_
 by_cases h1:b < j
 ·rw [if_pos h1,if_pos (by omega)]
 rw [if_neg h1]
 by_cases h2:b=j
 ·subst h2
  rw [if_pos rfl,if_pos (by omega),folP_2]
 ·rw [if_neg h2,if_neg (by omega)]
  by_cases h3:b=j+1
  ·subst h3; simp [fLq]
  ·rw [if_neg h3]
theorem leR_all (D:List (List Int)) (n i:Nat):leR D n i n 0=folRow D n i:=by
 refine List.map_congr_left fun b hb=>?_
 rw [if_pos (List.mem_range.1 hb)]
theorem reR_k (D:List (List Int)) {n i j k m:Nat} (hk:k < j) (hn:k < n):(reR D n i j m)[k]?=some (folP D i k).1:=by simp [reR,hn,hk]
theorem leR_k (D:List (List Int)) {n i j k m:Nat} (hk:k < j) (hn:k < n):(leR D n i j m)[k]?=some (folP D i k).2:=by simp [leR,hn,hk]
theorem reR_j (D:List (List Int)) {n i j m:Nat} (hn:j < n):(reR D n i j m)[j]?=some (decide (j=i) || fRq D i j m):=by simp [reR,hn]
theorem leR_j (D:List (List Int)) {n i j m:Nat} (hn:j < n):(leR D n i j m)[j]?=some (fLq D i j m):=by simp [leR,hn]
theorem reR_set (D:List (List Int)) {n i j k:Nat}:(reR D n i j k).set j ((decide (j=i) || fRq D i j k) || ((folP D i k).1 && decide (kindM D k j ≠ 0)))=reR D n i j (k+1):=by
 unfold reR
 rw [map_set_range]
 refine List.map_congr_left fun b _=>?_
 by_cases e:b=j
 ·subst e
  rw [if_pos rfl,if_neg (Nat.lt_irrefl _),if_pos rfl,fRq_next,Bool.or_assoc]
 ·rw [if_neg e,if_neg e,if_neg e]
theorem leR_set (D:List (List Int)) {n i j k:Nat}:(leR D n i j k).set j (fLq D i j k || ((decide (kindM D k j=2) && (folP D i k).1) || (decide (kindM D k j=1) && (folP D i k).2)))=leR D n i j (k+1):=by
 unfold leR
 rw [map_set_range]
 refine List.map_congr_left fun b _=>?_
 by_cases e:b=j
 ·subst e
  rw [if_pos rfl,if_neg (Nat.lt_irrefl _),if_pos rfl,fLq_next]
 ·rw [if_neg e,if_neg e,if_neg e]
theorem set_none {D:List (List Int)} {n i j k:Nat} (h:kindM D k j=0):reR D n i j (k+1)=reR D n i j k∧leR D n i j (k+1)=leR D n i j k:=by
 constructor
 ·refine List.map_congr_left fun b _=>?_
  rw [fRq_next]
  simp [h]
 ·refine List.map_congr_left fun b _=>?_
  rw [fLq_next]
  simp [h]
theorem ix_set_ne {h:List (List AV)} {p b:Nat} {x:List AV} (hp:p ≠ b):ix (h.set p x) b=ix h b:=by
 simp only [ix]; rw [List.getElem?_set_ne hp]
theorem ix_set_eq {h:List (List AV)} {p:Nat} {x y:List AV} (hp:ix h p=some y):ix (h.set p x) p=some x:=by
 simp only [ix] at hp ⊢; rw [List.getElem?_set_self (List.getElem?_eq_some_iff.1 hp).1]
structure Fi (D:List (List Int)) (n ra wa:Nat) (P Q:Nat→Nat) (i:Nat) (r l:List Bool) (h:List (List AV)):Prop where
 old:∀ a,a < i→ix h (Q a)=some (rowBo (folRow D n a))∧Q a ≠ P i∧Q a ≠ Q i
 pr:ix h (P i)=some (rowBo r)
 pl:ix h (Q i)=some (rowBo l)
 hr:ix h ra=some (ptrs P (i+1) n)
 hl:ix h wa=some (ptrs Q (i+1) n)
 ne:P i ≠ Q i∧P i ≠ ra∧P i ≠ wa∧Q i ≠ ra∧Q i ≠ wa∧ra ≠ wa
 far:∀ a,a < i→Q a ≠ ra∧Q a ≠ wa
variable {D:List (List Int)} {n ra wa i:Nat} {P Q:Nat→Nat} {r l:List Bool} {h:List (List AV)}
theorem Fi.setR (F:Fi D n ra wa P Q i r l h) (r':List Bool):Fi D n ra wa P Q i r' l (h.set (P i) (rowBo r')) :=
 ⟨fun a ha=>⟨by rw [ix_set_ne (Ne.symm (F.old a ha).2.1)]; exact (F.old a ha).1,(F.old a ha).2⟩,ix_set_eq F.pr,by rw [ix_set_ne F.ne.1]; exact F.pl,by rw [ix_set_ne F.ne.2.1]; exact F.hr,by rw [ix_set_ne F.ne.2.2.1]; exact F.hl,F.ne,F.far⟩
theorem Fi.setL (F:Fi D n ra wa P Q i r l h) (l':List Bool):Fi D n ra wa P Q i r l' (h.set (Q i) (rowBo l')) :=
 ⟨fun a ha=>⟨by rw [ix_set_ne (Ne.symm (F.old a ha).2.2)]; exact (F.old a ha).1,(F.old a ha).2⟩,by rw [ix_set_ne (Ne.symm F.ne.1)]; exact F.pr,ix_set_eq F.pl,by rw [ix_set_ne F.ne.2.2.2.1]; exact F.hr,by rw [ix_set_ne F.ne.2.2.2.2.1]; exact F.hl,F.ne,F.far⟩
end Go.Proofs.YtafenffmgpcjcaaGreat
namespace Go.Proofs.YtafenffmgpcjcaaGreat
open Go.RowKit Go.Proofs.YtafenffmgpcjcaaGreat.Vf
set_option linter.unusedVariables false
set_option linter.unusedSimpArgs false
set_option maxRecDepth 100000
set_option maxHeartbeats 4000000
def smT (a b:List Int) (k:Nat):Prop:=smallM a b=smallM (a.drop k) (b.drop k)
theorem smT.at_ {a b:List Int} {k:Nat} {x y:Int} (h:smT a b k) (hx:a[k]?=some x) (hy:b[k]?=some y):smallM a b=if x=y then smallM (a.drop (k+1)) (b.drop (k+1)) else decide (x < y):=by
 obtain ⟨h1,rfl⟩:=List.getElem?_eq_some_iff.1 hx
 obtain ⟨h2,rfl⟩:=List.getElem?_eq_some_iff.1 hy
 unfold smT at h
 rw [h,List.drop_eq_getElem_cons h1,List.drop_eq_getElem_cons h2,smallM]
theorem smT.right {a b:List Int} {k:Nat} (h:smT a b k) (hk:k < a.length) (hb:¬ k < b.length):smallM a b=decide (a.length < b.length):=by
 unfold smT at h
 rw [h,List.drop_eq_getElem_cons hk,List.drop_eq_nil_of_le (show b.length≤k by omega)]
 exact (decide_eq_false (by omega)).symm
theorem smT.left {a b:List Int} {k:Nat} (h:smT a b k) (hk:¬ k < a.length) (hka:k≤a.length):smallM a b=decide (a.length < b.length):=by
 unfold smT at h
 rw [h,List.drop_eq_nil_of_le (show a.length≤k by omega)]
 cases hb:b.drop k with
 | nil =>
  have:=List.length_drop (i:=k) (l:=b)
  rw [hb] at this
  simp only [List.length_nil] at this
  rw [decide_eq_false (by omega)]
  rfl
 | cons y l =>
  have:=List.length_drop (i:=k) (l:=b)
  rw [hb] at this
  simp only [List.length_cons] at this
  rw [decide_eq_true (by omega)]
  rfl
def rsmI (a b:List Int) (ca cb:Cap) (k:Nat) (s:St):Prop:=smT a b k∧Vf.Sl [(0,.f (.sl (encL intF a) ca)),(1,.f (.sl (encL intF b) cb)),(5,.f (intF k))] 41 [] [] s
theorem rsmaller_g (a b:List Int) (ca cb:Cap) (ha:a.length < 2^62) (hb:b.length < 2^62):Gives Tryz.prog 48 [.sl (encL intF a) ca,.sl (encL intF b) cb] (boolF (smallM a b)):=by
 refine Gives.of mixed Tryz.func48 rfl rfl rfl (by kernel_rfl) ?_
 simp
 refine forX mixed a.length (rsmI a b ca cb) (by kernel_rfl) ⟨rfl,Sl.of rfl rfl rfl⟩ ?_
 rintro k ⟨ts,hh,kk⟩ hk ⟨hno,rfl,rfl,f,rfl⟩
 by_cases hlt:k < a.length
 ·obtain ⟨x,hx,hx'⟩:=nth_of hlt
  have hw:=wrap64 (x:=(k:Int)+1) (by omega) (by omega)
  by_cases hlb:k < b.length
  ·obtain ⟨y,hy,hy'⟩:=nth_of hlb
   have hs:=hno.at_ hx' hy'
   by_cases e:x=y
   ·rw [if_pos e] at hs
    simp [hlt,hlb,hx,hy,hw,e]
    exact ⟨hs,Sl.of rfl rfl rfl⟩
   ·rw [if_neg e] at hs
    rw [hs]
    simp [hlt,hlb,hx,hy,hw,e]
  ·rw [hno.right hlt hlb]
   simp [hlt,hlb]
 ·rw [hno.left hlt hk]
  simp [hlt]
theorem reR_start (D:List (List Int)) {n i:Nat} (hi:i < n):(List.replicate n false).set i true=reR D n i (i+1) 0:=by
 have:List.replicate n false=(List.range n).map fun _=>false:=by simp [List.map_const']
 rw [this,map_set_range]
 refine List.map_congr_left fun b _=>?_
 by_cases e:b=i
 ·subst e
  rw [if_pos rfl,if_pos (Nat.lt_succ_self _),folP_self]
 ·rw [if_neg e]
  by_cases h1:b < i+1
  ·rw [if_pos h1,folP_low D i b (by omega)]
  ·rw [if_neg h1]
   by_cases h2:b=i+1
   ·rw [if_pos h2]; subst h2; simp [fRq]
   ·rw [if_neg h2,decide_eq_false e]
theorem leR_start (D:List (List Int)) {n i:Nat} (hi:i < n):List.replicate n false=leR D n i (i+1) 0:=by
 have:List.replicate n false=(List.range n).map fun _=>false:=by simp [List.map_const']
 rw [this]
 refine List.map_congr_left fun b _=>?_
 by_cases h1:b < i+1
 ·rw [if_pos h1]
  by_cases e:b=i
  ·subst e; rw [folP_self]
  ·rw [folP_low D i b (by omega)]
 ·rw [if_neg h1]
  split <;> rfl
theorem reR_low (D:List (List Int)) (n i j:Nat):reR D n i j i=reR D n i j 0:=by
 refine List.map_congr_left fun b _=>?_
 rw [fRq_low D i j i (Nat.le_refl _),fRq_low D i j 0 (Nat.zero_le _)]
theorem leR_low (D:List (List Int)) (n i j:Nat):leR D n i j i=leR D n i j 0:=by
 refine List.map_congr_left fun b _=>?_
 rw [fLq_low D i j i (Nat.le_refl _),fLq_low D i j 0 (Nat.zero_le _)]
theorem row_no {D:List (List Int)} {n i j k:Nat} (h:(folP D i k).1=false):reR D n i j (k+1)=reR D n i j k∧leR D n i j (k+1)=leR D n i j k:=by
 have h2:(folP D i k).2=false:=by
  cases e:(folP D i k).2 with
  | false=>rfl
  | true=>rw [folP_lead D i k e] at h; cases h
 constructor
 ·refine List.map_congr_left fun b _=>?_
  rw [fRq_next]
  simp [h]
 ·refine List.map_congr_left fun b _=>?_
  rw [fLq_next]
  simp [h,h2]
theorem kind_or (D:List (List Int)) (k j:Nat):kindM D k j=0∨kindM D k j=1∨kindM D k j=2:=by
 unfold kindM
 split
 ·exact .inl rfl
 ·split
  ·rename_i h
   rcases h with h | h
   ·exact .inr (.inl h)
   ·exact .inr (.inr h)
  ·exact .inl rfl
theorem ret_bo {A:List AV} {r:List Bool} {n:Nat} {R:FV→Prop} (hn:r.length=n) (h:R (browF r)):RetV [A,rowBo r] (.ms 1 0 n n 1) R:=by
 subst hn
 refine ⟨1,_,?_,h⟩
 have ht:((rowBo r).drop 0).take (r.length * 1)=rowBo r:=by simp [List.take_of_length_le]
 show (if _ then _ else _)=_
 rw [ht,if_pos ⟨by omega,by omega,by simp,by omega,rowBo_one r⟩,rowBo_fz]
 show (if _ then _ else _)=_
 rw [if_pos (bools_one r)]
 have hc:=chunk_one (r.map boolF)
 rw [List.length_map] at hc
 show some (FV.sl (chunk false 1 r.length (r.map boolF)) .un)=_
 rw [hc]; rfl
def rfoI (D:List (List Int)) (c:Cap) (n i q:Nat) (s:St):Prop:=∃ j,j=i+1+q ∧
 Vf.Sl [(0,.f (.sl (encL rowF D) c)),(1,.f (intF i)),(5,.ms 0 0 n n 1),(6,.ms 1 0 n n 1),(7,.f (intF j))] 67 [rowBo (reR D n i j 0),rowBo (leR D n i j 0)] [] s
def rfoJ (D:List (List Int)) (c:Cap) (n i j q:Nat) (s:St):Prop:=∃ k,k=i+q ∧
 Vf.Sl [(0,.f (.sl (encL rowF D) c)),(1,.f (intF i)),(5,.ms 0 0 n n 1),(6,.ms 1 0 n n 1),(7,.f (intF j)),(8,.f (intF k))] 67 [rowBo (reR D n i j k),rowBo (leR D n i j k)] [] s
theorem rfollows_g (D:List (List Int)) (c:Cap) (n i:Nat) (hd:D.length=n) (hn:n≤1000) (hi:i < n):Gives Tryz.prog 47 [.sl (encL rowF D) c,intF i] (browF (folRow D n i)):=by
 have hn2:n < 2^32:=by omega
 obtain ⟨j0,hj0⟩:∃ j0,j0=i+1:=⟨_,rfl⟩
 have hw1:IntKind.i64.wrap ((i:Int)+1)=(j0:Int):=by subst hj0; exact wrap64 (by omega) (by omega)
 have er:(List.replicate n false).set i true=reR D n i j0 0:=by subst hj0; exact reR_start D hi
 have el:List.replicate n false=leR D n i j0 0:=by subst hj0; exact leR_start D hi
 have hi1:i+1≤n:=hi
 refine Gives.of mixed Tryz.func47 rfl rfl rfl (by kernel_rfl) ?_
 simp [hd,make_bo hn2,hi,hi1,hw1]
 rw [er,el]
 refine forX mixed (n - (i+1)) (rfoI D c n i) (by kernel_rfl) ⟨j0,by omega,Sl.of rfl rfl rfl⟩ ?_
 clear er el
 rintro q ⟨ts,hh,kk⟩ hq ⟨j,hj,rfl,rfl,f,rfl⟩
 by_cases hlt:j < n
 ·obtain ⟨j1,hj1⟩:∃ j1,j1=j+1:=⟨_,rfl⟩
  have hwj:IntKind.i64.wrap ((j:Int)+1)=(j1:Int):=by subst hj1; exact wrap64 (by omega) (by omega)
  have hq1:q < n - (i+1):=by omega
  have hj2:j+1≤n:=hlt
  simp [hd,hlt]
  rw [← reR_low D n i j,← leR_low D n i j]
  refine forX mixed (j - i) (rfoJ D c n i j) (by kernel_rfl) ⟨i,by omega,Sl.of rfl rfl rfl⟩ ?_
  rintro p ⟨ts,hh,kk⟩ hp ⟨k,hk,rfl,rfl,f,rfl⟩
  by_cases hkj:k < j
  ·obtain ⟨k1,hk1⟩:∃ k1,k1=k+1:=⟨_,rfl⟩
   have hwk:IntKind.i64.wrap ((k:Int)+1)=(k1:Int):=by subst hk1; exact wrap64 (by omega) (by omega)
   have hp1:p < j - i:=by omega
   have hkn:k < n:=by omega
   have gk:=rowBo_at (reR_k D (i:=i) (m:=k) hkj hkn)
   have gl:=rowBo_at (leR_k D (i:=i) (m:=k) hkj hkn)
   have gj:=rowBo_at (leR_j D (i:=i) (j:=j) (m:=k) hlt)
   have srt:=reR_set D (n:=n) (i:=i) (j:=j) (k:=k)
   have slt:=leR_set D (n:=n) (i:=i) (j:=j) (k:=k)
   have hno:=row_no (D:=D) (n:=n) (i:=i) (j:=j) (k:=k)
   have hze:=set_none (D:=D) (n:=n) (i:=i) (j:=j) (k:=k)
   rw [← hk1] at srt slt hno hze
   cases h1:(folP D i k).1 with
   | false =>
    obtain ⟨e1,e2⟩:=hno h1
    simp [hkj,hkn,gk,h1,hwk]
    exact ⟨hp1,k1,by omega,by rw [e1,e2]; exact Sl.of rfl rfl rfl⟩
   | true =>
   simp [hkj,hkn,gk,h1]
   refine call_g (rkind_g D c k j (by omega)) ?_
   rcases kind_or D k j with e | e | e
   ·obtain ⟨e1,e2⟩:=hze e
    simp [e,hwk]
    exact ⟨hp1,k1,by omega,by rw [e1,e2]; exact Sl.of rfl rfl rfl⟩
   ·rw [h1,e] at srt slt
    simp at srt slt
    cases hA:fLq D i j k <;> cases hB:(folP D i k).2
    all_goals
     rw [hA,hB] at slt
     simp at slt
     simp [e,hlt,hj2,hkn,gk,gl,gj,hA,hB]
    all_goals try
     refine call_g (rkind_g D c k j (by omega)) ?_
     simp [e,hlt,hj2]
    all_goals
     simp [hwk]
     exact ⟨hp1,k1,by omega,by rw [← srt,← slt]; exact Sl.of rfl rfl rfl⟩
   ·rw [h1,e] at srt slt
    simp at srt slt
    cases hA:fLq D i j k <;> cases hB:(folP D i k).2
    all_goals
     simp [e,hlt,hj2,hkn,gk,gl,gj,hA,hB]
    all_goals try
     refine call_g (rkind_g D c k j (by omega)) ?_
     simp [e,hlt,hj2]
    all_goals
     simp [hwk]
     exact ⟨hp1,k1,by omega,by rw [← srt,← slt]; exact Sl.of rfl rfl rfl⟩
  ·obtain rfl:k=j:=by omega
   simp [hkj,hwj]
   exact ⟨hq1,j1,by omega,by rw [hj1,← reR_end,← leR_end]; exact Sl.of rfl rfl rfl⟩
 ·obtain rfl:j=n:=by omega
  simp [hd]
  rw [← leR_all]
  exact ret_bo leR_len rfl
def chip0:ChipD:=⟨0,0,0,0,0,0,0,0⟩
theorem opb_sl {P:Program} {t e:TypeId} {α:Type} {enc:α→FV} {ok:α→Prop} {ms:α→Nat} {sz:Nat} (ht:P.underlying t=some (.slice e)) (hc:P.cellsOf e=sz) (hs:0 < sz) (hl:∀ y,(enc y).cells.length=sz) (he:∀ N,OpB P N e α enc ok ms) (N:Nat) :
  OpB P N t (List α) (fun l=>.sl (encL enc l) .un) (fun l=>∀ y ∈ l,ok y) (fun l=>lsum ms l+1):=opb_all (fun N=>opb_slice ht hc hs hl (he N)) N
def IOk (x:Int):Prop:=-9223372036854775808≤x∧x≤9223372036854775807
theorem iok_of {x:Int} (h:(Lit.int .i64 x).wf=true):IOk x:=by
 simp only [Lit.wf,Bool.and_eq_true,decide_eq_true_eq] at h
 exact h
structure CallD where
 act:Int
 args:List Int
abbrev fCallD (x:CallD):FV:=.agg [intF x.act,sl (encL u32F x.args)]
theorem u32_of {x:Int} (h:(Lit.int .u32 x).wf=true):U32 x:=by
 simp only [Lit.wf,Bool.and_eq_true,decide_eq_true_eq] at h
 exact ⟨h.1,Int.lt_of_le_of_lt h.2 (by decide)⟩
def ms_fld (x:FldD):Nat:=((x.name.size+1)+(1+0))+1
theorem fld_opb (N:Nat):OpB Tryz.prog N 124 FldD fFld (fun _=>True) ms_fld :=
 opb_all (fun N=>(opb_struct Tryz.underlying124 (fun y=>by kernel_rfl) (fldb_cons (sz:=1) (opb_string Tryz.underlying9) rfl (by kernel_rfl) (fun _=>rfl) (fldb_cons (sz:=1) (opb_int Tryz.underlying3) rfl (by kernel_rfl) (fun _=>rfl) fldb_nil))).map (β:=FldD) (enc':=fFld) (ok':=fun _=>True) (ms':=ms_fld) (fun p=>⟨p.1,p.2.1⟩) (fun _=>rfl) (fun _ _=>trivial) (fun _=>Nat.le_refl _)) N
theorem fld_sl (N:Nat):OpB Tryz.prog N 23 (List FldD) (fun l=>.sl (encL fFld l) .un) (fun l=>∀ y ∈ l,(fun _=>True) y) (fun l=>lsum ms_fld l+1):=opb_sl (sz:=2) Tryz.underlying23 (by kernel_rfl) (by decide) (fun _=>rfl) fld_opb N
def ms_hdr (x:HdrD):Nat:=((x.name.size+1)+((lsum ms_fld x.fields.l+1)+0))+1
theorem hdr_opb (N:Nat):OpB Tryz.prog N 118 HdrD fHdr (fun _=>True) ms_hdr :=
 opb_all (fun N=>(opb_struct Tryz.underlying118 (fun y=>by kernel_rfl) (fldb_cons (sz:=1) (opb_string Tryz.underlying9) rfl (by kernel_rfl) (fun _=>rfl) (fldb_cons (sz:=1) (fld_sl N) rfl (by kernel_rfl) (fun _=>rfl) fldb_nil))).map (β:=HdrD) (enc':=fHdr) (ok':=fun _=>True) (ms':=ms_hdr) (fun p=>⟨p.1,⟨p.2.1⟩⟩) (fun _=>rfl) (fun _ _=>trivial) (fun _=>Nat.le_refl _)) N
def ms_reg (x:RegD):Nat:=((x.name.size+1)+(1+(1+0)))+1
theorem reg_opb (N:Nat):OpB Tryz.prog N 120 RegD fReg (fun _=>True) ms_reg :=
 opb_all (fun N=>(opb_struct Tryz.underlying120 (fun y=>by kernel_rfl) (fldb_cons (sz:=1) (opb_string Tryz.underlying9) rfl (by kernel_rfl) (fun _=>rfl) (fldb_cons (sz:=1) (opb_int Tryz.underlying3) rfl (by kernel_rfl) (fun _=>rfl) (fldb_cons (sz:=1) (opb_int Tryz.underlying3) rfl (by kernel_rfl) (fun _=>rfl) fldb_nil)))).map (β:=RegD) (enc':=fReg) (ok':=fun _=>True) (ms':=ms_reg) (fun p=>⟨p.1,p.2.1,p.2.2.1⟩) (fun _=>rfl) (fun _ _=>trivial) (fun _=>Nat.le_refl _)) N
def ms_ex (x:ExD):Nat:=(1+(1+(1+0)))+1
theorem ex_opb (N:Nat):OpB Tryz.prog N 126 ExD fEx (fun _=>True) ms_ex :=
 opb_all (fun N=>(opb_struct Tryz.underlying126 (fun y=>by kernel_rfl) (fldb_cons (sz:=1) (opb_int Tryz.underlying3) rfl (by kernel_rfl) (fun _=>rfl) (fldb_cons (sz:=1) (opb_int Tryz.underlying3) rfl (by kernel_rfl) (fun _=>rfl) (fldb_cons (sz:=1) (opb_int Tryz.underlying3) rfl (by kernel_rfl) (fun _=>rfl) fldb_nil)))).map (β:=ExD) (enc':=fEx) (ok':=fun _=>True) (ms':=ms_ex) (fun p=>⟨p.1,p.2.1,p.2.2.1⟩) (fun _=>rfl) (fun _ _=>trivial) (fun _=>Nat.le_refl _)) N
def ms_ref (x:(Int × Int)):Nat:=(1+(1+0))+1
theorem ref_opb (N:Nat):OpB Tryz.prog N 71 (Int × Int) (fun r:Int × Int=>fRef r.1 r.2) (fun _=>True) ms_ref :=
 opb_all (fun N=>(opb_struct Tryz.underlying71 (fun y=>by kernel_rfl) (fldb_cons (sz:=1) (opb_int Tryz.underlying3) rfl (by kernel_rfl) (fun _=>rfl) (fldb_cons (sz:=1) (opb_int Tryz.underlying3) rfl (by kernel_rfl) (fun _=>rfl) fldb_nil))).map (β:=(Int × Int)) (enc':=(fun r:Int × Int=>fRef r.1 r.2)) (ok':=fun _=>True) (ms':=ms_ref) (fun p=>(p.1,p.2.1)) (fun _=>rfl) (fun _ _=>trivial) (fun _=>Nat.le_refl _)) N
theorem ex_sl (N:Nat):OpB Tryz.prog N 54 (List ExD) (fun l=>.sl (encL fEx l) .un) (fun l=>∀ y ∈ l,(fun _=>True) y) (fun l=>lsum ms_ex l+1):=opb_sl (sz:=3) Tryz.underlying54 (by kernel_rfl) (by decide) (fun _=>rfl) ex_opb N
def ms_st (x:StD):Nat:=(1+(ms_ref (x.dh,x.df)+(1+(1+((lsum ms_ex x.index.l+1)+((lsum ms_ex x.value.l+1)+0))))))+1
theorem st_opb (N:Nat):OpB Tryz.prog N 116 StD fSt (fun _=>True) ms_st :=
 opb_all (fun N=>(opb_struct Tryz.underlying116 (fun y=>by kernel_rfl) (fldb_cons (sz:=1) (opb_int Tryz.underlying3) rfl (by kernel_rfl) (fun _=>rfl) (fldb_cons (sz:=2) (ref_opb N) rfl (by kernel_rfl) (fun _=>rfl) (fldb_cons (sz:=1) (opb_int Tryz.underlying3) rfl (by kernel_rfl) (fun _=>rfl) (fldb_cons (sz:=1) (opb_int Tryz.underlying3) rfl (by kernel_rfl) (fun _=>rfl) (fldb_cons (sz:=1) (ex_sl N) rfl (by kernel_rfl) (fun _=>rfl) (fldb_cons (sz:=1) (ex_sl N) rfl (by kernel_rfl) (fun _=>rfl) fldb_nil))))))).map (β:=StD) (enc':=fSt) (ok':=fun _=>True) (ms':=ms_st) (fun p=>⟨p.1,p.2.1.1,p.2.1.2,p.2.2.1,p.2.2.2.1,⟨p.2.2.2.2.1⟩,⟨p.2.2.2.2.2.1⟩⟩) (fun _=>rfl) (fun _ _=>trivial) (fun _=>Nat.le_refl _)) N
theorem st_sl (N:Nat):OpB Tryz.prog N 112 (List StD) (fun l=>.sl (encL fSt l) .un) (fun l=>∀ y ∈ l,(fun _=>True) y) (fun l=>lsum ms_st l+1):=opb_sl (sz:=7) Tryz.underlying112 (by kernel_rfl) (by decide) (fun _=>rfl) st_opb N
def ms_act (x:ActD):Nat:=((x.name.size+1)+((lsum ms_fld x.params.l+1)+((lsum ms_st x.body.l+1)+0)))+1
theorem act_opb (N:Nat):OpB Tryz.prog N 114 ActD fAct (fun _=>True) ms_act :=
 opb_all (fun N=>(opb_struct Tryz.underlying114 (fun y=>by kernel_rfl) (fldb_cons (sz:=1) (opb_string Tryz.underlying9) rfl (by kernel_rfl) (fun _=>rfl) (fldb_cons (sz:=1) (fld_sl N) rfl (by kernel_rfl) (fun _=>rfl) (fldb_cons (sz:=1) (st_sl N) rfl (by kernel_rfl) (fun _=>rfl) fldb_nil)))).map (β:=ActD) (enc':=fAct) (ok':=fun _=>True) (ms':=ms_act) (fun p=>⟨p.1,⟨p.2.1⟩,⟨p.2.2.1⟩⟩) (fun _=>rfl) (fun _ _=>trivial) (fun _=>Nat.le_refl _)) N
def ms_key (x:KeyD):Nat:=(ms_ref (x.h,x.f)+(1+0))+1
theorem key_opb (N:Nat):OpB Tryz.prog N 128 KeyD fKey (fun _=>True) ms_key :=
 opb_all (fun N=>(opb_struct Tryz.underlying128 (fun y=>by kernel_rfl) (fldb_cons (sz:=2) (ref_opb N) rfl (by kernel_rfl) (fun _=>rfl) (fldb_cons (sz:=1) (opb_int Tryz.underlying3) rfl (by kernel_rfl) (fun _=>rfl) fldb_nil))).map (β:=KeyD) (enc':=fKey) (ok':=fun _=>True) (ms':=ms_key) (fun p=>⟨p.1.1,p.1.2,p.2.1⟩) (fun _=>rfl) (fun _ _=>trivial) (fun _=>Nat.le_refl _)) N
theorem u32_sl (N:Nat):OpB Tryz.prog N 65 (List Int) (fun l=>.sl (encL (fun y:Int=>.sc (.int .u32 y)) l) .un) (fun l=>∀ y ∈ l,(fun y:Int=>(Lit.int .u32 y).wf=true) y) (fun l=>lsum (fun _=>1) l+1):=opb_sl (sz:=1) Tryz.underlying65 (by kernel_rfl) (by decide) (fun _=>rfl) (fun N=>opb_int Tryz.underlying197) N
def ms_call (x:CallD):Nat:=(1+((lsum (fun _=>1) x.args+1)+0))+1
theorem call_opb (N:Nat):OpB Tryz.prog N 67 CallD fCallD (fun x=>IOk x.act∧∀ y ∈ x.args,U32 y) ms_call :=
 opb_all (fun N=>(opb_struct Tryz.underlying67 (fun y=>by kernel_rfl) (fldb_cons (sz:=1) (opb_int Tryz.underlying3) rfl (by kernel_rfl) (fun _=>rfl) (fldb_cons (sz:=1) (u32_sl N) rfl (by kernel_rfl) (fun _=>rfl) fldb_nil))).map (β:=CallD) (enc':=fCallD) (ok':=fun x=>IOk x.act∧∀ y ∈ x.args,U32 y) (ms':=ms_call) (fun p=>⟨p.1,p.2.1⟩) (fun _=>rfl) (fun _ h=>⟨iok_of h.1,fun y hy=>u32_of (h.2.1 y hy)⟩) (fun _=>Nat.le_refl _)) N
theorem key_sl (N:Nat):OpB Tryz.prog N 64 (List KeyD) (fun l=>.sl (encL fKey l) .un) (fun l=>∀ y ∈ l,(fun _=>True) y) (fun l=>lsum ms_key l+1):=opb_sl (sz:=3) Tryz.underlying64 (by kernel_rfl) (by decide) (fun _=>rfl) key_opb N
theorem int_sl (N:Nat):OpB Tryz.prog N 29 (List Int) (fun l=>.sl (encL (fun y:Int=>.sc (.int .i64 y)) l) .un) (fun l=>∀ y ∈ l,(fun y:Int=>(Lit.int .i64 y).wf=true) y) (fun l=>lsum (fun _=>1) l+1):=opb_sl (sz:=1) Tryz.underlying29 (by kernel_rfl) (by decide) (fun _=>rfl) (fun N=>opb_int Tryz.underlying3) N
def ms_tbl (x:TblD):Nat:=((x.name.size+1)+((lsum ms_key x.keys.l+1)+((lsum (fun _=>1) x.acts.l+1)+(ms_call (⟨x.dfl,x.args.l⟩:CallD)+(1+0)))))+1
theorem tbl_opb (N:Nat):OpB Tryz.prog N 69 TblD fTbl (fun x=>(∀ a ∈ x.acts.l,IOk a)∧IOk x.dfl∧∀ y ∈ x.args.l,U32 y) ms_tbl :=
 opb_all (fun N=>(opb_struct Tryz.underlying69 (fun y=>by kernel_rfl) (fldb_cons (sz:=1) (opb_string Tryz.underlying9) rfl (by kernel_rfl) (fun _=>rfl) (fldb_cons (sz:=1) (key_sl N) rfl (by kernel_rfl) (fun _=>rfl) (fldb_cons (sz:=1) (int_sl N) rfl (by kernel_rfl) (fun _=>rfl) (fldb_cons (sz:=2) (call_opb N) rfl (by kernel_rfl) (fun _=>rfl) (fldb_cons (sz:=1) (opb_int Tryz.underlying3) rfl (by kernel_rfl) (fun _=>rfl) fldb_nil)))))).map (β:=TblD) (enc':=fTbl) (ok':=fun x=>(∀ a ∈ x.acts.l,IOk a)∧IOk x.dfl∧∀ y ∈ x.args.l,U32 y) (ms':=ms_tbl) (fun p=>⟨p.1,⟨p.2.1⟩,⟨p.2.2.1⟩,p.2.2.2.1.act,⟨p.2.2.2.1.args⟩,p.2.2.2.2.1⟩) (fun _=>rfl) (fun _ h=>⟨fun a ha=>iok_of (h.2.2.1 a ha),h.2.2.2.1.1,h.2.2.2.1.2⟩) (fun _=>Nat.le_refl _)) N
def ms_case (x:CaseD):Nat:=(1+(1+(1+0)))+1
theorem case_opb (N:Nat):OpB Tryz.prog N 246 CaseD fCase (fun x=>U32 x.value∧U32 x.mask) ms_case :=
 opb_all (fun N=>(opb_struct Tryz.underlying246 (fun y=>by kernel_rfl) (fldb_cons (sz:=1) (opb_int Tryz.underlying197) rfl (by kernel_rfl) (fun _=>rfl) (fldb_cons (sz:=1) (opb_int Tryz.underlying197) rfl (by kernel_rfl) (fun _=>rfl) (fldb_cons (sz:=1) (opb_int Tryz.underlying3) rfl (by kernel_rfl) (fun _=>rfl) fldb_nil)))).map (β:=CaseD) (enc':=fCase) (ok':=fun x=>U32 x.value∧U32 x.mask) (ms':=ms_case) (fun p=>⟨p.1,p.2.1,p.2.2.1⟩) (fun _=>rfl) (fun _ h=>⟨u32_of h.1,u32_of h.2.1⟩) (fun _=>Nat.le_refl _)) N
theorem case_sl (N:Nat):OpB Tryz.prog N 72 (List CaseD) (fun l=>.sl (encL fCase l) .un) (fun l=>∀ y ∈ l,(fun x=>U32 x.value∧U32 x.mask) y) (fun l=>lsum ms_case l+1):=opb_sl (sz:=3) Tryz.underlying72 (by kernel_rfl) (by decide) (fun _=>rfl) case_opb N
def ms_sta (x:StaD):Nat:=((x.name.size+1)+((lsum (fun _=>1) x.extract.l+1)+(1+(ms_ref (x.onh,x.onf)+((lsum ms_case x.cases.l+1)+(1+0))))))+1
theorem sta_opb (N:Nat):OpB Tryz.prog N 74 StaD fSta (fun x=>∀ c ∈ x.cases.l,U32 c.value∧U32 c.mask) ms_sta :=
 opb_all (fun N=>(opb_struct Tryz.underlying74 (fun y=>by kernel_rfl) (fldb_cons (sz:=1) (opb_string Tryz.underlying9) rfl (by kernel_rfl) (fun _=>rfl) (fldb_cons (sz:=1) (int_sl N) rfl (by kernel_rfl) (fun _=>rfl) (fldb_cons (sz:=1) (opb_bool Tryz.underlying4) rfl (by kernel_rfl) (fun _=>rfl) (fldb_cons (sz:=2) (ref_opb N) rfl (by kernel_rfl) (fun _=>rfl) (fldb_cons (sz:=1) (case_sl N) rfl (by kernel_rfl) (fun _=>rfl) (fldb_cons (sz:=1) (opb_int Tryz.underlying3) rfl (by kernel_rfl) (fun _=>rfl) fldb_nil))))))).map (β:=StaD) (enc':=fSta) (ok':=fun x=>∀ c ∈ x.cases.l,U32 c.value∧U32 c.mask) (ms':=ms_sta) (fun p=>⟨p.1,⟨p.2.1⟩,p.2.2.1,p.2.2.2.1.1,p.2.2.2.1.2,⟨p.2.2.2.2.1⟩,p.2.2.2.2.2.1⟩) (fun _=>rfl) (fun _ h=>h.2.2.2.2.1) (fun _=>Nat.le_refl _)) N
mutual
def ms_nod:NodD→Nat
 | .mk _ _ c tl el=>(1+(1+((lsum ms_ex c+1)+((ms_nods tl+1)+((ms_nods el+1)+0)))))+1
def ms_nods:List NodD→Nat
 | []=>0
 | x::l=>ms_nod x+ms_nods l
end
theorem ms_nods_eq (l:List NodD):lsum ms_nod l=ms_nods l:=by
 induction l with
 | nil=>rfl
 | cons x l ih=>rw [lsum,ms_nods,ih]
theorem nod_opb:∀ N,OpB Tryz.prog N 122 NodD fNod (fun _=>True) ms_nod
 | 0=>OpB.zero
 | N+1=>by
  have hs:OpB Tryz.prog N 28 (List NodD) (fun l=>.sl (encL fNod l) .un) (fun l=>∀ y ∈ l,True) (fun l=>lsum ms_nod l+1):=(opb_slice (sz:=5) Tryz.underlying28 (by kernel_rfl) (by decide) (fun x=>by rw [fNod_eq]; rfl) (nod_opb N)).mono (Nat.le_succ N)
  refine (opb_struct Tryz.underlying122 (fun y=>by kernel_rfl) (fldb_cons (sz:=1) (opb_int Tryz.underlying3) rfl (by kernel_rfl) (fun _=>rfl) (fldb_cons (sz:=1) (opb_int Tryz.underlying3) rfl (by kernel_rfl) (fun _=>rfl) (fldb_cons (sz:=1) (ex_sl N) rfl (by kernel_rfl) (fun _=>rfl) (fldb_cons (sz:=1) hs rfl (by kernel_rfl) (fun _=>rfl) (fldb_cons (sz:=1) hs rfl (by kernel_rfl) (fun _=>rfl) fldb_nil)))))).map (fun p=>.mk p.1 p.2.1 p.2.2.1 p.2.2.2.1 p.2.2.2.2.1) (fun p=>by rw [fNod_eq]; rfl) (fun _ _=>trivial) (fun p=>?_)
  show ms_nod _≤_
  rw [ms_nod,← ms_nods_eq,← ms_nods_eq]
  exact Nat.le_refl _
theorem nod_sl (N:Nat):OpB Tryz.prog N 28 (List NodD) (fun l=>.sl (encL fNod l) .un) (fun l=>∀ y ∈ l,(fun _=>True) y) (fun l=>lsum ms_nod l+1):=opb_sl (sz:=5) Tryz.underlying28 (by kernel_rfl) (by decide) (fun x=>by rw [fNod_eq]; rfl) nod_opb N
theorem hdr_sl (N:Nat):OpB Tryz.prog N 22 (List HdrD) (fun l=>.sl (encL fHdr l) .un) (fun l=>∀ y ∈ l,(fun _=>True) y) (fun l=>lsum ms_hdr l+1):=opb_sl (sz:=2) Tryz.underlying22 (by kernel_rfl) (by decide) (fun _=>rfl) hdr_opb N
theorem reg_sl (N:Nat):OpB Tryz.prog N 24 (List RegD) (fun l=>.sl (encL fReg l) .un) (fun l=>∀ y ∈ l,(fun _=>True) y) (fun l=>lsum ms_reg l+1):=opb_sl (sz:=3) Tryz.underlying24 (by kernel_rfl) (by decide) (fun _=>rfl) reg_opb N
theorem act_sl (N:Nat):OpB Tryz.prog N 25 (List ActD) (fun l=>.sl (encL fAct l) .un) (fun l=>∀ y ∈ l,(fun _=>True) y) (fun l=>lsum ms_act l+1):=opb_sl (sz:=3) Tryz.underlying25 (by kernel_rfl) (by decide) (fun _=>rfl) act_opb N
theorem tbl_sl (N:Nat):OpB Tryz.prog N 26 (List TblD) (fun l=>.sl (encL fTbl l) .un) (fun l=>∀ y ∈ l,(fun x=>(∀ a ∈ x.acts.l,IOk a)∧IOk x.dfl∧∀ y ∈ x.args.l,U32 y) y) (fun l=>lsum ms_tbl l+1):=opb_sl (sz:=6) Tryz.underlying26 (by kernel_rfl) (by decide) (fun _=>rfl) tbl_opb N
theorem sta_sl (N:Nat):OpB Tryz.prog N 27 (List StaD) (fun l=>.sl (encL fSta l) .un) (fun l=>∀ y ∈ l,(fun x=>∀ c ∈ x.cases.l,U32 c.value∧U32 c.mask) y) (fun l=>lsum ms_sta l+1):=opb_sl (sz:=7) Tryz.underlying27 (by kernel_rfl) (by decide) (fun _=>rfl) sta_opb N
def ms_prg (x:PrgD):Nat:=((x.name.size+1)+((lsum ms_hdr x.headers.l+1)+((lsum ms_fld x.meta_.l+1)+((lsum ms_reg x.regs.l+1)+((lsum ms_act x.acts.l+1)+((lsum ms_tbl x.tables.l+1)+((lsum ms_sta x.states.l+1)+((lsum ms_nod x.control.l+1)+((lsum (fun _=>1) x.dep.l+1)+0)))))))))+1
theorem prg_opb (N:Nat):OpB Tryz.prog N 31 PrgD fPrg (fun x=>(∀ t ∈ x.tables.l,(∀ a ∈ t.acts.l,IOk a)∧IOk t.dfl∧∀ y ∈ t.args.l,U32 y)∧∀ s ∈ x.states.l,∀ c ∈ s.cases.l,U32 c.value∧U32 c.mask) ms_prg :=
 opb_all (fun N=>(opb_struct Tryz.underlying31 (fun y=>by kernel_rfl) (fldb_cons (sz:=1) (opb_string Tryz.underlying9) rfl (by kernel_rfl) (fun _=>rfl) (fldb_cons (sz:=1) (hdr_sl N) rfl (by kernel_rfl) (fun _=>rfl) (fldb_cons (sz:=1) (fld_sl N) rfl (by kernel_rfl) (fun _=>rfl) (fldb_cons (sz:=1) (reg_sl N) rfl (by kernel_rfl) (fun _=>rfl) (fldb_cons (sz:=1) (act_sl N) rfl (by kernel_rfl) (fun _=>rfl) (fldb_cons (sz:=1) (tbl_sl N) rfl (by kernel_rfl) (fun _=>rfl) (fldb_cons (sz:=1) (sta_sl N) rfl (by kernel_rfl) (fun _=>rfl) (fldb_cons (sz:=1) (nod_sl N) rfl (by kernel_rfl) (fun _=>rfl) (fldb_cons (sz:=1) (int_sl N) rfl (by kernel_rfl) (fun _=>rfl) fldb_nil)))))))))).map (β:=PrgD) (enc':=fPrg) (ok':=fun x=>(∀ t ∈ x.tables.l,(∀ a ∈ t.acts.l,IOk a)∧IOk t.dfl∧∀ y ∈ t.args.l,U32 y)∧∀ s ∈ x.states.l,∀ c ∈ s.cases.l,U32 c.value∧U32 c.mask) (ms':=ms_prg) (fun p=>⟨p.1,⟨p.2.1⟩,⟨p.2.2.1⟩,⟨p.2.2.2.1⟩,⟨p.2.2.2.2.1⟩,⟨p.2.2.2.2.2.1⟩,⟨p.2.2.2.2.2.2.1⟩,⟨p.2.2.2.2.2.2.2.1⟩,⟨p.2.2.2.2.2.2.2.2.1⟩⟩) (fun _=>rfl) (fun _ h=>⟨h.2.2.2.2.2.1,h.2.2.2.2.2.2.1⟩) (fun _=>Nat.le_refl _)) N
def ms_chip (x:ChipD):Nat:=(1+(1+(1+(1+(1+(1+(1+(1+0))))))))+1
theorem chip_opb (N:Nat):OpB Tryz.prog N 33 ChipD fChip (fun _=>True) ms_chip :=
 opb_all (fun N=>(opb_struct Tryz.underlying33 (fun y=>by kernel_rfl) (fldb_cons (sz:=1) (opb_int Tryz.underlying3) rfl (by kernel_rfl) (fun _=>rfl) (fldb_cons (sz:=1) (opb_int Tryz.underlying3) rfl (by kernel_rfl) (fun _=>rfl) (fldb_cons (sz:=1) (opb_int Tryz.underlying3) rfl (by kernel_rfl) (fun _=>rfl) (fldb_cons (sz:=1) (opb_int Tryz.underlying3) rfl (by kernel_rfl) (fun _=>rfl) (fldb_cons (sz:=1) (opb_int Tryz.underlying3) rfl (by kernel_rfl) (fun _=>rfl) (fldb_cons (sz:=1) (opb_int Tryz.underlying3) rfl (by kernel_rfl) (fun _=>rfl) (fldb_cons (sz:=1) (opb_int Tryz.underlying3) rfl (by kernel_rfl) (fun _=>rfl) (fldb_cons (sz:=1) (opb_int Tryz.underlying3) rfl (by kernel_rfl) (fun _=>rfl) fldb_nil))))))))).map (β:=ChipD) (enc':=fChip) (ok':=fun _=>True) (ms':=ms_chip) (fun p=>⟨p.1,p.2.1,p.2.2.1,p.2.2.2.1,p.2.2.2.2.1,p.2.2.2.2.2.1,p.2.2.2.2.2.2.1,p.2.2.2.2.2.2.2.1⟩) (fun _=>rfl) (fun _ _=>trivial) (fun _=>Nat.le_refl _)) N
theorem ms_nods_len (l:List NodD):l.length≤ms_nods l:=by
 induction l with
 | nil=>exact Nat.le_refl _
 | cons x l ih =>
  obtain ⟨k,t,c,a,b⟩:=x
  rw [ms_nods,ms_nod,List.length_cons]
  omega
mutual
theorem nodB_n:∀ (x:NodD),ms_nod x≤maxLen→NodB x.thn.l∧NodB x.els.l
 | .mk k t c tl el,h=>by
  rw [ms_nod] at h
  exact ⟨nodB_l tl (by omega),nodB_l el (by omega)⟩
theorem nodB_l:∀ (l:List NodD),ms_nods l≤maxLen→NodB l
 | [],h=>.mk [] (Nat.zero_le _) (fun x hx=>by cases hx) (fun x hx=>by cases hx)
 | x::l,h=>by
  have hlen:=ms_nods_len (x::l)
  rw [ms_nods] at h hlen
  obtain ⟨h1,h2⟩:=nodB_n x (by omega)
  cases nodB_l l (by omega) with
  | mk _ hl a b =>
   refine .mk _ (by omega) (fun y hy=>?_) (fun y hy=>?_)
   ·rcases List.mem_cons.1 hy with rfl | hy
    ·exact h1
    ·exact a y hy
   ·rcases List.mem_cons.1 hy with rfl | hy
    ·exact h2
    ·exact b y hy
end
theorem lsum_ex (l:List ExD):2 * l.length≤lsum ms_ex l:=by
 induction l with
 | nil=>exact Nat.le_refl _
 | cons x l ih =>
  have:2≤ms_ex x:=by unfold ms_ex; omega
  simp only [lsum,List.length_cons]; omega
mutual
theorem nodM_n:∀ (x:NodD),(nodPre x).length≤ms_nod x∧∀ y ∈ nodPre x,2 * y.cond.l.length≤ms_nod x
 | .mk k t c tl el=>by
  obtain ⟨a1,a2⟩:=nodM_l tl
  obtain ⟨b1,b2⟩:=nodM_l el
  have hc:=lsum_ex c
  rw [nodPre,ms_nod]
  refine ⟨by simp only [List.length_cons,List.length_append]; omega,fun y hy=>?_⟩
  rcases List.mem_cons.1 hy with rfl | hy
  ·show 2 * c.length≤_
   omega
  rcases List.mem_append.1 hy with hy | hy
  ·have:=a2 y hy; omega
  ·have:=b2 y hy; omega
theorem nodM_l:∀ (l:List NodD),(nodsPre l).length≤ms_nods l∧∀ y ∈ nodsPre l,2 * y.cond.l.length≤ms_nods l
 | []=>⟨Nat.le_refl _,fun y hy=>by rw [nodsPre] at hy; cases hy⟩
 | x::l=>by
  obtain ⟨a1,a2⟩:=nodM_n x
  obtain ⟨b1,b2⟩:=nodM_l l
  rw [nodsPre,ms_nods]
  refine ⟨by simp only [List.length_append]; omega,fun y hy=>?_⟩
  rcases List.mem_append.1 hy with hy | hy
  ·have:=a2 y hy; omega
  ·have:=b2 y hy; omega
end
theorem prgU_of {d:PrgD} (h:ms_prg d≤1048576) (hok:∀ t ∈ d.tables.l,(∀ a ∈ t.acts.l,IOk a)∧IOk t.dfl∧∀ y ∈ t.args.l,U32 y):PrgU d:=by
 unfold ms_prg at h
 have m1:∀ x ∈ d.headers.l,ms_hdr x≤1048576:=fun x hx=>by have:=lsum_mem (f:=ms_hdr) hx; omega
 have m2:∀ x ∈ d.meta_.l,ms_fld x≤1048576:=fun x hx=>by have:=lsum_mem (f:=ms_fld) hx; omega
 have m3:∀ x ∈ d.regs.l,ms_reg x≤1048576:=fun x hx=>by have:=lsum_mem (f:=ms_reg) hx; omega
 have m4:∀ x ∈ d.acts.l,ms_act x≤1048576:=fun x hx=>by have:=lsum_mem (f:=ms_act) hx; omega
 have m5:∀ x ∈ d.tables.l,ms_tbl x≤1048576:=fun x hx=>by have:=lsum_mem (f:=ms_tbl) hx; omega
 have m6:∀ x ∈ d.states.l,ms_sta x≤1048576:=fun x hx=>by have:=lsum_mem (f:=ms_sta) hx; omega
 have m7:=lsum_len (f:=ms_sta) (fun x=>by unfold ms_sta; omega) d.states.l
 have m8:=ms_nods_eq d.control.l
 refine ⟨⟨⟨by omega,fun x hx=>?_,fun x hx=>?_,fun x hx=>?_,fun x hx=>?_,fun x hx=>?_,fun x hx=>?_⟩,fun t ht=>?_,nodB_l _ (by unfold maxLen; omega),by omega⟩,?_,?_⟩
 ·have h1:=m1 x hx
  unfold ms_hdr at h1
  exact ⟨by omega,fun y hy=>by have h2:=lsum_mem (f:=ms_fld) hy; unfold ms_fld at h1 h2; omega⟩
 ·have h1:=m2 x hx
  unfold ms_fld at h1
  omega
 ·have h1:=m3 x hx
  unfold ms_reg at h1
  omega
 ·have h1:=m4 x hx
  unfold ms_act at h1
  exact ⟨by omega,fun y hy=>by have h2:=lsum_mem (f:=ms_fld) hy; unfold ms_fld at h1 h2; omega⟩
 ·have h1:=m5 x hx
  unfold ms_tbl at h1
  omega
 ·have h1:=m6 x hx
  unfold ms_sta at h1
  omega
 ·have h1:=m5 t ht
  obtain ⟨o1,o2,_⟩:=hok t ht
  unfold ms_tbl ms_call at h1
  have h2:=lsum_len (f:=fun _:Int=>1) (fun _=>Nat.le_refl _) t.args.l
  exact ⟨o1,o2,by simp only at h1; omega⟩
 ·have h1:=(nodM_l d.control.l).1
  omega
 ·intro y hy
  have h1:=(nodM_l d.control.l).2 y hy
  omega
theorem prgN_of {d:PrgD} (hok:∀ t ∈ d.tables.l,(∀ a ∈ t.acts.l,IOk a)∧IOk t.dfl∧∀ y ∈ t.args.l,U32 y) (h2:∀ s ∈ d.states.l,∀ c ∈ s.cases.l,U32 c.value∧U32 c.mask):PrgN d :=
 ⟨fun t ht=>(hok t ht).2.2,h2⟩
def big2 (s:StD):Bool:=decide ((60:Int) < s.index.l.length) || decide ((60:Int) < s.value.l.length)
def big1 (a:ActD):Bool:=decide ((20:Int) < a.params.l.length) || (decide ((30:Int) < a.body.l.length) || a.body.l.any big2)
def big3 (h:HdrD):Bool:=decide ((40:Int) < h.fields.l.length)
def big4 (r:RegD):Bool:=decide (200 < r.size)
def sm16 (d:PrgD):Bool:=if (20:Int) < d.headers.l.length then false else if (30:Int) < d.meta_.l.length then false else if (20:Int) < d.regs.l.length then false else if (40:Int) < d.acts.l.length then false else
 !d.acts.l.any big1 && (!d.headers.l.any big3 && !d.regs.l.any big4)
def s6A (d:PrgD) (i:Nat) (s:St):Prop:=noneT big1 d.acts.l i∧Vf.Sl [(1,.ref 0 0),(3,.f (intF i))] 120 [aPrg d] [] s
def s6B (d:PrgD) (a:ActD) (i j:Nat) (s:St):Prop:=noneT big2 a.body.l j∧Vf.Sl [(1,.ref 0 0),(3,.f (intF i)),(4,.f (intF j))] 120 [aPrg d] [] s
def s6C (d:PrgD) (i:Nat) (s:St):Prop:=noneT big3 d.headers.l i∧Vf.Sl [(1,.ref 0 0),(5,.f (intF i))] 120 [aPrg d] [] s
def s6D (d:PrgD) (i:Nat) (s:St):Prop:=noneT big4 d.regs.l i∧Vf.Sl [(1,.ref 0 0),(6,.f (intF i))] 120 [aPrg d] [] s
theorem small16_g (d:PrgD):Gives Tryz.prog 22 [fPrg d] (boolF (sm16 d)):=by
 refine Gives.of mixed Tryz.func22 rfl rfl rfl (by kernel_rfl) ?_
 generalize hv:sm16 d=v
 unfold sm16 at hv
 simp [fPrg,cPrg]
 by_cases h1:(20:Int) < d.headers.l.length
 ·rw [if_pos h1] at hv; subst hv
  simp [h1]
 rw [if_neg h1] at hv
 by_cases h2:(30:Int) < d.meta_.l.length
 ·rw [if_pos h2] at hv; subst hv
  simp [h1,h2]
 rw [if_neg h2] at hv
 by_cases h3:(20:Int) < d.regs.l.length
 ·rw [if_pos h3] at hv; subst hv
  simp [h1,h2,h3]
 rw [if_neg h3] at hv
 by_cases h4:(40:Int) < d.acts.l.length
 ·rw [if_pos h4] at hv; subst hv
  simp [h1,h2,h3,h4]
 rw [if_neg h4] at hv
 simp [h1,h2,h3,h4]
 have q1:d.headers.l.length≤20:=by omega
 have q2:d.regs.l.length≤20:=by omega
 have q3:d.acts.l.length≤40:=by omega
 refine forX mixed d.acts.l.length (s6A d) (by kernel_rfl) ⟨.zero,Sl.of rfl rfl rfl⟩ ?_
 rintro i ⟨ts,hh,kk⟩ hi ⟨hno,rfl,rfl,f,rfl⟩
 by_cases hlt:i < d.acts.l.length
 ·obtain ⟨a,ha,ha'⟩:=nth_of hlt
  have hw:=wrap64 (x:=(i:Int)+1) (by omega) (by omega)
  have hit:big1 a=true→v=false:=fun h=>by rw [← hv,any_hit ha' h]; rfl
  by_cases a1:(20:Int) < a.params.l.length
  ·obtain rfl:=hit (by simp [big1,a1])
   simp [aPrg,hlt,ha,a1]
  by_cases a2:(30:Int) < a.body.l.length
  ·obtain rfl:=hit (by simp [big1,a2])
   simp [aPrg,hlt,ha,a1,a2]
  simp [aPrg,hlt,ha,a1,a2]
  refine forX mixed a.body.l.length (s6B d a i) (by kernel_rfl) ⟨.zero,Sl.of rfl rfl rfl⟩ ?_
  rintro j ⟨ts,hh,kk⟩ hj ⟨hno2,rfl,rfl,f,rfl⟩
  by_cases hlj:j < a.body.l.length
  ·obtain ⟨s,hs,hs'⟩:=nth_of hlj
   have hw2:=wrap64 (x:=(j:Int)+1) (by omega) (by omega)
   have hit2:big2 s=true→v=false:=fun h=>hit (by unfold big1; rw [any_hit hs' h]; simp)
   by_cases b1:(60:Int) < s.index.l.length
   ·obtain rfl:=hit2 (by simp [big2,b1])
    simp [aPrg,hlt,ha,hlj,hs,b1]
   by_cases b2:(60:Int) < s.value.l.length
   ·obtain rfl:=hit2 (by simp [big2,b2])
    simp [aPrg,hlt,ha,hlj,hs,b1,b2]
   simp [aPrg,hlt,ha,hlj,hs,b1,b2,hw2]
   exact ⟨hno2.next hs' (by simp [big2,b1,b2]),Sl.of rfl rfl rfl⟩
  ·have hal:=hno2.all hlj
   simp [aPrg,hlt,ha,hlj,hw]
   exact ⟨hno.next ha' (by simp [big1,a1,a2,hal]),Sl.of rfl rfl rfl⟩
 rw [hno.all hlt] at hv
 simp [aPrg,hlt]
 refine forX mixed d.headers.l.length (s6C d) (by kernel_rfl) ⟨.zero,Sl.of rfl rfl rfl⟩ ?_
 clear hlt hi hno
 rintro i ⟨ts,hh,kk⟩ hi ⟨hno,rfl,rfl,f,rfl⟩
 by_cases hlt:i < d.headers.l.length
 ·obtain ⟨a,ha,ha'⟩:=nth_of hlt
  have hw:=wrap64 (x:=(i:Int)+1) (by omega) (by omega)
  by_cases a1:(40:Int) < a.fields.l.length
  ·have:v=false:=by rw [← hv,any_hit ha' (show big3 a=true by simp [big3,a1])]; rfl
   subst this
   simp [aPrg,hlt,ha,a1]
  simp [aPrg,hlt,ha,a1,hw]
  exact ⟨hno.next ha' (by simp [big3,a1]),Sl.of rfl rfl rfl⟩
 rw [hno.all hlt] at hv
 simp [aPrg,hlt]
 refine forX mixed d.regs.l.length (s6D d) (by kernel_rfl) ⟨.zero,Sl.of rfl rfl rfl⟩ ?_
 clear hlt hi hno
 rintro i ⟨ts,hh,kk⟩ hi ⟨hno,rfl,rfl,f,rfl⟩
 by_cases hlt:i < d.regs.l.length
 ·obtain ⟨a,ha,ha'⟩:=nth_of hlt
  have hw:=wrap64 (x:=(i:Int)+1) (by omega) (by omega)
  by_cases a1:(200:Int) < a.size
  ·have:v=false:=by rw [← hv,any_hit ha' (show big4 a=true by simp [big4,a1])]; rfl
   subst this
   simp [aPrg,hlt,ha,a1]
  simp [aPrg,hlt,ha,a1,hw]
  exact ⟨hno.next ha' (by simp [big4,a1]),Sl.of rfl rfl rfl⟩
 rw [hno.all hlt] at hv
 subst hv
 simp [aPrg,hlt]
def big5 (t:TblD):Bool:=decide ((20:Int) < t.keys.l.length) || (decide ((40:Int) < t.acts.l.length) || decide ((40:Int) < t.args.l.length))
def big6 (t:StaD):Bool:=decide ((20:Int) < t.extract.l.length) || decide ((20:Int) < t.cases.l.length)
def sm22 (d:PrgD) (n:Int):Bool:=if sm16 d=true then (if (30:Int) < d.tables.l.length then false else if (30:Int) < d.states.l.length then false else if (30:Int) < d.dep.l.length then false else if 60 < n then false else
 !d.tables.l.any big5 && !d.states.l.any big6) else false
def runM (G:Nat→Int→Int) (n:Nat):Nat→Nat→Int→Int
 | 0,_,c=>c
 | m+1,i,c=>if i < n∧c≤60 then runM G n m (i+1) (G i c) else c
theorem runM_stop {G:Nat→Int→Int} {n m i:Nat} {c:Int} (h:¬ (i < n∧c≤60)):runM G n m i c=c:=by
 cases m with
 | zero=>rfl
 | succ m=>rw [runM,if_neg h]
def blkS (F1 F2:NodD→Int) (l:List NodD) (i:Nat) (c:Int):Int:=match l[i]? with
 | none=>c
 | some x=>IntKind.i64.wrap (c+IntKind.i64.wrap (IntKind.i64.wrap (F1 x+F2 x)+IntKind.i64.wrap ((x.cond.l.length:Int) / 20)))
def bkI (l:List NodD) (dp r:Int) (G:Nat→Int→Int) (i:Nat) (s:St):Prop:=∃ c,runM G l.length (l.length - i) i c=r∧Vf.Sl [(0,.f (sl (encL fNod l))),(1,.f (intF dp)),(2,.f (intF 60)),(7,.f (intF c)),(8,.f (intF i))] 61 [] [] s
theorem lblocks_g (l:List NodD) (hB:NodB l) (hc:∀ y ∈ nodsPre l,y.cond.l.length≤1000000):∃ F:Int→Int,∀ dp,Gives Tryz.prog 23 [sl (encL fNod l),intF dp,intF 60] (intF (F dp)):=by
 induction hB with
 | mk l hl h1 h2 ih1 ih2 =>
  have hsub:∀ x ∈ l,(∀ y ∈ nodsPre x.thn.l,y.cond.l.length≤1000000)∧(∀ y ∈ nodsPre x.els.l,y.cond.l.length≤1000000)∧x.cond.l.length≤1000000:=fun x hx =>
   ⟨fun y hy=>hc y (nodsPre_thn hx y hy),fun y hy=>hc y (nodsPre_els hx y hy),hc x (nodsPre_mem hx)⟩
  have e1:∀ x:NodD,∃ F:Int→Int,x ∈ l→∀ dp,Gives Tryz.prog 23 [sl (encL fNod x.thn.l),intF dp,intF 60] (intF (F dp)):=fun x=>by
   by_cases hx:x ∈ l
   ·obtain ⟨F,hF⟩:=ih1 x hx (hsub x hx).1
    exact ⟨F,fun _=>hF⟩
   ·exact ⟨fun _=>0,fun h=>absurd h hx⟩
  have e2:∀ x:NodD,∃ F:Int→Int,x ∈ l→∀ dp,Gives Tryz.prog 23 [sl (encL fNod x.els.l),intF dp,intF 60] (intF (F dp)):=fun x=>by
   by_cases hx:x ∈ l
   ·obtain ⟨F,hF⟩:=ih2 x hx (hsub x hx).2.1
    exact ⟨F,fun _=>hF⟩
   ·exact ⟨fun _=>0,fun h=>absurd h hx⟩
  obtain ⟨F1,hF1⟩:=Classical.skolem.1 e1
  obtain ⟨F2,hF2⟩:=Classical.skolem.1 e2
  refine ⟨fun dp=>if (60:Int) < l.length then 61 else if 20 < dp then 61 else runM (blkS (fun x=>F1 x (IntKind.i64.wrap (dp+1))) (fun x=>F2 x (IntKind.i64.wrap (dp+1))) l) l.length l.length 0 l.length,fun dp=>?_⟩
  refine Gives.of mixed Tryz.func23 rfl rfl rfl (by kernel_rfl) ?_
  by_cases c1:(60:Int) < l.length
  ·simp [c1,Vf.wrap64]
  by_cases c2:20 < dp
  ·simp [c1,c2,Vf.wrap64]
  simp only [if_neg c1,if_neg c2]
  generalize hr:runM (blkS (fun x=>F1 x (IntKind.i64.wrap (dp+1))) (fun x=>F2 x (IntKind.i64.wrap (dp+1))) l) l.length l.length 0 l.length=r
  simp [c1,c2]
  refine forX mixed l.length (bkI l dp r _) (by kernel_rfl) ⟨_,hr,Sl.of rfl rfl rfl⟩ ?_
  rintro i ⟨ts,hh,kk⟩ hi ⟨c,hr,rfl,rfl,f,rfl⟩
  by_cases hlt:i < l.length
  case neg =>
   rw [runM_stop (by omega)] at hr
   subst hr
   simp [hlt]
  by_cases c3:c≤60
  case neg =>
   rw [runM_stop (by omega)] at hr
   subst hr
   simp [hlt,c3]
  obtain ⟨x,hx,hx'⟩:=nth_of hlt
  have hm:=List.mem_of_getElem? hx'
  have hw:=wrap64 (x:=(i:Int)+1) (by omega) (by omega)
  rw [show l.length - i=(l.length - (i+1))+1 by omega,runM,if_pos ⟨hlt,c3⟩] at hr
  simp [hlt,c3,hx,fNod_eq]
  refine call_g (hF1 x hm _) ?_
  simp [hlt,c3,hx,fNod_eq]
  refine call_g (hF2 x hm _) ?_
  have hG:blkS (fun x=>F1 x (IntKind.i64.wrap (dp+1))) (fun x=>F2 x (IntKind.i64.wrap (dp+1))) l i c=IntKind.i64.wrap (c+IntKind.i64.wrap (IntKind.i64.wrap (F1 x (IntKind.i64.wrap (dp+1))+F2 x (IntKind.i64.wrap (dp+1)))+IntKind.i64.wrap ((x.cond.l.length:Int) / 20))):=by
   unfold blkS
   rw [hx']
  rw [hG] at hr
  simp [hlt,hx,fNod_eq,hw]
  exact ⟨_,hr,Sl.of rfl rfl rfl⟩
def s22A (d:PrgD) (i:Nat) (s:St):Prop:=noneT big5 d.tables.l i∧Vf.Sl [(1,.ref 0 0),(3,.f (intF i))] 93 [aPrg d] [] s
def s22B (d:PrgD) (i:Nat) (s:St):Prop:=noneT big6 d.states.l i∧Vf.Sl [(1,.ref 0 0),(4,.f (intF i))] 93 [aPrg d] [] s
theorem small22_g (d:PrgD) (hB:NodB d.control.l) (hc:∀ y ∈ nodsPre d.control.l,y.cond.l.length≤1000000):∃ b,Gives Tryz.prog 6 [fPrg d] (boolF b):=by
 obtain ⟨F,hF⟩:=lblocks_g d.control.l hB hc
 refine ⟨sm22 d (F 0),?_⟩
 refine Gives.of mixed Tryz.func6 rfl rfl rfl (by kernel_rfl) ?_
 generalize hv:sm22 d (F 0)=v
 unfold sm22 at hv
 simp [fPrg,cPrg]
 refine call_g (small16_g d) ?_
 cases h0:sm16 d with
 | false =>
  rw [h0] at hv
  subst hv
  simp
 | true =>
 rw [h0] at hv
 replace hv:=hv
 rw [if_pos rfl] at hv
 by_cases h1:(30:Int) < d.tables.l.length
 ·rw [if_pos h1] at hv; subst hv
  simp [h1]
 rw [if_neg h1] at hv
 by_cases h2:(30:Int) < d.states.l.length
 ·rw [if_pos h2] at hv; subst hv
  simp [h1,h2]
 rw [if_neg h2] at hv
 by_cases h3:(30:Int) < d.dep.l.length
 ·rw [if_pos h3] at hv; subst hv
  simp [h1,h2,h3]
 rw [if_neg h3] at hv
 simp [h1,h2,h3]
 refine call_g (hF 0) ?_
 by_cases h4:60 < F 0
 ·rw [if_pos h4] at hv; subst hv
  simp [h4]
 rw [if_neg h4] at hv
 simp [h4]
 refine forX mixed d.tables.l.length (s22A d) (by kernel_rfl) ⟨.zero,Sl.of rfl rfl rfl⟩ ?_
 rintro i ⟨ts,hh,kk⟩ hi ⟨hno,rfl,rfl,f,rfl⟩
 by_cases hlt:i < d.tables.l.length
 ·obtain ⟨a,ha,ha'⟩:=nth_of hlt
  have hw:=wrap64 (x:=(i:Int)+1) (by omega) (by omega)
  have hit:big5 a=true→v=false:=fun h=>by rw [← hv,any_hit ha' h]; rfl
  by_cases a1:(20:Int) < a.keys.l.length
  ·obtain rfl:=hit (by simp [big5,a1])
   simp [aPrg,hlt,ha,a1]
  by_cases a2:(40:Int) < a.acts.l.length
  ·obtain rfl:=hit (by simp [big5,a2])
   simp [aPrg,hlt,ha,a1,a2]
  by_cases a3:(40:Int) < a.args.l.length
  ·obtain rfl:=hit (by simp [big5,a3])
   simp [aPrg,hlt,ha,a1,a2,a3]
  simp [aPrg,hlt,ha,a1,a2,a3,hw]
  exact ⟨hno.next ha' (by simp [big5,a1,a2,a3]),Sl.of rfl rfl rfl⟩
 rw [hno.all hlt] at hv
 simp [aPrg,hlt]
 refine forX mixed d.states.l.length (s22B d) (by kernel_rfl) ⟨.zero,Sl.of rfl rfl rfl⟩ ?_
 clear hlt hi hno
 rintro i ⟨ts,hh,kk⟩ hi ⟨hno,rfl,rfl,f,rfl⟩
 by_cases hlt:i < d.states.l.length
 ·obtain ⟨a,ha,ha'⟩:=nth_of hlt
  have hw:=wrap64 (x:=(i:Int)+1) (by omega) (by omega)
  have hit:big6 a=true→v=false:=fun h=>by rw [← hv,any_hit ha' h]; rfl
  by_cases a1:(20:Int) < a.extract.l.length
  ·obtain rfl:=hit (by simp [big6,a1])
   simp [aPrg,hlt,ha,a1]
  by_cases a2:(20:Int) < a.cases.l.length
  ·obtain rfl:=hit (by simp [big6,a2])
   simp [aPrg,hlt,ha,a1,a2]
  simp [aPrg,hlt,ha,a1,a2,hw]
  exact ⟨hno.next ha' (by simp [big6,a1,a2]),Sl.of rfl rfl rfl⟩
 rw [hno.all hlt] at hv
 subst hv
 simp [aPrg,hlt]
end Go.Proofs.YtafenffmgpcjcaaGreat
