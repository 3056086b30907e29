/- Texts of the proof: GS6. -/
import Derived.Test.YtafenffmgpcjcaaGreatGS5
import Derived.Test.YtafenffmgpcjcaaGreatGS2
import Derived.Test.YtafenffmgpcjcaaGreatGS3
namespace Go.Proofs.YtafenffmgpcjcaaGreat
open Go.RowKit Go.Proofs.YtafenffmgpcjcaaGreat.Vf
set_option linter.unusedVariables false
set_option linter.unusedSimpArgs false
set_option maxRecDepth 100000
set_option maxHeartbeats 4000000
abbrev rowF (r:List Int):FV:=sl (encL intF r)
def kindM (D:List (List Int)) (i j:Nat):Int :=
 if j≤i∨(D.getD i []).length≤j then 0 else if (D.getD i []).getD j 0=1∨(D.getD i []).getD j 0=2 then (D.getD i []).getD j 0 else 0
theorem kind_g (D:List (List Int)) (c:Cap) (i j:Nat) (hi:i < D.length):Gives Tryz.prog 75 [.sl (encL rowF D) c,intF i,intF j] (intF (kindM D i j)):=by
 refine Gives.of mixed Tryz.func75 rfl rfl rfl (by kernel_rfl) ?_
 obtain ⟨r,hr,hr'⟩:=nth_of hi
 have hD:D.getD i []=r:=by rw [List.getD_eq_getElem?_getD,hr']; rfl
 by_cases c1:j≤i
 ·have hv:kindM D i j=0:=if_pos (.inl c1)
  simp [c1,hv]
 by_cases c2:r.length≤j
 ·have hv:kindM D i j=0:=by unfold kindM; rw [hD,if_pos (.inr c2)]
  simp [c1,c2,hi,hr,hv]
 obtain ⟨x,hx,hx'⟩:=nth_of (show j < r.length by omega)
 have hX:r.getD j 0=x:=by rw [List.getD_eq_getElem?_getD,hx']; rfl
 have hv:kindM D i j=if x=1∨x=2 then x else 0:=by unfold kindM; rw [hD,if_neg (by omega),hX]
 rw [hv]
 have c3:j < r.length:=by omega
 by_cases k1:x=1
 ·simp [c1,c2,c3,hi,hr,hx,k1]
 by_cases k2:x=2
 ·simp [c1,c2,c3,hi,hr,hx,k2]
 simp [c1,c2,c3,hi,hr,hx,k1,k2]
theorem satAdd_min {a b:Int}:satAdd a b=if 9223372036854775807 - a < b then 9223372036854775807 else a+b:=rfl
def sumStep (a x:Int × Int):Int × Int:=(satAdd a.1 (max x.1 0),satAdd a.2 (max x.2 0))
def sumR (l:List (Int × Int)):Int × Int:=l.foldl sumStep (0,0)
theorem satAdd_bd {a b:Int} (ha:0≤a∧a≤9223372036854775807) (hb:0≤b):0≤satAdd a b∧satAdd a b≤9223372036854775807:=by
 rw [satAdd_min]
 split <;> omega
theorem sumStep_bd {a x:Int × Int} (h:(0≤a.1∧a.1≤9223372036854775807)∧(0≤a.2∧a.2≤9223372036854775807)):(0≤(sumStep a x).1∧(sumStep a x).1≤9223372036854775807)∧(0≤(sumStep a x).2∧(sumStep a x).2≤9223372036854775807) :=
 ⟨satAdd_bd h.1 (by omega),satAdd_bd h.2 (by omega)⟩
theorem sumFold_bd (l:List (Int × Int)):∀ a:Int × Int,((0≤a.1∧a.1≤9223372036854775807)∧(0≤a.2∧a.2≤9223372036854775807))→(0≤(l.foldl sumStep a).1∧(l.foldl sumStep a).1≤9223372036854775807)∧(0≤(l.foldl sumStep a).2∧(l.foldl sumStep a).2≤9223372036854775807):=by
 induction l with
 | nil=>exact fun a h=>h
 | cons x l ih=>exact fun a h=>ih _ (sumStep_bd h)
theorem sumStep_eq (a x:Int × Int):sumStep a x=(satAdd a.1 (max x.1 0),satAdd a.2 (max x.2 0)):=rfl
theorem fold_take2 {l:List (Int × Int)} {k:Nat} {x:Int × Int} (h:l[k]?=some x):(l.take (k+1)).foldl sumStep (0,0)=sumStep ((l.take k).foldl sumStep (0,0)) x:=by
 rw [List.take_add_one,h,List.foldl_append]
 rfl
abbrev fRes (x:Int × Int):FV:=.agg [intF x.1,intF x.2]
def sumI (l:List (Int × Int)) (c:Cap) (k:Nat) (s:St):Prop:=∃ y z,((l.take k).foldl sumStep (0,0))=(y,z)∧Vf.Sl [(0,.f (.sl (encL fRes l) c)),(2,.ref 0 0),(3,.ref 1 0),(6,.f (intF l.length)),(7,.f (intF k))] 32 [[.f (intF 0),.f (intF 0)],[.f (intF y),.f (intF z)]] [] s
theorem sum2_g (l:List (Int × Int)) (c:Cap) (hl:l.length≤maxLen):Gives Tryz.prog 119 [.sl (encL fRes l) c] (fRes (sumR l)):=by
 refine Gives.of mixed Tryz.func119 rfl rfl rfl (by kernel_rfl) ?_
 simp
 refine forX mixed l.length (sumI l c) (by kernel_rfl) ⟨0,0,rfl,Sl.of rfl rfl rfl⟩ ?_
 rintro k ⟨ts,hh,kk⟩ hk ⟨y,z,hyz,rfl,rfl,f,rfl⟩
 have hbd:=sumFold_bd (l.take k) (0,0) ⟨by simp,by simp⟩
 rw [hyz] at hbd
 simp only at hbd
 by_cases hlt:k < l.length
 ·obtain ⟨x,hx,hx'⟩:=nth_of hlt
  have hw:=wrap64 (x:=(k:Int)+1) (by omega) (by unfold maxLen at hl; omega)
  have hst:=fold_take2 hx'
  rw [hyz,sumStep_eq] at hst
  simp [hlt,hx]
  rw [ops_max (q:=.i64) (a:=x.1) (b:=0) rfl rfl]
  simp
  refine call_g (satAdd_g y (max x.1 0) hbd.1 (by omega)) ?_
  simp [hlt,hx]
  rw [ops_max (q:=.i64) (a:=x.2) (b:=0) rfl rfl]
  simp
  refine call_g (satAdd_g z (max x.2 0) hbd.2 (by omega)) ?_
  simp [hw]
  exact ⟨_,_,hst,Sl.of rfl rfl rfl⟩
 ·obtain rfl:k=l.length:=by omega
  rw [List.take_length] at hyz
  simp [sumR,hyz]
def argStep (d:PrgD) (m a:Int):Int:=match (if a < 0 then none else d.acts.l[a.toNat]?) with | none=>m | some x=>max m (sumW x.params.l)
def argBits (d:PrgD) (t:TblD):Int:=t.acts.l.foldl (argStep d) 0
def WidthsOk (d:PrgD):Prop:=∀ x ∈ d.acts.l,x.params.l.length≤1000∧∀ y ∈ x.params.l,0≤y.width∧y.width≤32
theorem fold_next {α β:Type} {f:β→α→β} {b:β} {l:List α} {k:Nat} {x:α} (h:l[k]?=some x):(l.take (k+1)).foldl f b=f ((l.take k).foldl f b) x:=by
 rw [take_snoc h,List.foldl_append]; rfl
theorem sumW_bd {l:List FldD} (h:∀ y ∈ l,0≤y.width∧y.width≤32) (k:Nat):0≤sumW (l.take k)∧sumW (l.take k)≤32 * l.length:=by
 have key:∀ m:List FldD,(∀ y ∈ m,0≤y.width∧y.width≤32)→0≤sumW m∧sumW m≤32 * m.length:=by
  intro m
  induction m with
  | nil=>intro _; simp [sumW,isum]
  | cons a m ih =>
   intro h
   have h1:=ih fun y hy=>h y (.tail _ hy)
   have h2:=h a (.head _)
   simp only [sumW,List.map_cons,isum,List.length_cons] at *
   omega
 have:=key (l.take k) fun y hy=>h y (List.mem_of_mem_take hy)
 rw [List.length_take] at this
 omega
def agI (d:PrgD) (t:TblD) (i:Nat) (s:St):Prop:=∃ g,Vf.Sl [(2,.ref 0 0),(5,.f (intF ((t.acts.l.take i).foldl (argStep d) 0))),(12,.f (sl (encL intF t.acts.l))),(13,.f (intF t.acts.l.length)),(14,.f (intF i))] 51 (aPrg d::g) [] s
def agJ (d:PrgD) (t:TblD) (i:Nat) (x:ActD) (j:Nat) (s:St):Prop:=∃ g,Vf.Sl [(2,.ref 0 0),(5,.f (intF ((t.acts.l.take i).foldl (argStep d) 0))),(8,.f (sl (encL fFld x.params.l))),(9,.f (intF (sumW (x.params.l.take j)))),(12,.f (sl (encL intF t.acts.l))),(13,.f (intF t.acts.l.length)),(14,.f (intF i)),(33,.f (sl (encL fFld x.params.l))),(34,.f (intF x.params.l.length)),(35,.f (intF j))] 51 (aPrg d::g) [] s
theorem argBits_g (d:PrgD) (t:TblD) (hW:WidthsOk d) (hl:t.acts.l.length≤maxLen):Gives Tryz.prog 170 [fPrg d,fTbl t] (intF (argBits d t)):=by
 refine Gives.of mixed Tryz.func170 rfl rfl rfl (by kernel_rfl) ?_
 simp [fPrg,cPrg]
 refine scopeX mixed (by kernel_rfl) ?_
 simp
 refine forX mixed t.acts.l.length (agI d t) (by kernel_rfl) ⟨_,Sl.of rfl rfl rfl⟩ ?_
 rintro i ⟨ts,hh,kk⟩ hi ⟨g,rfl,rfl,f,rfl⟩
 by_cases hlt:i < t.acts.l.length
 ·obtain ⟨a,ha,ha'⟩:=nth_of hlt
  have hw:=wrap64 (x:=(i:Int)+1) (by omega) (by unfold maxLen at hl; omega)
  have hn:=fold_next (f:=argStep d) (b:=0) ha'
  rcases actAt (d:=d) a with ⟨c1,hr⟩ | ⟨c1,c2,hr⟩ | ⟨c1,c2,c3,x,hx,hx',hr⟩
  ·have hs:∀ m,argStep d m a=m:=fun m=>by unfold argStep; rw [hr]
   rw [hs] at hn
   simp [hlt,ha,aPrg,c1,hw]
   exact ⟨_,by rw [hn]; exact Sl.of rfl rfl rfl⟩
  ·have hs:∀ m,argStep d m a=m:=fun m=>by unfold argStep; rw [hr]
   rw [hs] at hn
   simp [hlt,ha,aPrg,c1,c2,hw]
   exact ⟨_,by rw [hn]; exact Sl.of rfl rfl rfl⟩
  have c0:0≤a:=by omega
  have hs:∀ m,argStep d m a=max m (sumW x.params.l):=fun m=>by unfold argStep; rw [hr]
  rw [hs] at hn
  have hx2:=hW x (List.mem_of_getElem? hx')
  simp [hlt,ha,aPrg,c0,c1,c2,c3,hx]
  refine forX mixed x.params.l.length (agJ d t i x) (by kernel_rfl) ⟨_,Sl.of rfl rfl rfl⟩ ?_
  rintro j ⟨ts,hh,kk⟩ hj ⟨g,rfl,rfl,f,rfl⟩
  by_cases hjt:j < x.params.l.length
  ·obtain ⟨y,hy,hy'⟩:=nth_of hjt
   have hwj:=wrap64 (x:=(j:Int)+1) (by omega) (by omega)
   have hb:=sumW_bd hx2.2 j
   have hyb:=hx2.2 y (List.mem_of_getElem? hy')
   have hws:=wrap64 (x:=sumW (x.params.l.take j)+y.width) (by omega) (by omega)
   simp [hjt,hy,hwj,hws]
   exact ⟨_,by rw [sumW_next hy']; exact Sl.of rfl rfl rfl⟩
  ·obtain rfl:j=x.params.l.length:=by omega
   simp
   rw [ops_max (q:=.i64) (a:=(t.acts.l.take i).foldl (argStep d) 0) (b:=sumW x.params.l) rfl rfl]
   simp [hw]
   exact ⟨_,by rw [hn]; exact Sl.of rfl rfl rfl⟩
 ·obtain rfl:i=t.acts.l.length:=by omega
  simp [argBits]
def badDep (D:List (List Int)) (S:List Int) (j i:Nat):Bool:=(kindM D i j == 2 && decide (S.getD j 0≤S.getD i 0)) || (kindM D i j == 1 && decide (S.getD j 0 < S.getD i 0))
def satM (D:List (List Int)) (S:List Int):Bool:=decide (S.length=D.length) && !(List.range D.length).any fun j=>(List.range j).any fun i=>badDep D S j i
def satI (D:List (List Int)) (S:List Int) (c1 c2:Cap) (j:Nat) (s:St):Prop:=noneT (fun j=>(List.range j).any fun i=>badDep D S j i) (List.range D.length) j∧Vf.Sl [(0,.f (.sl (encL rowF D) c1)),(1,.f (.sl (encL intF S) c2)),(13,.f (intF D.length)),(14,.f (intF j))] 49 [] [] s
def satJ (D:List (List Int)) (S:List Int) (c1 c2:Cap) (j i:Nat) (s:St):Prop:=noneT (fun i=>badDep D S j i) (List.range j) i∧Vf.Sl [(0,.f (.sl (encL rowF D) c1)),(1,.f (.sl (encL intF S) c2)),(5,.f (intF j)),(13,.f (intF D.length)),(14,.f (intF j)),(17,.f (intF j)),(18,.f (intF i))] 49 [] [] s
theorem sat_g (D:List (List Int)) (S:List Int) (c1 c2:Cap) (hl:D.length≤maxLen):Gives Tryz.prog 41 [.sl (encL rowF D) c1,.sl (encL intF S) c2] (boolF (satM D S)):=by
 refine Gives.of mixed Tryz.func41 rfl rfl rfl (by kernel_rfl) ?_
 by_cases e:S.length=D.length
 case neg =>
  have e':¬ (S.length:Int)=D.length:=by omega
  have hv:satM D S=false:=by unfold satM; rw [decide_eq_false e]; rfl
  simp [e,e',hv]
 have hv:satM D S=!(List.range D.length).any fun j=>(List.range j).any fun i=>badDep D S j i:=by unfold satM; rw [decide_eq_true e]; rfl
 rw [hv]
 simp [e,-List.any_eq_true]
 refine forX mixed D.length (satI D S c1 c2) (by kernel_rfl) ⟨.zero,Sl.of rfl rfl rfl⟩ ?_
 rintro j ⟨ts,hh,kk⟩ hj ⟨hno,rfl,rfl,f,rfl⟩
 by_cases hjt:j < D.length
 ·have hw:=wrap64 (x:=(j:Int)+1) (by omega) (by unfold maxLen at hl; omega)
  simp [hjt]
  refine forX mixed j (satJ D S c1 c2 j) (by kernel_rfl) ⟨.zero,Sl.of rfl rfl rfl⟩ ?_
  rintro i ⟨ts,hh,kk⟩ hi ⟨hno2,rfl,rfl,f,rfl⟩
  by_cases hit:i < j
  ·have hwi:=wrap64 (x:=(i:Int)+1) (by omega) (by unfold maxLen at hl; omega)
   obtain ⟨x,hx,hx'⟩:=nth_of (show j < S.length by omega)
   obtain ⟨y,hy,hy'⟩:=nth_of (show i < S.length by omega)
   have hX:S.getD j 0=x:=by rw [List.getD_eq_getElem?_getD,hx']; rfl
   have hY:S.getD i 0=y:=by rw [List.getD_eq_getElem?_getD,hy']; rfl
   have hb:badDep D S j i=((kindM D i j == 2 && decide (x≤y)) || (kindM D i j == 1 && decide (x < y))):=by unfold badDep; rw [hX,hY]
   have hijS:i < S.length∧j < S.length:=by omega
   have bad:badDep D S j i=true→((List.range D.length).any fun j=>(List.range j).any fun i=>badDep D S j i)=true:=fun h =>
    any_hit (p:=fun j=>(List.range j).any fun i=>badDep D S j i) (range_at hjt) (any_hit (p:=fun i=>badDep D S j i) (range_at hit) h)
   simp [hit]
   refine call_g (kind_g D c1 i j (by omega)) ?_
   generalize kindM D i j=q at hb
   by_cases q2:q=2
   ·subst q2
    by_cases c:x≤y
    ·rw [bad (by rw [hb]; simp [c])]
     simp [hijS,hx,hy,c]
    ·simp [hijS,hx,hy,c,hwi]
     exact ⟨hno2.next (range_at hit) (by rw [hb]; simp [c]),Sl.of rfl rfl rfl⟩
   by_cases q1:q=1
   ·subst q1
    by_cases c:x < y
    ·rw [bad (by rw [hb]; simp [c])]
     simp [hijS,hx,hy,c]
    ·simp [hijS,hx,hy,c,hwi]
     exact ⟨hno2.next (range_at hit) (by rw [hb]; simp [c]),Sl.of rfl rfl rfl⟩
   simp [q1,q2,hwi]
   exact ⟨hno2.next (range_at hit) (by rw [hb]; simp [q1,q2]),Sl.of rfl rfl rfl⟩
  ·obtain rfl:i=j:=by omega
   have h2:=hno2.all (by simp)
   simp [hw]
   exact ⟨hno.next (range_at hjt) h2,Sl.of rfl rfl rfl⟩
 ·obtain rfl:j=D.length:=by omega
  rw [hno.all (by simp)]
  simp
def rowA (r:List Int):List AV:=r.map fun x=>.f (intF x)
@[simp] theorem rowA_length (r:List Int):(rowA r).length=r.length:=by simp [rowA]
theorem rowA_one (r:List Int):(rowA r).all AV.one=true:=by
 induction r with
 | nil=>rfl
 | cons x r ih=>show (AV.one _ && (rowA r).all AV.one)=true; rw [ih]; rfl
theorem rowA_fz (H:List (List AV)) (r:List Int):mapO (fzH 0 H 0) (rowA r)=some (r.map intF):=by
 induction r with
 | nil=>rfl
 | cons x r ih=>show mapO (fzH 0 H 0) (.f (intF x)::rowA r)=_; rw [mapO,ih]; rfl
theorem ints_one (r:List Int):(r.map intF).all (fun y=>(AV.f y).one)=true:=by
 induction r with
 | nil=>rfl
 | cons x r ih=>show (AV.one _ && (r.map intF).all (fun y=>(AV.f y).one))=true; rw [ih]; rfl
theorem chunk_ints (r:List Int):chunk false 1 r.length (r.map intF)=r.map intF:=by
 induction r with
 | nil=>rfl
 | cons x r ih=>simpa [chunk] using ih
theorem ret_ints {r:List Int} {n:Nat} {R:FV→Prop} (hn:r.length=n) (h:R (sl (encL intF r))):RetV [rowA r] (.ms 0 0 n n 1) R:=by
 subst hn
 refine ⟨1,_,?_,h⟩
 have ht:((rowA r).drop 0).take (r.length * 1)=rowA r:=by simp [List.take_of_length_le]
 show (if _ then _ else _)=_
 rw [ht,if_pos ⟨by omega,by omega,by simp,by omega,rowA_one r⟩,rowA_fz]
 show (if _ then _ else _)=_
 rw [if_pos (ints_one r)]
 show some (FV.sl (chunk false 1 r.length (r.map intF)) .un)=_
 rw [chunk_ints]; rfl
theorem rowA_at {r:List Int} {j:Nat} {x:Int} (h:r[j]?=some x):((rowA r).drop j).head?=some (.f (intF x)):=by
 simp [rowA,List.head?_drop,h]
@[simp] theorem rowA_set (r:List Int) (j:Nat) (x:Int):(rowA r).set j (.f (.sc (.int .i64 x)))=rowA (r.set j x):=by
 unfold rowA
 exact (List.map_set (f:=fun x=>AV.f (intF x))).symm
theorem zeroRow_ints (n:Nat):zeroRow [.f (.sc (.int .i64 0))] n=rowA (List.replicate n 0):=by
 induction n with
 | zero=>rfl
 | succ n ih=>rw [zeroRow,ih]; rfl
theorem make_i {h:List (List AV)} {k:List (Nat × Nat)} {i n:Nat} (hn:n < 2^32):opMake (tyOf Tryz.prog) h k 29 (isZero (.tmp i)) (.f (.sc (.int .i64 n))) (.f (.sc (.int .i64 n)))=some (.ms h.length 0 n n 1,h ++ [rowA (List.replicate n 0)],k):=by
 simp only [opMake,idx,isZero,ty29,Int.natCast_nonneg,if_true,Int.toNat_natCast]
 simp only [ty3]
 rw [if_neg (by simp; omega),if_neg (by simp)]
 simp [AV.one,zeroRow_ints]
def stepE (d:List (List Int)) (j i:Nat) (r:List Int):List Int:=if kindM d i j=2 then r.set j (max (r.getD j 0) (IntKind.i64.wrap (r.getD i 0+1))) else if kindM d i j=1 then r.set j (max (r.getD j 0) (r.getD i 0)) else r
def rowE (d:List (List Int)) (j:Nat) (r:List Int):Nat→List Int
 | 0=>r
 | i+1=>stepE d j i (rowE d j r i)
def earE (d:List (List Int)):Nat→List Int
 | 0=>List.replicate d.length 0
 | j+1=>rowE d j (earE d j) j
theorem stepE_length (d:List (List Int)) (j i:Nat) (r:List Int):(stepE d j i r).length=r.length:=by
 unfold stepE; split
 ·simp
 ·split <;> simp
theorem rowE_length (d:List (List Int)) (j:Nat) (r:List Int) (i:Nat):(rowE d j r i).length=r.length:=by
 induction i with
 | zero=>rfl
 | succ i ih=>rw [rowE,stepE_length,ih]
theorem earE_length (d:List (List Int)) (j:Nat):(earE d j).length=d.length:=by
 induction j with
 | zero=>simp [earE]
 | succ j ih=>rw [earE,rowE_length,ih]
def eaI (D:List (List Int)) (c:Cap) (j:Nat) (s:St):Prop:=Vf.Sl [(0,.f (.sl (encL rowF D) c)),(3,.ms 0 0 D.length D.length 1),(10,.f (intF D.length)),(11,.f (intF j))] 54 [rowA (earE D j)] [] s
def eaJ (D:List (List Int)) (c:Cap) (j i:Nat) (s:St):Prop:=Vf.Sl [(0,.f (.sl (encL rowF D) c)),(3,.ms 0 0 D.length D.length 1),(4,.f (intF j)),(10,.f (intF D.length)),(11,.f (intF j)),(14,.f (intF j)),(15,.f (intF i))] 54 [rowA (rowE D j (earE D j) i)] [] s
theorem earliest_g (d:List (List Int)) (c:Cap) (hd:d.length < 2^32):Gives Tryz.prog 59 [.sl (encL rowF d) c] (sl (encL intF (earE d d.length))):=by
 refine Gives.of mixed Tryz.func59 rfl rfl rfl (by kernel_rfl) ?_
 simp [make_i hd]
 refine forX mixed d.length (eaI d c) (by kernel_rfl) (Sl.of rfl rfl rfl) ?_
 rintro j ⟨t,h,kk⟩ hj ⟨rfl,rfl,f,rfl⟩
 by_cases hlt:j < d.length
 ·have hw:=wrap64 (x:=(j:Int)+1) (by omega) (by omega)
  simp [hlt]
  refine forX mixed j (eaJ d c j) (by kernel_rfl) (Sl.of rfl rfl rfl) ?_
  rintro i ⟨t,h,kk⟩ hi ⟨rfl,rfl,f,rfl⟩
  have hr:(rowE d j (earE d j) i).length=d.length:=by rw [rowE_length,earE_length]
  have hs:rowE d j (earE d j) (i+1)=stepE d j i (rowE d j (earE d j) i):=rfl
  generalize hq:rowE d j (earE d j) i=r at hr hs ⊢
  by_cases hil:i < j
  ·have hw':=wrap64 (x:=(i:Int)+1) (by omega) (by omega)
   obtain ⟨x,hx,hx'⟩:=nth_of (show i < r.length by omega)
   obtain ⟨y,hy,hy'⟩:=nth_of (show j < r.length by omega)
   have gx:=rowA_at hx'
   have hid:i < d.length:=by omega
   have hjd:j+1≤d.length:=by omega
   have dx:r.getD i 0=x:=by rw [List.getD_eq_getElem?_getD,hx']; rfl
   have dy:r.getD j 0=y:=by rw [List.getD_eq_getElem?_getD,hy']; rfl
   unfold stepE at hs
   rw [dx,dy] at hs
   have gy:=rowA_at hy'
   simp [hil]
   refine call_g (kind_g d c i j (by omega)) ?_
   by_cases e:kindM d i j=2
   ·rw [if_pos e] at hs
    simp [e,hr,hlt,hid,gx,gy]
    rw [ops_max (q:=.i64) (a:=y) (b:=IntKind.i64.wrap (x+1)) rfl rfl]
    simp [hr,hlt,hid,hjd,hw']
    unfold eaJ
    rw [hs]
    exact Sl.of rfl rfl rfl
   rw [if_neg e] at hs
   by_cases e':kindM d i j=1
   ·rw [if_pos e'] at hs
    simp [e',hr,hlt,hid,gx,gy]
    rw [ops_max (q:=.i64) (a:=y) (b:=x) rfl rfl]
    simp [hr,hlt,hid,hjd,hw']
    unfold eaJ
    rw [hs]
    exact Sl.of rfl rfl rfl
   ·rw [if_neg e'] at hs
    simp [e,e',hw']
    unfold eaJ
    rw [hs]
    exact Sl.of rfl rfl rfl
  ·simp [hil,hw]
   obtain rfl:i=j:=by omega
   subst hq
   exact Sl.of rfl rfl rfl
 ·simp [hlt]
  obtain rfl:j=d.length:=by omega
  exact ret_ints (earE_length d _) rfl
theorem tvalid_g (d:PrgD) (hn:NmOk d) (ht:∀ t ∈ d.tables.l,TblOk t) (hal:d.acts.l.length≤1000) (i:Int):Gives Tryz.prog 228 [fPrg d,intF i] (boolF (decide ((tblCheck d i).2=0))):=by
 refine Gives.of mixed Tryz.func228 rfl rfl rfl (by kernel_rfl) ?_
 simp [fPrg,cPrg]
 refine call_g (tbl_g d hn ht hal i) ?_
 simp
def tblWidths (d:PrgD) (i:Int):List Int:=if (tblCheck d i).2=0 then (match (if i < 0 then none else d.tables.l[i.toNat]?) with | none=>[] | some t=>t.keys.l.map fun k=>widthOf d k.h k.f) else []
theorem tblCheck_at {d:PrgD} {i:Int} (h:(tblCheck d i).2=0):0≤i∧¬ i < 0∧i.toNat < d.tables.l.length∧∃ t,nth d.tables.l i.toNat=some t∧(if i < 0 then none else d.tables.l[i.toNat]?)=some t∧t.keys.l.length≤6:=by
 rcases tblAt (d:=d) i with ⟨c1,hr⟩ | ⟨c1,c2,hr⟩ | ⟨c0,c1,c2,c3,t,hx,hx',hr⟩
 ·unfold tblCheck at h; rw [hr] at h; cases h
 ·unfold tblCheck at h; rw [hr] at h; cases h
 ·refine ⟨c0,c1,c3,t,hx,hr,?_⟩
  unfold tblCheck at h
  rw [hr] at h
  have h:(tblCheckA d t).2=0:=h
  unfold tblCheckA at h
  split at h
  ·cases h
  ·split at h
   ·cases h
   ·omega
def twI (d:PrgD) (t:TblD) (i:Nat) (s:St):Prop:=∃ g k x tk,OwnT k (encL intF (mapTo (fun y:KeyD=>widthOf d y.h y.f) t.keys.l i)) 1 x tk∧Vf.Sl [(2,.ref 0 0),(5,x),(17,.f (sl (encL fKey t.keys.l))),(18,.f (intF t.keys.l.length)),(19,.f (intF i))] 32 (aPrg d::g) k s
theorem widthsT_g (d:PrgD) (hn:NmOk d) (ht:∀ t ∈ d.tables.l,TblOk t) (hal:d.acts.l.length≤1000) (i:Int):Gives Tryz.prog 227 [fPrg d,intF i] (ownF (encL intF (tblWidths d i))):=by
 refine Gives.of mixed Tryz.func227 rfl rfl rfl (by kernel_rfl) ?_
 simp [fPrg,cPrg]
 refine call_g (tvalid_g d hn ht hal i) ?_
 by_cases h:(tblCheck d i).2=0
 case neg =>
  have hv:tblWidths d i=[]:=if_neg h
  simp [h,hv,ownF,encL]
 obtain ⟨c0,c1,c3,t,hx,hr,hk⟩:=tblCheck_at h
 have hv:tblWidths d i=t.keys.l.map fun k=>widthOf d k.h k.f:=by unfold tblWidths; rw [if_pos h,hr]
 rw [hv]
 simp [h,c0,c1,c3,hx]
 refine forX mixed t.keys.l.length (twI d t) (by kernel_rfl) ⟨_,_,_,0,.nil,Sl.of rfl rfl rfl⟩ ?_
 rintro j ⟨ts,hh,kk⟩ hj ⟨g,k,x,tk,ho,rfl,rfl,f,rfl⟩
 by_cases hlt:j < t.keys.l.length
 ·obtain ⟨l,hl1,hl'⟩:=nth_of hlt
  have hw:=wrap64 (x:=(j:Int)+1) (by omega) (by omega)
  simp [hlt,hl1,aPrg]
  refine call_g (envWidth_g d l.h l.f) ?_
  simp [-opAppend]
  have hle:=mapTo_le (f:=fun y:KeyD=>widthOf d y.h y.f) (l:=t.keys.l) (i:=j)
  obtain ⟨t',k',e,ho',_⟩:=append_own ty29 ty3 (by simp) ho (y:=.f (.sl [intF (widthOf d l.h l.f)] .full)) rfl (by simp) (by simp) (by simp; omega) (by simp; omega)
  rw [e]
  simp [hw]
  exact ⟨_,_,_,_,by rw [mapTo_next hl',← encL_snoc]; exact ho',Sl.of rfl rfl rfl⟩
 ·obtain rfl:j=t.keys.l.length:=by omega
  simp [hlt]
  rw [ho.ret,mapTo_all]
def tblBits (d:PrgD) (i:Int):Int:=isum (tblWidths d i)
theorem isum_next {l:List Int} {k:Nat} {x:Int} (h:l[k]?=some x):isum (l.take (k+1))=isum (l.take k)+x:=by
 rw [take_snoc h,isum_append]; simp [isum]
theorem tblWidths_bd (d:PrgD) (i:Int):(tblWidths d i).length≤6∧∀ x ∈ tblWidths d i,0≤x∧x≤32:=by
 by_cases h:(tblCheck d i).2=0
 ·obtain ⟨c0,c1,c3,t,hx,hr,hk⟩:=tblCheck_at h
  have hv:tblWidths d i=t.keys.l.map fun k=>widthOf d k.h k.f:=by unfold tblWidths; rw [if_pos h,hr]
  rw [hv]
  refine ⟨by simpa using hk,fun x hx=>?_⟩
  obtain ⟨y,_,rfl⟩:=List.mem_map.1 hx
  exact widthOf_bd d y.h y.f
 ·have hv:tblWidths d i=[]:=if_neg h
  rw [hv]; simp
theorem isum_32 {l:List Int} (h:∀ x ∈ l,0≤x∧x≤32):0≤isum l∧isum l≤32 * l.length:=by
 induction l with
 | nil=>simp [isum]
 | cons a l ih =>
  have h1:=ih fun x hx=>h x (.tail _ hx)
  have h2:=h a (.head _)
  simp only [isum,List.length_cons]
  omega
def tbI (l:List Int) (c:Cap) (i:Nat) (s:St):Prop:=∃ g,Vf.Sl [(5,.f (intF (isum (l.take i)))),(10,.f (.sl (encL intF l) c)),(11,.f (intF l.length)),(12,.f (intF i))] 21 g [] s
theorem bitsT_g (d:PrgD) (hn:NmOk d) (ht:∀ t ∈ d.tables.l,TblOk t) (hal:d.acts.l.length≤1000) (i:Int):Gives Tryz.prog 169 [fPrg d,intF i] (intF (tblBits d i)):=by
 refine Gives.of mixed Tryz.func169 rfl rfl rfl (by kernel_rfl) ?_
 simp [fPrg,cPrg]
 refine call_g (widthsT_g d hn ht hal i) ?_
 obtain ⟨hl,hb⟩:=tblWidths_bd d i
 unfold tblBits
 generalize tblWidths d i=l at hl hb
 obtain ⟨c,hc⟩:=ownF_is (encL intF l)
 rw [hc]
 simp
 refine forX mixed l.length (tbI l c) (by kernel_rfl) ⟨_,Sl.of rfl rfl rfl⟩ ?_
 rintro j ⟨ts,hh,kk⟩ hj ⟨g,rfl,rfl,f,rfl⟩
 by_cases hlt:j < l.length
 ·obtain ⟨x,hx,hx'⟩:=nth_of hlt
  have hw:=wrap64 (x:=(j:Int)+1) (by omega) (by omega)
  have h1:=isum_32 (l:=l.take j) fun y hy=>hb y (List.mem_of_mem_take hy)
  rw [List.length_take] at h1
  have h2:=hb x (List.mem_of_getElem? hx')
  have hs:=wrap64 (x:=isum (l.take j)+x) (by omega) (by omega)
  simp [hlt,hx,hw,hs]
  exact ⟨_,by rw [isum_next hx']; exact Sl.of rfl rfl rfl⟩
 ·obtain rfl:j=l.length:=by omega
  simp
def kindQ (l:List KeyD):Int:=if l.any (fun k=>k.kind == 2) then 2 else 1
def kindOf (l:List KeyD):Int:=if l.any (fun k=>k.kind == 3) then 3 else kindQ l
def tblKind (d:PrgD) (i:Int):Int:=if (tblCheck d i).2=0 then (match (if i < 0 then none else d.tables.l[i.toNat]?) with | none=>0 | some t=>kindOf t.keys.l) else 0
theorem kindQ_next {l:List KeyD} {k:Nat} {x:KeyD} (h:l[k]?=some x):kindQ (l.take (k+1))=if x.kind=2 then 2 else kindQ (l.take k):=by
 unfold kindQ
 rw [take_snoc h,List.any_append]
 by_cases hx:x.kind=2 <;> simp [hx]
def tkI (t:TblD) (i:Nat) (s:St):Prop:=noneT (fun k:KeyD=>k.kind == 3) t.keys.l i∧∃ g,Vf.Sl [(5,.f (intF (kindQ (t.keys.l.take i)))),(17,.f (sl (encL fKey t.keys.l))),(18,.f (intF t.keys.l.length)),(19,.f (intF i))] 33 g [] s
theorem kindT_g (d:PrgD) (hn:NmOk d) (ht:∀ t ∈ d.tables.l,TblOk t) (hal:d.acts.l.length≤1000) (i:Int):Gives Tryz.prog 171 [fPrg d,intF i] (intF (tblKind d i)):=by
 refine Gives.of mixed Tryz.func171 rfl rfl rfl (by kernel_rfl) ?_
 simp [fPrg,cPrg]
 refine call_g (tvalid_g d hn ht hal i) ?_
 by_cases h:(tblCheck d i).2=0
 case neg =>
  have hv:tblKind d i=0:=if_neg h
  simp [h,hv]
 obtain ⟨c0,c1,c3,t,hx,hr,hk⟩:=tblCheck_at h
 have hv:tblKind d i=kindOf t.keys.l:=by unfold tblKind; rw [if_pos h,hr]
 rw [hv]
 simp [h,c0,c1,c3,hx]
 refine forX mixed t.keys.l.length (tkI t) (by kernel_rfl) ⟨.zero,_,Sl.of rfl rfl rfl⟩ ?_
 rintro j ⟨ts,hh,kk⟩ hj ⟨hno,g,rfl,rfl,f,rfl⟩
 by_cases hlt:j < t.keys.l.length
 ·obtain ⟨l,hl1,hl'⟩:=nth_of hlt
  have hw:=wrap64 (x:=(j:Int)+1) (by omega) (by omega)
  by_cases k3:l.kind=3
  ·have hq:kindOf t.keys.l=3:=by unfold kindOf; rw [if_pos (any_hit hl' (by simpa using k3))]
   simp [hlt,hl1,k3,hq]
  have hnx:=hno.next hl' (by simpa using k3)
  by_cases k2:l.kind=2
  ·simp [hlt,hl1,k2,hw]
   exact ⟨hnx,_,by rw [kindQ_next hl',if_pos k2]; exact Sl.of rfl rfl rfl⟩
  ·simp [hlt,hl1,k2,k3,hw]
   exact ⟨hnx,_,by rw [kindQ_next hl',if_neg k2]; exact Sl.of rfl rfl rfl⟩
 ·obtain rfl:j=t.keys.l.length:=by omega
  have hq:kindOf t.keys.l=kindQ t.keys.l:=by unfold kindOf; rw [hno.all hlt]; rfl
  simp [hlt,hq]
def idxM (l:List Int) (n:Int):Int:=if l.contains n then ((l.takeWhile fun x=>!(x == n)).length:Int) else -1
theorem rindex_g (l:List Int) (c:Cap) (n:Int) (hl:l.length < 2^62):Gives Tryz.prog 232 [.sl (encL intF l) c,intF n] (intF (idxM l n)):=by
 refine Gives.of mixed Tryz.func232 rfl rfl rfl (by kernel_rfl) ?_
 simp
 refine forX mixed l.length (fun i st=>noneT (fun x=>x == n) l i∧∃ g,Vf.Sl [(0,.f (.sl (encL intF l) c)),(1,.f (intF n)),(5,.f (intF i))] 19 g [] st) (by kernel_rfl) ⟨.zero,[],Sl.of rfl rfl rfl⟩ ?_
 rintro i ⟨ts,hh,kk⟩ hi ⟨hno,g,rfl,rfl,f,rfl⟩
 by_cases hlt:i < l.length
 ·obtain ⟨x,hx,hx'⟩:=nth_of hlt
  have hw:=wrap64 (x:=(i:Int)+1) (by omega) (by omega)
  by_cases he:x=n
  ·have hc:l.contains n=true:=by rw [List.contains_iff_mem]; subst he; exact List.mem_of_getElem? hx'
   have ht:=tw_len (p:=fun x=>!(x == n)) (l:=l) (i:=i) (fun j y hj hy=>by have:=hno j y hj hy; simp only [Bool.not_not]; exact this) (by omega) (fun y hy=>by rw [hx'] at hy; obtain rfl:=Option.some.inj hy; simp [he])
   have hv:idxM l n=i:=by unfold idxM; rw [if_pos hc]; exact ht.symm
   simp [hlt,hx,he,hv]
  ·simp [hlt,hx,he,hw]
   exact ⟨hno.next hx' (by simpa using he),_,Sl.of rfl rfl rfl⟩
 ·have hc:¬ l.contains n=true:=by
   have:=hno.all hlt
   rw [List.any_eq_false] at this
   rw [List.contains_iff_mem]
   intro hm
   exact absurd (by simp) (this n hm)
  have hv:idxM l n=-1:=by unfold idxM; rw [if_neg hc]
  obtain rfl:i=l.length:=by omega
  simp [hv]
theorem idxM_neg (l:List Int) (n:Int):idxM l n < 0 ↔ l.contains n=false:=by
 unfold idxM
 split
 ·rename_i h; rw [h]; simp
 ·rename_i h; simp at h ⊢; exact h
theorem idxM_lt {l:List Int} {i:Nat} {a:Int} (h:l[i]?=some a):idxM l a < i ↔ (l.take i).contains a=true:=by
 have hc:l.contains a=true:=by rw [List.contains_iff_mem]; exact List.mem_of_getElem? h
 unfold idxM
 rw [if_pos hc]
 clear hc
 induction l generalizing i with
 | nil=>simp at h
 | cons b l ih =>
  cases i with
  | zero=>simp
  | succ i =>
   have h':l[i]?=some a:=by simpa using h
   have hx:=ih (i:=i) h'
   rw [List.takeWhile_cons]
   by_cases hb:b=a
   ·subst hb; simp
   ·have hb':(b == a)=false:=by simpa using hb
    simp only [hb',Bool.not_false,if_true,List.length_cons,List.take_succ_cons,List.contains_cons]
    have hb2:(a == b)=false:=by simpa using fun h:a=b=>hb h.symm
    rw [hb2,Bool.false_or]
    exact ⟨fun g=>hx.1 (by omega),fun g=>by have:=hx.2 g; omega⟩
def rkyI (d:PrgD) (t:TblD) (i:Nat) (s:St):Prop:=noneT (fun i=>(keyScan d t.keys.l i).isSome) (List.range t.keys.l.length) i∧∃ g,Vf.Sl [(2,.ref 0 0),(3,.ref 1 0),(6,.f (intF (keyBits d (t.keys.l.take i)))),(7,.f (intF (keyLpm (t.keys.l.take i)))),(8,.f (intF i))] 62 (aPrg d::[.f (strF t.name),.f (sl (encL fKey t.keys.l)),.f (sl (encL intF t.acts.l)),.f (intF t.dfl),.f (sl (encL u32F t.args.l)),.f (intF t.size)]::g) [] s
theorem rkeys_g (d:PrgD) (t:TblD) (hl:t.keys.l.length < 100000):Gives Tryz.prog 180 [fPrg d,fTbl t] (two (keysCheck d t.keys.l)):=by
 refine Gives.of mixed Tryz.func180 rfl rfl rfl (by kernel_rfl) ?_
 simp [fPrg,cPrg]
 refine forX mixed t.keys.l.length (rkyI d t) (by kernel_rfl) ⟨.zero,[],Sl.of rfl rfl rfl⟩ ?_
 rintro i ⟨ts,hh,kk⟩ hi ⟨hno,g,rfl,rfl,f,rfl⟩
 have hkc:keysCheck d t.keys.l=match scan t.keys.l.length (keyScan d t.keys.l) with | some e=>e | none=>if 1 < keyLpm t.keys.l then (-2,7) else if 64 < keyBits d t.keys.l then (-2,10) else (0,0):=rfl
 by_cases hlt:i < t.keys.l.length
 ·obtain ⟨x,hx,hx'⟩:=nth_of hlt
  have hw:=wrap64 (x:=(i:Int)+1) (by omega) (by omega)
  have hlm:=keyLpm_le (t.keys.l.take i)
  have hbb:=keyBits_bd d (t.keys.l.take i)
  have hti:(t.keys.l.take i).length=i:=by rw [List.length_take]; omega
  have hwb:=widthOf_bd d x.h x.f
  have hwl:=wrap64 (x:=((keyLpm (t.keys.l.take i):Nat):Int)+1) (by omega) (by omega)
  have hwk:=wrap64 (x:=keyBits d (t.keys.l.take i)+widthOf d x.h x.f) (by omega) (by omega)
  have hf:keyScan d t.keys.l i=if widthOf d x.h x.f=0 then some ((i:Int),8) else if 1≤x.kind∧x.kind≤3 then none else some ((i:Int),11):=by simp only [keyScan,hx']
  have out:∀ e,keyScan d t.keys.l i=some e→keysCheck d t.keys.l=e:=fun e he=>by rw [hkc,scan_at hno hlt he]
  simp [hlt,hx,aPrg]
  refine call_g (rtwidth_g d x.h x.f) ?_
  by_cases h1:widthOf d x.h x.f=0
  ·simp [hlt,hx,h1,out _ (hf.trans (if_pos h1))]
  rw [if_neg h1] at hf
  have hb':=keyBits_next (d:=d) hx'
  have hl':=keyLpm_next hx'
  by_cases k2:x.kind=2
  ·rw [if_pos k2] at hl'
   simp [hlt,hx,h1,k2,hw,hwl,hwk]
   exact ⟨hno.next (range_at hlt) (by rw [hf,if_pos (by omega)]; rfl),_,by rw [hb',hl']; exact Sl.of rfl rfl rfl⟩
  rw [if_neg k2] at hl'
  by_cases k1:x.kind=1
  ·simp [hlt,hx,h1,k1,hw,hwl,hwk]
   exact ⟨hno.next (range_at hlt) (by rw [hf,if_pos (by omega)]; rfl),_,by rw [hb',hl']; exact Sl.of rfl rfl rfl⟩
  by_cases k3:x.kind=3
  ·simp [hlt,hx,h1,k3,hw,hwl,hwk]
   exact ⟨hno.next (range_at hlt) (by rw [hf,if_pos (by omega)]; rfl),_,by rw [hb',hl']; exact Sl.of rfl rfl rfl⟩
  simp [hlt,hx,h1,k1,k2,k3,out _ (hf.trans (if_neg (by omega)))]
 ·obtain rfl:i=t.keys.l.length:=by omega
  rw [hkc,scan_of hno,List.take_length]
  by_cases m1:1 < keyLpm t.keys.l
  ·have m1':1 < ((keyLpm t.keys.l:Nat):Int):=by omega
   simp [aPrg,m1,m1']
  have m1':¬ 1 < ((keyLpm t.keys.l:Nat):Int):=by omega
  by_cases m2:64 < keyBits d t.keys.l
  ·simp [aPrg,m1,m1',m2]
  ·simp [aPrg,m1,m1',m2]
def rtaI (d:PrgD) (t:TblD) (i:Nat) (s:St):Prop:=noneT (fun i=>(actScan d t.acts.l i).isSome) (List.range t.acts.l.length) i∧∃ g,Vf.Sl [(2,.ref 0 0),(3,.ref 1 0),(5,.f (intF i))] 53 (aPrg d::[.f (strF t.name),.f (sl (encL fKey t.keys.l)),.f (sl (encL intF t.acts.l)),.f (intF t.dfl),.f (sl (encL u32F t.args.l)),.f (intF t.size)]::g) [] s
theorem ractions_g (d:PrgD) (t:TblD) (hl:t.acts.l.length < 100000) (hB:t.args.l.length < 2^62) (hU:∀ x ∈ t.args.l,U32 x):Gives Tryz.prog 181 [fPrg d,fTbl t] (intF (tblActs d t)):=by
 refine Gives.of mixed Tryz.func181 rfl rfl rfl (by kernel_rfl) ?_
 have hT:tblActs d t=match scan t.acts.l.length (actScan d t.acts.l) with
  | some e=>e
  | none=>if !t.acts.l.contains t.dfl then 8 else callCheck d t.dfl t.args.l:=rfl
 generalize tblActs d t=v at hT
 simp [fPrg,cPrg]
 refine forX mixed t.acts.l.length (rtaI d t) (by kernel_rfl) ⟨.zero,[],Sl.of rfl rfl rfl⟩ ?_
 rintro i ⟨ts,hh,kk⟩ hi ⟨hno,g,rfl,rfl,f,rfl⟩
 by_cases hlt:i < t.acts.l.length
 ·obtain ⟨a,ha,ha'⟩:=nth_of hlt
  have hw:=wrap64 (x:=(i:Int)+1) (by omega) (by omega)
  have hf:actScan d t.acts.l i=if a < 0∨(d.acts.l.length:Int)≤a then some 8 else if (t.acts.l.take i).contains a then some 7 else none:=by simp only [actScan,ha']
  have out:∀ e,actScan d t.acts.l i=some e→v=e:=fun e he=>by rw [hT,scan_at hno hlt he]
  by_cases c1:a < 0
  ·simp [hlt,ha,aPrg,c1,out 8 (hf.trans (if_pos (.inl c1)))]
  by_cases c2:(d.acts.l.length:Int)≤a
  ·simp [hlt,ha,aPrg,c1,c2,out 8 (hf.trans (if_pos (.inr c2)))]
  rw [if_neg (by omega)] at hf
  have hl:=idxM_lt ha'
  simp [hlt,ha,aPrg,c1,c2]
  refine call_g (rindex_g t.acts.l .un a (by omega)) ?_
  by_cases c3:idxM t.acts.l a < i
  ·rw [if_pos (hl.1 c3)] at hf
   simp [c3,out 7 hf]
  ·rw [if_neg (fun h=>c3 (hl.2 h))] at hf
   simp [c3,hw]
   exact ⟨hno.next (range_at hlt) (by rw [hf]; rfl),_,Sl.of rfl rfl rfl⟩
 ·obtain rfl:i=t.acts.l.length:=by omega
  rw [scan_of hno] at hT
  simp [aPrg]
  refine call_g (rindex_g t.acts.l .un t.dfl (by omega)) ?_
  have hn:=idxM_neg t.acts.l t.dfl
  by_cases c3:idxM t.acts.l t.dfl < 0
  ·have hT:v=8:=by rw [hT]; simp only [hn.1 c3]; rfl
   simp [c3,hT]
  ·have hc:t.acts.l.contains t.dfl=true:=by
    cases h:t.acts.l.contains t.dfl with
    | true=>rfl
    | false=>exact absurd (hn.2 h) c3
   have hT:v=callCheck d t.dfl t.args.l:=by rw [hT]; simp only [hc]; rfl
   simp [c3]
   refine call_g (rcall_g d t.dfl t.args.l hB hU) ?_
   simp [hT]
structure PrgN (d:PrgD):Prop where
 args:∀ t ∈ d.tables.l,∀ x ∈ t.args.l,U32 x
 cases_:∀ s ∈ d.states.l,∀ c ∈ s.cases.l,U32 c.value∧U32 c.mask
theorem rtbl_g (d:PrgD) (hn:NmOk d) (ht:∀ t ∈ d.tables.l,TblOk t) (hN:PrgN d) (r:Int):Gives Tryz.prog 127 [fPrg d,intF r] (two (tblCheck d r)):=by
 refine Gives.of mixed Tryz.func127 rfl rfl rfl (by kernel_rfl) ?_
 rcases tblAt (d:=d) r with ⟨c1,hr⟩ | ⟨c1,c2,hr⟩ | ⟨c0,c1,c2,c3,t,hx,hx',hr⟩
 ·have hv:tblCheck d r=(-1,8):=by unfold tblCheck; rw [hr]
  simp [c1,fPrg,cPrg,hv]
 ·have hv:tblCheck d r=(-1,8):=by unfold tblCheck; rw [hr]
  simp [c1,c2,fPrg,cPrg,hv]
 have hv:tblCheck d r=tblCheckA d t:=by unfold tblCheck; rw [hr]
 rw [hv]
 have hm:=List.mem_of_getElem? hx'
 simp [c0,c1,c2,c3,hx,fPrg,cPrg]
 refine call_g (rident_g t.name (hn.tables t hm)) ?_
 have hA:tblCheckA d t=if !ident t.name then (-1,6) else if 6 < t.keys.l.length∨16 < t.acts.l.length then (-1,12) else if t.size < 1∨256 < t.size then (-1,9)
  else if (keysCheck d t.keys.l).2 ≠ 0 then keysCheck d t.keys.l else if tblActs d t ≠ 0 then (-3,tblActs d t) else (0,0):=rfl
 cases h1:ident t.name with
 | false =>
  rw [h1] at hA
  have hA:tblCheckA d t=(-1,6):=hA
  simp [hA]
 | true =>
 rw [h1,if_neg (by decide)] at hA
 by_cases k1:6 < t.keys.l.length
 ·have k1':6 < (t.keys.l.length:Int):=by omega
  rw [if_pos (.inl k1)] at hA
  simp [k1,k1',hA]
 have k1':¬ 6 < (t.keys.l.length:Int):=by omega
 by_cases k2:16 < t.acts.l.length
 ·have k2':16 < (t.acts.l.length:Int):=by omega
  rw [if_pos (.inr k2)] at hA
  simp [k1,k1',k2,k2',hA]
 have k2':¬ 16 < (t.acts.l.length:Int):=by omega
 rw [if_neg (by omega)] at hA
 by_cases k3:t.size < 1
 ·rw [if_pos (.inl k3)] at hA
  simp [k1,k1',k2,k2',k3,hA]
 by_cases k4:256 < t.size
 ·rw [if_pos (.inr k4)] at hA
  simp [k1,k1',k2,k2',k3,k4,hA]
 rw [if_neg (by omega)] at hA
 simp [k1,k1',k2,k2',k3,k4]
 refine call_g (rkeys_g d t (by omega)) ?_
 by_cases e1:(keysCheck d t.keys.l).2=0
 case neg =>
  rw [if_pos e1] at hA
  simp [e1,hA]
 rw [if_neg (by simpa using e1)] at hA
 simp [e1]
 refine call_g (ractions_g d t (by omega) (ht t hm).args (hN.args t hm)) ?_
 by_cases e2:tblActs d t=0
 ·rw [if_neg (by simpa using e2)] at hA
  simp [e2,hA]
 ·rw [if_pos e2] at hA
  simp [e2,hA]
theorem rtvalid_g (d:PrgD) (hn:NmOk d) (ht:∀ t ∈ d.tables.l,TblOk t) (hN:PrgN d) (i:Int):Gives Tryz.prog 238 [fPrg d,intF i] (boolF (decide ((tblCheck d i).2=0))):=by
 refine Gives.of mixed Tryz.func238 rfl rfl rfl (by kernel_rfl) ?_
 simp [fPrg,cPrg]
 refine call_g (rtbl_g d hn ht hN i) ?_
 simp
def rtwI (d:PrgD) (i:Int) (t:TblD) (j:Nat) (s:St):Prop:=∃ g k x tk,OwnT k (encL intF (mapTo (fun y:KeyD=>widthOf d y.h y.f) t.keys.l j)) 1 x tk∧Vf.Sl [(1,.f (intF i)),(2,.ref 0 0),(5,x),(6,.f (intF j))] 38 (aPrg d::g) k s
theorem rwidthsT_g (d:PrgD) (hn:NmOk d) (ht:∀ t ∈ d.tables.l,TblOk t) (hN:PrgN d) (i:Int):Gives Tryz.prog 237 [fPrg d,intF i] (ownF (encL intF (tblWidths d i))):=by
 refine Gives.of mixed Tryz.func237 rfl rfl rfl (by kernel_rfl) ?_
 simp [fPrg,cPrg]
 refine call_g (rtvalid_g d hn ht hN i) ?_
 by_cases h:(tblCheck d i).2=0
 case neg =>
  have hv:tblWidths d i=[]:=if_neg h
  simp [h,hv,ownF,encL]
 obtain ⟨c0,c1,c3,t,hx,hr,hk⟩:=tblCheck_at h
 have hv:tblWidths d i=t.keys.l.map fun k=>widthOf d k.h k.f:=by unfold tblWidths; rw [if_pos h,hr]
 rw [hv]
 simp [h]
 refine forX mixed t.keys.l.length (rtwI d i t) (by kernel_rfl) ⟨[],_,_,0,.nil,Sl.of rfl rfl rfl⟩ ?_
 rintro j ⟨ts,hh,kk⟩ hj ⟨g,k,x,tk,ho,rfl,rfl,f,rfl⟩
 by_cases hlt:j < t.keys.l.length
 ·obtain ⟨l,hl1,hl'⟩:=nth_of hlt
  have hw:=wrap64 (x:=(j:Int)+1) (by omega) (by omega)
  simp [hlt,hl1,aPrg,c0,c1,c3,hx]
  refine call_g (rtwidth_g d l.h l.f) ?_
  simp [-opAppend]
  have hle:=mapTo_le (f:=fun y:KeyD=>widthOf d y.h y.f) (l:=t.keys.l) (i:=j)
  obtain ⟨t',k',e,ho',_⟩:=append_own ty29 ty3 (by simp) ho (y:=.f (.sl [intF (widthOf d l.h l.f)] .full)) rfl (by simp) (by simp) (by simp; omega) (by simp; omega)
  rw [e]
  simp [hw]
  exact ⟨_,_,_,_,by rw [mapTo_next hl',← encL_snoc]; exact ho',Sl.of rfl rfl rfl⟩
 ·obtain rfl:j=t.keys.l.length:=by omega
  simp [hlt,aPrg,c0,c1,c3,hx]
  rw [ho.ret,mapTo_all]
def rtbI (l:List Int) (c:Cap) (i:Nat) (s:St):Prop:=∃ g,Vf.Sl [(5,.f (.sl (encL intF l) c)),(6,.f (intF (isum (l.take i)))),(7,.f (intF i))] 24 g [] s
theorem rbitsT_g (d:PrgD) (hn:NmOk d) (ht:∀ t ∈ d.tables.l,TblOk t) (hN:PrgN d) (i:Int):Gives Tryz.prog 184 [fPrg d,intF i] (intF (tblBits d i)):=by
 refine Gives.of mixed Tryz.func184 rfl rfl rfl (by kernel_rfl) ?_
 simp [fPrg,cPrg]
 refine call_g (rwidthsT_g d hn ht hN i) ?_
 obtain ⟨hl,hb⟩:=tblWidths_bd d i
 unfold tblBits
 generalize tblWidths d i=l at hl hb
 obtain ⟨c,hc⟩:=ownF_is (encL intF l)
 rw [hc]
 simp
 refine forX mixed l.length (rtbI l c) (by kernel_rfl) ⟨_,Sl.of rfl rfl rfl⟩ ?_
 rintro j ⟨ts,hh,kk⟩ hj ⟨g,rfl,rfl,f,rfl⟩
 by_cases hlt:j < l.length
 ·obtain ⟨x,hx,hx'⟩:=nth_of hlt
  have hw:=wrap64 (x:=(j:Int)+1) (by omega) (by omega)
  have h1:=isum_32 (l:=l.take j) fun y hy=>hb y (List.mem_of_mem_take hy)
  rw [List.length_take] at h1
  have h2:=hb x (List.mem_of_getElem? hx')
  have hs:=wrap64 (x:=isum (l.take j)+x) (by omega) (by omega)
  simp [hlt,hx,hw,hs]
  exact ⟨_,by rw [isum_next hx']; exact Sl.of rfl rfl rfl⟩
 ·obtain rfl:j=l.length:=by omega
  simp
theorem kindOf_next {l:List KeyD} {k:Nat} {x:KeyD} (h:l[k]?=some x) (hk:1≤x.kind∧x.kind≤3):kindOf (l.take (k+1))=max (kindOf (l.take k)) x.kind:=by
 unfold kindOf kindQ
 rw [take_snoc h,List.any_append,List.any_append]
 have h3:x.kind=1∨x.kind=2∨x.kind=3:=by omega
 cases e3:(l.take k).any (fun k=>k.kind == 3) <;> cases e2:(l.take k).any (fun k=>k.kind == 2) <;> rcases h3 with h3 | h3 | h3 <;> simp [h3] <;> decide
theorem tblCheck_kinds {d:PrgD} {i:Int} {t:TblD} (h:(tblCheck d i).2=0) (hr:(if i < 0 then none else d.tables.l[i.toNat]?)=some t):∀ x ∈ t.keys.l,1≤x.kind∧x.kind≤3:=fun x hx=>by
 unfold tblCheck at h
 rw [hr] at h
 have h:(tblCheckA d t).2=0:=h
 unfold tblCheckA at h
 split at h
 ·cases h
 ·split at h
  ·cases h
  ·split at h
   ·cases h
   ·have hk:(keysCheck d t.keys.l).2=0:=by
     apply Classical.byContradiction
     intro hne
     rw [if_pos hne] at h
     exact hne h
    unfold keysCheck at hk
    cases hs:scan t.keys.l.length (keyScan d t.keys.l) with
    | some e =>
     rw [hs] at hk
     unfold scan at hs
     obtain ⟨j,_,hj⟩:=List.exists_of_findSome?_eq_some hs
     unfold keyScan at hj
     split at hj
     ·cases hj
     ·split at hj
      ·injection hj with hj; subst hj; cases hk
      ·split at hj
       ·cases hj
       ·injection hj with hj; subst hj; cases hk
    | none =>
     obtain ⟨j,hj,rfl⟩:=List.getElem_of_mem hx
     have:=List.findSome?_eq_none_iff.1 hs j (List.mem_range.2 hj)
     unfold keyScan at this
     rw [List.getElem?_eq_getElem hj] at this
     simp only at this
     split at this
     ·cases this
     ·split at this
      ·assumption
      ·cases this
def rtkI (d:PrgD) (i:Int) (t:TblD) (j:Nat) (s:St):Prop:=∃ g,Vf.Sl [(1,.f (intF i)),(2,.ref 0 0),(5,.f (intF (kindOf (t.keys.l.take j)))),(6,.f (intF j))] 35 (aPrg d::g) [] s
theorem rkindT_g (d:PrgD) (hn:NmOk d) (ht:∀ t ∈ d.tables.l,TblOk t) (hN:PrgN d) (i:Int):Gives Tryz.prog 185 [fPrg d,intF i] (intF (tblKind d i)):=by
 refine Gives.of mixed Tryz.func185 rfl rfl rfl (by kernel_rfl) ?_
 simp [fPrg,cPrg]
 refine call_g (rtvalid_g d hn ht hN i) ?_
 by_cases h:(tblCheck d i).2=0
 case neg =>
  have hv:tblKind d i=0:=if_neg h
  simp [h,hv]
 obtain ⟨c0,c1,c3,t,hx,hr,hk⟩:=tblCheck_at h
 have hv:tblKind d i=kindOf t.keys.l:=by unfold tblKind; rw [if_pos h,hr]
 have hks:=tblCheck_kinds h hr
 rw [hv]
 simp [h]
 refine forX mixed t.keys.l.length (rtkI d i t) (by kernel_rfl) ⟨[],Sl.of rfl rfl rfl⟩ ?_
 rintro j ⟨ts,hh,kk⟩ hj ⟨g,rfl,rfl,f,rfl⟩
 by_cases hlt:j < t.keys.l.length
 ·obtain ⟨l,hl1,hl'⟩:=nth_of hlt
  have hw:=wrap64 (x:=(j:Int)+1) (by omega) (by omega)
  have hnx:=kindOf_next hl' (hks l (List.mem_of_getElem? hl'))
  simp [hlt,hl1,aPrg,c0,c1,c3,hx]
  rw [ops_max (q:=.i64) (a:=kindOf (t.keys.l.take j)) (b:=l.kind) rfl rfl]
  simp [hw]
  exact ⟨_,by rw [hnx]; exact Sl.of rfl rfl rfl⟩
 ·obtain rfl:j=t.keys.l.length:=by omega
  simp [hlt,aPrg,c0,c1,c3,hx]
theorem rnext_g (d:PrgD) (st nx:Int):Gives Tryz.prog 236 [fPrg d,intF st,intF nx] (boolF (leadsD d st nx)):=by
 refine Gives.of mixed Tryz.func236 rfl rfl rfl (by kernel_rfl) ?_
 by_cases c1:nx=-1
 ·simp [c1,fPrg,cPrg,leadsD]
 by_cases c2:nx=-2
 ·simp [c1,c2,fPrg,cPrg,leadsD]
 by_cases c3:st < nx
 ·simp [c1,c2,c3,fPrg,cPrg,leadsD]
 ·simp [c1,c2,c3,fPrg,cPrg,leadsD]
theorem and_not (V M:BitVec 32):V &&& M=V ↔ V &&& ~~~M=0#32:=by
 constructor
 ·intro h
  rw [← h]
  ext i hi
  simp
 ·intro h
  ext i hi
  have:=congrArg (fun x=>x.getLsbD i) h
  simp at this ⊢
  intro hv
  simpa [hv,hi] using this
theorem toNat_u32 {v:Int} (h:U32 v):((BitVec.ofInt 32 v).toNat:Int)=v:=by
 obtain ⟨h0,h1⟩:=h
 rw [BitVec.toNat_ofInt]
 omega
theorem wrap_nat (n:Nat) (h:n < 4294967296):IntKind.u32.wrap (n:Int)=n:=wrap32 (by omega) (by omega)
theorem and_masks {v m:Int} (hv:U32 v):andI .u32 v m=v ↔ notI .u32 v m=0:=by
 unfold andI notI
 show IntKind.u32.wrap (((BitVec.ofInt 32 v &&& BitVec.ofInt 32 m).toNat:Nat):Int)=v ↔ IntKind.u32.wrap (((BitVec.ofInt 32 v &&& ~~~BitVec.ofInt 32 m).toNat:Nat):Int)=0
 have e:=toNat_u32 hv
 rw [wrap_nat _ (BitVec.isLt _),wrap_nat _ (BitVec.isLt _)]
 have h:=and_not (BitVec.ofInt 32 v) (BitVec.ofInt 32 m)
 rw [← BitVec.toNat_inj,← BitVec.toNat_inj] at h
 have z:(0#32).toNat=0:=rfl
 rw [z] at h
 constructor
 ·intro g; have:=h.1 (by omega); omega
 ·intro g; have:=h.2 (by omega); omega
def rcsI (d:PrgD) (st:Nat) (s:StaD) (i:Nat) (t:St):Prop:=noneT (fun i=>(casesScan d st s i).isSome) (List.range s.cases.l.length) i∧∃ g,Vf.Sl [(1,.f (intF st)),(2,.ref 0 0),(6,.ref 1 0),(7,.f (intF (widthOf d s.onh s.onf))),(8,.f (intF i))] 60 (aPrg d::aSta s s.sel::g) [] t
theorem rcases_g (d:PrgD) (st:Nat) (s:StaD) (hs:d.states.l[st]?=some s) (hl:s.cases.l.length≤8) (hw:0 < s.cases.l.length→¬ widthOf d s.onh s.onf=0) (hU:∀ c ∈ s.cases.l,U32 c.value∧U32 c.mask) :
  Gives Tryz.prog 235 [fPrg d,intF st] (two ((scan s.cases.l.length (casesScan d st s)).getD (-1,0))):=by
 refine Gives.of mixed Tryz.func235 rfl rfl rfl (by kernel_rfl) ?_
 have hlt:=(List.getElem?_eq_some_iff.1 hs).1
 have hx:nth d.states.l st=some s:=hs
 generalize hv:(scan s.cases.l.length (casesScan d st s)).getD (-1,0)=v
 simp [hlt,hx,fPrg,cPrg]
 refine call_g (rwidth_g d s.onh s.onf) ?_
 simp
 refine forX mixed s.cases.l.length (rcsI d st s) (by kernel_rfl) ⟨.zero,[],Sl.of rfl rfl rfl⟩ ?_
 rintro i ⟨ts,hh,kk⟩ hi ⟨hno,g,rfl,rfl,f,rfl⟩
 by_cases hil:i < s.cases.l.length
 ·obtain ⟨c,hc,hc'⟩:=nth_of hil
  have hw1:=wrap64 (x:=(i:Int)+1) (by omega) (by omega)
  have hu:=hU c (List.mem_of_getElem? hc')
  have hwd:=hw (by omega)
  have hbw:badW (widthOf d s.onh s.onf)=false:=by
   have:=widthOf_bd d s.onh s.onf
   simp only [badW,Bool.or_eq_false_iff,decide_eq_false_iff_not]
   omega
  have hf:casesScan d st s i=if caseCheck d st s c=0 then none else some ((i:Int),caseCheck d st s c):=by simp only [casesScan,hc']
  have hcc:caseCheck d st s c=if (!fitsW c.value (widthOf d s.onh s.onf)) || !fitsW c.mask (widthOf d s.onh s.onf) then 9
   else if andNotU c.value c.mask ≠ 0 then 5 else if !leadsD d st c.next then 14 else 0:=rfl
  have out:∀ e:Int,e ≠ 0→caseCheck d st s c=e→v=((i:Int),e):=fun e he h=>by rw [← hv,scan_at hno hil (by rw [hf,h,if_neg he])]; rfl
  have hmm:=and_masks (m:=c.mask) hu.1
  simp [hil,hc,aPrg,aSta]
  refine call_g (rfits12_g c.value _ hu.1 hbw) ?_
  cases h1:fitsW c.value (widthOf d s.onh s.onf) with
  | false=>simp [out 9 (by decide) (by rw [hcc,h1]; rfl)]
  | true =>
  simp
  refine call_g (rfits12_g c.mask _ hu.2 hbw) ?_
  cases h2:fitsW c.mask (widthOf d s.onh s.onf) with
  | false=>simp [out 9 (by decide) (by rw [hcc,h1,h2]; rfl)]
  | true =>
  rw [h1,h2,if_neg (by decide)] at hcc
  by_cases h3:andNotU c.value c.mask=0
  case neg =>
   have h3':¬ andI .u32 c.value c.mask=c.value:=fun h=>h3 (hmm.1 h)
   simp [h3',out 5 (by decide) (by rw [hcc,if_pos h3])]
  have h3':andI .u32 c.value c.mask=c.value:=hmm.2 h3
  rw [if_neg (by simpa using h3)] at hcc
  simp [h3']
  refine call_g (rnext_g d st c.next) ?_
  cases h4:leadsD d st c.next with
  | false=>simp [out 14 (by decide) (by rw [hcc,h4]; rfl)]
  | true =>
   rw [h4] at hcc
   have hcc:caseCheck d st s c=0:=hcc
   simp [hw1]
   exact ⟨hno.next (range_at hil) (by rw [hf,if_pos hcc]; rfl),_,Sl.of rfl rfl rfl⟩
 ·obtain rfl:i=s.cases.l.length:=by omega
  rw [scan_of hno] at hv
  subst hv
  simp [aPrg,aSta]
def rstI (d:PrgD) (st:Nat) (s:StaD) (i:Nat) (t:St):Prop:=noneT (fun x:StaD=>sEq x.name s.name) (d.states.l.take st) i∧∃ g,Vf.Sl [(1,.f (intF st)),(2,.ref 0 0),(6,.ref 1 0),(7,.f (intF i))] 102 (aPrg d::aSta s s.sel::g) [] t
def rstJ (d:PrgD) (st:Nat) (s:StaD) (i:Nat) (t:St):Prop:=noneT (noHdr d) s.extract.l i∧∃ g,Vf.Sl [(1,.f (intF st)),(2,.ref 0 0),(6,.ref 1 0),(8,.f (intF i))] 102 (aPrg d::aSta s s.sel::g) [] t
def staM (d:PrgD) (st:Nat) (s:StaD):Int × Int:=if !ident s.name then (-1,6) else if (d.states.l.take st).any (fun t=>sEq t.name s.name) then (-1,7) else staCheck d st s
theorem rstate_g (d:PrgD) (hn:NmOk d) (hN:PrgN d) (hsl:d.states.l.length≤1000) (st:Nat) (s:StaD) (hs:d.states.l[st]?=some s):Gives Tryz.prog 182 [fPrg d,intF st] (two (staM d st s)):=by
 refine Gives.of mixed Tryz.func182 rfl rfl rfl (by kernel_rfl) ?_
 have hlt:=(List.getElem?_eq_some_iff.1 hs).1
 have hx:nth d.states.l st=some s:=hs
 have hm:=List.mem_of_getElem? hs
 have hM:staM d st s=if !ident s.name then (-1,6) else if (d.states.l.take st).any (fun t=>sEq t.name s.name) then (-1,7) else staCheck d st s:=rfl
 generalize staM d st s=v at hM
 simp [hlt,hx,fPrg,cPrg]
 refine call_g (rident_g s.name (hn.states s hm)) ?_
 cases i1:ident s.name with
 | false=>rw [i1] at hM; have hM:v=(-1,6):=hM; simp [hM]
 | true =>
 rw [i1,if_neg (by decide)] at hM
 simp
 refine forX mixed st (rstI d st s) (by kernel_rfl) ⟨.zero,[],Sl.of rfl rfl rfl⟩ ?_
 rintro i ⟨ts,hh,kk⟩ hi ⟨hno,g,rfl,rfl,f,rfl⟩
 by_cases hil:i < st
 ·obtain ⟨y,hy,hy'⟩:=nth_of (show i < d.states.l.length by omega)
  have hyt:(d.states.l.take st)[i]?=some y:=by rw [List.getElem?_take_of_lt hil]; exact hy'
  have hw:=wrap64 (x:=(i:Int)+1) (by omega) (by omega)
  cases he:sEq y.name s.name with
  | true =>
   rw [if_pos (any_hit hyt he)] at hM
   simp [hil,hy,(show i < d.states.l.length by omega),aPrg,aSta,he,hM]
  | false =>
   simp [hil,hy,(show i < d.states.l.length by omega),aPrg,aSta,he,hw]
   exact ⟨hno.next hyt he,_,Sl.of rfl rfl rfl⟩
 obtain rfl:i=st:=by omega
 have ha:=hno.all (by rw [List.length_take]; omega)
 rw [if_neg (by rw [ha]; decide)] at hM
 clear hno hi hil ha
 have hv:staCheck d i s=if 4 < s.extract.l.length∨8 < s.cases.l.length then (-1,12)
  else if s.extract.l.any (noHdr d) then (-1,8)
  else if s.sel=true∧widthOf d s.onh s.onf=0 then (-1,8)
  else if s.sel=false∧0 < s.cases.l.length then (-1,11)
  else match scan s.cases.l.length (casesScan d i s) with
   | some e=>e
   | none=>if leadsD d i s.dfl then (0,0) else (-1,14):=rfl
 rw [hv] at hM
 clear hv
 by_cases c1:4 < s.extract.l.length
 ·have c1':4 < (s.extract.l.length:Int):=by omega
  rw [if_pos (.inl c1)] at hM
  simp [aPrg,aSta,c1',hM]
 have c1':¬ 4 < (s.extract.l.length:Int):=by omega
 by_cases c2:8 < s.cases.l.length
 ·have c2':8 < (s.cases.l.length:Int):=by omega
  rw [if_pos (.inr c2)] at hM
  simp [aPrg,aSta,c1',c2',hM]
 have c2':¬ 8 < (s.cases.l.length:Int):=by omega
 rw [if_neg (by omega)] at hM
 simp [aPrg,aSta,c1',c2']
 refine forX mixed s.extract.l.length (rstJ d i s) (by kernel_rfl) ⟨.zero,_,Sl.of rfl rfl rfl⟩ ?_
 rintro j ⟨ts,hh,kk⟩ hj ⟨hno,g,rfl,rfl,f,rfl⟩
 by_cases hil:j < s.extract.l.length
 ·obtain ⟨x,hx1,hx1'⟩:=nth_of hil
  have hw:=wrap64 (x:=(j:Int)+1) (by omega) (by omega)
  by_cases q1:x < 0
  ·have:s.extract.l.any (noHdr d)=true:=any_hit hx1' (by simp [noHdr,q1])
   rw [if_pos this] at hM
   simp [hil,hx1,aPrg,aSta,q1,hM]
  by_cases q2:(d.headers.l.length:Int)≤x
  ·have:s.extract.l.any (noHdr d)=true:=any_hit hx1' (by simp [noHdr,q2])
   rw [if_pos this] at hM
   simp [hil,hx1,aPrg,aSta,q1,q2,hM]
  simp [hil,hx1,aPrg,aSta,q1,q2,hw]
  exact ⟨hno.next hx1' (by simp [noHdr,q1,q2]),_,Sl.of rfl rfl rfl⟩
 obtain rfl:j=s.extract.l.length:=by omega
 have ha:=hno.all (by omega)
 rw [if_neg (by rw [ha]; decide)] at hM
 clear hno hj hil ha
 have fin:(s.sel=true→¬ widthOf d s.onh s.onf=0)→(s.sel=false→¬ 0 < s.cases.l.length)→Gives Tryz.prog 235 [fPrg d,intF i] (two ((scan s.cases.l.length (casesScan d i s)).getD (-1,0)))∧v=match scan s.cases.l.length (casesScan d i s) with
   | some e=>e
   | none=>if leadsD d i s.dfl then (0,0) else (-1,14):=fun h1 h2=>by
  rw [if_neg (fun h=>h1 h.1 h.2),if_neg (fun h=>h2 h.1 h.2)] at hM
  refine ⟨rcases_g d i s hs (by omega) (fun hc hw=>?_) (hN.cases_ s hm),hM⟩
  cases hsl:s.sel with
  | true=>exact h1 hsl hw
  | false=>exact h2 hsl hc
 have tail:∀ e,scan s.cases.l.length (casesScan d i s)=some e→e.2 ≠ 0:=fun e he=>by
  unfold scan at he
  obtain ⟨j,_,hj⟩:=List.exists_of_findSome?_eq_some he
  unfold casesScan at hj
  split at hj
  ·cases hj
  ·split at hj
   ·cases hj
   ·injection hj with hj; subst hj; assumption
 cases hsel:s.sel with
 | false =>
  cases h0:decide (0 < s.cases.l.length) with
  | true =>
   have h0':=of_decide_eq_true h0
   rw [if_neg (fun h=>by rw [hsel] at h; cases h.1),if_pos ⟨hsel,h0'⟩] at hM
   have h0'':0 < (s.cases.l.length:Int):=by omega
   simp [aPrg,aSta,hsel,h0,h0'',hM]
  | false =>
   have h0':=of_decide_eq_false h0
   obtain ⟨hg,hV⟩:=fin (fun h=>by rw [hsel] at h; cases h) (fun _=>h0')
   have h0'':¬ 0 < (s.cases.l.length:Int):=by omega
   simp [aPrg,aSta,hsel,h0,h0'']
   refine call_g hg ?_
   cases hsc:scan s.cases.l.length (casesScan d i s) with
   | some e =>
    rw [hsc] at hV
    have hV:v=e:=hV
    simp [tail e hsc,hV]
   | none =>
    rw [hsc] at hV
    simp
    refine call_g (rnext_g d i s.dfl) ?_
    cases h4:leadsD d i s.dfl <;> simp [hV,h4]
 | true =>
  simp [aPrg,aSta,hsel]
  refine call_g (rwidth_g d s.onh s.onf) ?_
  by_cases hw0:widthOf d s.onh s.onf=0
  ·rw [if_pos ⟨hsel,hw0⟩] at hM
   simp [hw0,hM]
  ·obtain ⟨hg,hV⟩:=fin (fun _=>hw0) (fun h=>by rw [hsel] at h; cases h)
   simp [hw0,hsel]
   refine call_g hg ?_
   cases hsc:scan s.cases.l.length (casesScan d i s) with
   | some e =>
    rw [hsc] at hV
    have hV:v=e:=hV
    simp [tail e hsc,hV]
   | none =>
    rw [hsc] at hV
    simp
    refine call_g (rnext_g d i s.dfl) ?_
    cases h4:leadsD d i s.dfl <;> simp [hV,h4]
abbrev thr (p:Int × Int × Int):FV:=.tup [intF p.1,intF p.2.1,intF p.2.2]
def rpI (d:PrgD) (i:Nat) (t:St):Prop:=noneT (fun i=>(staScan d i).isSome) (List.range d.states.l.length) i∧∃ g,Vf.Sl [(1,.ref 0 0),(5,.f (intF i))] 34 (aPrg d::g) [] t
theorem rpar_g (d:PrgD) (hn:NmOk d) (hN:PrgN d):Gives Tryz.prog 128 [fPrg d] (thr (parCheck d)):=by
 refine Gives.of mixed Tryz.func128 rfl rfl rfl (by kernel_rfl) ?_
 by_cases c1:d.states.l.length=0
 ·simp [c1,fPrg,cPrg,parCheck]
 by_cases c2:12 < d.states.l.length
 ·have c2':12 < (d.states.l.length:Int):=by omega
  simp [c1,c2,c2',fPrg,cPrg,parCheck]
 have c2':¬ 12 < (d.states.l.length:Int):=by omega
 have hv:parCheck d=(scan d.states.l.length (staScan d)).getD (0,0,0):=by unfold parCheck; rw [if_neg c1,if_neg c2]
 rw [hv]
 simp [c1,c2,c2',fPrg,cPrg]
 refine forX mixed d.states.l.length (rpI d) (by kernel_rfl) ⟨.zero,[],Sl.of rfl rfl rfl⟩ ?_
 rintro i ⟨ts,hh,kk⟩ hi ⟨hno,g,rfl,rfl,f,rfl⟩
 by_cases hlt:i < d.states.l.length
 ·obtain ⟨s,hs,hs'⟩:=nth_of hlt
  have hw:=wrap64 (x:=(i:Int)+1) (by omega) (by omega)
  have hf:staScan d i=if (staM d i s).2=0 then none else some ((i:Int),(staM d i s).1,(staM d i s).2):=by
   unfold staScan staM
   rw [hs']
   cases i1:ident s.name with
   | false=>simp [i1]
   | true =>
    cases i2:(d.states.l.take i).any (fun t=>sEq t.name s.name) with
    | true=>simp only [i1,i2,Bool.not_true,Bool.false_eq_true,if_false,if_true]; rfl
    | false=>simp only [i1,i2,Bool.not_true,Bool.false_eq_true,if_false]
  have out:∀ e,staScan d i=some e→scan d.states.l.length (staScan d)=some e:=fun e he=>scan_at hno hlt he
  simp [hlt,aPrg]
  refine call_g (rstate_g d hn hN (by omega) i s hs') ?_
  by_cases h3:(staM d i s).2=0
  ·simp [h3,hw]
   exact ⟨hno.next (range_at hlt) (by rw [hf,if_pos h3]; rfl),_,Sl.of rfl rfl rfl⟩
  ·simp [h3,out _ (hf.trans (if_neg h3))]
 ·obtain rfl:i=d.states.l.length:=by omega
  simp [hlt,scan_of hno,aPrg]
def rdpI (d:PrgD) (i:Nat) (s:St):Prop:=noneT (fun i=>(depScan d i).isSome) (List.range d.dep.l.length) i∧∃ g,Vf.Sl [(1,.ref 0 0),(4,.f (intF i))] 52 (aPrg d::g) [] s
def rdpJ (d:PrgD) (x:Int) (i k:Nat) (s:St):Prop:=noneT (fun y:Int=>y == x) (d.dep.l.take i) k∧∃ g,Vf.Sl [(1,.ref 0 0),(4,.f (intF i)),(5,.f (intF k))] 52 (aPrg d::g) [] s
theorem rdep_g (d:PrgD):Gives Tryz.prog 129 [fPrg d] (two (depCheck d)):=by
 refine Gives.of mixed Tryz.func129 rfl rfl rfl (by kernel_rfl) ?_
 by_cases c1:8 < d.dep.l.length
 ·have c1':8 < (d.dep.l.length:Int):=by omega
  simp [c1,c1',fPrg,cPrg,depCheck]
 have c1':¬ 8 < (d.dep.l.length:Int):=by omega
 have hv:depCheck d=(scan d.dep.l.length (depScan d)).getD (0,0):=by unfold depCheck; rw [if_neg c1]
 rw [hv]
 simp [c1,c1',fPrg,cPrg]
 refine forX mixed d.dep.l.length (rdpI d) (by kernel_rfl) ⟨.zero,[],Sl.of rfl rfl rfl⟩ ?_
 rintro i ⟨ts,hh,kk⟩ hi ⟨hno,g,rfl,rfl,f,rfl⟩
 by_cases hlt:i < d.dep.l.length
 ·obtain ⟨x,hx,hx'⟩:=nth_of hlt
  have hw:=wrap64 (x:=(i:Int)+1) (by omega) (by omega)
  have hf:depScan d i=if x < 0∨(d.headers.l.length:Int)≤x then some ((i:Int),8) else if (d.dep.l.take i).contains x then some ((i:Int),7) else none:=by simp only [depScan,hx']
  have out:∀ e,depScan d i=some e→scan d.dep.l.length (depScan d)=some e:=fun e he=>scan_at hno hlt he
  by_cases c2:x < 0
  ·simp [hlt,hx,c2,aPrg,out _ (hf.trans (if_pos (.inl c2)))]
  by_cases c3:(d.headers.l.length:Int)≤x
  ·simp [hlt,hx,c2,c3,aPrg,out _ (hf.trans (if_pos (.inr c3)))]
  rw [if_neg (by omega)] at hf
  simp [hlt,hx,c2,c3,aPrg]
  refine forX mixed i (rdpJ d x i) (by kernel_rfl) ⟨.zero,_,Sl.of rfl rfl rfl⟩ ?_
  rintro k ⟨ts,hh,kk⟩ hk ⟨hno2,g,rfl,rfl,f,rfl⟩
  by_cases hkt:k < i
  ·obtain ⟨y,hy,hy'⟩:=nth_of (show k < d.dep.l.length by omega)
   have hyt:(d.dep.l.take i)[k]?=some y:=by rw [List.getElem?_take_of_lt hkt]; exact hy'
   have hw':=wrap64 (x:=(k:Int)+1) (by omega) (by omega)
   by_cases he:y=x
   ·have hc:(d.dep.l.take i).contains x=true:=by rw [List.contains_iff_mem]; subst he; exact List.mem_of_getElem? hyt
    rw [if_pos hc] at hf
    simp [hkt,hlt,(show k < d.dep.l.length by omega),hx,hy,aPrg,he,out _ hf]
   ·simp [hkt,hlt,(show k < d.dep.l.length by omega),hx,hy,aPrg,he,hw',hw]
    exact ⟨hno2.next hyt (by simpa using he),_,Sl.of rfl rfl rfl⟩
  ·obtain rfl:k=i:=by omega
   have ha:=hno2.all (by rw [List.length_take]; omega)
   have hc:¬ (d.dep.l.take k).contains x=true:=by
    rw [List.any_eq_false] at ha
    rw [List.contains_iff_mem]
    intro hm
    exact absurd (by simp) (ha x hm)
   rw [if_neg hc] at hf
   simp [aPrg,hw]
   exact ⟨hno.next (range_at hlt) (by rw [hf]; rfl),_,Sl.of rfl rfl rfl⟩
 ·obtain rfl:i=d.dep.l.length:=by omega
  simp [hlt,aPrg,scan_of hno]
end Go.Proofs.YtafenffmgpcjcaaGreat
