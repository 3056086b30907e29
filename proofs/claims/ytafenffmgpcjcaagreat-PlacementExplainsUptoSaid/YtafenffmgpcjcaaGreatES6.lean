/- Texts of the proof: ES6. -/
import Derived.Test.YtafenffmgpcjcaaGreatES5
import Derived.Test.YtafenffmgpcjcaaGreatES0
namespace Go.Proofs.YtafenffmgpcjcaaGreat
open Go.RowKit Go.Proofs.YtafenffmgpcjcaaGreat.Vf
set_option linter.unusedVariables false
set_option linter.unusedSimpArgs false
set_option maxRecDepth 100000
set_option maxHeartbeats 4000000
def argStep (d : PrgD) (m a : Int) : Int:=match (if a < 0 then none else d.acts.l[a.toNat]?) with | none=>m | some x=>max m (sumW x.params.l)
def argBits (d : PrgD) (t : TblD) : Int:=t.acts.l.foldl (argStep d) 0
def WidthsOk (d : PrgD) : Prop:=∀ x ∈ d.acts.l,x.params.l.length ≤ 1000∧∀ y ∈ x.params.l,0 ≤ y.width∧y.width ≤ 32
theorem fold_next {α β : Type} {f : β→α→β} {b : β} {l : List α} {k : Nat} {x : α} (h : l[k]? = some x) : (l.take (k + 1)).foldl f b = f ((l.take k).foldl f b) x:=by
 rw [take_snoc h,List.foldl_append]; rfl
theorem sumW_next {l : List FldD} {k : Nat} {x : FldD} (h : l[k]? = some x) : sumW (l.take (k + 1)) = sumW (l.take k) + x.width:=by
 rw [take_snoc h]; unfold sumW; rw [List.map_append,isum_append]; simp [isum]
theorem sumW_bd {l : List FldD} (h : ∀ y ∈ l,0 ≤ y.width∧y.width ≤ 32) (k : Nat) : 0 ≤ sumW (l.take k)∧sumW (l.take k) ≤ 32 * l.length:=by
 have key : ∀ m : List FldD,(∀ y ∈ m,0 ≤ y.width∧y.width ≤ 32)→0 ≤ sumW m∧sumW m ≤ 32 * m.length:=by
  intro m
  induction m with
  | nil=>intro _; simp [sumW,isum]
  | cons a m ih =>
   intro h
   have h1:=ih fun y hy=>h y (.tail _ hy)
   have h2:=h a (.head _)
   simp only [sumW,List.map_cons,isum,List.length_cons] at *
   omega
 have:=key (l.take k) fun y hy=>h y (List.mem_of_mem_take hy)
 rw [List.length_take] at this
 omega
def agI (d : PrgD) (t : TblD) (i : Nat) (s : St) : Prop:=∃ g,Vf.Sl [(2,.ref 0 0),(5,.f (intF ((t.acts.l.take i).foldl (argStep d) 0))),(12,.f (sl (encL intF t.acts.l))),(13,.f (intF t.acts.l.length)),(14,.f (intF i))] 51 (aPrg d :: g) [] s
def agJ (d : PrgD) (t : TblD) (i : Nat) (x : ActD) (j : Nat) (s : St) : Prop:=∃ g,Vf.Sl [(2,.ref 0 0),(5,.f (intF ((t.acts.l.take i).foldl (argStep d) 0))),(8,.f (sl (encL fFld x.params.l))),(9,.f (intF (sumW (x.params.l.take j)))),(12,.f (sl (encL intF t.acts.l))),(13,.f (intF t.acts.l.length)),(14,.f (intF i)),(33,.f (sl (encL fFld x.params.l))),(34,.f (intF x.params.l.length)),(35,.f (intF j))] 51 (aPrg d :: g) [] s
theorem argBits_g (d : PrgD) (t : TblD) (hW : WidthsOk d) (hl : t.acts.l.length ≤ maxLen) : Gives Tryz.prog 170 [fPrg d,fTbl t] (intF (argBits d t)):=by
 refine Gives.of mixed Tryz.func170 rfl rfl rfl (by kernel_rfl) ?_
 simp [fPrg,cPrg]
 refine scopeX mixed (by kernel_rfl) ?_
 simp
 refine forX mixed t.acts.l.length (agI d t) (by kernel_rfl) ⟨_,Sl.of rfl rfl rfl⟩ ?_
 rintro i ⟨ts,hh,kk⟩ hi ⟨g,rfl,rfl,f,rfl⟩
 by_cases hlt : i < t.acts.l.length
 ·obtain ⟨a,ha,ha'⟩:=nth_of hlt
  have hw:=wrap64 (x:=(i : Int) + 1) (by omega) (by unfold maxLen at hl; omega)
  have hn:=fold_next (f:=argStep d) (b:=0) ha'
  rcases actAt (d:=d) a with ⟨c1,hr⟩ | ⟨c1,c2,hr⟩ | ⟨c1,c2,c3,x,hx,hx',hr⟩
  ·have hs : ∀ m,argStep d m a = m:=fun m=>by unfold argStep; rw [hr]
   rw [hs] at hn
   simp [hlt,ha,aPrg,c1,hw]
   exact ⟨_,by rw [hn]; exact Sl.of rfl rfl rfl⟩
  ·have hs : ∀ m,argStep d m a = m:=fun m=>by unfold argStep; rw [hr]
   rw [hs] at hn
   simp [hlt,ha,aPrg,c1,c2,hw]
   exact ⟨_,by rw [hn]; exact Sl.of rfl rfl rfl⟩
  have c0 : 0 ≤ a:=by omega
  have hs : ∀ m,argStep d m a = max m (sumW x.params.l):=fun m=>by unfold argStep; rw [hr]
  rw [hs] at hn
  have hx2:=hW x (List.mem_of_getElem? hx')
  simp [hlt,ha,aPrg,c0,c1,c2,c3,hx]
  refine forX mixed x.params.l.length (agJ d t i x) (by kernel_rfl) ⟨_,Sl.of rfl rfl rfl⟩ ?_
  rintro j ⟨ts,hh,kk⟩ hj ⟨g,rfl,rfl,f,rfl⟩
  by_cases hjt : j < x.params.l.length
  ·obtain ⟨y,hy,hy'⟩:=nth_of hjt
   have hwj:=wrap64 (x:=(j : Int) + 1) (by omega) (by omega)
   have hb:=sumW_bd hx2.2 j
   have hyb:=hx2.2 y (List.mem_of_getElem? hy')
   have hws:=wrap64 (x:=sumW (x.params.l.take j) + y.width) (by omega) (by omega)
   simp [hjt,hy,hwj,hws]
   exact ⟨_,by rw [sumW_next hy']; exact Sl.of rfl rfl rfl⟩
  ·obtain rfl : j = x.params.l.length:=by omega
   simp
   rw [ops_max (q:=.i64) (a:=(t.acts.l.take i).foldl (argStep d) 0) (b:=sumW x.params.l) rfl rfl]
   simp [hw]
   exact ⟨_,by rw [hn]; exact Sl.of rfl rfl rfl⟩
 ·obtain rfl : i = t.acts.l.length:=by omega
  simp [argBits]
def badDep (D : List (List Int)) (S : List Int) (j i : Nat) : Bool:=(kindM D i j == 2 && decide (S.getD j 0 ≤ S.getD i 0)) || (kindM D i j == 1 && decide (S.getD j 0 < S.getD i 0))
def satM (D : List (List Int)) (S : List Int) : Bool:=decide (S.length = D.length) && !(List.range D.length).any fun j=>(List.range j).any fun i=>badDep D S j i
def satI (D : List (List Int)) (S : List Int) (c1 c2 : Cap) (j : Nat) (s : St) : Prop:=noneT (fun j=>(List.range j).any fun i=>badDep D S j i) (List.range D.length) j∧Vf.Sl [(0,.f (.sl (encL rowF D) c1)),(1,.f (.sl (encL intF S) c2)),(13,.f (intF D.length)),(14,.f (intF j))] 49 [] [] s
def satJ (D : List (List Int)) (S : List Int) (c1 c2 : Cap) (j i : Nat) (s : St) : Prop:=noneT (fun i=>badDep D S j i) (List.range j) i∧Vf.Sl [(0,.f (.sl (encL rowF D) c1)),(1,.f (.sl (encL intF S) c2)),(5,.f (intF j)),(13,.f (intF D.length)),(14,.f (intF j)),(17,.f (intF j)),(18,.f (intF i))] 49 [] [] s
theorem sat_g (D : List (List Int)) (S : List Int) (c1 c2 : Cap) (hl : D.length ≤ maxLen) : Gives Tryz.prog 41 [.sl (encL rowF D) c1,.sl (encL intF S) c2] (boolF (satM D S)):=by
 refine Gives.of mixed Tryz.func41 rfl rfl rfl (by kernel_rfl) ?_
 by_cases e : S.length = D.length
 case neg =>
  have e' : ¬ (S.length : Int) = D.length:=by omega
  have hv : satM D S = false:=by unfold satM; rw [decide_eq_false e]; rfl
  simp [e,e',hv]
 have hv : satM D S = !(List.range D.length).any fun j=>(List.range j).any fun i=>badDep D S j i:=by unfold satM; rw [decide_eq_true e]; rfl
 rw [hv]
 simp [e,-List.any_eq_true]
 refine forX mixed D.length (satI D S c1 c2) (by kernel_rfl) ⟨.zero,Sl.of rfl rfl rfl⟩ ?_
 rintro j ⟨ts,hh,kk⟩ hj ⟨hno,rfl,rfl,f,rfl⟩
 by_cases hjt : j < D.length
 ·have hw:=wrap64 (x:=(j : Int) + 1) (by omega) (by unfold maxLen at hl; omega)
  simp [hjt]
  refine forX mixed j (satJ D S c1 c2 j) (by kernel_rfl) ⟨.zero,Sl.of rfl rfl rfl⟩ ?_
  rintro i ⟨ts,hh,kk⟩ hi ⟨hno2,rfl,rfl,f,rfl⟩
  by_cases hit : i < j
  ·have hwi:=wrap64 (x:=(i : Int) + 1) (by omega) (by unfold maxLen at hl; omega)
   obtain ⟨x,hx,hx'⟩:=nth_of (show j < S.length by omega)
   obtain ⟨y,hy,hy'⟩:=nth_of (show i < S.length by omega)
   have hX : S.getD j 0 = x:=by rw [List.getD_eq_getElem?_getD,hx']; rfl
   have hY : S.getD i 0 = y:=by rw [List.getD_eq_getElem?_getD,hy']; rfl
   have hb : badDep D S j i = ((kindM D i j == 2 && decide (x ≤ y)) || (kindM D i j == 1 && decide (x < y))):=by unfold badDep; rw [hX,hY]
   have hijS : i < S.length∧j < S.length:=by omega
   have bad : badDep D S j i = true→((List.range D.length).any fun j=>(List.range j).any fun i=>badDep D S j i) = true:=fun h =>
    any_hit (p:=fun j=>(List.range j).any fun i=>badDep D S j i) (range_at hjt) (any_hit (p:=fun i=>badDep D S j i) (range_at hit) h)
   simp [hit]
   refine call_g (kind_g D c1 i j (by omega)) ?_
   generalize kindM D i j = q at hb
   by_cases q2 : q = 2
   ·subst q2
    by_cases c : x ≤ y
    ·rw [bad (by rw [hb]; simp [c])]
     simp [hijS,hx,hy,c]
    ·simp [hijS,hx,hy,c,hwi]
     exact ⟨hno2.next (range_at hit) (by rw [hb]; simp [c]),Sl.of rfl rfl rfl⟩
   by_cases q1 : q = 1
   ·subst q1
    by_cases c : x < y
    ·rw [bad (by rw [hb]; simp [c])]
     simp [hijS,hx,hy,c]
    ·simp [hijS,hx,hy,c,hwi]
     exact ⟨hno2.next (range_at hit) (by rw [hb]; simp [c]),Sl.of rfl rfl rfl⟩
   simp [q1,q2,hwi]
   exact ⟨hno2.next (range_at hit) (by rw [hb]; simp [q1,q2]),Sl.of rfl rfl rfl⟩
  ·obtain rfl : i = j:=by omega
   have h2:=hno2.all (by simp)
   simp [hw]
   exact ⟨hno.next (range_at hjt) h2,Sl.of rfl rfl rfl⟩
 ·obtain rfl : j = D.length:=by omega
  rw [hno.all (by simp)]
  simp
def rowA (r : List Int) : List AV:=r.map fun x=>.f (intF x)
@[simp] theorem rowA_length (r : List Int) : (rowA r).length = r.length:=by simp [rowA]
theorem rowA_one (r : List Int) : (rowA r).all AV.one = true:=by
 induction r with
 | nil=>rfl
 | cons x r ih=>show (AV.one _ && (rowA r).all AV.one) = true; rw [ih]; rfl
theorem rowA_fz (H : List (List AV)) (r : List Int) : mapO (fzH 0 H 0) (rowA r) = some (r.map intF):=by
 induction r with
 | nil=>rfl
 | cons x r ih=>show mapO (fzH 0 H 0) (.f (intF x) :: rowA r) = _; rw [mapO,ih]; rfl
theorem ints_one (r : List Int) : (r.map intF).all (fun y=>(AV.f y).one) = true:=by
 induction r with
 | nil=>rfl
 | cons x r ih=>show (AV.one _ && (r.map intF).all (fun y=>(AV.f y).one)) = true; rw [ih]; rfl
theorem chunk_ints (r : List Int) : chunk false 1 r.length (r.map intF) = r.map intF:=by
 induction r with
 | nil=>rfl
 | cons x r ih=>simpa [chunk] using ih
theorem ret_ints {r : List Int} {n : Nat} {R : FV→Prop} (hn : r.length = n) (h : R (sl (encL intF r))) : RetV [rowA r] (.ms 0 0 n n 1) R:=by
 subst hn
 refine ⟨1,_,?_,h⟩
 have ht : ((rowA r).drop 0).take (r.length * 1) = rowA r:=by simp [List.take_of_length_le]
 show (if _ then _ else _) = _
 rw [ht,if_pos ⟨by omega,by omega,by simp,by omega,rowA_one r⟩,rowA_fz]
 show (if _ then _ else _) = _
 rw [if_pos (ints_one r)]
 show some (FV.sl (chunk false 1 r.length (r.map intF)) .un) = _
 rw [chunk_ints]; rfl
theorem rowA_at {r : List Int} {j : Nat} {x : Int} (h : r[j]? = some x) : ((rowA r).drop j).head? = some (.f (intF x)):=by
 simp [rowA,List.head?_drop,h]
@[simp] theorem rowA_set (r : List Int) (j : Nat) (x : Int) : (rowA r).set j (.f (.sc (.int .i64 x))) = rowA (r.set j x):=by
 unfold rowA
 exact (List.map_set (f:=fun x=>AV.f (intF x))).symm
theorem zeroRow_ints (n : Nat) : zeroRow [.f (.sc (.int .i64 0))] n = rowA (List.replicate n 0):=by
 induction n with
 | zero=>rfl
 | succ n ih=>rw [zeroRow,ih]; rfl
theorem make_i {h : List (List AV)} {k : List (Nat × Nat)} {i n : Nat} (hn : n < 2^32) : opMake (tyOf Tryz.prog) h k 29 (isZero (.tmp i)) (.f (.sc (.int .i64 n))) (.f (.sc (.int .i64 n))) = some (.ms h.length 0 n n 1,h ++ [rowA (List.replicate n 0)],k):=by
 simp only [opMake,idx,isZero,ty29,Int.natCast_nonneg,if_true,Int.toNat_natCast]
 simp only [ty3]
 rw [if_neg (by simp; omega),if_neg (by simp)]
 simp [AV.one,zeroRow_ints]
def stepE (d : List (List Int)) (j i : Nat) (r : List Int) : List Int:=if kindM d i j = 2 then r.set j (max (r.getD j 0) (IntKind.i64.wrap (r.getD i 0 + 1))) else if kindM d i j = 1 then r.set j (max (r.getD j 0) (r.getD i 0)) else r
def rowE (d : List (List Int)) (j : Nat) (r : List Int) : Nat→List Int
 | 0=>r
 | i + 1=>stepE d j i (rowE d j r i)
def earE (d : List (List Int)) : Nat→List Int
 | 0=>List.replicate d.length 0
 | j + 1=>rowE d j (earE d j) j
theorem stepE_length (d : List (List Int)) (j i : Nat) (r : List Int) : (stepE d j i r).length = r.length:=by
 unfold stepE; split
 ·simp
 ·split <;> simp
theorem rowE_length (d : List (List Int)) (j : Nat) (r : List Int) (i : Nat) : (rowE d j r i).length = r.length:=by
 induction i with
 | zero=>rfl
 | succ i ih=>rw [rowE,stepE_length,ih]
theorem earE_length (d : List (List Int)) (j : Nat) : (earE d j).length = d.length:=by
 induction j with
 | zero=>simp [earE]
 | succ j ih=>rw [earE,rowE_length,ih]
def eaI (D : List (List Int)) (c : Cap) (j : Nat) (s : St) : Prop:=Vf.Sl [(0,.f (.sl (encL rowF D) c)),(3,.ms 0 0 D.length D.length 1),(10,.f (intF D.length)),(11,.f (intF j))] 54 [rowA (earE D j)] [] s
def eaJ (D : List (List Int)) (c : Cap) (j i : Nat) (s : St) : Prop:=Vf.Sl [(0,.f (.sl (encL rowF D) c)),(3,.ms 0 0 D.length D.length 1),(4,.f (intF j)),(10,.f (intF D.length)),(11,.f (intF j)),(14,.f (intF j)),(15,.f (intF i))] 54 [rowA (rowE D j (earE D j) i)] [] s
theorem earliest_g (d : List (List Int)) (c : Cap) (hd : d.length < 2^32) : Gives Tryz.prog 59 [.sl (encL rowF d) c] (sl (encL intF (earE d d.length))):=by
 refine Gives.of mixed Tryz.func59 rfl rfl rfl (by kernel_rfl) ?_
 simp [make_i hd]
 refine forX mixed d.length (eaI d c) (by kernel_rfl) (Sl.of rfl rfl rfl) ?_
 rintro j ⟨t,h,kk⟩ hj ⟨rfl,rfl,f,rfl⟩
 by_cases hlt : j < d.length
 ·have hw:=wrap64 (x:=(j : Int) + 1) (by omega) (by omega)
  simp [hlt]
  refine forX mixed j (eaJ d c j) (by kernel_rfl) (Sl.of rfl rfl rfl) ?_
  rintro i ⟨t,h,kk⟩ hi ⟨rfl,rfl,f,rfl⟩
  have hr : (rowE d j (earE d j) i).length = d.length:=by rw [rowE_length,earE_length]
  have hs : rowE d j (earE d j) (i + 1) = stepE d j i (rowE d j (earE d j) i):=rfl
  generalize hq : rowE d j (earE d j) i = r at hr hs ⊢
  by_cases hil : i < j
  ·have hw':=wrap64 (x:=(i : Int) + 1) (by omega) (by omega)
   obtain ⟨x,hx,hx'⟩:=nth_of (show i < r.length by omega)
   obtain ⟨y,hy,hy'⟩:=nth_of (show j < r.length by omega)
   have gx:=rowA_at hx'
   have hid : i < d.length:=by omega
   have hjd : j + 1 ≤ d.length:=by omega
   have dx : r.getD i 0 = x:=by rw [List.getD_eq_getElem?_getD,hx']; rfl
   have dy : r.getD j 0 = y:=by rw [List.getD_eq_getElem?_getD,hy']; rfl
   unfold stepE at hs
   rw [dx,dy] at hs
   have gy:=rowA_at hy'
   simp [hil]
   refine call_g (kind_g d c i j (by omega)) ?_
   by_cases e : kindM d i j = 2
   ·rw [if_pos e] at hs
    simp [e,hr,hlt,hid,gx,gy]
    rw [ops_max (q:=.i64) (a:=y) (b:=IntKind.i64.wrap (x + 1)) rfl rfl]
    simp [hr,hlt,hid,hjd,hw']
    unfold eaJ
    rw [hs]
    exact Sl.of rfl rfl rfl
   rw [if_neg e] at hs
   by_cases e' : kindM d i j = 1
   ·rw [if_pos e'] at hs
    simp [e',hr,hlt,hid,gx,gy]
    rw [ops_max (q:=.i64) (a:=y) (b:=x) rfl rfl]
    simp [hr,hlt,hid,hjd,hw']
    unfold eaJ
    rw [hs]
    exact Sl.of rfl rfl rfl
   ·rw [if_neg e'] at hs
    simp [e,e',hw']
    unfold eaJ
    rw [hs]
    exact Sl.of rfl rfl rfl
  ·simp [hil,hw]
   obtain rfl : i = j:=by omega
   subst hq
   exact Sl.of rfl rfl rfl
 ·simp [hlt]
  obtain rfl : j = d.length:=by omega
  exact ret_ints (earE_length d _) rfl
theorem tvalid_g (d : PrgD) (hn : NmOk d) (ht : ∀ t ∈ d.tables.l,TblOk t) (hal : d.acts.l.length ≤ 1000) (i : Int) : Gives Tryz.prog 228 [fPrg d,intF i] (boolF (decide ((tblCheck d i).2 = 0))):=by
 refine Gives.of mixed Tryz.func228 rfl rfl rfl (by kernel_rfl) ?_
 simp [fPrg,cPrg]
 refine call_g (tbl_g d hn ht hal i) ?_
 simp
def tblWidths (d : PrgD) (i : Int) : List Int:=if (tblCheck d i).2 = 0 then (match (if i < 0 then none else d.tables.l[i.toNat]?) with | none=>[] | some t=>t.keys.l.map fun k=>widthOf d k.h k.f) else []
theorem tblCheck_at {d : PrgD} {i : Int} (h : (tblCheck d i).2 = 0) : 0 ≤ i∧¬ i < 0∧i.toNat < d.tables.l.length∧∃ t,nth d.tables.l i.toNat = some t∧(if i < 0 then none else d.tables.l[i.toNat]?) = some t∧t.keys.l.length ≤ 6:=by
 rcases tblAt (d:=d) i with ⟨c1,hr⟩ | ⟨c1,c2,hr⟩ | ⟨c0,c1,c2,c3,t,hx,hx',hr⟩
 ·unfold tblCheck at h; rw [hr] at h; cases h
 ·unfold tblCheck at h; rw [hr] at h; cases h
 ·refine ⟨c0,c1,c3,t,hx,hr,?_⟩
  unfold tblCheck at h
  rw [hr] at h
  have h : (tblCheckA d t).2 = 0:=h
  unfold tblCheckA at h
  split at h
  ·cases h
  ·split at h
   ·cases h
   ·omega
def twI (d : PrgD) (t : TblD) (i : Nat) (s : St) : Prop:=∃ g k x tk,OwnT k (encL intF (mapTo (fun y : KeyD=>widthOf d y.h y.f) t.keys.l i)) 1 x tk∧Vf.Sl [(2,.ref 0 0),(5,x),(17,.f (sl (encL fKey t.keys.l))),(18,.f (intF t.keys.l.length)),(19,.f (intF i))] 32 (aPrg d :: g) k s
theorem widthsT_g (d : PrgD) (hn : NmOk d) (ht : ∀ t ∈ d.tables.l,TblOk t) (hal : d.acts.l.length ≤ 1000) (i : Int) : Gives Tryz.prog 227 [fPrg d,intF i] (ownF (encL intF (tblWidths d i))):=by
 refine Gives.of mixed Tryz.func227 rfl rfl rfl (by kernel_rfl) ?_
 simp [fPrg,cPrg]
 refine call_g (tvalid_g d hn ht hal i) ?_
 by_cases h : (tblCheck d i).2 = 0
 case neg =>
  have hv : tblWidths d i = []:=if_neg h
  simp [h,hv,ownF,encL]
 obtain ⟨c0,c1,c3,t,hx,hr,hk⟩:=tblCheck_at h
 have hv : tblWidths d i = t.keys.l.map fun k=>widthOf d k.h k.f:=by unfold tblWidths; rw [if_pos h,hr]
 rw [hv]
 simp [h,c0,c1,c3,hx]
 refine forX mixed t.keys.l.length (twI d t) (by kernel_rfl) ⟨_,_,_,0,.nil,Sl.of rfl rfl rfl⟩ ?_
 rintro j ⟨ts,hh,kk⟩ hj ⟨g,k,x,tk,ho,rfl,rfl,f,rfl⟩
 by_cases hlt : j < t.keys.l.length
 ·obtain ⟨l,hl1,hl'⟩:=nth_of hlt
  have hw:=wrap64 (x:=(j : Int) + 1) (by omega) (by omega)
  simp [hlt,hl1,aPrg]
  refine call_g (envWidth_g d l.h l.f) ?_
  simp [-opAppend]
  have hle:=mapTo_le (f:=fun y : KeyD=>widthOf d y.h y.f) (l:=t.keys.l) (i:=j)
  obtain ⟨t',k',e,ho',_⟩:=append_own ty29 ty3 (by simp) ho (y:=.f (.sl [intF (widthOf d l.h l.f)] .full)) rfl (by simp) (by simp) (by simp; omega) (by simp; omega)
  rw [e]
  simp [hw]
  exact ⟨_,_,_,_,by rw [mapTo_next hl',← encL_snoc]; exact ho',Sl.of rfl rfl rfl⟩
 ·obtain rfl : j = t.keys.l.length:=by omega
  simp [hlt]
  rw [ho.ret,mapTo_all]
def tblBits (d : PrgD) (i : Int) : Int:=isum (tblWidths d i)
theorem isum_next {l : List Int} {k : Nat} {x : Int} (h : l[k]? = some x) : isum (l.take (k + 1)) = isum (l.take k) + x:=by
 rw [take_snoc h,isum_append]; simp [isum]
theorem tblWidths_bd (d : PrgD) (i : Int) : (tblWidths d i).length ≤ 6∧∀ x ∈ tblWidths d i,0 ≤ x∧x ≤ 32:=by
 by_cases h : (tblCheck d i).2 = 0
 ·obtain ⟨c0,c1,c3,t,hx,hr,hk⟩:=tblCheck_at h
  have hv : tblWidths d i = t.keys.l.map fun k=>widthOf d k.h k.f:=by unfold tblWidths; rw [if_pos h,hr]
  rw [hv]
  refine ⟨by simpa using hk,fun x hx=>?_⟩
  obtain ⟨y,_,rfl⟩:=List.mem_map.1 hx
  exact widthOf_bd d y.h y.f
 ·have hv : tblWidths d i = []:=if_neg h
  rw [hv]; simp
theorem isum_32 {l : List Int} (h : ∀ x ∈ l,0 ≤ x∧x ≤ 32) : 0 ≤ isum l∧isum l ≤ 32 * l.length:=by
 induction l with
 | nil=>simp [isum]
 | cons a l ih =>
  have h1:=ih fun x hx=>h x (.tail _ hx)
  have h2:=h a (.head _)
  simp only [isum,List.length_cons]
  omega
def tbI (l : List Int) (c : Cap) (i : Nat) (s : St) : Prop:=∃ g,Vf.Sl [(5,.f (intF (isum (l.take i)))),(10,.f (.sl (encL intF l) c)),(11,.f (intF l.length)),(12,.f (intF i))] 21 g [] s
theorem bitsT_g (d : PrgD) (hn : NmOk d) (ht : ∀ t ∈ d.tables.l,TblOk t) (hal : d.acts.l.length ≤ 1000) (i : Int) : Gives Tryz.prog 169 [fPrg d,intF i] (intF (tblBits d i)):=by
 refine Gives.of mixed Tryz.func169 rfl rfl rfl (by kernel_rfl) ?_
 simp [fPrg,cPrg]
 refine call_g (widthsT_g d hn ht hal i) ?_
 obtain ⟨hl,hb⟩:=tblWidths_bd d i
 unfold tblBits
 generalize tblWidths d i = l at hl hb
 obtain ⟨c,hc⟩:=ownF_is (encL intF l)
 rw [hc]
 simp
 refine forX mixed l.length (tbI l c) (by kernel_rfl) ⟨_,Sl.of rfl rfl rfl⟩ ?_
 rintro j ⟨ts,hh,kk⟩ hj ⟨g,rfl,rfl,f,rfl⟩
 by_cases hlt : j < l.length
 ·obtain ⟨x,hx,hx'⟩:=nth_of hlt
  have hw:=wrap64 (x:=(j : Int) + 1) (by omega) (by omega)
  have h1:=isum_32 (l:=l.take j) fun y hy=>hb y (List.mem_of_mem_take hy)
  rw [List.length_take] at h1
  have h2:=hb x (List.mem_of_getElem? hx')
  have hs:=wrap64 (x:=isum (l.take j) + x) (by omega) (by omega)
  simp [hlt,hx,hw,hs]
  exact ⟨_,by rw [isum_next hx']; exact Sl.of rfl rfl rfl⟩
 ·obtain rfl : j = l.length:=by omega
  simp
def kindQ (l : List KeyD) : Int:=if l.any (fun k=>k.kind == 2) then 2 else 1
def kindOf (l : List KeyD) : Int:=if l.any (fun k=>k.kind == 3) then 3 else kindQ l
def tblKind (d : PrgD) (i : Int) : Int:=if (tblCheck d i).2 = 0 then (match (if i < 0 then none else d.tables.l[i.toNat]?) with | none=>0 | some t=>kindOf t.keys.l) else 0
theorem kindQ_next {l : List KeyD} {k : Nat} {x : KeyD} (h : l[k]? = some x) : kindQ (l.take (k + 1)) = if x.kind = 2 then 2 else kindQ (l.take k):=by
 unfold kindQ
 rw [take_snoc h,List.any_append]
 by_cases hx : x.kind = 2 <;> simp [hx]
def tkI (t : TblD) (i : Nat) (s : St) : Prop:=noneT (fun k : KeyD=>k.kind == 3) t.keys.l i∧∃ g,Vf.Sl [(5,.f (intF (kindQ (t.keys.l.take i)))),(17,.f (sl (encL fKey t.keys.l))),(18,.f (intF t.keys.l.length)),(19,.f (intF i))] 33 g [] s
theorem kindT_g (d : PrgD) (hn : NmOk d) (ht : ∀ t ∈ d.tables.l,TblOk t) (hal : d.acts.l.length ≤ 1000) (i : Int) : Gives Tryz.prog 171 [fPrg d,intF i] (intF (tblKind d i)):=by
 refine Gives.of mixed Tryz.func171 rfl rfl rfl (by kernel_rfl) ?_
 simp [fPrg,cPrg]
 refine call_g (tvalid_g d hn ht hal i) ?_
 by_cases h : (tblCheck d i).2 = 0
 case neg =>
  have hv : tblKind d i = 0:=if_neg h
  simp [h,hv]
 obtain ⟨c0,c1,c3,t,hx,hr,hk⟩:=tblCheck_at h
 have hv : tblKind d i = kindOf t.keys.l:=by unfold tblKind; rw [if_pos h,hr]
 rw [hv]
 simp [h,c0,c1,c3,hx]
 refine forX mixed t.keys.l.length (tkI t) (by kernel_rfl) ⟨.zero,_,Sl.of rfl rfl rfl⟩ ?_
 rintro j ⟨ts,hh,kk⟩ hj ⟨hno,g,rfl,rfl,f,rfl⟩
 by_cases hlt : j < t.keys.l.length
 ·obtain ⟨l,hl1,hl'⟩:=nth_of hlt
  have hw:=wrap64 (x:=(j : Int) + 1) (by omega) (by omega)
  by_cases k3 : l.kind = 3
  ·have hq : kindOf t.keys.l = 3:=by unfold kindOf; rw [if_pos (any_hit hl' (by simpa using k3))]
   simp [hlt,hl1,k3,hq]
  have hnx:=hno.next hl' (by simpa using k3)
  by_cases k2 : l.kind = 2
  ·simp [hlt,hl1,k2,hw]
   exact ⟨hnx,_,by rw [kindQ_next hl',if_pos k2]; exact Sl.of rfl rfl rfl⟩
  ·simp [hlt,hl1,k2,k3,hw]
   exact ⟨hnx,_,by rw [kindQ_next hl',if_neg k2]; exact Sl.of rfl rfl rfl⟩
 ·obtain rfl : j = t.keys.l.length:=by omega
  have hq : kindOf t.keys.l = kindQ t.keys.l:=by unfold kindOf; rw [hno.all hlt]; rfl
  simp [hlt,hq]
end Go.Proofs.YtafenffmgpcjcaaGreat
namespace Go.Proofs.YtafenffmgpcjcaaGreat
open Go.Proofs.YtafenffmgpcjcaaGreat.Vf (sEq)
set_option linter.unusedVariables false
def NZ (o : Option Diag) : Prop:=∀ e,o = some e→e.1 ≠ 0
theorem NZ.req (c p i s : Int) : NZ (req c p i s):=by
 intro e h
 unfold Go.Proofs.YtafenffmgpcjcaaGreat.req at h
 split at h
 ·cases h
 ·injection h with h; subst h; assumption
theorem NZ.none_ : NZ none:=fun e h=>by cases h
theorem NZ.firstD : ∀ {l : List (Option Diag)},(∀ x ∈ l,NZ x)→NZ (firstD l)
 | [],_=>NZ.none_
 | x :: l,h=>by
  intro e he
  unfold Go.Proofs.YtafenffmgpcjcaaGreat.firstD at he
  cases x with
  | none=>exact NZ.firstD (fun y hy=>h y (List.mem_cons_of_mem _ hy)) e he
  | some y=>exact h _ (List.mem_cons_self ..) e he
theorem NZ.scan {n : Nat} {f : Nat→Option Diag} (h : ∀ i,NZ (f i)) : NZ (scan n f):=by
 intro e he
 unfold Go.Proofs.YtafenffmgpcjcaaGreat.scan at he
 obtain ⟨i,_,hi⟩:=List.exists_of_findSome?_eq_some he
 exact h i e hi
theorem firstD_none {l : List (Option Diag)} (h : firstD l = none) : ∀ x ∈ l,x = none:=by
 induction l with
 | nil=>intro x hx; cases hx
 | cons y l ih =>
  intro x hx
  unfold firstD at h
  cases y with
  | none=>rcases List.mem_cons.1 hx with rfl | hx; rfl; exact ih h x hx
  | some y=>cases h
theorem req_none {c p i s : Int} (h : req c p i s = none) : c = 0:=by
 unfold req at h
 split at h
 ·assumption
 ·cases h
theorem scan_all {E : Type} {n : Nat} {f : Nat→Option E} (h : scan n f = none) : ∀ i,i < n→f i = none:=fun i hi =>
 List.findSome?_eq_none_iff.1 h i (List.mem_range.2 hi)
theorem NZ.hdr (d : PrgD) (i : Nat) : NZ (prgHdr d i):=by
 unfold prgHdr
 split
 ·exact NZ.none_
 ·exact NZ.firstD fun x hx=>by simp at hx; rcases hx with rfl | rfl | rfl <;> exact NZ.req _ _ _ _
theorem NZ.met (d : PrgD) (i : Nat) : NZ (prgMeta d i):=by
 unfold prgMeta
 split
 ·exact NZ.none_
 ·exact NZ.firstD fun x hx=>by simp at hx; rcases hx with rfl | rfl | rfl <;> exact NZ.req _ _ _ _
theorem NZ.reg (d : PrgD) (i : Nat) : NZ (prgReg d i):=by
 unfold prgReg
 split
 ·exact NZ.none_
 ·exact NZ.firstD fun x hx=>by simp at hx; rcases hx with rfl | rfl <;> exact NZ.req _ _ _ _
theorem NZ.all (d : PrgD) : NZ (Go.Proofs.YtafenffmgpcjcaaGreat.firstD [prgLimits d,Go.Proofs.YtafenffmgpcjcaaGreat.scan d.headers.l.length (prgHdr d),prgMetas d,prgObjs d,prgFlowW d]):=by
 refine NZ.firstD fun x hx=>?_
 simp only [List.mem_cons,List.not_mem_nil,or_false] at hx
 rcases hx with rfl | rfl | rfl | rfl | rfl
 ·exact NZ.firstD fun x hx=>by simp only [List.mem_cons,List.not_mem_nil,or_false] at hx; rcases hx with rfl | rfl | rfl | rfl | rfl <;> exact NZ.req _ _ _ _
 ·exact NZ.scan (NZ.hdr d)
 ·exact NZ.firstD fun x hx=>by
   simp only [List.mem_cons,List.not_mem_nil,or_false] at hx
   rcases hx with rfl | rfl | rfl | rfl | rfl
   ·exact NZ.req _ _ _ _
   ·exact NZ.scan (NZ.met d)
   all_goals exact NZ.req _ _ _ _
 ·exact NZ.firstD fun x hx=>by
   simp only [List.mem_cons,List.not_mem_nil,or_false] at hx
   rcases hx with rfl | rfl | rfl
   ·exact NZ.scan (NZ.reg d)
   ·exact NZ.scan fun i=>NZ.firstD fun x hx=>by simp only [List.mem_cons,List.not_mem_nil,or_false] at hx; rcases hx with rfl | rfl <;> exact NZ.req _ _ _ _
   ·exact NZ.scan fun i=>NZ.firstD fun x hx=>by simp only [List.mem_cons,List.not_mem_nil,or_false] at hx; rcases hx with rfl | rfl <;> exact NZ.req _ _ _ _
 ·exact NZ.firstD fun x hx=>by simp only [List.mem_cons,List.not_mem_nil,or_false] at hx; rcases hx with rfl | rfl | rfl <;> exact NZ.req _ _ _ _
structure PrgC (d : PrgD) : Prop where
 h : d.headers.l.length ≤ 8
 r : d.regs.l.length ≤ 4
 a : d.acts.l.length ≤ 16
 t : d.tables.l.length ≤ 12
 m : d.meta_.l.length ≤ 12
 hd : ∀ x ∈ d.headers.l,hdrCheck x = 0
 ac : ∀ i : Nat,i < d.acts.l.length→(actCheck d i).2 = 0
 tc : ∀ i : Nat,i < d.tables.l.length→(tblCheck d i).2 = 0
 cc : (ctlCheckW d).2 = 0
theorem if_zero {p : Prop} [Decidable p] {x : Int} (hx : x ≠ 0) (h : (if p then x else 0) = 0) : ¬ p:=by
 intro hp
 rw [if_pos hp] at h
 exact hx h
theorem prgC_of {d : PrgD} (h : (prgCheckW d).1 = 0) : PrgC d:=by
 have h0 : firstD [prgLimits d,scan d.headers.l.length (prgHdr d),prgMetas d,prgObjs d,prgFlowW d] = none:=by
  cases he : firstD [prgLimits d,scan d.headers.l.length (prgHdr d),prgMetas d,prgObjs d,prgFlowW d] with
  | none=>rfl
  | some e =>
   unfold prgCheckW at h
   rw [he] at h
   exact absurd h (NZ.all d e he)
 have hall:=firstD_none h0
 have h1:=firstD_none (show firstD _ = none from hall (prgLimits d) (by simp))
 have h2:=scan_all (hall (scan d.headers.l.length (prgHdr d)) (by simp))
 have h3:=firstD_none (show firstD _ = none from hall (prgMetas d) (by simp))
 have h4:=firstD_none (show firstD _ = none from hall (prgObjs d) (by simp))
 have h5:=firstD_none (show firstD _ = none from hall (prgFlowW d) (by simp))
 refine ⟨?_,?_,?_,?_,?_,fun x hx=>?_,fun i hi=>?_,fun i hi=>?_,?_⟩
 ·have:=if_zero (by decide) (req_none (h1 (req (if 8 < d.headers.l.length then 12 else 0) 0 1 0) (by simp))); omega
 ·have:=if_zero (by decide) (req_none (h1 (req (if 4 < d.regs.l.length then 12 else 0) 0 3 0) (by simp))); omega
 ·have:=if_zero (by decide) (req_none (h1 (req (if 16 < d.acts.l.length then 12 else 0) 0 4 0) (by simp))); omega
 ·have:=if_zero (by decide) (req_none (h1 (req (if 12 < d.tables.l.length then 12 else 0) 0 5 0) (by simp))); omega
 ·have:=if_zero (by decide) (req_none (h3 (req (if 12 < d.meta_.l.length then 12 else 0) 2 0 0) (by simp))); omega
 ·obtain ⟨i,hi,rfl⟩:=List.mem_iff_getElem.1 hx
  have:=h2 i hi
  unfold prgHdr at this
  rw [List.getElem?_eq_getElem hi] at this
  exact req_none (firstD_none this _ (List.mem_cons_self ..))
 ·have:=scan_all (h4 (scan d.acts.l.length (prgAct d)) (by simp)) i hi
  exact req_none (firstD_none this _ (List.mem_cons_self ..))
 ·have:=scan_all (h4 (scan d.tables.l.length (prgTbl d)) (by simp)) i hi
  exact req_none (firstD_none this _ (List.mem_cons_self ..))
 ·exact req_none (h5 (req (ctlCheckW d).2 7 (ctlCheckW d).1 0) (by simp))
theorem getD_zero {o : Option (Int × Int)} (hn : ∀ e,o = some e→e.2 ≠ 0) (h : (o.getD (0,0)).2 = 0) : o = none:=by
 cases o with
 | none=>rfl
 | some e=>exact absurd h (hn e rfl)
theorem exCheck_len {d : PrgD} {ps : List FldD} {n : List ExD} (h : (exCheck d ps n).2 = 0) : n.length ≤ 24:=by
 unfold exCheck at h
 split at h
 ·cases h
 ·omega
theorem actC_of {d : PrgD} {a : ActD} (h : (actCheckA d a).2 = 0) : a.params.l.length ≤ 4∧a.body.l.length ≤ 12∧∀ s ∈ a.body.l,stCheck d a.params.l s = 0:=by
 unfold actCheckA at h
 split at h
 ·rename_i h1; exact absurd h h1
 ·rename_i h1
  have h1 : actDecl a = 0:=by omega
  have h2 : ¬ (4 < a.params.l.length ∨ 12 < a.body.l.length):=by
   unfold actDecl at h1
   split at h1
   ·cases h1
   ·split at h1
    ·cases h1
    ·assumption
  have h3:=getD_zero (fun e he=>by
   unfold scan at he
   obtain ⟨i,_,hi⟩:=List.exists_of_findSome?_eq_some he
   split at hi
   ·cases hi
   ·split at hi
    ·cases hi
    ·injection hi with hi; subst hi; assumption) h
  refine ⟨by omega,by omega,fun s hs=>?_⟩
  obtain ⟨i,hi,rfl⟩:=List.mem_iff_getElem.1 hs
  have:=scan_all h3 i hi
  rw [List.getElem?_eq_getElem hi] at this
  simp only at this
  split at this
  ·assumption
  ·cases this
theorem stC_of {d : PrgD} {ps : List FldD} {s : StD} (h : stCheck d ps s = 0) :
  (s.kind = 1 ∨ s.kind = 2 ∨ s.kind = 3 ∨ s.kind = 4 ∨ s.kind = 5)∧((s.kind = 2 ∨ s.kind = 3)→0 ≤ s.hdr∧s.hdr < d.headers.l.length) ∧
  ((s.kind = 1 ∨ s.kind = 5)→s.value.l.length ≤ 24)∧((s.kind = 4 ∨ s.kind = 5)→s.index.l.length ≤ 24):=by
 have hval : ∀ w,valCheck d ps s.value.l w = 0→s.value.l.length ≤ 24:=fun w hv=>by
  unfold valCheck at hv
  split at hv
  ·cases hv
  ·exact exCheck_len hv
 unfold stCheck at h
 split at h
 ·rename_i h1
  split at h
  ·cases h
  ·exact ⟨by omega,by omega,fun _=>hval _ h,by omega⟩
 ·rename_i h1
  split at h
  ·rename_i h2
   split at h
   ·cases h
   ·exact ⟨by omega,fun _=>by omega,by omega,by omega⟩
  ·rename_i h2
   split at h
   ·rename_i h3
    split at h
    ·cases h
    ·split at h
     ·cases h
     ·split at h
      ·exact absurd h (by assumption)
      ·rename_i h5
       have hi : (exCheck d ps s.index.l).2 = 0:=by omega
       split at h
       ·exact ⟨by omega,by omega,fun _=>hval _ h,fun _=>exCheck_len hi⟩
       ·exact ⟨by omega,by omega,by omega,fun _=>exCheck_len hi⟩
   ·cases h
theorem hdrC_of {h : HdrD} (hc : hdrCheck h = 0) : h.fields.l.length ≤ 12:=by
 unfold hdrCheck at hc
 split at hc
 ·cases hc
 ·split at hc
  ·cases hc
  ·split at hc
   ·cases hc
   ·omega
theorem tblC_of {d : PrgD} {t : TblD} (h : (tblCheckA d t).2 = 0) : t.keys.l.length ≤ 6∧t.acts.l.length ≤ 16∧1 ≤ t.size∧t.size ≤ 256:=by
 unfold tblCheckA at h
 split at h
 ·cases h
 ·split at h
  ·cases h
  ·split at h
   ·cases h
   ·omega
theorem actCheck_at {d : PrgD} {k : Nat} {x : ActD} (h : d.acts.l[k]? = some x) : actCheck d (k : Int) = actCheckA d x:=by
 unfold actCheck
 rw [if_neg (by omega),Int.toNat_natCast,h]
theorem tblCheck_nat {d : PrgD} {k : Nat} {x : TblD} (h : d.tables.l[k]? = some x) : tblCheck d (k : Int) = tblCheckA d x:=by
 unfold tblCheck
 rw [if_neg (by omega),Int.toNat_natCast,h]
set_option linter.unusedSimpArgs false
end Go.Proofs.YtafenffmgpcjcaaGreat
namespace Go.Proofs.YtafenffmgpcjcaaGreat
open Go.RowKit Go.Proofs.YtafenffmgpcjcaaGreat.Vf
set_option linter.unusedVariables false
set_option linter.unusedSimpArgs false
set_option maxRecDepth 100000
set_option maxHeartbeats 4000000
theorem getD_z {o : Option Int} (hn : ∀ e,o = some e→e ≠ 0) (h : o.getD 0 = 0) : o = none:=by
 cases o with
 | none=>rfl
 | some e=>exact absurd h (hn e rfl)
theorem widthsOk_of {d : PrgD} (hC : PrgC d) : WidthsOk d:=fun x hx=>by
 obtain ⟨i,hi,rfl⟩:=List.mem_iff_getElem.1 hx
 have h1:=hC.ac i hi
 rw [actCheck_at (List.getElem?_eq_getElem hi)] at h1
 refine ⟨by have:=(actC_of h1).1; omega,fun f hf=>?_⟩
 have h2 : actDecl d.acts.l[i] = 0:=by
  unfold actCheckA at h1
  split at h1
  ·rename_i h3; exact absurd h1 h3
  ·omega
 have h3 : (scan d.acts.l[i].params.l.length (hdrField d.acts.l[i].params.l)).getD 0 = 0:=by
  unfold actDecl at h2
  split at h2
  ·cases h2
  ·split at h2
   ·cases h2
   ·exact h2
 have h4:=getD_z (fun e he=>by
   unfold scan at he
   obtain ⟨i,_,hi⟩:=List.exists_of_findSome?_eq_some he
   unfold hdrField at hi
   split at hi
   ·cases hi
   ·split at hi
    ·injection hi with hi; omega
    ·split at hi
     ·injection hi with hi; omega
     ·split at hi
      ·injection hi with hi; omega
      ·cases hi) h3
 obtain ⟨j,hj,rfl⟩:=List.mem_iff_getElem.1 hf
 have h5:=scan_all h4 j hj
 unfold hdrField at h5
 rw [List.getElem?_eq_getElem hj] at h5
 simp only at h5
 split at h5
 ·cases h5
 ·split at h5
  ·cases h5
  ·rename_i hb
   unfold badW at hb
   simp only [Bool.or_eq_true,decide_eq_true_eq,not_or] at hb
   omega
def tblOf (d : PrgD) (t : Int) : Option TblD:=if t < 0 then none else d.tables.l[t.toNat]?
def blocksOf (n size : Int) : Int:=(n + size - 1) / size
def tblCost (d : PrgD) (i : Int) : Int × Int :=
 if (prgCheckW d).1 = 0 then (match tblOf d i with
  | none=>(0,0)
  | some t=>if t.keys.l.length = 0 then (0,0) else if tblKind d i = 1 then (blocksOf (t.size * (tblBits d i + (8 + argBits d t))) 4096,0) else (blocksOf (t.size * (8 + argBits d t)) 4096,blocksOf (t.size * tblBits d i) 2048)) else (0,0)
theorem argBits_bd {d : PrgD} (hW : WidthsOk d) (t : TblD) : 0 ≤ argBits d t∧argBits d t ≤ 32000:=by
 unfold argBits
 have key : ∀ (l : List Int) (m : Int),0 ≤ m∧m ≤ 32000→0 ≤ l.foldl (argStep d) m∧l.foldl (argStep d) m ≤ 32000:=by
  intro l
  induction l with
  | nil=>exact fun m h=>h
  | cons a l ih =>
   intro m h
   refine ih _ ?_
   rcases actAt (d:=d) a with ⟨c1,hr⟩ | ⟨c1,c2,hr⟩ | ⟨c1,c2,c3,x,hx,hx',hr⟩ <;> (unfold argStep; rw [hr])
   ·exact h
   ·exact h
   ·have hx2:=hW x (List.mem_of_getElem? hx')
    have:=sumW_bd hx2.2 x.params.l.length
    rw [List.take_length] at this
    show 0 ≤ max m (sumW x.params.l)∧max m (sumW x.params.l) ≤ 32000
    omega
 exact key _ 0 ⟨by omega,by omega⟩
theorem cost_g (d : PrgD) (ho : PrgOk d) (i : Int) : Gives Tryz.prog 118 [fPrg d,intF i] (fRes (tblCost d i)):=by
 refine Gives.of mixed Tryz.func118 rfl rfl rfl (by kernel_rfl) ?_
 simp [fPrg,cPrg]
 refine call_g (prg_g d ho) ?_
 by_cases h : (prgCheckW d).1 = 0
 case neg =>
  have hv : tblCost d i = (0,0):=if_neg h
  simp [h,hv]
 have hC:=prgC_of h
 have hv : tblCost d i = match tblOf d i with
  | none=>(0,0)
  | some t=>if t.keys.l.length = 0 then (0,0) else if tblKind d i = 1 then (blocksOf (t.size * (tblBits d i + (8 + argBits d t))) 4096,0) else (blocksOf (t.size * (8 + argBits d t)) 4096,blocksOf (t.size * tblBits d i) 2048):=if_pos h
 rcases tblAt (d:=d) i with ⟨c1,hr⟩ | ⟨c1,c2,hr⟩ | ⟨c0,c1,c2,c3,t,hx,hx',hr⟩
 ·have hv : tblCost d i = (0,0):=by rw [hv]; unfold tblOf; rw [hr]
  simp [h,c1,hv]
 ·have hv : tblCost d i = (0,0):=by rw [hv]; unfold tblOf; rw [hr]
  simp [h,c1,c2,hv]
 have hv : tblCost d i = if t.keys.l.length = 0 then (0,0) else if tblKind d i = 1 then (blocksOf (t.size * (tblBits d i + (8 + argBits d t))) 4096,0) else (blocksOf (t.size * (8 + argBits d t)) 4096,blocksOf (t.size * tblBits d i) 2048):=by rw [hv]; unfold tblOf; rw [hr]
 by_cases k0 : t.keys.l.length = 0
 ·have k0' : (t.keys.l.length : Int) = 0:=by omega
  rw [if_pos k0] at hv
  simp [h,c0,c1,c2,c3,hx,k0,k0',hv]
 rw [if_neg k0] at hv
 have hm:=List.mem_of_getElem? hx'
 have hal : d.acts.l.length ≤ 1000:=by have:=hC.a; omega
 have hW:=widthsOk_of hC
 have hbd:=tblWidths_bd d i
 have hbb:=isum_32 hbd.2
 have hbits : 0 ≤ tblBits d i∧tblBits d i ≤ 192:=by unfold tblBits; omega
 have htc : (tblCheck d i).2 = 0:=by
  have:=hC.tc i.toNat c3
  rwa [show ((i.toNat : Nat) : Int) = i by omega] at this
 have hsz : 1 ≤ t.size∧t.size ≤ 256∧t.acts.l.length ≤ 16:=by
  have htc:=htc
  unfold tblCheck at htc
  rw [hr] at htc
  have htc : (tblCheckA d t).2 = 0:=htc
  unfold tblCheckA at htc
  split at htc
  ·cases htc
  ·split at htc
   ·cases htc
   ·split at htc
    ·cases htc
    ·omega
 have hne : ¬ t.keys.l = []:=fun h=>k0 (by rw [h]; rfl)
 have k0' : ¬ (t.keys.l.length : Int) = 0:=by omega
 simp [h,c0,c1,c2,c3,hx,k0,k0',hne]
 refine call_g (bitsT_g d ho.nm ho.tbl hal i) ?_
 simp [c0,c3,hx]
 refine call_g (argBits_g d t hW (by unfold maxLen; omega)) ?_
 have hab:=argBits_bd hW t
 have w1:=wrap64 (x:=8 + argBits d t) (by omega) (by omega)
 simp [w1]
 refine call_g (kindT_g d ho.nm ho.tbl hal i) ?_
 generalize argBits d t = A at hab hv w1
 generalize tblBits d i = B at hbits hv
 have m1 : 0 ≤ t.size * (B + (8 + A))∧t.size * (B + (8 + A)) ≤ 256 * 33000:=⟨Int.mul_nonneg (by omega) (by omega),Int.mul_le_mul hsz.2.1 (by omega) (by omega) (by omega)⟩
 have m2 : 0 ≤ t.size * (8 + A)∧t.size * (8 + A) ≤ 256 * 33000:=⟨Int.mul_nonneg (by omega) (by omega),Int.mul_le_mul hsz.2.1 (by omega) (by omega) (by omega)⟩
 have m3 : 0 ≤ t.size * B∧t.size * B ≤ 256 * 33000:=⟨Int.mul_nonneg (by omega) (by omega),Int.mul_le_mul hsz.2.1 (by omega) (by omega) (by omega)⟩
 have w2:=wrap64 (x:=B + (8 + A)) (by omega) (by omega)
 have w3:=wrap64 (x:=t.size * (B + (8 + A))) (by omega) (by omega)
 have w4:=wrap64 (x:=t.size * (8 + A)) (by omega) (by omega)
 have w5:=wrap64 (x:=t.size * B) (by omega) (by omega)
 by_cases kk : tblKind d i = 1
 ·rw [if_pos kk] at hv
  simp [kk,w2,w3]
  refine call_g (blocks_g (t.size * (B + (8 + A))) 4096 (by omega) (by omega)) ?_
  simp [hv,blocksOf]
 ·rw [if_neg kk] at hv
  simp [kk,w4,w5]
  refine call_g (blocks_g (t.size * (8 + A)) 4096 (by omega) (by omega)) ?_
  simp [w4,w5]
  refine call_g (blocks_g (t.size * B) 2048 (by omega) (by omega)) ?_
  simp [hv,blocksOf]
def unitCost (d : PrgD) (u : UnitD) : Int × Int:=if u.table = -1 then (0,0) else tblCost d u.table
theorem unitCost_g (d : PrgD) (ho : PrgOk d) (u : UnitD) : Gives Tryz.prog 57 [fPrg d,fUnit u] (fRes (unitCost d u)):=by
 refine Gives.of mixed Tryz.func57 rfl rfl rfl (by kernel_rfl) ?_
 simp [fPrg,cPrg]
 by_cases h : u.table = -1
 ·have hv : unitCost d u = (0,0):=if_pos h
  simp [h,hv]
 ·have hv : unitCost d u = tblCost d u.table:=if_neg h
  simp [h]
  refine call_g (cost_g d ho u.table) ?_
  simp [hv]
structure PrgS (d : PrgD) : Prop where
 h : d.headers.l.length ≤ 1000
 f : ∀ x ∈ d.headers.l,x.fields.l.length ≤ 1000
 m : d.meta_.l.length ≤ 1000
 r : d.regs.l.length ≤ 1000
def cntTo (l : List HdrD) : Int:=isum (l.map fun h=>(h.fields.l.length : Int))
theorem cntTo_next {l : List HdrD} {k : Nat} {x : HdrD} (h : l[k]? = some x) : cntTo (l.take (k + 1)) = cntTo (l.take k) + x.fields.l.length:=by
 rw [take_snoc h]; unfold cntTo; rw [List.map_append,isum_append]; simp [isum]
theorem cntTo_bd {l : List HdrD} (h : ∀ x ∈ l,x.fields.l.length ≤ 1000) : 0 ≤ cntTo l∧cntTo l ≤ 1000 * l.length:=by
 induction l with
 | nil=>simp [cntTo,isum]
 | cons a l ih =>
  have h1:=ih fun x hx=>h x (.tail _ hx)
  have h2:=h a (.head _)
  simp only [cntTo,List.map_cons,isum,List.length_cons] at *
  omega
abbrev f4 (a b c e : Int) : FV:=.agg [intF a,intF b,intF c,intF e]
def cnI4 (d : PrgD) (i : Nat) (s : St) : Prop:=∃ g,Vf.Sl [(1,.ref 0 0),(2,.ref 1 0),(3,.ref 2 0),(17,.f (sl (encL fHdr d.headers.l))),(18,.f (intF d.headers.l.length)),(19,.f (intF i))] 32 (aPrg d :: [.f (intF 0),.f (intF 0),.f (intF 0),.f (intF 0)] :: [.f (intF (cntTo (d.headers.l.take i))),.f (intF d.headers.l.length),.f (intF d.meta_.l.length),.f (intF d.regs.l.length)] :: g) [] s
theorem counts_g (d : PrgD) (hs : PrgS d) : Gives Tryz.prog 262 [fPrg d] (f4 (cntTo d.headers.l) d.headers.l.length d.meta_.l.length d.regs.l.length):=by
 refine Gives.of mixed Tryz.func262 rfl rfl rfl (by kernel_rfl) ?_
 simp [fPrg,cPrg]
 refine forX mixed d.headers.l.length (cnI4 d) (by kernel_rfl) ⟨_,Sl.of rfl rfl rfl⟩ ?_
 rintro i ⟨ts,hh,kk⟩ hi ⟨g,rfl,rfl,f,rfl⟩
 by_cases hlt : i < d.headers.l.length
 ·obtain ⟨x,hx,hx'⟩:=nth_of hlt
  have h1:=hs.h
  have hw:=wrap64 (x:=(i : Int) + 1) (by omega) (by omega)
  have hb:=cntTo_bd (l:=d.headers.l.take i) fun y hy=>hs.f y (List.mem_of_mem_take hy)
  rw [List.length_take] at hb
  have hf:=hs.f x (List.mem_of_getElem? hx')
  have hw2:=wrap64 (x:=cntTo (d.headers.l.take i) + x.fields.l.length) (by omega) (by omega)
  simp [hlt,hx,hw,hw2]
  exact ⟨_,by rw [cntTo_next hx']; exact Sl.of rfl rfl rfl⟩
 ·obtain rfl : i = d.headers.l.length:=by omega
  simp
end Go.Proofs.YtafenffmgpcjcaaGreat
