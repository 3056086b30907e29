/- Texts of the proof: ES15. -/
import Derived.Test.YtafenffmgpcjcaaGreatES12
import Derived.Test.YtafenffmgpcjcaaGreatES14
import Derived.Test.YtafenffmgpcjcaaGreatES13
import Derived.Test.YtafenffmgpcjcaaGreatES6
import Derived.Test.YtafenffmgpcjcaaGreatES5
import Derived.Test.YtafenffmgpcjcaaGreatES8
import Derived.Test.YtafenffmgpcjcaaGreatES7
import Derived.Test.YtafenffmgpcjcaaGreatEVC1
import Derived.Test.YtafenffmgpcjcaaGreatES10
namespace Go.Proofs.YtafenffmgpcjcaaGreat
open Go.RowKit Go.Proofs.YtafenffmgpcjcaaGreat.Vf
set_option linter.unusedVariables false
set_option linter.unusedSimpArgs false
set_option maxRecDepth 100000
set_option maxHeartbeats 4000000
def smT (a b : List Int) (k : Nat) : Prop:=smallM a b = smallM (a.drop k) (b.drop k)
theorem smT.at_ {a b : List Int} {k : Nat} {x y : Int} (h : smT a b k) (hx : a[k]? = some x) (hy : b[k]? = some y) : smallM a b = if x = y then smallM (a.drop (k + 1)) (b.drop (k + 1)) else decide (x < y):=by
 obtain ⟨h1,rfl⟩:=List.getElem?_eq_some_iff.1 hx
 obtain ⟨h2,rfl⟩:=List.getElem?_eq_some_iff.1 hy
 unfold smT at h
 rw [h,List.drop_eq_getElem_cons h1,List.drop_eq_getElem_cons h2,smallM]
theorem smT.right {a b : List Int} {k : Nat} (h : smT a b k) (hk : k < a.length) (hb : ¬ k < b.length) : smallM a b = decide (a.length < b.length):=by
 unfold smT at h
 rw [h,List.drop_eq_getElem_cons hk,List.drop_eq_nil_of_le (show b.length ≤ k by omega)]
 exact (decide_eq_false (by omega)).symm
theorem smT.left {a b : List Int} {k : Nat} (h : smT a b k) (hk : ¬ k < a.length) (hka : k ≤ a.length) : smallM a b = decide (a.length < b.length):=by
 unfold smT at h
 rw [h,List.drop_eq_nil_of_le (show a.length ≤ k by omega)]
 cases hb : b.drop k with
 | nil =>
  have:=List.length_drop (i:=k) (l:=b)
  rw [hb] at this
  simp only [List.length_nil] at this
  rw [decide_eq_false (by omega)]
  rfl
 | cons y l =>
  have:=List.length_drop (i:=k) (l:=b)
  rw [hb] at this
  simp only [List.length_cons] at this
  rw [decide_eq_true (by omega)]
  rfl
def rsmI (a b : List Int) (ca cb : Cap) (k : Nat) (s : St) : Prop:=smT a b k∧Vf.Sl [(0,.f (.sl (encL intF a) ca)),(1,.f (.sl (encL intF b) cb)),(5,.f (intF k))] 41 [] [] s
theorem rsmaller_g (a b : List Int) (ca cb : Cap) (ha : a.length < 2^62) (hb : b.length < 2^62) : Gives Tryz.prog 48 [.sl (encL intF a) ca,.sl (encL intF b) cb] (boolF (smallM a b)):=by
 refine Gives.of mixed Tryz.func48 rfl rfl rfl (by kernel_rfl) ?_
 simp
 refine forX mixed a.length (rsmI a b ca cb) (by kernel_rfl) ⟨rfl,Sl.of rfl rfl rfl⟩ ?_
 rintro k ⟨ts,hh,kk⟩ hk ⟨hno,rfl,rfl,f,rfl⟩
 by_cases hlt : k < a.length
 ·obtain ⟨x,hx,hx'⟩:=nth_of hlt
  have hw:=wrap64 (x:=(k : Int) + 1) (by omega) (by omega)
  by_cases hlb : k < b.length
  ·obtain ⟨y,hy,hy'⟩:=nth_of hlb
   have hs:=hno.at_ hx' hy'
   by_cases e : x = y
   ·rw [if_pos e] at hs
    simp [hlt,hlb,hx,hy,hw,e]
    exact ⟨hs,Sl.of rfl rfl rfl⟩
   ·rw [if_neg e] at hs
    rw [hs]
    simp [hlt,hlb,hx,hy,hw,e]
  ·rw [hno.right hlt hlb]
   simp [hlt,hlb]
 ·rw [hno.left hlt hk]
  simp [hlt]
theorem reR_start (D : List (List Int)) {n i : Nat} (hi : i < n) : (List.replicate n false).set i true = reR D n i (i + 1) 0:=by
 have : List.replicate n false = (List.range n).map fun _=>false:=by simp [List.map_const']
 rw [this,map_set_range]
 refine List.map_congr_left fun b _=>?_
 by_cases e : b = i
 ·subst e
  rw [if_pos rfl,if_pos (Nat.lt_succ_self _),folP_self]
 ·rw [if_neg e]
  by_cases h1 : b < i + 1
  ·rw [if_pos h1,folP_low D i b (by omega)]
  ·rw [if_neg h1]
   by_cases h2 : b = i + 1
   ·rw [if_pos h2]; subst h2; simp [fRq]
   ·rw [if_neg h2,decide_eq_false e]
theorem leR_start (D : List (List Int)) {n i : Nat} (hi : i < n) : List.replicate n false = leR D n i (i + 1) 0:=by
 have : List.replicate n false = (List.range n).map fun _=>false:=by simp [List.map_const']
 rw [this]
 refine List.map_congr_left fun b _=>?_
 by_cases h1 : b < i + 1
 ·rw [if_pos h1]
  by_cases e : b = i
  ·subst e; rw [folP_self]
  ·rw [folP_low D i b (by omega)]
 ·rw [if_neg h1]
  split <;> rfl
theorem reR_low (D : List (List Int)) (n i j : Nat) : reR D n i j i = reR D n i j 0:=by
 refine List.map_congr_left fun b _=>?_
 rw [fRq_low D i j i (Nat.le_refl _),fRq_low D i j 0 (Nat.zero_le _)]
theorem leR_low (D : List (List Int)) (n i j : Nat) : leR D n i j i = leR D n i j 0:=by
 refine List.map_congr_left fun b _=>?_
 rw [fLq_low D i j i (Nat.le_refl _),fLq_low D i j 0 (Nat.zero_le _)]
theorem row_no {D : List (List Int)} {n i j k : Nat} (h : (folP D i k).1 = false) : reR D n i j (k + 1) = reR D n i j k∧leR D n i j (k + 1) = leR D n i j k:=by
 have h2 : (folP D i k).2 = false:=by
  cases e : (folP D i k).2 with
  | false=>rfl
  | true=>rw [folP_lead D i k e] at h; cases h
 constructor
 ·refine List.map_congr_left fun b _=>?_
  rw [fRq_next]
  simp [h]
 ·refine List.map_congr_left fun b _=>?_
  rw [fLq_next]
  simp [h,h2]
theorem kind_or (D : List (List Int)) (k j : Nat) : kindM D k j = 0 ∨ kindM D k j = 1 ∨ kindM D k j = 2:=by
 unfold kindM
 split
 ·exact .inl rfl
 ·split
  ·rename_i h
   rcases h with h | h
   ·exact .inr (.inl h)
   ·exact .inr (.inr h)
  ·exact .inl rfl
theorem ret_bo {A : List AV} {r : List Bool} {n : Nat} {R : FV→Prop} (hn : r.length = n) (h : R (browF r)) : RetV [A,rowBo r] (.ms 1 0 n n 1) R:=by
 subst hn
 refine ⟨1,_,?_,h⟩
 have ht : ((rowBo r).drop 0).take (r.length * 1) = rowBo r:=by simp [List.take_of_length_le]
 show (if _ then _ else _) = _
 rw [ht,if_pos ⟨by omega,by omega,by simp,by omega,rowBo_one r⟩,rowBo_fz]
 show (if _ then _ else _) = _
 rw [if_pos (bools_one r)]
 have hc:=chunk_one (r.map boolF)
 rw [List.length_map] at hc
 show some (FV.sl (chunk false 1 r.length (r.map boolF)) .un) = _
 rw [hc]; rfl
def rfoI (D : List (List Int)) (c : Cap) (n i q : Nat) (s : St) : Prop:=∃ j,j = i + 1 + q ∧
 Vf.Sl [(0,.f (.sl (encL rowF D) c)),(1,.f (intF i)),(5,.ms 0 0 n n 1),(6,.ms 1 0 n n 1),(7,.f (intF j))] 67 [rowBo (reR D n i j 0),rowBo (leR D n i j 0)] [] s
def rfoJ (D : List (List Int)) (c : Cap) (n i j q : Nat) (s : St) : Prop:=∃ k,k = i + q ∧
 Vf.Sl [(0,.f (.sl (encL rowF D) c)),(1,.f (intF i)),(5,.ms 0 0 n n 1),(6,.ms 1 0 n n 1),(7,.f (intF j)),(8,.f (intF k))] 67 [rowBo (reR D n i j k),rowBo (leR D n i j k)] [] s
theorem rfollows_g (D : List (List Int)) (c : Cap) (n i : Nat) (hd : D.length = n) (hn : n ≤ 1000) (hi : i < n) : Gives Tryz.prog 47 [.sl (encL rowF D) c,intF i] (browF (folRow D n i)):=by
 have hn2 : n < 2^32:=by omega
 obtain ⟨j0,hj0⟩ : ∃ j0,j0 = i + 1:=⟨_,rfl⟩
 have hw1 : IntKind.i64.wrap ((i : Int) + 1) = (j0 : Int):=by subst hj0; exact wrap64 (by omega) (by omega)
 have er : (List.replicate n false).set i true = reR D n i j0 0:=by subst hj0; exact reR_start D hi
 have el : List.replicate n false = leR D n i j0 0:=by subst hj0; exact leR_start D hi
 have hi1 : i + 1 ≤ n:=hi
 refine Gives.of mixed Tryz.func47 rfl rfl rfl (by kernel_rfl) ?_
 simp [hd,make_bo hn2,hi,hi1,hw1]
 rw [er,el]
 refine forX mixed (n - (i + 1)) (rfoI D c n i) (by kernel_rfl) ⟨j0,by omega,Sl.of rfl rfl rfl⟩ ?_
 clear er el
 rintro q ⟨ts,hh,kk⟩ hq ⟨j,hj,rfl,rfl,f,rfl⟩
 by_cases hlt : j < n
 ·obtain ⟨j1,hj1⟩ : ∃ j1,j1 = j + 1:=⟨_,rfl⟩
  have hwj : IntKind.i64.wrap ((j : Int) + 1) = (j1 : Int):=by subst hj1; exact wrap64 (by omega) (by omega)
  have hq1 : q < n - (i + 1):=by omega
  have hj2 : j + 1 ≤ n:=hlt
  simp [hd,hlt]
  rw [← reR_low D n i j,← leR_low D n i j]
  refine forX mixed (j - i) (rfoJ D c n i j) (by kernel_rfl) ⟨i,by omega,Sl.of rfl rfl rfl⟩ ?_
  rintro p ⟨ts,hh,kk⟩ hp ⟨k,hk,rfl,rfl,f,rfl⟩
  by_cases hkj : k < j
  ·obtain ⟨k1,hk1⟩ : ∃ k1,k1 = k + 1:=⟨_,rfl⟩
   have hwk : IntKind.i64.wrap ((k : Int) + 1) = (k1 : Int):=by subst hk1; exact wrap64 (by omega) (by omega)
   have hp1 : p < j - i:=by omega
   have hkn : k < n:=by omega
   have gk:=rowBo_at (reR_k D (i:=i) (m:=k) hkj hkn)
   have gl:=rowBo_at (leR_k D (i:=i) (m:=k) hkj hkn)
   have gj:=rowBo_at (leR_j D (i:=i) (j:=j) (m:=k) hlt)
   have srt:=reR_set D (n:=n) (i:=i) (j:=j) (k:=k)
   have slt:=leR_set D (n:=n) (i:=i) (j:=j) (k:=k)
   have hno:=row_no (D:=D) (n:=n) (i:=i) (j:=j) (k:=k)
   have hze:=set_none (D:=D) (n:=n) (i:=i) (j:=j) (k:=k)
   rw [← hk1] at srt slt hno hze
   cases h1 : (folP D i k).1 with
   | false =>
    obtain ⟨e1,e2⟩:=hno h1
    simp [hkj,hkn,gk,h1,hwk]
    exact ⟨hp1,k1,by omega,by rw [e1,e2]; exact Sl.of rfl rfl rfl⟩
   | true =>
   simp [hkj,hkn,gk,h1]
   refine call_g (rkind_g D c k j (by omega)) ?_
   rcases kind_or D k j with e | e | e
   ·obtain ⟨e1,e2⟩:=hze e
    simp [e,hwk]
    exact ⟨hp1,k1,by omega,by rw [e1,e2]; exact Sl.of rfl rfl rfl⟩
   ·rw [h1,e] at srt slt
    simp at srt slt
    cases hA : fLq D i j k <;> cases hB : (folP D i k).2
    all_goals
     rw [hA,hB] at slt
     simp at slt
     simp [e,hlt,hj2,hkn,gk,gl,gj,hA,hB]
    all_goals try
     refine call_g (rkind_g D c k j (by omega)) ?_
     simp [e,hlt,hj2]
    all_goals
     simp [hwk]
     exact ⟨hp1,k1,by omega,by rw [← srt,← slt]; exact Sl.of rfl rfl rfl⟩
   ·rw [h1,e] at srt slt
    simp at srt slt
    cases hA : fLq D i j k <;> cases hB : (folP D i k).2
    all_goals
     simp [e,hlt,hj2,hkn,gk,gl,gj,hA,hB]
    all_goals try
     refine call_g (rkind_g D c k j (by omega)) ?_
     simp [e,hlt,hj2]
    all_goals
     simp [hwk]
     exact ⟨hp1,k1,by omega,by rw [← srt,← slt]; exact Sl.of rfl rfl rfl⟩
  ·obtain rfl : k = j:=by omega
   simp [hkj,hwj]
   exact ⟨hq1,j1,by omega,by rw [hj1,← reR_end,← leR_end]; exact Sl.of rfl rfl rfl⟩
 ·obtain rfl : j = n:=by omega
  simp [hd]
  rw [← leR_all]
  exact ret_bo leR_len rfl
theorem gds_all (l : List GuardD) : (encL fGd l).all (fun u=>u.cells.length == 2) = true:=by
 rw [List.all_eq_true]
 intro u hu
 obtain ⟨x,_,rfl⟩:=List.mem_map.1 hu
 rfl
theorem runder_g (gs : List GuardD) (c : Cap) (i : Int) (q : Bool) (hl : gs.length ≤ 100000) : Gives Tryz.prog 81 [.sl (encL fGd gs) c,intF i,boolF q] (sl (encL fGd (gs ++ [⟨i,q⟩]))):=by
 refine Gives.of mixed Tryz.func81 rfl rfl rfl (by kernel_rfl) ?_
 obtain ⟨x1,t1,k1,e1,ho1,_⟩:=append_own0 (k:=[]) (l:=[]) (t:=0) ty55 ty174 (by simp) .nil (y:=.f (.sl (encL fGd gs) c)) rfl (gds_all gs) (by simp; omega) (by simp; omega)
 rw [List.nil_append] at ho1
 obtain ⟨t2,k2,e2,ho2,_⟩:=append_own ty55 ty174 (by simp) ho1 (y:=.f (.sl [.agg [intF i,boolF q]] .full)) rfl (by simp) (by simp) (by simp; omega) (by simp; omega)
 have e3 : encL fGd gs ++ [.agg [intF i,boolF q]] = encL fGd (gs ++ [⟨i,q⟩]):=by simp [encL]
 rw [e3] at e2 ho2
 simp [-opAppend]
 rw [e1]
 simp [-opAppend]
 rw [e2]
 simp
def ColU (us : List UnitD) (h : List (List AV)) (k : List (Nat × Nat)) : AV→List (List AV)→List (Nat × Nat)→Prop:=fun y h' k'=>h' = h∧∃ t,OwnT k' (encL fUnit us) 3 y t∧k.length ≤ k'.length
def colI (l : List NodD) (gs : List GuardD) (us : List UnitD) (h : List (List AV)) (k : List (Nat × Nat)) (i : Nat) (s : St) : Prop:=∃ g k' x t,
 OwnT k' (encL fUnit (us ++ bldL (l.take i) gs us.length)) 3 x t∧k.length ≤ k'.length∧Vf.Sl [(0,x),(1,.f (sl (encL fNod l))),(2,.f (sl (encL fGd gs))),(7,.f (intF i))] 63 (h ++ g) k' s
def colM (l : List NodD) (gs : List GuardD) (n : NodD) (x : AV) (h g : List (List AV)) (k : List (Nat × Nat)) (i : Nat) (s : St) : Prop:=∃ X,(X = .f (sl (encL fEx (unitOf n gs).cond.l)) ∨ ((unitOf n gs).cond.l = []∧X = .f (.sl [] .nil))) ∧
 Vf.Sl [(0,x),(1,.f (sl (encL fNod l))),(2,.f (sl (encL fGd gs))),(7,.f (intF i)),(8,.ref (h.length + g.length) 0)] 63 (h ++ (g ++ [[.f (intF (unitOf n gs).table),X,.f (sl (encL fGd gs))]])) k s
theorem col_weak {c : Code} {Q : Pst} {X a b : AV} {h g : List (List AV)} {m : List ExD} {t : List AV} {k : List (Nat × Nat)} (hX : X = .f (sl (encL fEx m)) ∨ (m = []∧X = .f (.sl [] .nil)))
  (hw : W Tryz.prog c ⟨t,h ++ (g ++ [[a,.f (sl (encL fEx m)),b]]),k⟩ Q) : W Tryz.prog c ⟨t,h ++ (g ++ [[a,X,b]]),k⟩ Q:=by
 rcases hX with rfl | ⟨rfl,rfl⟩
 ·exact hw
 ·refine weakH_W (b:=h.length + g.length) (j:=1) (cs:=[a,.f (.sl [] .nil),b]) (by simp) rfl weak_nil ?_
  simp
  exact hw
def cNod (n : NodD) : List FV:=[intF n.kind,intF n.table,sl (encL fEx n.cond.l),sl (encL fNod n.thn.l),sl (encL fNod n.els.l)]
def fpCtrue (n : NodD) : List FV:=[sl (encL fNod n.thn.l),sl (encL fNod n.els.l)]
def fpCfalse (n : NodD) : List FV:=[sl (encL fNod n.els.l)]
def keC (l : List NodD) (gs : List GuardD) (i : Nat) (x : AV) (w : Int) : List (Nat × AV):=[(0,x),(1,.f (sl (encL fNod l))),(2,.f (sl (encL fGd gs))),(7,.f (intF i)),(9,.f (intF w))]
def vaC (l : List NodD) (gs : List GuardD) (n : NodD) (i : Nat) (x : AV) (w : Int) (m : List NodD) (fpf : NodD→List FV) (b : Bool) : Nat→AV
 | 0=>x
 | 1=>.f (sl (encL fNod l))
 | 2=>.f (intF i)
 | 3=>.f (.fp (cNod n))
 | 4=>.f (.fp (fpf n))
 | 5=>.f (sl (encL fNod m))
 | 6=>.f (sl (encL fGd gs))
 | 7=>.f (intF w)
 | _=>.f (sl (encL fGd (gs ++ [⟨w,b⟩])))
def colA (l : List NodD) (gs : List GuardD) (i : Nat) (w : Int) (V : List UnitD) (H : List (List AV)) (K : List (Nat × Nat)) (s : St) : Prop:=∃ x t k',OwnT k' (encL fUnit V) 3 x t∧K.length ≤ k'.length∧Vf.Sl (keC l gs i x w) 63 H k' s
theorem rcollect_x (l : List NodD) (hB : NodB l) : ∀ (gs : List GuardD) (us : List UnitD) (x : AV) (t : Nat) (h : List (List AV)) (k : List (Nat × Nat)),OwnT k (encL fUnit us) 3 x t →
  (us ++ bldL l gs us.length).length ≤ 100000→gs.length ≤ us.length →
  GivesX Tryz.prog 45 [x,.f (sl (encL fNod l)),.f (sl (encL fGd gs))] h k (ColU (us ++ bldL l gs us.length) h k):=by
 induction hB with
 | mk l hl h1 h2 ih1 ih2 =>
  intro gs us x t h k ho hlen hgs
  refine GivesX.of_W Tryz.func45 rfl rfl rfl (by decide) ?_
  refine W.two (W.x mixed (by kernel_rfl) ?_)
  simp
  refine W.two (W.two (W.x mixed (by kernel_rfl) ?_))
  simp
  refine W.blk (forW l.length (colI l gs us h k) ⟨[],k,x,t,by simpa [bldL] using ho,Nat.le_refl _,by rw [List.append_nil]; exact Sl.of rfl rfl rfl⟩ ?_)
  clear ho
  rintro i ⟨ts,hh,kk⟩ hi ⟨g,k',x',t',ho,hk,rfl,rfl,ff,rfl⟩
  refine W.two (W.x mixed (by kernel_rfl) ?_)
  by_cases hlt : i < l.length
  ·obtain ⟨n,hn,hn'⟩:=nth_of hlt
   have hw:=wrap64 (x:=(i : Int) + 1) (by omega) (by unfold maxLen at hl; omega)
   simp [hlt]
   refine W.two (W.blk (W.two (W.x mixed (by kernel_rfl) ?_)))
   simp [hn,fNod_eq,hlt]
   have hmem:=List.mem_of_getElem? hn'
   refine W.two (W.mono (Q:=fun ex s'=>ex = .normal∧colM l gs n x' h g kk i s') (W.x mixed (by kernel_rfl) ?_) ?_)
   ·by_cases hk2 : n.kind = 2
    ·simp [hk2,hn,fNod_eq,hlt]
     exact ⟨_,.inl rfl,by simp only [unitOf,hk2,if_true]; exact Sl.of rfl rfl rfl⟩
    ·simp [hk2,hn,fNod_eq,hlt]
     exact ⟨_,.inr ⟨by simp [unitOf,hk2],rfl⟩,by simp only [unitOf,if_neg hk2]; exact Sl.of rfl rfl rfl⟩
   rintro _ ⟨ts,hh,kk2⟩ ⟨rfl,X,hX,rfl,rfl,ff2,rfl⟩
   simp
   refine col_weak hX ?_
   refine W.two (W.x mixed (by kernel_rfl) ?_)
   simp [-opLen]
   rw [ho.len ty52]
   simp
   refine W.two (W.x mixed (by kernel_rfl) ?_)
   simp [-opAppend]
   have hl0:=bldL_le l gs us.length i
   have hl1 : (us ++ bldL (l.take i) gs us.length).length ≤ 100000:=by simp at hlen ⊢; omega
   obtain ⟨t2,k2,e2,ho2,hk2,_⟩:=append_own ty52 ty57 (by simp) ho (y:=.f (.sl [fUnit (unitOf n gs)] .full)) rfl (by simp) (by simp) (by simp at hl1 ⊢; omega) (by simp at hl1 ⊢; omega)
   rw [show opAppend (tyOf Tryz.prog) kk2 52 x' (.f (FV.sl [FV.agg [intF (unitOf n gs).table,sl (encL fEx (unitOf n gs).cond.l),sl (encL fGd gs)]] Cap.full)) = _ from e2]
   simp
   have hnx:=bldL_take hn' gs us.length
   rw [bldN_eq] at hnx
   simp only [Int.natCast_add] at hnx
   have hle1:=bldL_le l gs us.length (i + 1)
   rw [hnx] at hle1
   have hu2 : OwnT k2 (encL fUnit (us ++ (bldL (l.take i) gs us.length ++ [unitOf n gs]))) 3 (.own (encL fUnit (us ++ (bldL (l.take i) gs us.length ++ [unitOf n gs]))) t2) t2:=by simpa [encL] using ho2
   generalize hm : bldL (l.take i) gs us.length = M at *
   have hc2 : (us ++ (M ++ [unitOf n gs])).length = us.length + M.length + 1:=by simp; omega
   refine W.two (W.mono (Q:=fun ex s'=>ex = .normal∧colA l gs i ((us.length : Int) + M.length) ((us ++ (M ++ [unitOf n gs])) ++ bldL n.thn.l (gs ++ [⟨((us.length : Int) + M.length),true⟩]) (us ++ (M ++ [unitOf n gs])).length) (h ++ (g ++ [[.f (intF (unitOf n gs).table),.f (sl (encL fEx (unitOf n gs).cond.l)),.f (sl (encL fGd gs))]])) k2 s') (W.draw_last2 mixed 9 (DrwK (h ++ (g ++ [[.f (intF (unitOf n gs).table),.f (sl (encL fEx (unitOf n gs).cond.l)),.f (sl (encL fGd gs))]])) k2 (keC l gs i (.own (encL fUnit (us ++ (M ++ [unitOf n gs]))) t2) ((us.length : Int) + M.length)) 42 9 (vaC l gs n i (.own (encL fUnit (us ++ (M ++ [unitOf n gs]))) t2) ((us.length : Int) + M.length) n.thn.l fpCtrue true) 63) ⟨rfl,rfl,rfl,?_,fun i _ h=>by cases h⟩ ?_ ?_ rfl (by kernel_rfl) (by kernel_rfl) (by kernel_rfl)) ?_)
   ·intro p hp
    simp [keC] at hp
    rcases hp with rfl | rfl | rfl | rfl | rfl <;> rfl
   ·rintro D ⟨t,h,kk⟩ j o hj ho hD hdep T
    obtain ⟨e1,e2,hl,hkp,hT⟩:=id T
    cases e1
    cases e2
    have k0 : ix t 0 = some ((.own (encL fUnit (us ++ (M ++ [unitOf n gs]))) t2)):=hkp (0,_) (by simp [keC])
    have k1 : ix t 1 = some (.f (sl (encL fNod l))):=hkp (1,_) (by simp [keC])
    have k2 : ix t 2 = some (.f (sl (encL fGd gs))):=hkp (2,_) (by simp [keC])
    have k7 : ix t 7 = some (.f (intF i)):=hkp (7,_) (by simp [keC])
    have k9 : ix t 9 = some (.f (intF ((us.length : Int) + M.length))):=hkp (9,_) (by simp [keC])
    match j,ho with
    | 0,ho =>
     obtain rfl:=Option.some.inj ho
     simp [k0]
     exact T.put 0 (by decide) (by decide) rfl rfl
    | 1,ho =>
     obtain rfl:=Option.some.inj ho
     simp [k1]
     exact T.put 1 (by decide) (by decide) rfl rfl
    | 2,ho =>
     obtain rfl:=Option.some.inj ho
     simp [k7]
     exact T.put 2 (by decide) (by decide) rfl rfl
    | 3,ho =>
     obtain rfl:=Option.some.inj ho
     have d1 : D 1 = true:=hdep ⟨1,.data⟩ (by simp) rfl
     have f1 : ix t 43 = some (.f (sl (encL fNod l))):=hT 1 (by decide) d1
     have d2 : D 2 = true:=hdep ⟨2,.data⟩ (by simp) rfl
     have f2 : ix t 44 = some (.f (intF i)):=hT 2 (by decide) d2
     simp [f1,f2,hn,fNod_eq,hlt]
     exact T.put 3 (by decide) (by decide) rfl rfl
    | 4,ho =>
     obtain rfl:=Option.some.inj ho
     have d3 : D 3 = true:=hdep ⟨3,.data⟩ (by simp) rfl
     have f3 : ix t 45 = some (.f (.fp (cNod n))):=hT 3 (by decide) d3
     simp [f3,cNod]
     exact T.put 4 (by decide) (by decide) rfl rfl
    | 5,ho =>
     obtain rfl:=Option.some.inj ho
     have d4 : D 4 = true:=hdep ⟨4,.data⟩ (by simp) rfl
     have f4 : ix t 46 = some (.f (.fp (fpCtrue n))):=hT 4 (by decide) d4
     simp [f4,fpCtrue]
     exact T.put 5 (by decide) (by decide) rfl rfl
    | 6,ho =>
     obtain rfl:=Option.some.inj ho
     simp [k2]
     exact T.put 6 (by decide) (by decide) rfl rfl
    | 7,ho =>
     obtain rfl:=Option.some.inj ho
     simp [k9]
     exact T.put 7 (by decide) (by decide) rfl rfl
    | 8,ho =>
     obtain rfl:=Option.some.inj ho
     have d6 : D 6 = true:=hdep ⟨6,.data⟩ (by simp) rfl
     have f6 : ix t 48 = some (.f (sl (encL fGd gs))):=hT 6 (by decide) d6
     have d7 : D 7 = true:=hdep ⟨7,.data⟩ (by simp) rfl
     have f7 : ix t 49 = some (.f (intF ((us.length : Int) + M.length))):=hT 7 (by decide) d7
     simp [f6,f7]
     refine call_g (runder_g gs .un _ true (by simp at hl1; omega)) ?_
     simp
     exact T.put 8 (by decide) (by decide) rfl rfl
    | (_ + 9),ho=>omega
   ·rintro D ⟨t,h,kk⟩ o hD T ho
    obtain rfl:=Option.some.inj ho
    obtain ⟨e1,e2,hl,hkp,hT⟩:=id T
    cases e1
    cases e2
    have f0 : ix t 42 = some ((.own (encL fUnit (us ++ (M ++ [unitOf n gs]))) t2)):=hT 0 (by decide) (hD 0 (by decide))
    have f5 : ix t 47 = some (.f (sl (encL fNod n.thn.l))):=hT 5 (by decide) (hD 5 (by decide))
    have f8 : ix t 50 = some (.f (sl (encL fGd (gs ++ [⟨((us.length : Int) + M.length),true⟩])))):=hT 8 (by decide) (hD 8 (by decide))
    simp [f0,f5,f8]
    refine call_x (ih1 n hmem (gs ++ [⟨((us.length : Int) + M.length),true⟩]) (us ++ (M ++ [unitOf n gs])) _ t2 _ _ hu2 ?_ ?_) ?_
    ·rw [hc2]
     simp at hlen hle1 ⊢
     omega
    ·simp; omega
    rintro x3 _ k3 ⟨rfl,t3,ho3,hk3⟩
    simp
    have f1 : ix (stT t 51 x3) 51 = some x3:=by simp only [ix,stT]; rw [List.getElem?_set_self (by simp only at hl; omega)]
    simp [f1]
    refine ⟨x3,t3,k3,by simpa [hc2,Nat.add_assoc] using ho3,hk3,Sl.of (picks_of ?_) (by simpa [stT] using hl) rfl⟩
    intro p hp
    simp [keC] at hp
    rcases hp with rfl | rfl | rfl | rfl | rfl
    ·simp only [ix,stT]; rw [List.getElem?_set_self (by simp only [List.length_set] at hl ⊢; omega)]
    ·simp only [ix,stT]; rw [List.getElem?_set_ne (by decide),List.getElem?_set_ne (by decide)]; exact hkp (1,_) (by simp [keC])
    ·simp only [ix,stT]; rw [List.getElem?_set_ne (by decide),List.getElem?_set_ne (by decide)]; exact hkp (2,_) (by simp [keC])
    ·simp only [ix,stT]; rw [List.getElem?_set_ne (by decide),List.getElem?_set_ne (by decide)]; exact hkp (7,_) (by simp [keC])
    ·simp only [ix,stT]; rw [List.getElem?_set_ne (by decide),List.getElem?_set_ne (by decide)]; exact hkp (9,_) (by simp [keC])
   rintro _ ⟨ts,hh,kk3⟩ ⟨rfl,x3,t3,k3,ho3,hk3,rfl,rfl,ff3,rfl⟩
   rw [hc2] at ho3
   generalize hT1 : bldL n.thn.l (gs ++ [⟨(us.length : Int) + M.length,true⟩]) (us.length + M.length + 1) = T1 at *
   have hc3 : (us ++ (M ++ [unitOf n gs]) ++ T1).length = us.length + M.length + 1 + T1.length:=by simp; omega
   simp
   refine (W.mono (Q:=fun ex s'=>ex = .normal∧colA l gs i ((us.length : Int) + M.length) (((us ++ (M ++ [unitOf n gs])) ++ T1) ++ bldL n.els.l (gs ++ [⟨((us.length : Int) + M.length),false⟩]) ((us ++ (M ++ [unitOf n gs])) ++ T1).length) (h ++ (g ++ [[.f (intF (unitOf n gs).table),.f (sl (encL fEx (unitOf n gs).cond.l)),.f (sl (encL fGd gs))]])) kk3 s') (W.draw_last2 mixed 9 (DrwK (h ++ (g ++ [[.f (intF (unitOf n gs).table),.f (sl (encL fEx (unitOf n gs).cond.l)),.f (sl (encL fGd gs))]])) kk3 (keC l gs i x3 ((us.length : Int) + M.length)) 52 9 (vaC l gs n i x3 ((us.length : Int) + M.length) n.els.l fpCfalse false) 63) ⟨rfl,rfl,rfl,?_,fun i _ h=>by cases h⟩ ?_ ?_ rfl (by kernel_rfl) (by kernel_rfl) (by kernel_rfl)) ?_)
   ·intro p hp
    simp [keC] at hp
    rcases hp with rfl | rfl | rfl | rfl | rfl <;> rfl
   ·rintro D ⟨t,h,kk⟩ j o hj ho hD hdep T
    obtain ⟨e1,e2,hl,hkp,hT⟩:=id T
    cases e1
    cases e2
    have k0 : ix t 0 = some (x3):=hkp (0,_) (by simp [keC])
    have k1 : ix t 1 = some (.f (sl (encL fNod l))):=hkp (1,_) (by simp [keC])
    have k2 : ix t 2 = some (.f (sl (encL fGd gs))):=hkp (2,_) (by simp [keC])
    have k7 : ix t 7 = some (.f (intF i)):=hkp (7,_) (by simp [keC])
    have k9 : ix t 9 = some (.f (intF ((us.length : Int) + M.length))):=hkp (9,_) (by simp [keC])
    match j,ho with
    | 0,ho =>
     obtain rfl:=Option.some.inj ho
     simp [k0]
     exact T.put 0 (by decide) (by decide) rfl rfl
    | 1,ho =>
     obtain rfl:=Option.some.inj ho
     simp [k1]
     exact T.put 1 (by decide) (by decide) rfl rfl
    | 2,ho =>
     obtain rfl:=Option.some.inj ho
     simp [k7]
     exact T.put 2 (by decide) (by decide) rfl rfl
    | 3,ho =>
     obtain rfl:=Option.some.inj ho
     have d1 : D 1 = true:=hdep ⟨1,.data⟩ (by simp) rfl
     have f1 : ix t 53 = some (.f (sl (encL fNod l))):=hT 1 (by decide) d1
     have d2 : D 2 = true:=hdep ⟨2,.data⟩ (by simp) rfl
     have f2 : ix t 54 = some (.f (intF i)):=hT 2 (by decide) d2
     simp [f1,f2,hn,fNod_eq,hlt]
     exact T.put 3 (by decide) (by decide) rfl rfl
    | 4,ho =>
     obtain rfl:=Option.some.inj ho
     have d3 : D 3 = true:=hdep ⟨3,.data⟩ (by simp) rfl
     have f3 : ix t 55 = some (.f (.fp (cNod n))):=hT 3 (by decide) d3
     simp [f3,cNod]
     exact T.put 4 (by decide) (by decide) rfl rfl
    | 5,ho =>
     obtain rfl:=Option.some.inj ho
     have d4 : D 4 = true:=hdep ⟨4,.data⟩ (by simp) rfl
     have f4 : ix t 56 = some (.f (.fp (fpCfalse n))):=hT 4 (by decide) d4
     simp [f4,fpCfalse]
     exact T.put 5 (by decide) (by decide) rfl rfl
    | 6,ho =>
     obtain rfl:=Option.some.inj ho
     simp [k2]
     exact T.put 6 (by decide) (by decide) rfl rfl
    | 7,ho =>
     obtain rfl:=Option.some.inj ho
     simp [k9]
     exact T.put 7 (by decide) (by decide) rfl rfl
    | 8,ho =>
     obtain rfl:=Option.some.inj ho
     have d6 : D 6 = true:=hdep ⟨6,.data⟩ (by simp) rfl
     have f6 : ix t 58 = some (.f (sl (encL fGd gs))):=hT 6 (by decide) d6
     have d7 : D 7 = true:=hdep ⟨7,.data⟩ (by simp) rfl
     have f7 : ix t 59 = some (.f (intF ((us.length : Int) + M.length))):=hT 7 (by decide) d7
     simp [f6,f7]
     refine call_g (runder_g gs .un _ false (by simp at hl1; omega)) ?_
     simp
     exact T.put 8 (by decide) (by decide) rfl rfl
    | (_ + 9),ho=>omega
   ·rintro D ⟨t,h,kk⟩ o hD T ho
    obtain rfl:=Option.some.inj ho
    obtain ⟨e1,e2,hl,hkp,hT⟩:=id T
    cases e1
    cases e2
    have f0 : ix t 52 = some (x3):=hT 0 (by decide) (hD 0 (by decide))
    have f5 : ix t 57 = some (.f (sl (encL fNod n.els.l))):=hT 5 (by decide) (hD 5 (by decide))
    have f8 : ix t 60 = some (.f (sl (encL fGd (gs ++ [⟨((us.length : Int) + M.length),false⟩])))):=hT 8 (by decide) (hD 8 (by decide))
    simp [f0,f5,f8]
    refine call_x (ih2 n hmem (gs ++ [⟨((us.length : Int) + M.length),false⟩]) ((us ++ (M ++ [unitOf n gs])) ++ T1) x3 t3 _ _ ho3 ?_ ?_) ?_
    ·rw [hc3]
     simp at hlen hle1 ⊢
     omega
    ·simp; omega
    rintro x3 _ k3 ⟨rfl,t3,ho3,hk3⟩
    simp
    have f1 : ix (stT t 61 x3) 61 = some x3:=by simp only [ix,stT]; rw [List.getElem?_set_self (by simp only at hl; omega)]
    simp [f1]
    refine ⟨x3,t3,k3,by simpa [hc3,Nat.add_assoc] using ho3,hk3,Sl.of (picks_of ?_) (by simpa [stT] using hl) rfl⟩
    intro p hp
    simp [keC] at hp
    rcases hp with rfl | rfl | rfl | rfl | rfl
    ·simp only [ix,stT]; rw [List.getElem?_set_self (by simp only [List.length_set] at hl ⊢; omega)]
    ·simp only [ix,stT]; rw [List.getElem?_set_ne (by decide),List.getElem?_set_ne (by decide)]; exact hkp (1,_) (by simp [keC])
    ·simp only [ix,stT]; rw [List.getElem?_set_ne (by decide),List.getElem?_set_ne (by decide)]; exact hkp (2,_) (by simp [keC])
    ·simp only [ix,stT]; rw [List.getElem?_set_ne (by decide),List.getElem?_set_ne (by decide)]; exact hkp (7,_) (by simp [keC])
    ·simp only [ix,stT]; rw [List.getElem?_set_ne (by decide),List.getElem?_set_ne (by decide)]; exact hkp (9,_) (by simp [keC])
   rintro _ ⟨ts,hh,kk4⟩ ⟨rfl,x4,t4,k4,ho4,hk4,rfl,rfl,ff4,rfl⟩
   rw [hc3] at ho4
   simp
   refine W.x mixed (by kernel_rfl) ?_
   simp [hw,keC]
   refine ⟨_,_,x4,t4,?_,?_,Sl.of rfl rfl rfl⟩
   ·rw [hnx]
    simpa using ho4
   ·simp only at hk hk2 hk3 hk4 ⊢
    omega
  ·obtain rfl : i = l.length:=by omega
   simp
   rw [List.take_length] at ho
   refine W.x mixed (by kernel_rfl) ?_
   simp
   exact ⟨.inr rfl,h,g,kk,[],x',rfl,rfl,(List.append_nil _).symm,hk,BelC.refl,.inl ⟨rfl,own_bel ho⟩,rfl,t',ho,hk⟩
theorem rbuild_g (d : PrgD) (hB : NodB d.control.l) (hc : (nodsPre d.control.l).length ≤ 10000000) (hn : (ctlCheckW d).2 = 0→(bldL d.control.l [] 0).length ≤ 100000) : Gives Tryz.prog 18 [fPrg d] (ownF (encL fUnit (bldM d))):=by
 refine Gives.of mixed Tryz.func18 rfl rfl rfl (by kernel_rfl) ?_
 simp [fPrg,cPrg]
 refine call_g (rctl_g d hB hc) ?_
 generalize hv : bldM d = v
 unfold bldM at hv
 generalize ctlCheckW d = r at hv hn ⊢
 obtain ⟨r1,r2⟩:=r
 by_cases c1 : r2 = 0
 case neg =>
  have hv : [] = v:=by rw [← hv]; exact (if_neg c1).symm
  subst hv
  simp [c1,encL,ownF]
 have hv : bldL d.control.l [] 0 = v:=by rw [← hv]; exact (if_pos c1).symm
 simp [c1]
 refine call_x (GivesX.arg (rcollect_x d.control.l hB [] [] (.f (.sl [] .nil)) 0 _ [] .nil (by simpa using hn c1) (Nat.le_refl _)) (fun w L vals hr=>⟨hr.1,fun j y hj=>?_⟩)) ?_
 ·match j,hj with
  | 0,hj=>exact hr.2 0 y hj
  | 1,hj=>exact hr.2 1 y hj
  | 2,hj =>
   obtain rfl : AV.f (.sl [] .un) = y:=Option.some.inj hj
   obtain ⟨u,h1,h2⟩:=hr.2 2 _ rfl
   exact ⟨u,h1,weak_nil _ _ _ _ h2⟩
 rintro _ _ _ ⟨rfl,t,ho,hk⟩
 simp
 rw [ho.ret,← hv]
 rfl
theorem comB_comm (a b : List Int) : comB a b = comB b a:=by
 unfold comB
 rw [Bool.eq_iff_iff]
 simp only [List.any_eq_true,beq_iff_eq]
 exact ⟨fun ⟨x,hx,y,hy,e⟩=>⟨y,hy,x,hx,e.symm⟩,fun ⟨x,hx,y,hy,e⟩=>⟨y,hy,x,hx,e.symm⟩⟩
theorem ownF_cap (l : List FV) : ∃ c,ownF l = .sl l c:=by
 unfold ownF
 split
 ·exact ⟨_,by rw [‹l = []›]⟩
 ·exact ⟨_,rfl⟩
def WrU (d : PrgD) (us : List UnitD) (a : Nat) : List Int:=match us[a]? with
 | some u=>ruWr d u
 | none=>[]
def RdU (d : PrgD) (us : List UnitD) (a : Nat) : List Int:=match us[a]? with
 | some u=>ruRd d u
 | none=>[]
theorem WrU_at {d : PrgD} {us : List UnitD} {a : Nat} {u : UnitD} (h : us[a]? = some u) : WrU d us a = ruWr d u:=by simp [WrU,h]
theorem RdU_at {d : PrgD} {us : List UnitD} {a : Nat} {u : UnitD} (h : us[a]? = some u) : RdU d us a = ruRd d u:=by simp [RdU,h]
theorem rdepend_g (d : PrgD) (hn : NmOk d) (hC : PrgC d) (us : List UnitD) (c : Cap) (i j : Nat) (u v : UnitD) (hi : us[i]? = some u) (hj : us[j]? = some v) (hij : i < j) (hl : us.length ≤ 100000)
  (gu : u.guards.l.length < 2^62) (gv : v.guards.l.length < 2^62) (cu : u.cond.l.length ≤ 1000000) (cv : v.cond.l.length ≤ 1000000) (wu : (ruWr d u).length < 2^62) (wv : (ruWr d v).length < 2^62) (ru : (ruRd d u).length < 2^62) (rv : (ruRd d v).length < 2^62) :
  Gives Tryz.prog 46 [fPrg d,.sl (encL fUnit us) c,intF i,intF j] (intF (depM (RdU d us) (WrU d us) us i j)):=by
 have li : i < us.length:=(List.getElem?_eq_some_iff.1 hi).1
 have lj : j < us.length:=(List.getElem?_eq_some_iff.1 hj).1
 obtain ⟨u',hu,hu'⟩:=nth_of li
 obtain ⟨v',hv,hv'⟩:=nth_of lj
 obtain rfl : u = u':=by rw [hi] at hu'; exact Option.some.inj hu'
 obtain rfl : v = v':=by rw [hj] at hv'; exact Option.some.inj hv'
 generalize hr : depM (RdU d us) (WrU d us) us i j = r
 unfold depM at hr
 rw [if_neg (by omega),hi,hj] at hr
 simp only [WrU_at hi,WrU_at hj,RdU_at hi,RdU_at hj] at hr
 have gw:=rwrites_g d hn hC u
 have gw':=rwrites_g d hn hC v
 have gr:=rreads_g d hn hC u cu
 have gr':=rreads_g d hn hC v cv
 obtain ⟨k1,e1⟩:=ownF_cap (encL intF (ruWr d u))
 obtain ⟨k2,e2⟩:=ownF_cap (encL intF (ruWr d v))
 obtain ⟨k3,e3⟩:=ownF_cap (encL intF (ruRd d u))
 obtain ⟨k4,e4⟩:=ownF_cap (encL intF (ruRd d v))
 rw [e1] at gw
 rw [e2] at gw'
 rw [e3] at gr
 rw [e4] at gr'
 have m1:=rcommon_g (ruRd d v) (ruWr d u) k4 k1 rv wu
 have m2:=rcommon_g (ruWr d v) (ruWr d u) k2 k1 wv wu
 have m3:=rcommon_g (ruRd d u) (ruWr d v) k3 k2 ru wv
 refine Gives.of mixed Tryz.func46 rfl rfl rfl (by kernel_rfl) ?_
 simp [fPrg,cPrg,hu,li,fUnit]
 refine call_g gw ?_
 simp
 refine call_g (rexcl_g us c i j u v hi hj gu gv) ?_
 by_cases c1 : exclM u v = true
 ·rw [if_pos c1] at hr
  subst hr
  simp [c1]
 rw [if_neg c1] at hr
 have c1 : exclM u v = false:=by simpa using c1
 simp [c1,hv,lj,fUnit]
 refine call_g (rguarded_g v i gv) ?_
 by_cases c2 : (v.guards.l.any fun g=>g.unit == (i : Int)) = true
 ·rw [if_pos (by simp [c2])] at hr
  subst hr
  simp [c2]
 have c2 : (v.guards.l.any fun g=>g.unit == (i : Int)) = false:=by simpa using c2
 simp [c2,hv,lj,fUnit]
 refine call_g gr' ?_
 simp
 refine call_g m1 ?_
 by_cases c3 : comB (ruRd d v) (ruWr d u) = true
 ·rw [if_pos (by simp [c3])] at hr
  subst hr
  simp [c3]
 have c3 : comB (ruRd d v) (ruWr d u) = false:=by simpa using c3
 simp [c3,hv,lj,fUnit]
 refine call_g gw' ?_
 simp
 refine call_g m2 ?_
 by_cases c4 : comB (ruWr d v) (ruWr d u) = true
 ·rw [if_pos (by simp [c4])] at hr
  subst hr
  simp [c4]
 have c4 : comB (ruWr d v) (ruWr d u) = false:=by simpa using c4
 rw [if_neg (by simp [c2,c3,c4])] at hr
 simp [c4,hu,hv,li,lj,fUnit]
 refine call_g gr ?_
 simp [hv,lj,fUnit]
 refine call_g gw' ?_
 simp
 refine call_g m3 ?_
 rw [comB_comm]
 generalize hb : comB (ruWr d v) (ruRd d u) = b at hr ⊢
 subst hr
 cases b <;> simp
theorem rowTo_in (Rd Wr : Nat→List Int) (us : List UnitD) (i : Nat) : List.replicate us.length 0 = rowTo Rd Wr us i (i + 1) i:=by
 apply List.ext_getElem
 ·simp [rowTo]
 ·intro b h1 h2
  simp only [rowTo,List.getElem_map,List.getElem_range,List.getElem_replicate]
  split
  ·rename_i h
   rw [depM,if_pos (by rcases h with h | ⟨_,h⟩ <;> omega)]
  ·rfl
theorem rowTo_set (Rd Wr : Nat→List Int) (us : List UnitD) {i j : Nat} (hj : j < us.length) : (rowTo Rd Wr us i j i).set j (depM Rd Wr us i j) = rowTo Rd Wr us i (j + 1) i:=by
 have:=congrFun (rowTo_put (Rd:=Rd) (Wr:=Wr) (us:=us) (i:=i) (j:=j) rfl hj) i
 simpa using this
theorem rowTo_all (Rd Wr : Nat→List Int) (us : List UnitD) {i : Nat} (hi : i < us.length) : (depsM Rd Wr us)[i]? = some (rowTo Rd Wr us i us.length i):=by
 unfold depsM
 rw [List.getElem?_map,List.getElem?_range hi]
 refine congrArg some (List.map_congr_left fun b hb=>?_)
 rw [if_pos (.inr ⟨rfl,List.mem_range.1 hb⟩)]
def rb1 (d : PrgD) (us : List UnitD) (cu : Cap) (D : List (List Int)) (i : Nat) (s : St) : Prop:=∃ g k x t,OwnT k (encL rowF (D.take i)) 1 x t ∧
 Vf.Sl [(1,.f (.sl (encL fUnit us) cu)),(2,.ref 0 0),(5,x),(6,.f (intF i))] 39 (aPrg d :: g) k s
def rb2 (d : PrgD) (us : List UnitD) (cu : Cap) (r : Nat→List Int) (i : Nat) (g : List (List AV)) (k : List (Nat × Nat)) (x : AV) (j : Nat) (s : St) : Prop:=∃ m,m = i + 1 + j ∧
 Vf.Sl [(1,.f (.sl (encL fUnit us) cu)),(2,.ref 0 0),(5,x),(6,.f (intF i)),(7,.ms (g.length + 1) 0 us.length us.length 1),(8,.f (intF m))] 39 (aPrg d :: (g ++ [rowA (r m)])) k s
theorem rdeps_g (d : PrgD) (hn : NmOk d) (hC : PrgC d) (us : List UnitD) (cu : Cap) (hl : us.length ≤ 100000) (hg : ∀ u ∈ us,u.guards.l.length < 2^62) (hc : ∀ u ∈ us,u.cond.l.length ≤ 1000000) (hw : ∀ u ∈ us,(ruWr d u).length < 2^62) (hr : ∀ u ∈ us,(ruRd d u).length < 2^62) :
  Gives Tryz.prog 19 [fPrg d,.sl (encL fUnit us) cu] (ownF (encL rowF (depsM (RdU d us) (WrU d us) us))):=by
 have hn2 : us.length < 2^32:=by omega
 have hDl : (depsM (RdU d us) (WrU d us) us).length = us.length:=by simp [depsM]
 refine Gives.ofW Tryz.func19 rfl rfl rfl (by decide) ?_
 refine W.two (W.x mixed (by kernel_rfl) ?_)
 simp [fPrg,cPrg]
 refine W.two (W.x mixed (by kernel_rfl) ?_)
 simp
 refine W.two (W.two (W.x mixed (by kernel_rfl) ?_))
 simp
 refine W.blk (forW us.length (rb1 d us cu (depsM (RdU d us) (WrU d us) us)) ⟨[],[],_,0,.nil,Sl.of rfl rfl rfl⟩ ?_)
 rintro i ⟨ts,hh,kk⟩ hi ⟨g,k,x,t,ho,rfl,rfl,ff,rfl⟩
 refine W.two (W.x mixed (by kernel_rfl) ?_)
 by_cases hlt : i < us.length
 case neg =>
  obtain rfl : i = us.length:=by omega
  rw [← hDl,List.take_length] at ho
  simp
  refine W.x mixed (by kernel_rfl) ?_
  simp
  rw [ho.ret]
 have hw1:=wrap64 (x:=(i : Int) + 1) (by omega) (by omega)
 simp [hlt]
 refine W.two (W.blk (W.two (W.x mixed (by kernel_rfl) ?_)))
 simp [make_i hn2]
 refine W.two (W.two (W.x mixed (by kernel_rfl) ?_))
 simp [hw1]
 rw [rowTo_in (RdU d us) (WrU d us) us i]
 refine W.blk (forW (us.length - (i + 1)) (rb2 d us cu (fun m=>rowTo (RdU d us) (WrU d us) us i m i) i g kk x) ⟨_,rfl,Sl.of rfl rfl rfl⟩ ?_)
 rintro jj ⟨ts,hh,kk⟩ hj ⟨j,hj',rfl,rfl,ff,rfl⟩
 refine W.two (W.x mixed (by kernel_rfl) ?_)
 by_cases hjl : j < us.length
 case neg =>
  obtain rfl : j = us.length:=by omega
  simp
  refine frzM_W (d:=7) (b:=g.length + 1) (fs:=encL intF (rowTo (RdU d us) (WrU d us) us i us.length i)) rfl (by simp [rowA,encL]) (by simp [rowTo]) (fun x hx=>?_) ?_
  ·obtain ⟨y,_,rfl⟩:=List.mem_map.1 hx
   rfl
  simp
  refine W.x mixed (by kernel_rfl) ?_
  simp [-opAppend]
  obtain ⟨t2,k2,e2,ho2,hk2,_⟩:=append_own ty58 ty29 (by simp) ho (y:=.f (.sl [rowF (rowTo (RdU d us) (WrU d us) us i us.length i)] .full)) rfl (by simp) (by simp) (by simp; omega) (by simp; omega)
  rw [e2]
  have hnx : encL rowF ((depsM (RdU d us) (WrU d us) us).take i) ++ [rowF (rowTo (RdU d us) (WrU d us) us i us.length i)] = encL rowF ((depsM (RdU d us) (WrU d us) us).take (i + 1)):=by
   rw [List.take_add_one,rowTo_all _ _ us hlt]
   simp [encL]
  rw [hnx] at ho2
  rw [hnx]
  simp
  refine W.x mixed (by kernel_rfl) ?_
  simp [hw1]
  exact ⟨_,_,_,t2,ho2,Sl.of rfl rfl rfl⟩
 obtain ⟨u,hu,hu'⟩:=nth_of hlt
 obtain ⟨v,hv,hv'⟩:=nth_of hjl
 have mu:=List.mem_of_getElem? hu'
 have mv:=List.mem_of_getElem? hv'
 have hw2:=wrap64 (x:=(j : Int) + 1) (by omega) (by omega)
 simp [hjl]
 refine W.two (W.blk (W.x mixed (by kernel_rfl) ?_))
 simp [aPrg]
 refine call_g (rdepend_g d hn hC us cu i j u v hu' hv' (by omega) hl (hg u mu) (hg v mv) (hc u mu) (hc v mv) (hw u mu) (hw v mv) (hr u mu) (hr v mv)) ?_
 have hrl:=rowTo_len (RdU d us) (WrU d us) us i j i
 have hj1 : j + 1 ≤ us.length:=hjl
 simp [hjl,hj1,hrl,rowTo_set _ _ us hjl]
 refine W.x mixed (by kernel_rfl) ?_
 simp [hw2]
 refine ⟨?_,j + 1,?_,Sl.of rfl rfl rfl⟩ <;> omega
def inM (x a b : Int) : Bool:=decide (a ≤ x) && decide (x ≤ b)
theorem chipCheck_in (c : ChipD) : chipCheck c = if inM c.stages 1 16 && (inM c.tables 0 64 && (inM c.gates 0 64 && (inM c.sram 0 4096 && (inM c.tcam 0 4096 && (inM c.c8 0 64 && (inM c.c16 0 64 && inM c.c32 0 64)))))) then 0 else 9:=by
 have h5 : (List.range 5).any (fun k=>bad64 (chipN c k)) = (bad64 c.tables || (bad64 c.gates || (bad64 c.c8 || (bad64 c.c16 || bad64 c.c32)))):=by
  simp [List.range,List.range.loop,chipN]
 unfold chipCheck
 rw [h5]
 unfold inM bad64
 by_cases h : (1 ≤ c.stages∧c.stages ≤ 16)∧(0 ≤ c.tables∧c.tables ≤ 64)∧(0 ≤ c.gates∧c.gates ≤ 64)∧(0 ≤ c.sram∧c.sram ≤ 4096)∧(0 ≤ c.tcam∧c.tcam ≤ 4096)∧(0 ≤ c.c8∧c.c8 ≤ 64)∧(0 ≤ c.c16∧c.c16 ≤ 64)∧(0 ≤ c.c32∧c.c32 ≤ 64)
 ·rw [if_neg (by omega),if_neg (by simp only [Bool.or_eq_true,decide_eq_true_eq]; omega),if_neg (by omega),if_pos (by simp only [Bool.and_eq_true,decide_eq_true_eq]; omega)]
 ·rw [if_neg (c:=(_ = true)) (t:=(0 : Int)) (by simp only [Bool.and_eq_true,decide_eq_true_eq]; omega)]
  by_cases h1 : c.stages < 1 ∨ 16 < c.stages
  ·rw [if_pos h1]
  rw [if_neg h1]
  by_cases h2 : c.sram < 0 ∨ 4096 < c.sram ∨ c.tcam < 0 ∨ 4096 < c.tcam
  ·rw [if_pos h2]; split <;> rfl
  ·rw [if_pos (by simp only [Bool.or_eq_true,decide_eq_true_eq]; omega)]
theorem tblCost_bd (d : PrgD) (i : Int) : (0 ≤ (tblCost d i).1∧(tblCost d i).1 ≤ 100000000)∧(0 ≤ (tblCost d i).2∧(tblCost d i).2 ≤ 100000000):=by
 unfold tblCost
 split
 case isFalse=>exact ⟨⟨by decide,by decide⟩,by decide,by decide⟩
 rename_i h
 have hC:=prgC_of h
 cases hr : tblOf d i with
 | none =>
  show (0 ≤ (0 : Int)∧(0 : Int) ≤ 100000000)∧(0 ≤ (0 : Int)∧(0 : Int) ≤ 100000000)
  decide
 | some t =>
  simp only
  unfold tblOf at hr
  have c1 : ¬ i < 0:=by intro c; rw [if_pos c] at hr; cases hr
  rw [if_neg c1] at hr
  have htc : (tblCheckA d t).2 = 0:=by
   have:=hC.tc i.toNat (List.getElem?_eq_some_iff.1 hr).1
   unfold tblCheck at this
   rw [if_neg (by omega),Int.toNat_natCast,hr] at this
   exact this
  have hsz : 1 ≤ t.size∧t.size ≤ 256:=by
   unfold tblCheckA at htc
   split at htc
   ·cases htc
   ·split at htc
    ·cases htc
    ·split at htc
     ·cases htc
     ·omega
  have hA:=argBits_bd (widthsOk_of hC) t
  have hbd:=tblWidths_bd d i
  have hbb:=isum_32 hbd.2
  have hB : 0 ≤ tblBits d i∧tblBits d i ≤ 192:=by unfold tblBits; omega
  generalize argBits d t = A at hA ⊢
  generalize tblBits d i = B at hB ⊢
  have m1 : 0 ≤ t.size * (B + (8 + A))∧t.size * (B + (8 + A)) ≤ 256 * 33000:=⟨Int.mul_nonneg (by omega) (by omega),Int.mul_le_mul hsz.2 (by omega) (by omega) (by omega)⟩
  have m2 : 0 ≤ t.size * (8 + A)∧t.size * (8 + A) ≤ 256 * 33000:=⟨Int.mul_nonneg (by omega) (by omega),Int.mul_le_mul hsz.2 (by omega) (by omega) (by omega)⟩
  have m3 : 0 ≤ t.size * B∧t.size * B ≤ 256 * 33000:=⟨Int.mul_nonneg (by omega) (by omega),Int.mul_le_mul hsz.2 (by omega) (by omega) (by omega)⟩
  split
  ·exact ⟨⟨by decide,by decide⟩,by decide,by decide⟩
  ·split <;> simp only [blocksOf] <;> omega
theorem unitCost_bd (d : PrgD) (u : UnitD) : (0 ≤ (unitCost d u).1∧(unitCost d u).1 ≤ 100000000)∧(0 ≤ (unitCost d u).2∧(unitCost d u).2 ≤ 100000000):=by
 unfold unitCost
 split
 ·exact ⟨⟨by decide,by decide⟩,by decide,by decide⟩
 ·exact tblCost_bd d u.table
theorem sumR_two {a co : Int × Int} (h : (0 ≤ a.1∧a.1 ≤ 9223372036854775807)∧(0 ≤ a.2∧a.2 ≤ 9223372036854775807)) : sumR [a,co] = sumStep a co:=by
 have : sumStep (0,0) a = a:=by
  rw [sumStep_eq,satAdd_min,satAdd_min,if_neg (by simp only; omega),if_neg (by simp only; omega)]
  refine Prod.ext ?_ ?_ <;> simp only <;> omega
 show sumStep (sumStep (0,0) a) co = _
 rw [this]
end Go.Proofs.YtafenffmgpcjcaaGreat
