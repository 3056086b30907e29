/- Texts of the proof: GS18. -/
import Derived.Test.YtafenffmgpcjcaaGreatGS17
import Derived.Test.YtafenffmgpcjcaaGreatGS6
import Derived.Test.YtafenffmgpcjcaaGreatGS16
import Derived.Test.YtafenffmgpcjcaaGreatGVC1
import Derived.Test.YtafenffmgpcjcaaGreatGS15
import Derived.Test.YtafenffmgpcjcaaGreatGS0
namespace Go.Proofs.YtafenffmgpcjcaaGreat
open Go.RowKit Go.Proofs.YtafenffmgpcjcaaGreat.Vf
set_option linter.unusedVariables false
set_option linter.unusedSimpArgs false
theorem after_fol (D:List (List Int)) {n i j:Nat} (hi:i < n) (hj:j < n):afterM (folAll D n) i j=(folP D i j).2:=by
 unfold afterM folAll
 simp [hi,hj,folRow,List.getD_eq_getElem?_getD]
set_option maxHeartbeats 4000000
set_option maxRecDepth 100000
def bstA (B:Nat→List Int) (lo n:Nat):List AV:=(List.range n).map fun q=>if lo≤q then .f (.sl (encL intF (B q)) .un) else .f (.sl [] .nil)
@[simp] theorem bstA_len {B:Nat→List Int} {lo n:Nat}:(bstA B lo n).length=n:=by simp [bstA]
theorem bstA_at {B:Nat→List Int} {lo n q:Nat} (h1:lo≤q) (h2:q < n):((bstA B lo n).drop q).head?=some (.f (.sl (encL intF (B q)) .un)):=by
 rw [List.head?_drop]; simp [bstA,h1,h2]
theorem bstA_top (B:Nat→List Int) (n:Nat):bstA B n n=List.replicate n (.f (.sl [] .nil)):=by
 have:List.replicate n (AV.f (.sl [] .nil))=(List.range n).map fun _=>AV.f (.sl [] .nil):=by simp [List.map_const']
 rw [this]
 exact List.map_congr_left fun b hb=>if_neg (by have:=List.mem_range.1 hb; omega)
theorem bstA_set {B:Nat→List Int} {i n:Nat} (l:List Int) (hi:i < n):(bstA B (i+1) n).set i (.f (.sl (encL intF l) .un))=bstA (fun q=>if q=i then l else B q) i n:=by
 unfold bstA
 rw [map_set_range]
 refine List.map_congr_left fun b _=>?_
 dsimp only
 by_cases e:b=i
 ·subst e; rw [if_pos rfl,if_pos (Nat.le_refl _),if_pos rfl]
 ·rw [if_neg e,if_neg e]
  by_cases h:i+1≤b
  ·rw [if_pos h,if_pos (by omega)]
  ·rw [if_neg h,if_neg (by omega)]
theorem make_ll {h:List (List AV)} {k:List (Nat × Nat)} {i n:Nat} (B:Nat→List Int) (hn:n < 2^32):opMake (tyOf Tryz.prog) h k 58 (isZero (.tmp i)) (.f (.sc (.int .i64 n))) (.f (.sc (.int .i64 n)))=some (.ms h.length 0 n n 1,h ++ [bstA B n n],k):=by
 simp only [opMake,idx,isZero,ty58,Int.natCast_nonneg,if_true,Int.toNat_natCast]
 simp only [ty29]
 rw [if_neg (by simp; omega),if_neg (by simp)]
 simp [AV.one,zrow_rep,bstA_top]
theorem app_list {k:List (Nat × Nat)} {T:List Int} {i:Int} (hT:T.length≤100000):∃ x k',opAppend (tyOf Tryz.prog) k 29 (.f (.sl [.sc (.int .i64 i)] .full)) (.f (.sl (encL intF T) .un))=some (x,k') ∧
  x.cells=[x]∧x.one=true∧∀ (w:World) (L:Lk) (k:List (Nat × Nat)) (v:Value),RepA w L k x v→RepA w L k (.f (.sl (encL intF (i::T)) .un)) v:=by
 cases T with
 | nil =>
  refine ⟨.f (.sl [.sc (.int .i64 i)] .full),k,?_,rfl,rfl,weak_un⟩
  unfold opAppend
  simp only [ty29,ty3,elems]
  simp [encL]
 | cons y T =>
  have hall:(encL intF (y::T)).all (fun u=>u.cells.length == 1)=true:=List.all_eq_true.2 fun u hu=>by
   obtain ⟨z,_,rfl⟩:=List.mem_map.1 hu
   rfl
  have hl:(encL intF (y::T)).length=T.length+1:=by simp
  refine ⟨.own (encL intF (i::y::T)) k.length,k ++ [([FV.sc (.int .i64 i)].length+(encL intF (y::T)).length,1)],?_,rfl,rfl,fun w L k v h=>by cases h with | own l t b o cap h=>exact .f _ _ h⟩
  have he:[FV.sc (.int .i64 i)] ++ encL intF (y::T)=encL intF (i::y::T):=rfl
  unfold opAppend
  simp only [ty29,ty3,elems]
  rw [if_neg (by decide),if_pos hall,if_neg (by simp [encL]),if_pos ⟨by decide,by rfl,by simp at hT ⊢; omega,by simp at hT ⊢; omega⟩,he]
theorem store_one {T:TV} {ty:TypeId} {e:Ty} (ht:T ty=some e) (hs:e.size=1) {h:List (List AV)} {b off:Nat} {cs:List AV} (hb:ix h b=some cs) (hj:off+1≤cs.length) {x:AV} (hc:x.cells=[x]) (h1:x.one=true) :
  opStore T h ty (.ref b off) x=some (h.set b (cs.set off x)):=by
 unfold opStore
 simp only [ht,hb,hs,hc]
 exact if_pos ⟨rfl,hj,by rw [List.all_cons,h1]; rfl⟩
theorem tailM_low (A:List (List Bool)) (i:Nat) (B:Nat→List Int):∀ j,j≤i+1→tailM A i B j=[]
 | 0,_=>rfl
 | j+1,h=>by rw [tailM,if_neg (by omega)]; exact tailM_low A i B j (by omega)
theorem tail_len (A:List (List Bool)) (i:Nat) {B:Nat→List Int} {m:Nat} (hB:∀ q,(B q).length≤m):∀ j,(tailM A i B j).length≤m
 | 0=>Nat.zero_le _
 | j+1=>by rw [tailM]; split; exact hB j; exact tail_len A i hB j
theorem best_len (A:List (List Bool)) (n:Nat):∀ k q,(bestM A n k q).length≤k
 | 0,_=>Nat.le_refl _
 | k+1,q=>by
  rw [bestM]
  show (if q=n - 1 - k then _ else _:List Int).length≤_
  split
  ·have:=tail_len A (n - 1 - k) (best_len A n k) n
   simp only [List.length_cons]
   omega
  ·exact Nat.le_succ_of_le (best_len A n k q)
theorem out_len (A:List (List Bool)) (n:Nat):∀ k,(outM A n k).length≤k
 | 0=>Nat.le_refl _
 | k+1=>by
  rw [outM]; split
  ·exact best_len A n (k+1) _
  ·exact Nat.le_succ_of_le (out_len A n k)
def rcpI (D:List (List Int)) (c:Cap) (n k:Nat) (s:St):Prop:=∃ (x:Int) (kk:List (Nat × Nat)),x=(n:Int) - 1 - k ∧
 Vf.Sl [(0,.f (.sl (encL rowF D) c)),(3,.ms 0 0 n n 1),(4,.f (.sl (encL intF (outM (folAll D n) n k)) .un)),(5,.f (intF x))] 86 [bstA (bestM (folAll D n) n k) (n - k) n] kk s
def rcpJ (D:List (List Int)) (c:Cap) (n i:Nat) (O:List Int) (B:Nat→List Int) (kk:List (Nat × Nat)) (q:Nat) (s:St):Prop:=∃ j,j=i+1+q ∧
 Vf.Sl [(0,.f (.sl (encL rowF D) c)),(3,.ms 0 0 n n 1),(4,.f (.sl (encL intF O) .un)),(5,.f (intF i)),(6,.f (browF (folRow D n i))),(7,.f (.sl (encL intF (tailM (folAll D n) i B j)) .un)),(8,.f (intF j))] 86 [bstA B (i+1) n] kk s
theorem rcritical_g (D:List (List Int)) (c:Cap) (n:Nat) (hd:D.length=n) (hn:n≤1000):Gives Tryz.prog 21 [.sl (encL rowF D) c] (.sl (encL intF (critL (folAll D n) n)) .un):=by
 refine Gives.ofW Tryz.func21 rfl rfl rfl (by decide) ?_
 have hmk:n < 2^32:=by omega
 rw [← out_walk (fol_ok D n) hn]
 have hw0:=wrap64 (x:=(n:Int) - 1) (by omega) (by omega)
 refine W.two (W.x mixed (by kernel_rfl) ?_)
 simp
 refine W.two (W.x mixed (by kernel_rfl) ?_)
 simp [hd,make_ll (bestM (folAll D n) n 0) hmk]
 refine W.two (W.x mixed (by kernel_rfl) ?_)
 simp
 refine W.two (W.two (W.x mixed (by kernel_rfl) ?_))
 simp [hd,hw0]
 refine weakT_W (d:=4) rfl weak_un ?_
 refine W.blk (forW n (rcpI D c n) ⟨_,_,by omega,Sl.of rfl rfl rfl⟩ ?_)
 rintro k ⟨ts,hh,kk⟩ hk ⟨x,k2,hx,rfl,rfl,ff,rfl⟩
 refine W.two (W.x mixed (by kernel_rfl) ?_)
 by_cases hkn:k < n
 case neg =>
  obtain rfl:k=n:=by omega
  obtain rfl:x=-1:=by omega
  simp
  refine W.x mixed (by kernel_rfl) ?_
  simp
 obtain ⟨i,hi⟩:∃ i,i=n - 1 - k:=⟨_,rfl⟩
 obtain rfl:x=(i:Int):=by omega
 have hin:i < n:=by omega
 obtain ⟨j0,hj0⟩:∃ j0,j0=i+1:=⟨_,rfl⟩
 have hw1:IntKind.i64.wrap ((i:Int)+1)=(j0:Int):=by subst hj0; exact wrap64 (by omega) (by omega)
 have hwm:=wrap64 (x:=(i:Int) - 1) (by omega) (by omega)
 have hlo:n - k=i+1:=by omega
 have hbl:=best_len (folAll D n) n k
 have hnext:bestM (folAll D n) n (k+1)=fun q=>if q=i then (i:Int)::tailM (folAll D n) i (bestM (folAll D n) n k) n else bestM (folAll D n) n k q:=by rw [bestM,← hi]
 have hout:outM (folAll D n) n (k+1)=if (outM (folAll D n) n k).length≤(bestM (folAll D n) n (k+1) i).length then bestM (folAll D n) n (k+1) i else outM (folAll D n) n k:=by rw [outM,← hi]
 have hol:=out_len (folAll D n) n k
 rw [hlo]
 generalize bestM (folAll D n) n k=B at *
 generalize outM (folAll D n) n k=O at *
 simp
 refine W.two (W.blk (W.two (W.x mixed (by kernel_rfl) ?_)))
 simp
 refine call_g (rfollows_g D c n i hd hn hin) ?_
 simp
 refine W.two (W.x mixed (by kernel_rfl) ?_)
 simp
 refine weakT_W (d:=7) rfl weak_un ?_
 refine W.two (W.two (W.x mixed (by kernel_rfl) ?_))
 simp [hw1]
 have ht0:=tailM_low (folAll D n) i B j0 (by omega)
 refine W.blk (forX mixed (n - (i+1)) (rcpJ D c n i O B kk) (by kernel_rfl) ⟨j0,by omega,by rw [ht0]; exact Sl.of rfl rfl rfl⟩ ?_)
 clear ht0
 rintro q ⟨ts,hh,k3⟩ hq ⟨j,hj,rfl,rfl,f2,rfl⟩
 have htl:=tail_len (folAll D n) i hbl j
 by_cases hjn:j < n
 ·obtain ⟨j1,hj1⟩:∃ j1,j1=j+1:=⟨_,rfl⟩
  have hwj:IntKind.i64.wrap ((j:Int)+1)=(j1:Int):=by subst hj1; exact wrap64 (by omega) (by omega)
  have hq1:q < n - (i+1):=by omega
  have hrl:(folRow D n i).length=n:=by simp [folRow]
  obtain ⟨b,hb,hb'⟩:=nth_of (show j < (folRow D n i).length by omega)
  have haf:afterM (folAll D n) i j=b:=by
   rw [after_fol D hin hjn]
   simpa [folRow,hjn] using hb'
  have hT:tailM (folAll D n) i B j1=if i < j∧b=true∧((tailM (folAll D n) i B j).length < (B j).length∨((B j).length=(tailM (folAll D n) i B j).length∧smallM (B j) (tailM (folAll D n) i B j)=true)) then B j else tailM (folAll D n) i B j:=by rw [hj1,tailM,haf]
  have gB:=bstA_at (B:=B) (lo:=i+1) (n:=n) (q:=j) (by omega) hjn
  have hBj:=hbl j
  have hij:i < j:=by omega
  generalize tailM (folAll D n) i B j=T at *
  cases b with
  | false =>
   rw [if_neg (by simp)] at hT
   simp [hd,hjn,hrl,hb,hwj]
   exact ⟨hq1,j1,by omega,by rw [hT]; exact Sl.of rfl rfl rfl⟩
  | true =>
  by_cases c1:T.length < (B j).length
  ·rw [if_pos ⟨hij,rfl,.inl c1⟩] at hT
   simp [hd,hjn,hrl,hb,gB,c1,hwj]
   exact ⟨hq1,j1,by omega,by rw [hT]; exact Sl.of rfl rfl rfl⟩
  by_cases c2:(B j).length=T.length
  ·have c2':((B j).length:Int)=T.length:=by omega
   simp [hd,hjn,hrl,hb,gB,c1,c2,c2']
   refine call_g (rsmaller_g (B j) T .un .un (by omega) (by omega)) ?_
   cases c3:smallM (B j) T with
   | true =>
    rw [if_pos ⟨hij,rfl,.inr ⟨c2,c3⟩⟩] at hT
    simp [hjn,gB,hwj]
    exact ⟨hq1,j1,by omega,by rw [hT]; exact Sl.of rfl rfl rfl⟩
   | false =>
    rw [if_neg (by rintro ⟨_,_,g | g⟩; exact c1 g; rw [c3] at g; cases g.2)] at hT
    simp [hwj]
    exact ⟨hq1,j1,by omega,by rw [hT]; exact Sl.of rfl rfl rfl⟩
  ·have c2':¬ ((B j).length:Int)=T.length:=by omega
   rw [if_neg (by rintro ⟨_,_,g | g⟩; exact c1 g; exact c2 g.1)] at hT
   simp [hd,hjn,hrl,hb,gB,c1,c2,c2',hwj]
   exact ⟨hq1,j1,by omega,by rw [hT]; exact Sl.of rfl rfl rfl⟩
 obtain rfl:j=n:=by omega
 have hi1:i+1≤j:=hin
 generalize hTT:tailM (folAll D j) i B j=T at *
 obtain ⟨x,k4,e1,e2,e3,e4⟩:=app_list (k:=k3) (T:=T) (i:=i) (by omega)
 simp [hd]
 refine W.two (W.x mixed (by kernel_rfl) ?_)
 simp [-opAppend]
 rw [e1]
 simp [hin,hi1,-opStore]
 rw [store_one ty29 rfl rfl (by simp; omega) e2 e3]
 simp
 have hcs:((bstA B (i+1) j).set i x)[i]?=some x:=List.getElem?_set_self (by simpa using hin)
 refine weakH_W (b:=0) (j:=i) (x:=x) (x':=.f (.sl (encL intF ((i:Int)::T)) .un)) rfl hcs e4 ?_
 simp
 rw [bstA_set _ hin,← hnext]
 have hBi:bestM (folAll D j) j (k+1) i=(i:Int)::T:=by rw [hnext]; exact if_pos rfl
 rw [hBi] at hout
 have gC:=bstA_at (B:=bestM (folAll D j) j (k+1)) (lo:=i) (n:=j) (q:=i) (Nat.le_refl _) hin
 rw [hBi] at gC
 refine W.two (W.x mixed (by kernel_rfl) ?_)
 by_cases c9:O.length≤T.length+1
 ·have c9':(O.length:Int)≤(T.length:Int)+1:=by omega
  rw [if_pos (by simpa using c9)] at hout
  simp [hin,gC,c9']
  refine W.x mixed (by kernel_rfl) ?_
  simp [hin,gC,c9']
  refine W.x mixed (by kernel_rfl) ?_
  simp [hwm]
  exact ⟨hkn,(i:Int) - 1,_,by omega,by rw [hout,show j - (k+1)=i by omega]; exact Sl.of rfl rfl rfl⟩
 ·have c9':¬ (O.length:Int)≤(T.length:Int)+1:=by omega
  rw [if_neg (by simpa using c9)] at hout
  simp [hin,gC,c9']
  refine W.x mixed (by kernel_rfl) ?_
  simp [hin,gC,c9']
  refine W.x mixed (by kernel_rfl) ?_
  simp [hwm]
  exact ⟨hkn,(i:Int) - 1,_,by omega,by rw [hout,show j - (k+1)=i by omega]; exact Sl.of rfl rfl rfl⟩
def reaI (D:List (List Int)) (c:Cap) (j:Nat) (s:St):Prop:=Vf.Sl [(0,.f (.sl (encL rowF D) c)),(3,.ms 0 0 D.length D.length 1),(4,.f (intF j))] 54 [rowA (earE D j)] [] s
def reaJ (D:List (List Int)) (c:Cap) (j i:Nat) (s:St):Prop:=Vf.Sl [(0,.f (.sl (encL rowF D) c)),(3,.ms 0 0 D.length D.length 1),(4,.f (intF j)),(5,.f (intF i))] 54 [rowA (rowE D j (earE D j) i)] [] s
theorem rearliest_g (d:List (List Int)) (c:Cap) (hd:d.length < 2^32):Gives Tryz.prog 37 [.sl (encL rowF d) c] (sl (encL intF (earE d d.length))):=by
 refine Gives.of mixed Tryz.func37 rfl rfl rfl (by kernel_rfl) ?_
 simp [make_i hd]
 refine forX mixed d.length (reaI d c) (by kernel_rfl) (Sl.of rfl rfl rfl) ?_
 rintro j ⟨t,h,kk⟩ hj ⟨rfl,rfl,f,rfl⟩
 by_cases hlt:j < d.length
 ·have hw:=wrap64 (x:=(j:Int)+1) (by omega) (by omega)
  simp [hlt]
  refine forX mixed j (reaJ d c j) (by kernel_rfl) (Sl.of rfl rfl rfl) ?_
  rintro i ⟨t,h,kk⟩ hi ⟨rfl,rfl,f,rfl⟩
  have hr:(rowE d j (earE d j) i).length=d.length:=by rw [rowE_length,earE_length]
  have hs:rowE d j (earE d j) (i+1)=stepE d j i (rowE d j (earE d j) i):=rfl
  generalize hq:rowE d j (earE d j) i=r at hr hs ⊢
  by_cases hil:i < j
  ·have hw':=wrap64 (x:=(i:Int)+1) (by omega) (by omega)
   obtain ⟨x,hx,hx'⟩:=nth_of (show i < r.length by omega)
   obtain ⟨y,hy,hy'⟩:=nth_of (show j < r.length by omega)
   have gx:=rowA_at hx'
   have hid:i < d.length:=by omega
   have hjd:j+1≤d.length:=by omega
   have dx:r.getD i 0=x:=by rw [List.getD_eq_getElem?_getD,hx']; rfl
   have dy:r.getD j 0=y:=by rw [List.getD_eq_getElem?_getD,hy']; rfl
   unfold stepE at hs
   rw [dx,dy] at hs
   have gy:=rowA_at hy'
   simp [hil]
   refine call_g (rkind_g d c i j (by omega)) ?_
   by_cases e:kindM d i j=2
   ·rw [if_pos e] at hs
    simp [e,hr,hlt,hid,gx,gy]
    rw [ops_max (q:=.i64) (a:=y) (b:=IntKind.i64.wrap (x+1)) rfl rfl]
    simp [hr,hlt,hid,hjd,hw']
    unfold reaJ
    rw [hs]
    exact Sl.of rfl rfl rfl
   rw [if_neg e] at hs
   by_cases e':kindM d i j=1
   ·rw [if_pos e'] at hs
    simp [e',hr,hlt,hid,gx,gy]
    rw [ops_max (q:=.i64) (a:=y) (b:=x) rfl rfl]
    simp [hr,hlt,hid,hjd,hw']
    unfold reaJ
    rw [hs]
    exact Sl.of rfl rfl rfl
   ·rw [if_neg e'] at hs
    simp [e,e',hw']
    unfold reaJ
    rw [hs]
    exact Sl.of rfl rfl rfl
  ·simp [hil,hw]
   obtain rfl:i=j:=by omega
   subst hq
   exact Sl.of rfl rfl rfl
 ·simp [hlt]
  obtain rfl:j=d.length:=by omega
  exact ret_ints (earE_length d _) rfl
theorem rinf_g (reason:Int) (l:List Int) (c:Cap):Gives Tryz.prog 33 [intF reason,.sl (encL intF l) c] (fPlc 2 (.sl [] .nil) 0 reason (.sl (encL intF l) c)):=by
 refine Gives.of mixed Tryz.func33 rfl rfl rfl (by kernel_rfl) ?_
 simp
theorem slice_one {α:Type} {T:TV} {enc:α→FV} {l:List α} {c:Cap} {ty e:TypeId} {s b:Nat} {z:List AV} {ety:Ty} (ht:T ty=some ⟨s,b,.slice e,z⟩) (he:T e=some ety) (hz:ety.size ≠ 0) (hall:∀ x,(enc x).cells.length=ety.size) {i:Nat} {x:α} (hx:l[i]?=some x) :
  opSlice T ty (.f (.sl (encL enc l) c)) (some (.f (.sc (.int .i64 i)))) (some (.f (.sc (.int .i64 ((i:Int)+1))))) none=some (.f (.sl (encL enc [x]) .un)):=by
 have hi:=(List.getElem?_eq_some_iff.1 hx).1
 have h1:idx (.f (.sc (.int .i64 (i:Int))))=some i:=by simp [idx]
 have h2:idx (.f (.sc (.int .i64 ((i:Int)+1))))=some (i+1):=by
  have:(0:Int)≤(i:Int)+1:=by omega
  simp only [idx,this,if_true]
  exact congrArg some (by omega)
 unfold opSlice
 simp only [ht,he,optIdx,h1,h2]
 have hlen:(encL enc l).length=l.length:=by simp
 have ha:(encL enc l).all (fun u=>u.cells.length == ety.size)=true:=List.all_eq_true.2 fun u hu=>by
  obtain ⟨y,_,rfl⟩:=List.mem_map.1 hu
  simpa using hall y
 rw [if_pos ⟨Nat.le_succ i,by rw [hlen]; exact hi,ha,hz⟩]
 have:((encL enc l).take (i+1)).drop i=encL enc [x]:=by
  rw [List.take_add_one,List.drop_append_of_le_length (by rw [List.length_take,hlen]; omega),List.drop_eq_nil_of_le (by rw [List.length_take,hlen]; omega)]
  show [] ++ ((l.map enc)[i]?).toList=_
  rw [List.getElem?_map,hx]
  rfl
 rw [this]
abbrev resA:List AV:=[.f (intF 0),.f (.sl [] .nil),.f (intF 0),.f (intF 0),.f (.sl [] .nil)]
def rplI (d:PrgD) (j:JobD) (b:Int) (c1 c2 c3:Cap) (i:Nat) (st:St):Prop:=noneT (fun i=>!fits1 j i) (List.range j.units.length) i ∧
 Vf.Sl [(2,.f (intF b)),(3,.ref 0 0),(4,.ref 1 0),(6,.ref 2 0),(8,.ref 3 0),(9,.f (intF i))] 82 [aPrg d,(cChip j.chip).map .f,resA,(cJob j c1 c2 c3).map .f] [] st
def rplJ (d:PrgD) (j:JobD) (b:Int) (c1 c2 c3:Cap) (E:List Int) (i:Nat) (st:St):Prop:=noneT (fun s=>decide (j.chip.stages≤s)) E i ∧
 Vf.Sl [(2,.f (intF b)),(3,.ref 0 0),(4,.ref 1 0),(6,.ref 2 0),(8,.ref 3 0),(10,.f (sl (encL intF E))),(11,.f (intF i))] 82 [aPrg d,(cChip j.chip).map .f,resA,(cJob j c1 c2 c3).map .f] [] st
theorem rplace_g (d:PrgD) (c:ChipD) (b:Int) (hU:PrgU d) (hN:PrgN d) :
  Gives Tryz.prog 12 [fPrg d,fChip c,intF b] (plcF d c b (critL (folAll (jobM d c).deps (jobM d c).deps.length) (jobM d c).deps.length) .un):=by
 refine Gives.of mixed Tryz.func12 rfl rfl rfl (by kernel_rfl) ?_
 generalize hv:plcF d c b (critL (folAll (jobM d c).deps (jobM d c).deps.length) (jobM d c).deps.length) .un=v
 unfold plcF at hv
 simp [fPrg,cPrg]
 refine call_g (rprg_g d hU hN) ?_
 by_cases h1:(prgCheckW d).1=0
 case neg =>
  rw [if_neg h1] at hv
  subst hv
  simp [h1]
  refine call_g (rinf_g (prgCheckW d).1 [] .nil) ?_
  simp
 have hC:=prgC_of h1
 rw [if_pos h1] at hv
 simp [h1]
 refine call_g (rchip_g c) ?_
 by_cases h2:chipCheck c=0
 case neg =>
  rw [if_neg h2] at hv
  subst hv
  simp [h2]
  refine call_g (rinf_g (chipCheck c) [] .nil) ?_
  simp
 rw [if_pos h2] at hv
 obtain ⟨k1,k2⟩:=chip_few h2
 obtain ⟨c1,c2,c3,hJ⟩:=rproblem_g d c hU hN hC
 have hl:=bldM_len hU hC
 have hju:(jobM d c).units.length=(bldM d).length:=rfl
 have hjc:(jobM d c).costs.length=(jobM d c).units.length:=by simp [jobM]
 have hjd:(jobM d c).deps.length=(jobM d c).units.length:=by simp [jobM,depsM]
 have hjr:∀ i,i < (jobM d c).units.length→∃ r,(jobM d c).deps[i]?=some r∧r.length=(jobM d c).units.length:=fun i hi=>by
  have hi:i < (bldM d).length:=hi
  exact ⟨(List.range (bldM d).length).map fun b=>depM (rdF d (bldM d)) (wrF d (bldM d)) (bldM d) i b,by simp [jobM,depsM,hi],by simp [jobM]⟩
 have hjchip:(jobM d c).chip=c:=rfl
 have hjb:=job_costs d c
 simp [h2]
 by_cases h3:b < 0
 ·rw [if_pos h3] at hv
  subst hv
  simp [h3]
  refine call_g (rinf_g 2 [] .nil) ?_
  simp
 rw [if_neg h3] at hv
 simp [h3]
 refine call_g hJ ?_
 generalize jobM d c=j at *
 subst hjchip
 have hcr:=rcritical_g j.deps c3 j.deps.length rfl (by omega)
 generalize critL (folAll j.deps j.deps.length) j.deps.length=cr at *
 unfold plcJ at hv
 simp
 refine forX mixed j.units.length (rplI d j b c1 c2 c3) (by kernel_rfl) ⟨noneT.zero,Sl.of rfl rfl rfl⟩ ?_
 rintro i ⟨ts,hh,kk⟩ hi ⟨hno,rfl,rfl,f,rfl⟩
 by_cases hlt:i < j.units.length
 ·obtain ⟨un,hun,hun'⟩:=nth_of hlt
  obtain ⟨co,hco,hco'⟩:=nth_of (show i < j.costs.length by omega)
  have hw:=wrap64 (x:=(i:Int)+1) (by omega) (by omega)
  have hf:fits1 j i=withinM (usAdd ⟨0,0,(0,0)⟩ un co) j.chip:=by unfold fits1; rw [hun',hco']
  have hs1:=slice_one (c:=c1) ty52 ty57 (by simp) (fun x=>by rfl) hun' (enc:=fUnit)
  have hs2:=slice_one (c:=c2) ty89 ty47 (by simp) (fun x=>by rfl) hco' (enc:=fRes)
  have hld:=rload_g ⟨j.chip,[un],[co],j.deps⟩ .un .un [0] .full 0 (by simp) (by simp) (by simp) (fun x hx=>by obtain rfl:=List.mem_singleton.1 hx; exact hjb _ (List.mem_of_getElem? hco'))
  have hus:usTo ⟨j.chip,[un],[co],j.deps⟩ [0] 0 [(0:Int)].length=usAdd ⟨0,0,(0,0)⟩ un co:=rfl
  rw [hus] at hld
  simp [hlt,hw,hs1,hs2]
  refine call_g hld ?_
  simp
  refine call_g (rwithin_g (usAdd ⟨0,0,(0,0)⟩ un co) j.chip) ?_
  rw [← hf]
  cases hb:fits1 j i with
  | false =>
   rw [find_hit hno hlt (by rw [hb]; rfl)] at hv
   subst hv
   simp
   refine call_g (rinf_g 18 [(i:Int)] .full) ?_
   simp
  | true =>
   simp [hw]
   exact ⟨hno.next (x:=i) (by simp [hlt]) (by rw [hb]; rfl),Sl.of rfl rfl rfl⟩
 obtain rfl:i=j.units.length:=by omega
 rw [find_none hno] at hv
 simp only at hv
 simp
 refine call_g (rearliest_g j.deps c3 (by omega)) ?_
 simp
 have hE:(earE j.deps j.deps.length).length=j.units.length:=by rw [earE_length,hjd]
 generalize earE j.deps j.deps.length=E at *
 refine forX mixed E.length (rplJ d j b c1 c2 c3 E) (by kernel_rfl) ⟨noneT.zero,Sl.of rfl rfl rfl⟩ ?_
 rintro i ⟨ts,hh,kk⟩ hi ⟨hno2,rfl,rfl,f2,rfl⟩
 by_cases hlt2:i < E.length
 ·obtain ⟨x,hx,hx'⟩:=nth_of hlt2
  have hw:=wrap64 (x:=(i:Int)+1) (by omega) (by omega)
  by_cases c0:j.chip.stages≤x
  ·have ha:(E.any fun s=>decide (j.chip.stages≤s))=true:=any_hit hx' (by simpa using c0)
   rw [ha,if_pos rfl] at hv
   subst hv
   simp [hlt2,hx,c0]
   refine call_g hcr ?_
   simp
   refine call_g (rinf_g 17 cr .un) ?_
   simp
  ·simp [hlt2,hx,c0,hw]
   exact ⟨hno2.next hx' (by simpa using c0),Sl.of rfl rfl rfl⟩
 ·obtain rfl:i=E.length:=by omega
  rw [hno2.all (by simp),if_neg (by decide)] at hv
  subst hv
  have hB:(((min b 1048576).toNat:Nat):Int)=min b 1048576:=Int.toNat_of_nonneg (by omega)
  have hs:=rsearch_g j c1 c2 c3 (min b 1048576).toNat (by omega) hjc hjr k1 k2 (by omega) hjb
  rw [hB] at hs
  simp
  rw [ops_min (q:=.i64) (a:=b) (b:=1048576) rfl rfl]
  simp
  refine call_g hs ?_
  cases hR:srchM j (min b 1048576).toNat 0 0 0 (List.replicate j.units.length 0) <;> simp [fSRes,fSResU]
end Go.Proofs.YtafenffmgpcjcaaGreat
namespace Go.Proofs.YtafenffmgpcjcaaGreat
open Go.Proofs.YtafenffmgpcjcaaGreat.Vf (sEq)
set_option linter.unusedVariables false
set_option linter.unusedSimpArgs false
end Go.Proofs.YtafenffmgpcjcaaGreat
namespace Go.Proofs.YtafenffmgpcjcaaGreat
open Go.RowKit Go.Proofs.YtafenffmgpcjcaaGreat.Vf
set_option linter.unusedVariables false
set_option linter.unusedSimpArgs false
set_option maxRecDepth 100000
set_option maxHeartbeats 4000000
theorem bld_few {d:PrgD} (hU:PrgU d):(bldM d).length≤24:=by
 unfold bldM
 by_cases h:(ctlCheckW d).2=0
 ·rw [if_pos h,(bldL_all _ _ _).1]; exact ctl_few hU h
 ·rw [if_neg h]; exact Nat.zero_le _
abbrev T5:=Int × List Int × Int × Int × List Int
def fP5 (x:T5) (c1 c2:Cap):FV:=fPlc x.1 (.sl (encL intF x.2.1) c1) x.2.2.1 x.2.2.2.1 (.sl (encL intF x.2.2.2.2) c2)
def resT:SRes→T5
 | .placed S k=>(1,S,k,0,[])
 | .undecided k=>(3,[],k,19,[])
 | .full k=>(2,[],k,13,[])
theorem fSRes_T (r:SRes):∃ c1 c2,fSRes r=fP5 (resT r) c1 c2:=by
 cases r with
 | placed S k=>exact ⟨.un,.nil,rfl⟩
 | undecided k=>exact ⟨.nil,.nil,rfl⟩
 | full k=>exact ⟨.nil,.nil,rfl⟩
def plcT (d:PrgD) (c:ChipD) (b:Int) (cr:List Int):T5 :=
 if (prgCheckW d).1=0 then (if chipCheck c=0 then (if b < 0 then (2,[],0,2,[]) else match (List.range (jobM d c).units.length).find? fun i=>!fits1 (jobM d c) i with
  | some i=>(2,[],0,18,[(i:Int)])
  | none=>if (earE (jobM d c).deps (jobM d c).deps.length).any (fun s=>decide ((jobM d c).chip.stages≤s)) then (2,[],0,17,cr) else resT (srchM (jobM d c) (min b 1048576).toNat 0 0 0 (List.replicate (jobM d c).units.length 0))) else (2,[],0,chipCheck c,[])) else (2,[],0,(prgCheckW d).1,[])
theorem plcF_T (d:PrgD) (c:ChipD) (b:Int) (cr:List Int) (cc:Cap):∃ c1 c2,plcF d c b cr cc=fP5 (plcT d c b cr) c1 c2:=by
 unfold plcF plcT plcJ
 by_cases h1:(prgCheckW d).1=0
 case neg=>simp only [if_neg h1]; exact ⟨.nil,.nil,rfl⟩
 simp only [if_pos h1]
 by_cases h2:chipCheck c=0
 case neg=>simp only [if_neg h2]; exact ⟨.nil,.nil,rfl⟩
 simp only [if_pos h2]
 by_cases h3:b < 0
 ·simp only [if_pos h3]; exact ⟨.nil,.nil,rfl⟩
 simp only [if_neg h3]
 cases (List.range (jobM d c).units.length).find? fun i=>!fits1 (jobM d c) i with
 | some i=>exact ⟨.nil,.full,rfl⟩
 | none =>
  simp only
  cases (earE (jobM d c).deps (jobM d c).deps.length).any (fun s=>decide ((jobM d c).chip.stages≤s)) with
  | true=>exact ⟨.nil,cc,rfl⟩
  | false=>exact fSRes_T _
def stgR (n k:Nat):List Int:=(List.range n).map fun q=>if q < k then -1 else 0
@[simp] theorem stgR_len (n k:Nat):(stgR n k).length=n:=by simp [stgR]
theorem stgR_zero (n:Nat):List.replicate n (0:Int)=stgR n 0:=by
 have:List.replicate n (0:Int)=(List.range n).map fun _=>0:=by simp [List.map_const']
 rw [this]
 exact List.map_congr_left fun b _=>(if_neg (Nat.not_lt_zero b)).symm
theorem srch_len (j:JobD) (B u s k:Nat) (S:List Int):∀ S' k',srchM j B u s k S=.placed S' k'→S'.length=S.length:=by
 fun_induction srchM j B u s k S
 all_goals intro S' k' h
 all_goals first
  | (cases h; rfl)
  | (cases h; done)
  | (rename_i ih; exact ih S' k' h)
  | (rename_i ih; have:=ih S' k' h; simpa using this)
theorem plcT_len (d:PrgD) (c:ChipD) (b:Int) (cr:List Int) {m:Nat} (hm:1≤m) (h1:(jobM d c).units.length≤m) (h2:cr.length≤m):(plcT d c b cr).2.1.length≤m∧(plcT d c b cr).2.2.2.2.length≤m:=by
 unfold plcT
 split
 ·split
  ·split
   ·exact ⟨Nat.zero_le _,Nat.zero_le _⟩
   ·split
    ·exact ⟨Nat.zero_le _,hm⟩
    ·split
     ·exact ⟨Nat.zero_le _,h2⟩
     ·cases hr:srchM (jobM d c) (min b 1048576).toNat 0 0 0 (List.replicate (jobM d c).units.length 0) with
      | placed S k =>
       have:=srch_len _ _ _ _ _ _ _ _ hr
       rw [List.length_replicate] at this
       exact ⟨by show S.length≤m; omega,Nat.zero_le _⟩
      | undecided k=>exact ⟨Nat.zero_le _,Nat.zero_le _⟩
      | full k=>exact ⟨Nat.zero_le _,Nat.zero_le _⟩
  ·exact ⟨Nat.zero_le _,Nat.zero_le _⟩
 ·exact ⟨Nat.zero_le _,Nat.zero_le _⟩
theorem sameM_self (x:T5):sameM x x=true:=by simp [sameM]
theorem searches_g (haw:Gives Tryz.prog 7 [] (boolF true)) (d:PrgD) (c:ChipD) (b:Int) (hU:PrgU d) (hN:PrgN d) :
  Gives Tryz.prog 3 [fPrg d,fChip c,intF b] (boolF true):=by
 obtain ⟨q,hb⟩:=small22_g d hU.ok.nod hU.cond
 have hl:=bld_few hU
 have hju:(jobM d c).units.length=(bldM d).length:=rfl
 have hDl:(jobM d c).deps.length=(bldM d).length:=by simp [jobM,depsM]
 have g2:=place_g d c (min b 2000) _ _ hU (fun c3=>crit_g (jobM d c).deps c3 (by omega))
 have g4:=rplace_g d c (min b 2000) hU hN
 have hcl:=out_len (folAll (jobM d c).deps (jobM d c).deps.length) (jobM d c).deps.length (jobM d c).deps.length
 rw [out_walk (fol_ok _ _) (by omega)] at hcl
 obtain ⟨l1,l2⟩:=plcT_len d c (min b 2000) (critL (folAll (jobM d c).deps (jobM d c).deps.length) (jobM d c).deps.length) (m:=24) (by decide) (by omega) (by omega)
 obtain ⟨q1,q2,e2⟩:=plcF_T d c (min b 2000) (critL (folAll (jobM d c).deps (jobM d c).deps.length) (jobM d c).deps.length) (critC (jobM d c).deps.length)
 obtain ⟨q3,q4,e4⟩:=plcF_T d c (min b 2000) (critL (folAll (jobM d c).deps (jobM d c).deps.length) (jobM d c).deps.length) .un
 rw [e2] at g2
 rw [e4] at g4
 clear e2 e4 hcl
 generalize plcT d c (min b 2000) (critL (folAll (jobM d c).deps (jobM d c).deps.length) (jobM d c).deps.length)=T at *
 have gs:=same_g T.1 T.1 T.2.2.1 T.2.2.1 T.2.2.2.1 T.2.2.2.1 T.2.1 T.2.1 T.2.2.2.2 T.2.2.2.2 q1 q2 q3 q4 (by omega) (by omega)
 have hs:sameM (T.1,T.2.1,T.2.2.1,T.2.2.2.1,T.2.2.2.2) (T.1,T.2.1,T.2.2.1,T.2.2.2.1,T.2.2.2.2)=true:=sameM_self T
 rw [hs] at gs
 refine Gives.of mixed Tryz.func3 rfl rfl rfl (by kernel_rfl) ?_
 simp [fPrg,cPrg]
 refine call_g hb ?_
 cases q with
 | false =>
  simp
  refine call_g haw ?_
  simp
 | true =>
 simp
 rw [ops_min (q:=.i64) (a:=b) (b:=2000) rfl rfl]
 simp
 refine call_g (chip_g c) ?_
 simp
 refine call_g (rchip_g c) ?_
 simp
 refine call_g g2 ?_
 simp [fP5]
 refine call_g g4 ?_
 simp [fP5]
 refine call_g gs ?_
 simp
 refine call_g haw ?_
 simp
end Go.Proofs.YtafenffmgpcjcaaGreat
