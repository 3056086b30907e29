/- Texts of the proof: ES18. -/
import Derived.Test.YtafenffmgpcjcaaGreatES15
import Derived.Test.YtafenffmgpcjcaaGreatES17
import Derived.Test.YtafenffmgpcjcaaGreatEVC1
import Derived.Test.YtafenffmgpcjcaaGreatES0
import Derived.Test.YtafenffmgpcjcaaGreatES16
namespace Go.Proofs.YtafenffmgpcjcaaGreat
open Go.RowKit Go.Proofs.YtafenffmgpcjcaaGreat.Vf
set_option linter.unusedVariables false
set_option linter.unusedSimpArgs false
set_option maxRecDepth 100000
set_option maxHeartbeats 4000000
def bstA (B : Nat→List Int) (lo n : Nat) : List AV:=(List.range n).map fun q=>if lo ≤ q then .f (.sl (encL intF (B q)) .un) else .f (.sl [] .nil)
@[simp] theorem bstA_len {B : Nat→List Int} {lo n : Nat} : (bstA B lo n).length = n:=by simp [bstA]
theorem bstA_at {B : Nat→List Int} {lo n q : Nat} (h1 : lo ≤ q) (h2 : q < n) : ((bstA B lo n).drop q).head? = some (.f (.sl (encL intF (B q)) .un)):=by
 rw [List.head?_drop]; simp [bstA,h1,h2]
theorem bstA_top (B : Nat→List Int) (n : Nat) : bstA B n n = List.replicate n (.f (.sl [] .nil)):=by
 have : List.replicate n (AV.f (.sl [] .nil)) = (List.range n).map fun _=>AV.f (.sl [] .nil):=by simp [List.map_const']
 rw [this]
 exact List.map_congr_left fun b hb=>if_neg (by have:=List.mem_range.1 hb; omega)
theorem bstA_set {B : Nat→List Int} {i n : Nat} (l : List Int) (hi : i < n) : (bstA B (i + 1) n).set i (.f (.sl (encL intF l) .un)) = bstA (fun q=>if q = i then l else B q) i n:=by
 unfold bstA
 rw [map_set_range]
 refine List.map_congr_left fun b _=>?_
 dsimp only
 by_cases e : b = i
 ·subst e; rw [if_pos rfl,if_pos (Nat.le_refl _),if_pos rfl]
 ·rw [if_neg e,if_neg e]
  by_cases h : i + 1 ≤ b
  ·rw [if_pos h,if_pos (by omega)]
  ·rw [if_neg h,if_neg (by omega)]
theorem make_ll {h : List (List AV)} {k : List (Nat × Nat)} {i n : Nat} (B : Nat→List Int) (hn : n < 2^32) : opMake (tyOf Tryz.prog) h k 58 (isZero (.tmp i)) (.f (.sc (.int .i64 n))) (.f (.sc (.int .i64 n))) = some (.ms h.length 0 n n 1,h ++ [bstA B n n],k):=by
 simp only [opMake,idx,isZero,ty58,Int.natCast_nonneg,if_true,Int.toNat_natCast]
 simp only [ty29]
 rw [if_neg (by simp; omega),if_neg (by simp)]
 simp [AV.one,zrow_rep,bstA_top]
theorem app_list {k : List (Nat × Nat)} {T : List Int} {i : Int} (hT : T.length ≤ 100000) : ∃ x k',opAppend (tyOf Tryz.prog) k 29 (.f (.sl [.sc (.int .i64 i)] .full)) (.f (.sl (encL intF T) .un)) = some (x,k') ∧
  x.cells = [x]∧x.one = true∧∀ (w : World) (L : Lk) (k : List (Nat × Nat)) (v : Value),RepA w L k x v→RepA w L k (.f (.sl (encL intF (i :: T)) .un)) v:=by
 cases T with
 | nil =>
  refine ⟨.f (.sl [.sc (.int .i64 i)] .full),k,?_,rfl,rfl,weak_un⟩
  unfold opAppend
  simp only [ty29,ty3,elems]
  simp [encL]
 | cons y T =>
  have hall : (encL intF (y :: T)).all (fun u=>u.cells.length == 1) = true:=List.all_eq_true.2 fun u hu=>by
   obtain ⟨z,_,rfl⟩:=List.mem_map.1 hu
   rfl
  have hl : (encL intF (y :: T)).length = T.length + 1:=by simp
  refine ⟨.own (encL intF (i :: y :: T)) k.length,k ++ [([FV.sc (.int .i64 i)].length + (encL intF (y :: T)).length,1)],?_,rfl,rfl,fun w L k v h=>by cases h with | own l t b o cap h=>exact .f _ _ h⟩
  have he : [FV.sc (.int .i64 i)] ++ encL intF (y :: T) = encL intF (i :: y :: T):=rfl
  unfold opAppend
  simp only [ty29,ty3,elems]
  rw [if_neg (by decide),if_pos hall,if_neg (by simp [encL]),if_pos ⟨by decide,by rfl,by simp at hT ⊢; omega,by simp at hT ⊢; omega⟩,he]
theorem store_one {T : TV} {ty : TypeId} {e : Ty} (ht : T ty = some e) (hs : e.size = 1) {h : List (List AV)} {b off : Nat} {cs : List AV} (hb : ix h b = some cs) (hj : off + 1 ≤ cs.length) {x : AV} (hc : x.cells = [x]) (h1 : x.one = true) :
  opStore T h ty (.ref b off) x = some (h.set b (cs.set off x)):=by
 unfold opStore
 simp only [ht,hb,hs,hc]
 exact if_pos ⟨rfl,hj,by rw [List.all_cons,h1]; rfl⟩
theorem tailM_low (A : List (List Bool)) (i : Nat) (B : Nat→List Int) : ∀ j,j ≤ i + 1→tailM A i B j = []
 | 0,_=>rfl
 | j + 1,h=>by rw [tailM,if_neg (by omega)]; exact tailM_low A i B j (by omega)
theorem tail_len (A : List (List Bool)) (i : Nat) {B : Nat→List Int} {m : Nat} (hB : ∀ q,(B q).length ≤ m) : ∀ j,(tailM A i B j).length ≤ m
 | 0=>Nat.zero_le _
 | j + 1=>by rw [tailM]; split; exact hB j; exact tail_len A i hB j
theorem best_len (A : List (List Bool)) (n : Nat) : ∀ k q,(bestM A n k q).length ≤ k
 | 0,_=>Nat.le_refl _
 | k + 1,q=>by
  rw [bestM]
  show (if q = n - 1 - k then _ else _ : List Int).length ≤ _
  split
  ·have:=tail_len A (n - 1 - k) (best_len A n k) n
   simp only [List.length_cons]
   omega
  ·exact Nat.le_succ_of_le (best_len A n k q)
theorem out_len (A : List (List Bool)) (n : Nat) : ∀ k,(outM A n k).length ≤ k
 | 0=>Nat.le_refl _
 | k + 1=>by
  rw [outM]; split
  ·exact best_len A n (k + 1) _
  ·exact Nat.le_succ_of_le (out_len A n k)
def rcpI (D : List (List Int)) (c : Cap) (n k : Nat) (s : St) : Prop:=∃ (x : Int) (kk : List (Nat × Nat)),x = (n : Int) - 1 - k ∧
 Vf.Sl [(0,.f (.sl (encL rowF D) c)),(3,.ms 0 0 n n 1),(4,.f (.sl (encL intF (outM (folAll D n) n k)) .un)),(5,.f (intF x))] 86 [bstA (bestM (folAll D n) n k) (n - k) n] kk s
def rcpJ (D : List (List Int)) (c : Cap) (n i : Nat) (O : List Int) (B : Nat→List Int) (kk : List (Nat × Nat)) (q : Nat) (s : St) : Prop:=∃ j,j = i + 1 + q ∧
 Vf.Sl [(0,.f (.sl (encL rowF D) c)),(3,.ms 0 0 n n 1),(4,.f (.sl (encL intF O) .un)),(5,.f (intF i)),(6,.f (browF (folRow D n i))),(7,.f (.sl (encL intF (tailM (folAll D n) i B j)) .un)),(8,.f (intF j))] 86 [bstA B (i + 1) n] kk s
theorem rcritical_g (D : List (List Int)) (c : Cap) (n : Nat) (hd : D.length = n) (hn : n ≤ 1000) : Gives Tryz.prog 21 [.sl (encL rowF D) c] (.sl (encL intF (critL (folAll D n) n)) .un):=by
 refine Gives.ofW Tryz.func21 rfl rfl rfl (by decide) ?_
 have hmk : n < 2^32:=by omega
 rw [← out_walk (fol_ok D n) hn]
 have hw0:=wrap64 (x:=(n : Int) - 1) (by omega) (by omega)
 refine W.two (W.x mixed (by kernel_rfl) ?_)
 simp
 refine W.two (W.x mixed (by kernel_rfl) ?_)
 simp [hd,make_ll (bestM (folAll D n) n 0) hmk]
 refine W.two (W.x mixed (by kernel_rfl) ?_)
 simp
 refine W.two (W.two (W.x mixed (by kernel_rfl) ?_))
 simp [hd,hw0]
 refine weakT_W (d:=4) rfl weak_un ?_
 refine W.blk (forW n (rcpI D c n) ⟨_,_,by omega,Sl.of rfl rfl rfl⟩ ?_)
 rintro k ⟨ts,hh,kk⟩ hk ⟨x,k2,hx,rfl,rfl,ff,rfl⟩
 refine W.two (W.x mixed (by kernel_rfl) ?_)
 by_cases hkn : k < n
 case neg =>
  obtain rfl : k = n:=by omega
  obtain rfl : x = -1:=by omega
  simp
  refine W.x mixed (by kernel_rfl) ?_
  simp
 obtain ⟨i,hi⟩ : ∃ i,i = n - 1 - k:=⟨_,rfl⟩
 obtain rfl : x = (i : Int):=by omega
 have hin : i < n:=by omega
 obtain ⟨j0,hj0⟩ : ∃ j0,j0 = i + 1:=⟨_,rfl⟩
 have hw1 : IntKind.i64.wrap ((i : Int) + 1) = (j0 : Int):=by subst hj0; exact wrap64 (by omega) (by omega)
 have hwm:=wrap64 (x:=(i : Int) - 1) (by omega) (by omega)
 have hlo : n - k = i + 1:=by omega
 have hbl:=best_len (folAll D n) n k
 have hnext : bestM (folAll D n) n (k + 1) = fun q=>if q = i then (i : Int) :: tailM (folAll D n) i (bestM (folAll D n) n k) n else bestM (folAll D n) n k q:=by rw [bestM,← hi]
 have hout : outM (folAll D n) n (k + 1) = if (outM (folAll D n) n k).length ≤ (bestM (folAll D n) n (k + 1) i).length then bestM (folAll D n) n (k + 1) i else outM (folAll D n) n k:=by rw [outM,← hi]
 have hol:=out_len (folAll D n) n k
 rw [hlo]
 generalize bestM (folAll D n) n k = B at *
 generalize outM (folAll D n) n k = O at *
 simp
 refine W.two (W.blk (W.two (W.x mixed (by kernel_rfl) ?_)))
 simp
 refine call_g (rfollows_g D c n i hd hn hin) ?_
 simp
 refine W.two (W.x mixed (by kernel_rfl) ?_)
 simp
 refine weakT_W (d:=7) rfl weak_un ?_
 refine W.two (W.two (W.x mixed (by kernel_rfl) ?_))
 simp [hw1]
 have ht0:=tailM_low (folAll D n) i B j0 (by omega)
 refine W.blk (forX mixed (n - (i + 1)) (rcpJ D c n i O B kk) (by kernel_rfl) ⟨j0,by omega,by rw [ht0]; exact Sl.of rfl rfl rfl⟩ ?_)
 clear ht0
 rintro q ⟨ts,hh,k3⟩ hq ⟨j,hj,rfl,rfl,f2,rfl⟩
 have htl:=tail_len (folAll D n) i hbl j
 by_cases hjn : j < n
 ·obtain ⟨j1,hj1⟩ : ∃ j1,j1 = j + 1:=⟨_,rfl⟩
  have hwj : IntKind.i64.wrap ((j : Int) + 1) = (j1 : Int):=by subst hj1; exact wrap64 (by omega) (by omega)
  have hq1 : q < n - (i + 1):=by omega
  have hrl : (folRow D n i).length = n:=by simp [folRow]
  obtain ⟨b,hb,hb'⟩:=nth_of (show j < (folRow D n i).length by omega)
  have haf : afterM (folAll D n) i j = b:=by
   rw [after_fol D hin hjn]
   simpa [folRow,hjn] using hb'
  have hT : tailM (folAll D n) i B j1 = if i < j∧b = true∧((tailM (folAll D n) i B j).length < (B j).length ∨ ((B j).length = (tailM (folAll D n) i B j).length∧smallM (B j) (tailM (folAll D n) i B j) = true)) then B j else tailM (folAll D n) i B j:=by rw [hj1,tailM,haf]
  have gB:=bstA_at (B:=B) (lo:=i + 1) (n:=n) (q:=j) (by omega) hjn
  have hBj:=hbl j
  have hij : i < j:=by omega
  generalize tailM (folAll D n) i B j = T at *
  cases b with
  | false =>
   rw [if_neg (by simp)] at hT
   simp [hd,hjn,hrl,hb,hwj]
   exact ⟨hq1,j1,by omega,by rw [hT]; exact Sl.of rfl rfl rfl⟩
  | true =>
  by_cases c1 : T.length < (B j).length
  ·rw [if_pos ⟨hij,rfl,.inl c1⟩] at hT
   simp [hd,hjn,hrl,hb,gB,c1,hwj]
   exact ⟨hq1,j1,by omega,by rw [hT]; exact Sl.of rfl rfl rfl⟩
  by_cases c2 : (B j).length = T.length
  ·have c2' : ((B j).length : Int) = T.length:=by omega
   simp [hd,hjn,hrl,hb,gB,c1,c2,c2']
   refine call_g (rsmaller_g (B j) T .un .un (by omega) (by omega)) ?_
   cases c3 : smallM (B j) T with
   | true =>
    rw [if_pos ⟨hij,rfl,.inr ⟨c2,c3⟩⟩] at hT
    simp [hjn,gB,hwj]
    exact ⟨hq1,j1,by omega,by rw [hT]; exact Sl.of rfl rfl rfl⟩
   | false =>
    rw [if_neg (by rintro ⟨_,_,g | g⟩; exact c1 g; rw [c3] at g; cases g.2)] at hT
    simp [hwj]
    exact ⟨hq1,j1,by omega,by rw [hT]; exact Sl.of rfl rfl rfl⟩
  ·have c2' : ¬ ((B j).length : Int) = T.length:=by omega
   rw [if_neg (by rintro ⟨_,_,g | g⟩; exact c1 g; exact c2 g.1)] at hT
   simp [hd,hjn,hrl,hb,gB,c1,c2,c2',hwj]
   exact ⟨hq1,j1,by omega,by rw [hT]; exact Sl.of rfl rfl rfl⟩
 obtain rfl : j = n:=by omega
 have hi1 : i + 1 ≤ j:=hin
 generalize hTT : tailM (folAll D j) i B j = T at *
 obtain ⟨x,k4,e1,e2,e3,e4⟩:=app_list (k:=k3) (T:=T) (i:=i) (by omega)
 simp [hd]
 refine W.two (W.x mixed (by kernel_rfl) ?_)
 simp [-opAppend]
 rw [e1]
 simp [hin,hi1,-opStore]
 rw [store_one ty29 rfl rfl (by simp; omega) e2 e3]
 simp
 have hcs : ((bstA B (i + 1) j).set i x)[i]? = some x:=List.getElem?_set_self (by simpa using hin)
 refine weakH_W (b:=0) (j:=i) (x:=x) (x':=.f (.sl (encL intF ((i : Int) :: T)) .un)) rfl hcs e4 ?_
 simp
 rw [bstA_set _ hin,← hnext]
 have hBi : bestM (folAll D j) j (k + 1) i = (i : Int) :: T:=by rw [hnext]; exact if_pos rfl
 rw [hBi] at hout
 have gC:=bstA_at (B:=bestM (folAll D j) j (k + 1)) (lo:=i) (n:=j) (q:=i) (Nat.le_refl _) hin
 rw [hBi] at gC
 refine W.two (W.x mixed (by kernel_rfl) ?_)
 by_cases c9 : O.length ≤ T.length + 1
 ·have c9' : (O.length : Int) ≤ (T.length : Int) + 1:=by omega
  rw [if_pos (by simpa using c9)] at hout
  simp [hin,gC,c9']
  refine W.x mixed (by kernel_rfl) ?_
  simp [hin,gC,c9']
  refine W.x mixed (by kernel_rfl) ?_
  simp [hwm]
  exact ⟨hkn,(i : Int) - 1,_,by omega,by rw [hout,show j - (k + 1) = i by omega]; exact Sl.of rfl rfl rfl⟩
 ·have c9' : ¬ (O.length : Int) ≤ (T.length : Int) + 1:=by omega
  rw [if_neg (by simpa using c9)] at hout
  simp [hin,gC,c9']
  refine W.x mixed (by kernel_rfl) ?_
  simp [hin,gC,c9']
  refine W.x mixed (by kernel_rfl) ?_
  simp [hwm]
  exact ⟨hkn,(i : Int) - 1,_,by omega,by rw [hout,show j - (k + 1) = i by omega]; exact Sl.of rfl rfl rfl⟩
theorem bld_few {d : PrgD} (hU : PrgU d) : (bldM d).length ≤ 24:=by
 unfold bldM
 by_cases h : (ctlCheckW d).2 = 0
 ·rw [if_pos h,(bldL_all _ _ _).1]; exact ctl_few hU h
 ·rw [if_neg h]; exact Nat.zero_le _
abbrev T5:=Int × List Int × Int × Int × List Int
def fP5 (x : T5) (c1 c2 : Cap) : FV:=fPlc x.1 (.sl (encL intF x.2.1) c1) x.2.2.1 x.2.2.2.1 (.sl (encL intF x.2.2.2.2) c2)
def resT : SRes→T5
 | .placed S k=>(1,S,k,0,[])
 | .undecided k=>(3,[],k,19,[])
 | .full k=>(2,[],k,13,[])
theorem fSRes_T (r : SRes) : ∃ c1 c2,fSRes r = fP5 (resT r) c1 c2:=by
 cases r with
 | placed S k=>exact ⟨.un,.nil,rfl⟩
 | undecided k=>exact ⟨.nil,.nil,rfl⟩
 | full k=>exact ⟨.nil,.nil,rfl⟩
def plcT (d : PrgD) (c : ChipD) (b : Int) (cr : List Int) : T5 :=
 if (prgCheckW d).1 = 0 then (if chipCheck c = 0 then (if b < 0 then (2,[],0,2,[]) else match (List.range (jobM d c).units.length).find? fun i=>!fits1 (jobM d c) i with
  | some i=>(2,[],0,18,[(i : Int)])
  | none=>if (earE (jobM d c).deps (jobM d c).deps.length).any (fun s=>decide ((jobM d c).chip.stages ≤ s)) then (2,[],0,17,cr) else resT (srchM (jobM d c) (min b 1048576).toNat 0 0 0 (List.replicate (jobM d c).units.length 0))) else (2,[],0,chipCheck c,[])) else (2,[],0,(prgCheckW d).1,[])
theorem plcF_T (d : PrgD) (c : ChipD) (b : Int) (cr : List Int) (cc : Cap) : ∃ c1 c2,plcF d c b cr cc = fP5 (plcT d c b cr) c1 c2:=by
 unfold plcF plcT plcJ
 by_cases h1 : (prgCheckW d).1 = 0
 case neg=>simp only [if_neg h1]; exact ⟨.nil,.nil,rfl⟩
 simp only [if_pos h1]
 by_cases h2 : chipCheck c = 0
 case neg=>simp only [if_neg h2]; exact ⟨.nil,.nil,rfl⟩
 simp only [if_pos h2]
 by_cases h3 : b < 0
 ·simp only [if_pos h3]; exact ⟨.nil,.nil,rfl⟩
 simp only [if_neg h3]
 cases (List.range (jobM d c).units.length).find? fun i=>!fits1 (jobM d c) i with
 | some i=>exact ⟨.nil,.full,rfl⟩
 | none =>
  simp only
  cases (earE (jobM d c).deps (jobM d c).deps.length).any (fun s=>decide ((jobM d c).chip.stages ≤ s)) with
  | true=>exact ⟨.nil,cc,rfl⟩
  | false=>exact fSRes_T _
theorem resT_why (r : SRes) : (resT r).2.2.2.1 ≠ 17∧(resT r).2.2.2.1 ≠ 18:=by cases r <;> exact ⟨by simp [resT],by simp [resT]⟩
theorem chipCheck_or (c : ChipD) : chipCheck c = 0 ∨ chipCheck c = 9:=by
 rw [chipCheck_in]
 split
 ·exact .inl rfl
 ·exact .inr rfl
theorem plcT_why (d : PrgD) (c : ChipD) (b : Int) (cr : List Int) : ((plcT d c b cr).2.2.2.1 ≠ 17∧(plcT d c b cr).2.2.2.1 ≠ 18) ∨ ((prgCheckW d).1 = 0∧chipCheck c = 0 ∧
  ((∃ i,i < (bldM d).length∧fits1 (jobM d c) i = false∧plcT d c b cr = (2,[],0,18,[(i : Int)])) ∨
   ((earE (jobM d c).deps (jobM d c).deps.length).any (fun s=>decide (c.stages ≤ s)) = true∧plcT d c b cr = (2,[],0,17,cr)))):=by
 unfold plcT
 by_cases h1 : (prgCheckW d).1 = 0
 case neg =>
  rw [if_neg h1]
  have:=prg_16 d
  exact .inl ⟨by simp only; omega,by simp only; omega⟩
 rw [if_pos h1]
 by_cases h2 : chipCheck c = 0
 case neg =>
  rw [if_neg h2]
  have:=chipCheck_or c
  exact .inl ⟨by simp only; omega,by simp only; omega⟩
 rw [if_pos h2]
 by_cases h3 : b < 0
 ·rw [if_pos h3]; exact .inl ⟨by decide,by decide⟩
 rw [if_neg h3]
 cases hf : (List.range (jobM d c).units.length).find? fun i=>!fits1 (jobM d c) i with
 | some i =>
  obtain ⟨g1,g2,_⟩:=find_range_least hf
  exact .inr ⟨h1,h2,.inl ⟨i,g1,by simpa using g2,rfl⟩⟩
 | none =>
  simp only
  split
  ·rename_i h; exact .inr ⟨h1,h2,.inr ⟨h,rfl⟩⟩
  ·exact .inl (resT_why _)
theorem chip_ge {c : ChipD} (h : chipCheck c = 0) : 0 ≤ c.tables∧0 ≤ c.gates∧0 ≤ c.sram∧0 ≤ c.tcam:=by
 rw [chipCheck_in] at h
 split at h
 ·rename_i g
  unfold inM at g
  simp only [Bool.and_eq_true,decide_eq_true_eq] at g
  omega
 ·cases h
theorem one_cost {co : Int × Int} (h : (0 ≤ co.1∧co.1 ≤ 100000000)∧(0 ≤ co.2∧co.2 ≤ 100000000)) : sumR [(0,0),co] = co:=by
 rw [sumR_two ⟨by simp,by simp⟩,sumStep_eq,satAdd_min,satAdd_min,if_neg (by simp only; omega),if_neg (by simp only; omega)]
 refine Prod.ext ?_ ?_ <;> simp only <;> omega
theorem us_one (d : PrgD) (u : UnitD) : usAdd ⟨0,0,(0,0)⟩ u (unitCost d u) = ⟨if u.table < 0 then 0 else 1,if u.table < 0 then 1 else 0,unitCost d u⟩:=by
 unfold usAdd
 rw [one_cost (unitCost_bd d u)]
 have h1 : IntKind.i64.wrap (0 + 1) = 1:=wrap64 (by omega) (by omega)
 simp only [h1]
theorem gate_cost (d : PrgD) (u : UnitD) (h : u.table < 0) : unitCost d u = (0,0):=by
 unfold unitCost
 split
 ·rfl
 ·unfold tblCost
  split
  ·have : tblOf d u.table = none:=by unfold tblOf; rw [if_pos h]
   rw [this]
  ·rfl
theorem mem_cause {d : PrgD} {c : ChipD} (hc : chipCheck c = 0) {i : Nat} {u : UnitD} (hu : (bldM d)[i]? = some u) (hf : fits1 (jobM d c) i = false) :
  (u.table < 0∧c.gates = 0) ∨ (¬ u.table < 0∧(c.tables = 0 ∨ c.sram < (unitCost d u).1 ∨ c.tcam < (unitCost d u).2)):=by
 have hge:=chip_ge hc
 have h1 : (jobM d c).units[i]? = some u:=hu
 have h2 : (jobM d c).costs[i]? = some (unitCost d u):=by
  show ((bldM d).map (unitCost d))[i]? = _
  rw [List.getElem?_map,hu]; rfl
 unfold fits1 at hf
 rw [h1,h2] at hf
 simp only at hf
 rw [us_one] at hf
 have hj : (jobM d c).chip = c:=rfl
 rw [hj] at hf
 unfold withinM at hf
 by_cases g : u.table < 0
 ·rw [gate_cost d u g] at hf
  simp only [if_pos g] at hf
  refine .inl ⟨g,?_⟩
  by_cases e : c.gates = 0
  ·exact e
  ·rw [decide_eq_true (show (0 : Int) ≤ c.tables by omega),decide_eq_true (show (1 : Int) ≤ c.gates by omega),decide_eq_true (show (0 : Int) ≤ c.sram by omega),decide_eq_true (show (0 : Int) ≤ c.tcam by omega)] at hf
   cases hf
 ·simp only [if_neg g] at hf
  refine .inr ⟨g,?_⟩
  by_cases e : c.tables = 0 ∨ c.sram < (unitCost d u).1 ∨ c.tcam < (unitCost d u).2
  ·exact e
  ·rw [decide_eq_true (show (1 : Int) ≤ c.tables by omega),decide_eq_true (show (0 : Int) ≤ c.gates by omega),decide_eq_true (show (unitCost d u).1 ≤ c.sram by omega),decide_eq_true (show (unitCost d u).2 ≤ c.tcam by omega)] at hf
   cases hf
def stgR (n k : Nat) : List Int:=(List.range n).map fun q=>if q < k then -1 else 0
@[simp] theorem stgR_len (n k : Nat) : (stgR n k).length = n:=by simp [stgR]
theorem stgR_zero (n : Nat) : List.replicate n (0 : Int) = stgR n 0:=by
 have : List.replicate n (0 : Int) = (List.range n).map fun _=>0:=by simp [List.map_const']
 rw [this]
 exact List.map_congr_left fun b _=>(if_neg (Nat.not_lt_zero b)).symm
theorem stgR_set {n k : Nat} (hk : k < n) : (stgR n k).set k (-1) = stgR n (k + 1):=by
 unfold stgR
 rw [map_set_range]
 refine List.map_congr_left fun b _=>?_
 by_cases e : b = k
 ·subst e; rw [if_pos rfl,if_pos (Nat.lt_succ_self _)]
 ·rw [if_neg e]
  by_cases h : b < k
  ·rw [if_pos h,if_pos (by omega)]
  ·rw [if_neg h,if_neg (by omega)]
theorem us_alone (d : PrgD) (c : ChipD) {i : Nat} {u : UnitD} (hu : (bldM d)[i]? = some u) : ∀ k,k ≤ (bldM d).length →
  usTo (jobM d c) ((stgR (bldM d).length (bldM d).length).set i 0) 0 k = if i < k then usAdd ⟨0,0,(0,0)⟩ u (unitCost d u) else ⟨0,0,(0,0)⟩:=by
 intro k
 induction k with
 | zero=>intro _; rfl
 | succ k ih =>
  intro hk
  have ih:=ih (by omega)
  obtain ⟨v,_,hv⟩:=nth_of (show k < (bldM d).length by omega)
  have h1 : (jobM d c).units[k]? = some v:=hv
  have h2 : (jobM d c).costs[k]? = some (unitCost d v):=by
   show ((bldM d).map (unitCost d))[k]? = _
   rw [List.getElem?_map,hv]; rfl
  have h3 : ((stgR (bldM d).length (bldM d).length).set i 0)[k]? = some (if k = i then 0 else -1):=by
   by_cases e : k = i
   ·subst e
    rw [if_pos rfl]
    exact List.getElem?_set_self (by simp; omega)
   ·rw [if_neg e,List.getElem?_set_ne (fun h=>e h.symm)]
    have hk' : k < (bldM d).length:=hk
    simp [stgR,hk']
  rw [usTo,h1,h2,h3]
  simp only
  by_cases e : k = i
  ·subst e
   rw [hu] at hv
   obtain rfl:=Option.some.inj hv
   rw [if_pos rfl,if_pos rfl,ih,if_neg (Nat.lt_irrefl _),if_pos (Nat.lt_succ_self _)]
  ·rw [if_neg e,if_neg (by decide),ih]
   by_cases h : i < k
   ·rw [if_pos h,if_pos (by omega)]
   ·rw [if_neg h,if_neg (by omega)]
theorem use_alone {d : PrgD} (hd : (prgCheckW d).1 = 0) {i : Nat} {u : UnitD} (hu : (bldM d)[i]? = some u) : (useM d ((stgR (bldM d).length (bldM d).length).set i 0) 0).cost = unitCost d u:=by
 have hi:=(List.getElem?_eq_some_iff.1 hu).1
 have hl : ((stgR (bldM d).length (bldM d).length).set i 0).length = (bldM d).length:=by simp
 unfold useM
 rw [if_pos ⟨hd,hl⟩,hl,us_alone d chip0 hu _ (Nat.le_refl _),if_pos hi,us_one]
def exlI (d : PrgD) (c : ChipD) (q1 q2 c1 : Cap) (us : List UnitD) (u : UnitD) (i k : Nat) (s : St) : Prop :=
 Vf.Sl [(2,.ref 0 0),(3,.ref 1 0),(5,.ref 2 0),(6,.f (.sl (encL fUnit us) c1)),(8,.ms 4 0 us.length us.length 1),(9,.f (intF k))] 130 [aPrg d,(cChip c).map .f,[.f (intF 2),.f (.sl [] q1),.f (intF 0),.f (intF 18),.f (.sl (encL intF [(i : Int)]) q2)],cUnitA u,rowA (stgR us.length k)] [] s
theorem explains_g (haw : Gives Tryz.prog 7 [] (boolF true)) (d : PrgD) (c : ChipD) (hU : PrgU d) (hN : PrgN d) :
  Gives Tryz.prog 5 [fPrg d,fChip c] (boolF true):=by
 obtain ⟨b,hb⟩:=small22_g d hU.ok.nod hU.cond
 have hl:=bld_few hU
 have hDl : (jobM d c).deps.length = (bldM d).length:=by simp [jobM,depsM]
 have g2:=place_g d c 2000 _ _ hU (fun c3=>crit_g (jobM d c).deps c3 (by omega))
 have hwhy:=plcT_why d c 2000 (critL (folAll (jobM d c).deps (jobM d c).deps.length) (jobM d c).deps.length)
 obtain ⟨q1,q2,e2⟩:=plcF_T d c 2000 (critL (folAll (jobM d c).deps (jobM d c).deps.length) (jobM d c).deps.length) (critC (jobM d c).deps.length)
 rw [e2] at g2
 clear e2
 have g3:=runits_g d hU
 obtain ⟨c1,e3⟩:=ownF_cap (encL fUnit (bldM d))
 rw [e3] at g3
 clear e3
 have hT : ∃ T,T = plcT d c 2000 (critL (folAll (jobM d c).deps (jobM d c).deps.length) (jobM d c).deps.length):=⟨_,rfl⟩
 obtain ⟨T,hT⟩:=hT
 rw [← hT] at g2 hwhy
 clear hT
 refine Gives.ofW Tryz.func5 rfl rfl rfl (by decide) ?_
 refine W.two (W.x mixed (by kernel_rfl) ?_)
 simp [fPrg,cPrg]
 refine W.two (W.two (W.x mixed (by kernel_rfl) ?_))
 simp [aPrg]
 refine call_g hb ?_
 cases b with
 | false =>
  simp
  refine W.x mixed (by kernel_rfl) ?_
  simp
  refine call_g haw ?_
  simp
 | true =>
 simp
 refine W.x mixed (by kernel_rfl) ?_
 simp
 refine W.two (W.x mixed (by kernel_rfl) ?_)
 simp
 refine call_g g2 ?_
 simp [fP5]
 refine W.two (W.x mixed (by kernel_rfl) ?_)
 simp
 refine call_g g3 ?_
 simp
 rcases hwhy with ⟨n17,n18⟩ | ⟨h1,h2,⟨i,hi,hf,rfl⟩ | ⟨he,rfl⟩⟩
 ·refine W.two (W.two (W.x mixed (by kernel_rfl) ?_))
  simp
  refine W.blk (W.two (W.x mixed (by kernel_rfl) ?_))
  simp [n18]
  refine W.x mixed (by kernel_rfl) ?_
  simp [n17]
  refine W.x mixed (by kernel_rfl) ?_
  simp
  refine call_g haw ?_
  simp
 ·have hC:=prgC_of h1
  obtain ⟨u,hu,hu'⟩:=nth_of hi
  have hcause:=mem_cause h2 hu' hf
  have hmk : (bldM d).length < 2^32:=by omega
  have hi' : ¬ (bldM d).length ≤ i:=by omega
  refine W.two (W.two (W.x mixed (by kernel_rfl) ?_))
  simp
  refine W.blk (W.two (W.x mixed (by kernel_rfl) ?_))
  simp
  refine W.cond (q:=true) (by simp) ?_
  simp only [if_true]
  have hn0 : nth [(i : Int)] 0 = some (i : Int):=rfl
  refine W.two (W.two (W.x mixed (by kernel_rfl) ?_))
  have hng : ¬ ((i : Int) < 0):=by omega
  simp [hi,hi',hn0,hng]
  refine W.x mixed (by kernel_rfl) ?_
  simp
  refine W.two (W.x mixed (by kernel_rfl) ?_)
  simp [hi,hu,hn0]
  refine W.two (W.two (W.x mixed (by kernel_rfl) ?_))
  simp
  rcases hcause with ⟨ht,hg⟩ | ⟨ht,hg⟩
  ·simp [ht]
   refine W.x mixed (by kernel_rfl) ?_
   simp [hg]
   refine call_g haw ?_
   simp
  simp [ht]
  refine W.x mixed (by kernel_rfl) ?_
  simp
  refine W.two (W.x mixed (by kernel_rfl) ?_)
  simp [make_i hmk]
  refine W.two (W.two (W.x mixed (by kernel_rfl) ?_))
  simp
  rw [stgR_zero]
  refine W.blk (forX mixed (bldM d).length (exlI d c q1 q2 c1 (bldM d) u i) (by kernel_rfl) (Sl.of rfl rfl rfl) ?_)
  rintro k ⟨ts,hh,kk⟩ hk ⟨rfl,rfl,f,rfl⟩
  by_cases hkn : k < (bldM d).length
  ·have hw:=wrap64 (x:=(k : Int) + 1) (by omega) (by omega)
   have hk1 : k + 1 ≤ (bldM d).length:=hkn
   simp [hkn,hk1,hw,stgR_set hkn]
   exact Sl.of rfl rfl rfl
  obtain rfl : k = (bldM d).length:=by omega
  have hi1 : i + 1 ≤ (bldM d).length:=hi
  simp
  refine W.two (W.x mixed (by kernel_rfl) ?_)
  simp [hi,hi1,hn0]
  have huse:=use_alone h1 hu'
  have hsl : ((stgR (bldM d).length (bldM d).length).set i 0).length = (bldM d).length:=by simp
  have gu:=useP_g d ((stgR (bldM d).length (bldM d).length).set i 0) .un 0 hU (by rw [hsl]; unfold maxLen; omega)
  generalize (stgR (bldM d).length (bldM d).length).set i 0 = S at *
  generalize useM d S 0 = us at *
  obtain ⟨us1,us2,us3,us4⟩:=us
  have huse : (us3,us4) = unitCost d u:=huse
  rw [← huse] at hg
  simp only at hg
  refine frzM_W (d:=8) (b:=4) (fs:=encL intF S) rfl (by simp [rowA,encL]) (by simpa using hsl) (fun x hx=>?_) ?_
  ·obtain ⟨y,_,rfl⟩:=List.mem_map.1 hx
   rfl
  simp
  refine W.two (W.x mixed (by kernel_rfl) ?_)
  simp [aPrg]
  refine call_g gu ?_
  simp [fUse]
  refine W.x mixed (by kernel_rfl) ?_
  by_cases g1 : c.tables = 0
  ·simp [g1]
   refine call_g haw ?_
   simp
  by_cases g2 : c.sram < us3
  ·simp [g1,g2]
   refine call_g haw ?_
   simp
  have g3 : c.tcam < us4:=by rcases hg with h | h | h; exact absurd h g1; exact absurd h g2; exact h
  simp [g1,g2,g3]
  refine call_g haw ?_
  simp
 ·have hC:=prgC_of h1
  have hju : (jobM d c).units.length = (bldM d).length:=rfl
  have hmem : ∀ {u : UnitD},u ∈ bldM d→u.cond.l.length ≤ 1000000∧u.guards.l.length ≤ 24:=fun h=>bldM_mem hU hC h
  have hD:=rdeps_g d hU.ok.nm hC (bldM d) c1 (by omega) (fun u hu=>by have:=(hmem hu).2; omega) (fun u hu=>(hmem hu).1) (fun u hu=>by have:=ruWr_len hC u; omega) (fun u hu=>by have:=ruRd_len hC u (hmem hu).1; omega)
  rw [depsR_same] at hD
  have hjd : depsM (rdF d (bldM d)) (wrF d (bldM d)) (bldM d) = (jobM d c).deps:=rfl
  rw [hjd] at hD
  obtain ⟨c3,e3⟩:=ownF_cap (encL rowF (jobM d c).deps)
  rw [e3] at hD
  have hcr:=rcritical_g (jobM d c).deps c3 (jobM d c).deps.length rfl (by omega)
  have hlong:=ear_crit (jobM d c).deps (by omega) he
  have hcl:=out_len (folAll (jobM d c).deps (jobM d c).deps.length) (jobM d c).deps.length (jobM d c).deps.length
  rw [out_walk (fol_ok _ _) (by omega)] at hcl
  generalize critL (folAll (jobM d c).deps (jobM d c).deps.length) (jobM d c).deps.length = cr at *
  have heq:=eqInts_g cr cr q2 .un (by omega)
  refine W.two (W.two (W.x mixed (by kernel_rfl) ?_))
  simp
  refine W.blk (W.two (W.x mixed (by kernel_rfl) ?_))
  simp
  refine W.x mixed (by kernel_rfl) ?_
  simp [aPrg]
  refine call_g hD ?_
  simp [hlong]
  refine call_g hcr ?_
  simp
  refine call_g heq ?_
  simp
  refine call_g haw ?_
  simp
end Go.Proofs.YtafenffmgpcjcaaGreat
