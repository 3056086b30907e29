/- Texts of the proof: S14. -/
import Derived.Test.YtafenffmgpcjcaaGreatS13
import Derived.Test.YtafenffmgpcjcaaGreatS9
import Derived.Test.YtafenffmgpcjcaaGreatS11
import Derived.Test.YtafenffmgpcjcaaGreatS12
import Derived.Test.YtafenffmgpcjcaaGreatVC1
namespace Go.Proofs.YtafenffmgpcjcaaGreat
open Go.RowKit Go.Proofs.YtafenffmgpcjcaaGreat.Vf
set_option linter.unusedVariables false
set_option linter.unusedSimpArgs false
set_option maxRecDepth 100000
set_option maxHeartbeats 4000000
theorem rowTo_in (Rd Wr : Nat→List Int) (us : List UnitD) (i : Nat) : List.replicate us.length 0 = rowTo Rd Wr us i (i + 1) i:=by
 apply List.ext_getElem
 ·simp [rowTo]
 ·intro b h1 h2
  simp only [rowTo,List.getElem_map,List.getElem_range,List.getElem_replicate]
  split
  ·rename_i h
   rw [depM,if_pos (by rcases h with h | ⟨_,h⟩ <;> omega)]
  ·rfl
theorem rowTo_set (Rd Wr : Nat→List Int) (us : List UnitD) {i j : Nat} (hj : j < us.length) : (rowTo Rd Wr us i j i).set j (depM Rd Wr us i j) = rowTo Rd Wr us i (j + 1) i:=by
 have:=congrFun (rowTo_put (Rd:=Rd) (Wr:=Wr) (us:=us) (i:=i) (j:=j) rfl hj) i
 simpa using this
theorem rowTo_all (Rd Wr : Nat→List Int) (us : List UnitD) {i : Nat} (hi : i < us.length) : (depsM Rd Wr us)[i]? = some (rowTo Rd Wr us i us.length i):=by
 unfold depsM
 rw [List.getElem?_map,List.getElem?_range hi]
 refine congrArg some (List.map_congr_left fun b hb=>?_)
 rw [if_pos (.inr ⟨rfl,List.mem_range.1 hb⟩)]
def rb1 (d : PrgD) (us : List UnitD) (cu : Cap) (D : List (List Int)) (i : Nat) (s : St) : Prop:=∃ g k x t,OwnT k (encL rowF (D.take i)) 1 x t ∧
 Vf.Sl [(1,.f (.sl (encL fUnit us) cu)),(2,.ref 0 0),(5,x),(6,.f (intF i))] 39 (aPrg d :: g) k s
def rb2 (d : PrgD) (us : List UnitD) (cu : Cap) (r : Nat→List Int) (i : Nat) (g : List (List AV)) (k : List (Nat × Nat)) (x : AV) (j : Nat) (s : St) : Prop:=∃ m,m = i + 1 + j ∧
 Vf.Sl [(1,.f (.sl (encL fUnit us) cu)),(2,.ref 0 0),(5,x),(6,.f (intF i)),(7,.ms (g.length + 1) 0 us.length us.length 1),(8,.f (intF m))] 39 (aPrg d :: (g ++ [rowA (r m)])) k s
theorem rdeps_g (d : PrgD) (hn : NmOk d) (hC : PrgC d) (us : List UnitD) (cu : Cap) (hl : us.length ≤ 100000) (hg : ∀ u ∈ us,u.guards.l.length < 2^62) (hc : ∀ u ∈ us,u.cond.l.length ≤ 1000000) (hw : ∀ u ∈ us,(ruWr d u).length < 2^62) (hr : ∀ u ∈ us,(ruRd d u).length < 2^62) :
  Gives Tryz.prog 19 [fPrg d,.sl (encL fUnit us) cu] (ownF (encL rowF (depsM (RdU d us) (WrU d us) us))):=by
 have hn2 : us.length < 2^32:=by omega
 have hDl : (depsM (RdU d us) (WrU d us) us).length = us.length:=by simp [depsM]
 refine Gives.ofW Tryz.func19 rfl rfl rfl (by decide) ?_
 refine W.two (W.x mixed (by kernel_rfl) ?_)
 simp [fPrg,cPrg]
 refine W.two (W.x mixed (by kernel_rfl) ?_)
 simp
 refine W.two (W.two (W.x mixed (by kernel_rfl) ?_))
 simp
 refine W.blk (forW us.length (rb1 d us cu (depsM (RdU d us) (WrU d us) us)) ⟨[],[],_,0,.nil,Sl.of rfl rfl rfl⟩ ?_)
 rintro i ⟨ts,hh,kk⟩ hi ⟨g,k,x,t,ho,rfl,rfl,ff,rfl⟩
 refine W.two (W.x mixed (by kernel_rfl) ?_)
 by_cases hlt : i < us.length
 case neg =>
  obtain rfl : i = us.length:=by omega
  rw [← hDl,List.take_length] at ho
  simp
  refine W.x mixed (by kernel_rfl) ?_
  simp
  rw [ho.ret]
 have hw1:=wrap64 (x:=(i : Int) + 1) (by omega) (by omega)
 simp [hlt]
 refine W.two (W.blk (W.two (W.x mixed (by kernel_rfl) ?_)))
 simp [make_i hn2]
 refine W.two (W.two (W.x mixed (by kernel_rfl) ?_))
 simp [hw1]
 rw [rowTo_in (RdU d us) (WrU d us) us i]
 refine W.blk (forW (us.length - (i + 1)) (rb2 d us cu (fun m=>rowTo (RdU d us) (WrU d us) us i m i) i g kk x) ⟨_,rfl,Sl.of rfl rfl rfl⟩ ?_)
 rintro jj ⟨ts,hh,kk⟩ hj ⟨j,hj',rfl,rfl,ff,rfl⟩
 refine W.two (W.x mixed (by kernel_rfl) ?_)
 by_cases hjl : j < us.length
 case neg =>
  obtain rfl : j = us.length:=by omega
  simp
  refine frzM_W (d:=7) (b:=g.length + 1) (fs:=encL intF (rowTo (RdU d us) (WrU d us) us i us.length i)) rfl (by simp [rowA,encL]) (by simp [rowTo]) (fun x hx=>?_) ?_
  ·obtain ⟨y,_,rfl⟩:=List.mem_map.1 hx
   rfl
  simp
  refine W.x mixed (by kernel_rfl) ?_
  simp [-opAppend]
  obtain ⟨t2,k2,e2,ho2,hk2,_⟩:=append_own ty58 ty29 (by simp) ho (y:=.f (.sl [rowF (rowTo (RdU d us) (WrU d us) us i us.length i)] .full)) rfl (by simp) (by simp) (by simp; omega) (by simp; omega)
  rw [e2]
  have hnx : encL rowF ((depsM (RdU d us) (WrU d us) us).take i) ++ [rowF (rowTo (RdU d us) (WrU d us) us i us.length i)] = encL rowF ((depsM (RdU d us) (WrU d us) us).take (i + 1)):=by
   rw [List.take_add_one,rowTo_all _ _ us hlt]
   simp [encL]
  rw [hnx] at ho2
  rw [hnx]
  simp
  refine W.x mixed (by kernel_rfl) ?_
  simp [hw1]
  exact ⟨_,_,_,t2,ho2,Sl.of rfl rfl rfl⟩
 obtain ⟨u,hu,hu'⟩:=nth_of hlt
 obtain ⟨v,hv,hv'⟩:=nth_of hjl
 have mu:=List.mem_of_getElem? hu'
 have mv:=List.mem_of_getElem? hv'
 have hw2:=wrap64 (x:=(j : Int) + 1) (by omega) (by omega)
 simp [hjl]
 refine W.two (W.blk (W.x mixed (by kernel_rfl) ?_))
 simp [aPrg]
 refine call_g (rdepend_g d hn hC us cu i j u v hu' hv' (by omega) hl (hg u mu) (hg v mv) (hc u mu) (hc v mv) (hw u mu) (hw v mv) (hr u mu) (hr v mv)) ?_
 have hrl:=rowTo_len (RdU d us) (WrU d us) us i j i
 have hj1 : j + 1 ≤ us.length:=hjl
 simp [hjl,hj1,hrl,rowTo_set _ _ us hjl]
 refine W.x mixed (by kernel_rfl) ?_
 simp [hw2]
 refine ⟨?_,j + 1,?_,Sl.of rfl rfl rfl⟩ <;> omega
def stIn (c : ChipD) (s : Int) : Bool:=decide (0 ≤ s) && decide (s < c.stages)
def fitsAt (j : JobD) (c : ChipD) (S : List Int) (s : Nat) : Bool:=withinM (usTo j S s S.length) c
def validM (d : PrgD) (c : ChipD) (S : List Int) : Bool:=decide ((prgCheckW d).1 = 0) && decide (chipCheck c = 0) && satM (jobM d c).deps S && !(S.any fun s=>!stIn c s) && !((List.range c.stages.toNat).any fun s=>!fitsAt (jobM d c) c S s)
theorem chip_few {c : ChipD} (h : chipCheck c = 0) : 1 ≤ c.stages∧c.stages ≤ 16:=by
 unfold chipCheck at h
 split at h
 ·cases h
 ·omega
def vlI (d : PrgD) (c : ChipD) (S : List Int) (J : FV) (cs : Cap) (i : Nat) (s : St) : Prop:=noneT (fun s=>!stIn c s) S i∧∃ g,Vf.Sl [(2,.f (.sl (encL intF S) cs)),(4,.ref 1 0),(7,.f J),(30,.f (.sl (encL intF S) cs)),(31,.f (intF S.length)),(32,.f (intF i))] 58 (aPrg d :: (cChip c).map .f :: g) [] s
def vlJ (d : PrgD) (c : ChipD) (S : List Int) (J : FV) (j : JobD) (cs : Cap) (i : Nat) (s : St) : Prop:=noneT (fun s=>!fitsAt j c S s) (List.range c.stages.toNat) i∧∃ g,Vf.Sl [(2,.f (.sl (encL intF S) cs)),(4,.ref 1 0),(7,.f J),(46,.f (intF c.stages)),(47,.f (intF i))] 58 (aPrg d :: (cChip c).map .f :: g) [] s
theorem valid_g (d : PrgD) (c : ChipD) (S : List Int) (cs : Cap) (hU : PrgU d) (hS : S.length ≤ maxLen) : Gives Tryz.prog 16 [fPrg d,fChip c,.sl (encL intF S) cs] (boolF (validM d c S)):=by
 refine Gives.of mixed Tryz.func16 rfl rfl rfl (by kernel_rfl) ?_
 simp [fPrg,cPrg]
 refine call_g (prg_g d hU.ok) ?_
 by_cases h1 : (prgCheckW d).1 = 0
 case neg =>
  have hv : validM d c S = false:=by unfold validM; rw [decide_eq_false h1]; rfl
  rw [hv]
  simp [h1]
 have hC:=prgC_of h1
 simp [h1]
 refine call_g (chip_g c) ?_
 by_cases h2 : chipCheck c = 0
 case neg =>
  have hv : validM d c S = false:=by unfold validM; rw [decide_eq_false h2]; simp
  rw [hv]
  simp [h2]
 obtain ⟨k1,k2⟩:=chip_few h2
 obtain ⟨c1,c2,c3,hJ⟩:=newJob_g d c hU hC
 have hv : validM d c S = (satM (jobM d c).deps S && !(S.any fun s=>!stIn c s) && !((List.range c.stages.toNat).any fun s=>!fitsAt (jobM d c) c S s)):=by unfold validM; rw [decide_eq_true h1,decide_eq_true h2]; rfl
 have hl:=bldM_len hU hC
 have hju : (jobM d c).units.length = (bldM d).length:=rfl
 have hjc : (jobM d c).costs.length = (bldM d).length:=by simp [jobM]
 have hjd : (jobM d c).deps.length = (bldM d).length:=by simp [jobM,depsM]
 have hjchip : (jobM d c).chip = c:=rfl
 rw [hv]
 clear hv
 simp [h2]
 refine call_g hJ ?_
 generalize jobM d c = j at *
 simp
 refine call_g (sat_g j.deps S c3 cs (by unfold maxLen; omega)) ?_
 cases h3 : satM j.deps S with
 | false=>simp
 | true =>
 have hlen : S.length = j.deps.length:=by
  unfold satM at h3
  simp only [Bool.and_eq_true,decide_eq_true_eq] at h3
  first | exact h3.1 | omega
 simp
 refine forX mixed S.length (vlI d c S (.fp (cJob j c1 c2 c3)) cs) (by kernel_rfl) ⟨noneT.zero,[],Sl.of rfl rfl rfl⟩ ?_
 rintro i ⟨ts,hh,kk⟩ hi ⟨hno,g,rfl,rfl,f,rfl⟩
 by_cases hlt : i < S.length
 ·obtain ⟨x,hx,hx'⟩:=nth_of hlt
  have hw:=wrap64 (x:=(i : Int) + 1) (by omega) (by unfold maxLen at hS; omega)
  by_cases h4 : x < 0
  ·have ha : (S.any fun s=>!stIn c s) = true:=any_hit hx' (by simp [stIn]; omega)
   rw [ha]
   simp [hlt,hx,h4]
  by_cases h5 : x < c.stages
  ·have h6 : ¬ c.stages ≤ x:=by omega
   simp [hlt,hx,h4,h6,hw]
   exact ⟨hno.next hx' (by simp [stIn]; omega),_,Sl.of rfl rfl rfl⟩
  ·have ha : (S.any fun s=>!stIn c s) = true:=any_hit hx' (by simp [stIn]; omega)
   rw [ha]
   simp [hlt,hx,h4,(show c.stages ≤ x by omega)]
 rw [hno.all hlt]
 obtain rfl : i = S.length:=by omega
 simp
 refine forX mixed c.stages.toNat (vlJ d c S (.fp (cJob j c1 c2 c3)) j cs) (by kernel_rfl) ⟨noneT.zero,g,Sl.of rfl rfl rfl⟩ ?_
 clear hlt hi hno
 rintro i ⟨ts,hh,kk⟩ hi ⟨hno,g,rfl,rfl,f,rfl⟩
 by_cases hlt : i < c.stages.toNat
 ·have hw:=wrap64 (x:=(i : Int) + 1) (by omega) (by omega)
  have hlt' : (i : Int) < c.stages:=by omega
  have hr : (List.range c.stages.toNat)[i]? = some i:=by simp [hlt]
  simp [hlt']
  refine call_g (usage_g j c1 c2 c3 S cs i (by omega) (by omega) hS) ?_
  simp
  refine call_g (within_g (usTo j S i S.length) c) ?_
  cases h6 : withinM (usTo j S i S.length) c with
  | false =>
   have ha : ((List.range c.stages.toNat).any fun s=>!fitsAt j c S s) = true:=any_hit hr (by simp [fitsAt,h6])
   rw [ha]
   simp
  | true =>
   simp [hw]
   exact ⟨hno.next hr (by simp [fitsAt,h6]),_,Sl.of rfl rfl rfl⟩
 have hlt2 : ¬ i < (List.range c.stages.toNat).length:=by simpa using hlt
 rw [hno.all hlt2]
 have hlt' : ¬ (i : Int) < c.stages:=by omega
 simp [hlt']
def inM (x a b : Int) : Bool:=decide (a ≤ x) && decide (x ≤ b)
theorem rin_g (x a b : Int) : Gives Tryz.prog 26 [intF x,intF a,intF b] (boolF (inM x a b)):=by
 refine Gives.of mixed Tryz.func26 rfl rfl rfl (by kernel_rfl) ?_
 unfold inM
 by_cases c1 : a ≤ x <;> by_cases c2 : x ≤ b <;> simp [c1,c2]
theorem chipCheck_in (c : ChipD) : chipCheck c = if inM c.stages 1 16 && (inM c.tables 0 64 && (inM c.gates 0 64 && (inM c.sram 0 4096 && (inM c.tcam 0 4096 && (inM c.c8 0 64 && (inM c.c16 0 64 && inM c.c32 0 64)))))) then 0 else 9:=by
 have h5 : (List.range 5).any (fun k=>bad64 (chipN c k)) = (bad64 c.tables || (bad64 c.gates || (bad64 c.c8 || (bad64 c.c16 || bad64 c.c32)))):=by
  simp [List.range,List.range.loop,chipN]
 unfold chipCheck
 rw [h5]
 unfold inM bad64
 by_cases h : (1 ≤ c.stages∧c.stages ≤ 16)∧(0 ≤ c.tables∧c.tables ≤ 64)∧(0 ≤ c.gates∧c.gates ≤ 64)∧(0 ≤ c.sram∧c.sram ≤ 4096)∧(0 ≤ c.tcam∧c.tcam ≤ 4096)∧(0 ≤ c.c8∧c.c8 ≤ 64)∧(0 ≤ c.c16∧c.c16 ≤ 64)∧(0 ≤ c.c32∧c.c32 ≤ 64)
 ·rw [if_neg (by omega),if_neg (by simp only [Bool.or_eq_true,decide_eq_true_eq]; omega),if_neg (by omega),if_pos (by simp only [Bool.and_eq_true,decide_eq_true_eq]; omega)]
 ·rw [if_neg (c:=(_ = true)) (t:=(0 : Int)) (by simp only [Bool.and_eq_true,decide_eq_true_eq]; omega)]
  by_cases h1 : c.stages < 1 ∨ 16 < c.stages
  ·rw [if_pos h1]
  rw [if_neg h1]
  by_cases h2 : c.sram < 0 ∨ 4096 < c.sram ∨ c.tcam < 0 ∨ 4096 < c.tcam
  ·rw [if_pos h2]; split <;> rfl
  ·rw [if_pos (by simp only [Bool.or_eq_true,decide_eq_true_eq]; omega)]
theorem rchip_g (c : ChipD) : Gives Tryz.prog 9 [fChip c] (intF (chipCheck c)):=by
 rw [chipCheck_in]
 refine Gives.of mixed Tryz.func9 rfl rfl rfl (by kernel_rfl) ?_
 simp
 refine call_g (rin_g c.stages 1 16) ?_
 cases inM c.stages 1 16
 ·simp
 simp
 refine call_g (rin_g c.tables 0 64) ?_
 cases inM c.tables 0 64
 ·simp
 simp
 refine call_g (rin_g c.gates 0 64) ?_
 cases inM c.gates 0 64
 ·simp
 simp
 refine call_g (rin_g c.sram 0 4096) ?_
 cases inM c.sram 0 4096
 ·simp
 simp
 refine call_g (rin_g c.tcam 0 4096) ?_
 cases inM c.tcam 0 4096
 ·simp
 simp
 refine call_g (rin_g c.c8 0 64) ?_
 cases inM c.c8 0 64
 ·simp
 simp
 refine call_g (rin_g c.c16 0 64) ?_
 cases inM c.c16 0 64
 ·simp
 simp
 refine call_g (rin_g c.c32 0 64) ?_
 cases inM c.c32 0 64
 ·simp
 simp
theorem rwithin_g (u : UsD) (c : ChipD) : Gives Tryz.prog 35 [fUs u,fChip c] (boolF (withinM u c)):=by
 refine Gives.of mixed Tryz.func35 rfl rfl rfl (by kernel_rfl) ?_
 unfold withinM
 by_cases c1 : u.tables ≤ c.tables <;> by_cases c2 : u.gates ≤ c.gates <;> simp [c1,c2]
 refine call_g (rfits2_g u.cost c) ?_
 simp
def rcosI (d : PrgD) (us : List UnitD) (c : Cap) (i : Nat) (s : St) : Prop:=∃ k x t,OwnT k (encL fRes ((us.map (unitCost d)).take i)) 2 x t ∧
 Vf.Sl [(1,.f (.sl (encL fUnit us) c)),(2,.ref 0 0),(5,x),(6,.f (intF i))] 23 [aPrg d] k s
theorem rcosts_g (d : PrgD) (hU : PrgU d) (hN : PrgN d) (us : List UnitD) (c : Cap) (hl : us.length ≤ 100000) : Gives Tryz.prog 40 [fPrg d,.sl (encL fUnit us) c] (ownF (encL fRes (us.map (unitCost d)))):=by
 refine Gives.of mixed Tryz.func40 rfl rfl rfl (by kernel_rfl) ?_
 simp [fPrg,cPrg]
 refine forX mixed us.length (rcosI d us c) (by kernel_rfl) ⟨[],_,0,.nil,Sl.of rfl rfl rfl⟩ ?_
 rintro i ⟨ts,hh,kk⟩ hi ⟨k,x,t,ho,rfl,rfl,f,rfl⟩
 by_cases hlt : i < us.length
 ·obtain ⟨u,hu,hu'⟩:=nth_of hlt
  have hw:=wrap64 (x:=(i : Int) + 1) (by omega) (by omega)
  simp [hlt,hu,aPrg,fUnit]
  refine call_g (runitCost_g d hU hN u) ?_
  simp [-opAppend]
  obtain ⟨t',k',e,ho',_⟩:=append_own ty89 ty47 (by simp) ho (y:=.f (.sl [fRes (unitCost d u)] .full)) rfl (by simp) (by simp) (by simp; omega) (by simp; omega)
  rw [e]
  have hnx : encL fRes ((us.map (unitCost d)).take i) ++ [fRes (unitCost d u)] = encL fRes ((us.map (unitCost d)).take (i + 1)):=by
   rw [List.take_add_one,List.getElem?_map,hu']
   simp [encL]
  rw [hnx] at ho' ⊢
  simp [hw]
  exact ⟨_,_,_,ho',Sl.of rfl rfl rfl⟩
 ·obtain rfl : i = us.length:=by omega
  have : (us.map (unitCost d)).take us.length = us.map (unitCost d):=List.take_of_length_le (by simp)
  rw [this] at ho
  simp
  rw [ho.ret]
theorem tblCost_bd (d : PrgD) (i : Int) : (0 ≤ (tblCost d i).1∧(tblCost d i).1 ≤ 100000000)∧(0 ≤ (tblCost d i).2∧(tblCost d i).2 ≤ 100000000):=by
 unfold tblCost
 split
 case isFalse=>exact ⟨⟨by decide,by decide⟩,by decide,by decide⟩
 rename_i h
 have hC:=prgC_of h
 cases hr : tblOf d i with
 | none =>
  show (0 ≤ (0 : Int)∧(0 : Int) ≤ 100000000)∧(0 ≤ (0 : Int)∧(0 : Int) ≤ 100000000)
  decide
 | some t =>
  simp only
  unfold tblOf at hr
  have c1 : ¬ i < 0:=by intro c; rw [if_pos c] at hr; cases hr
  rw [if_neg c1] at hr
  have htc : (tblCheckA d t).2 = 0:=by
   have:=hC.tc i.toNat (List.getElem?_eq_some_iff.1 hr).1
   unfold tblCheck at this
   rw [if_neg (by omega),Int.toNat_natCast,hr] at this
   exact this
  have hsz : 1 ≤ t.size∧t.size ≤ 256:=by
   unfold tblCheckA at htc
   split at htc
   ·cases htc
   ·split at htc
    ·cases htc
    ·split at htc
     ·cases htc
     ·omega
  have hA:=argBits_bd (widthsOk_of hC) t
  have hbd:=tblWidths_bd d i
  have hbb:=isum_32 hbd.2
  have hB : 0 ≤ tblBits d i∧tblBits d i ≤ 192:=by unfold tblBits; omega
  generalize argBits d t = A at hA ⊢
  generalize tblBits d i = B at hB ⊢
  have m1 : 0 ≤ t.size * (B + (8 + A))∧t.size * (B + (8 + A)) ≤ 256 * 33000:=⟨Int.mul_nonneg (by omega) (by omega),Int.mul_le_mul hsz.2 (by omega) (by omega) (by omega)⟩
  have m2 : 0 ≤ t.size * (8 + A)∧t.size * (8 + A) ≤ 256 * 33000:=⟨Int.mul_nonneg (by omega) (by omega),Int.mul_le_mul hsz.2 (by omega) (by omega) (by omega)⟩
  have m3 : 0 ≤ t.size * B∧t.size * B ≤ 256 * 33000:=⟨Int.mul_nonneg (by omega) (by omega),Int.mul_le_mul hsz.2 (by omega) (by omega) (by omega)⟩
  split
  ·exact ⟨⟨by decide,by decide⟩,by decide,by decide⟩
  ·split <;> simp only [blocksOf] <;> omega
theorem unitCost_bd (d : PrgD) (u : UnitD) : (0 ≤ (unitCost d u).1∧(unitCost d u).1 ≤ 100000000)∧(0 ≤ (unitCost d u).2∧(unitCost d u).2 ≤ 100000000):=by
 unfold unitCost
 split
 ·exact ⟨⟨by decide,by decide⟩,by decide,by decide⟩
 ·exact tblCost_bd d u.table
def usCo (cs : List (Int × Int)) (S : List Int) (s : Int) : Nat→List (Int × Int)
 | 0=>[]
 | k + 1=>match S[k]?,cs[k]? with
  | some x,some co=>if x = s then usCo cs S s k ++ [co] else usCo cs S s k
  | _,_=>usCo cs S s k
theorem usCo_len (cs : List (Int × Int)) (S : List Int) (s : Int) (k : Nat) : (usCo cs S s k).length ≤ k:=by
 induction k with
 | zero=>exact Nat.le_refl _
 | succ k ih =>
  unfold usCo
  split
  ·split
   ·simp; omega
   ·omega
  ·omega
theorem usCo_mem (cs : List (Int × Int)) (S : List Int) (s : Int) (k : Nat) : ∀ x ∈ usCo cs S s k,x ∈ cs:=by
 induction k with
 | zero=>intro x hx; cases hx
 | succ k ih =>
  unfold usCo
  split
  ·rename_i hco
   split
   ·intro x hx
    rcases List.mem_append.1 hx with h | h
    ·exact ih x h
    ·obtain rfl:=List.mem_singleton.1 h
     exact List.mem_of_getElem? hco
   ·exact ih
  ·exact ih
theorem sumR_two {a co : Int × Int} (h : (0 ≤ a.1∧a.1 ≤ 9223372036854775807)∧(0 ≤ a.2∧a.2 ≤ 9223372036854775807)) : sumR [a,co] = sumStep a co:=by
 have : sumStep (0,0) a = a:=by
  rw [sumStep_eq,satAdd_min,satAdd_min,if_neg (by simp only; omega),if_neg (by simp only; omega)]
  refine Prod.ext ?_ ?_ <;> simp only <;> omega
 show sumStep (sumStep (0,0) a) co = _
 rw [this]
theorem usTo_cost (j : JobD) (S : List Int) (s : Int) (hlen : j.costs.length = j.units.length) (k : Nat) : (usTo j S s k).cost = sumR (usCo j.costs S s k):=by
 induction k with
 | zero=>rfl
 | succ k ih =>
  unfold usTo usCo
  cases hx : S[k]? with
  | none=>exact ih
  | some x =>
   cases hc : j.costs[k]? with
   | none=>cases j.units[k]? <;> exact ih
   | some co =>
    have hk:=(List.getElem?_eq_some_iff.1 hc).1
    rw [List.getElem?_eq_getElem (show k < j.units.length by omega)]
    simp only
    split
    ·show sumR [(usTo j S s k).cost,co] = _
     rw [ih,sumR_two (a:=sumR (usCo j.costs S s k)) (sumFold_bd (usCo j.costs S s k) (0,0) ⟨by simp,by simp⟩)]
     unfold sumR
     rw [List.foldl_append]
     rfl
    ·exact ih
def ldI (j : JobD) (c1 c2 c : Cap) (S : List Int) (s : Int) (i : Nat) (st : St) : Prop:=∃ k x t,OwnT k (encL fRes (usCo j.costs S s i)) 2 x t ∧
 Vf.Sl [(0,.f (.sl (encL fUnit j.units) c1)),(1,.f (.sl (encL fRes j.costs) c2)),(2,.f (.sl (encL intF S) c)),(3,.f (intF s)),(8,.ref 0 0),(9,.ref 1 0),(10,x),(11,.f (intF i))] 50 [[.f (intF 0),.f (intF 0),.f (intF 0),.f (intF 0)],[.f (intF (usTo j S s i).tables),.f (intF (usTo j S s i).gates),.f (intF 0),.f (intF 0)]] k st
theorem rload_g (j : JobD) (c1 c2 : Cap) (S : List Int) (c : Cap) (s : Int) (h1 : S.length ≤ j.units.length) (h2 : j.costs.length = j.units.length) (hl : S.length ≤ 100000) (hb : ∀ x ∈ j.costs,x.1 ≤ 9223372036854775807∧x.2 ≤ 9223372036854775807) :
  Gives Tryz.prog 36 [.sl (encL fUnit j.units) c1,.sl (encL fRes j.costs) c2,.sl (encL intF S) c,intF s] (fUs (usTo j S s S.length)):=by
 refine Gives.of mixed Tryz.func36 rfl rfl rfl (by kernel_rfl) ?_
 simp
 refine forX mixed S.length (ldI j c1 c2 c S s) (by kernel_rfl) ⟨[],_,0,.nil,Sl.of rfl rfl rfl⟩ ?_
 rintro i ⟨ts,hh,kk⟩ hi ⟨k,x,t,ho,rfl,rfl,ff,rfl⟩
 by_cases hlt : i < S.length
 ·obtain ⟨v,hv,hv'⟩:=nth_of hlt
  have lu : i < j.units.length:=by omega
  have lc : i < j.costs.length:=by omega
  obtain ⟨un,hun,hun'⟩:=nth_of lu
  obtain ⟨co,hco,hco'⟩:=nth_of lc
  have hw:=wrap64 (x:=(i : Int) + 1) (by omega) (by omega)
  have hn : usTo j S s (i + 1) = if v = s then usAdd (usTo j S s i) un co else usTo j S s i:=by
   rw [usTo,hv',hun',hco']
  have hn2 : usCo j.costs S s (i + 1) = if v = s then usCo j.costs S s i ++ [co] else usCo j.costs S s i:=by
   rw [usCo,hv',hco']
  by_cases c0 : v = s
  case neg =>
   rw [if_neg c0] at hn hn2
   simp [hlt,hv,c0,hw]
   exact ⟨_,_,_,by rw [hn2]; exact ho,by rw [hn]; exact Sl.of rfl rfl rfl⟩
  rw [if_pos c0] at hn hn2
  have hle:=usCo_len j.costs S s i
  obtain ⟨t',k',e,ho',_⟩:=append_own ty89 ty47 (by simp) ho (y:=.f (.sl [fRes co] .full)) rfl (by simp) (by simp) (by simp; omega) (by simp; omega)
  have hnx : encL fRes (usCo j.costs S s i) ++ [fRes co] = encL fRes (usCo j.costs S s (i + 1)):=by
   rw [hn2]; simp [encL]
  rw [hnx] at e ho'
  by_cases c3 : un.table < 0
  ·simp [hlt,hv,c0,lu,hun,c3,lc,hco,-opAppend]
   rw [e]
   simp [hw]
   refine ⟨_,_,_,ho',?_⟩
   rw [hn]
   simp only [usAdd,c3,if_true]
   exact Sl.of rfl rfl rfl
  ·simp [hlt,hv,c0,lu,hun,c3,lc,hco,-opAppend]
   rw [e]
   simp [hw]
   refine ⟨_,_,_,ho',?_⟩
   rw [hn]
   simp only [usAdd,c3,if_false]
   exact Sl.of rfl rfl rfl
 ·obtain rfl : i = S.length:=by omega
  simp
  obtain ⟨cx,ex⟩:=ownF_cap (encL fRes (usCo j.costs S s S.length))
  have hle:=usCo_len j.costs S s S.length
  have hs:=rsum_g (usCo j.costs S s S.length) cx (by unfold maxLen; omega) fun y hy=>hb y (usCo_mem _ _ _ _ y hy)
  rw [← ex] at hs
  have hct:=usTo_cost j S s h2 S.length
  have hfin : usTo j S s S.length = ⟨(usTo j S s S.length).tables,(usTo j S s S.length).gates,sumR (usCo j.costs S s S.length)⟩:=by rw [← hct]
  generalize (usTo j S s S.length).tables = A at hfin ⊢
  generalize (usTo j S s S.length).gates = B at hfin ⊢
  rw [hfin]
  rcases ho with ⟨h0,rfl⟩ | ⟨h0,rfl,_⟩
  ·rw [h0] at hs
   simp
   refine call_g hs ?_
   simp
  ·unfold ownF at hs
   rw [if_neg h0] at hs
   simp
   refine call_g hs ?_
   simp
theorem ruWr_len {d : PrgD} (hC : PrgC d) (u : UnitD) : (ruWr d u).length ≤ 1000000:=by
 unfold ruWr
 cases h : tblOf d u.table with
 | none=>exact Nat.zero_le _
 | some t =>
  have h1:=tblOf_small hC h
  have h2:=actsR_len (d:=d) (fun a=>wrR_bd d (prgS_of hC).f a) t.acts.l []
  rw [List.length_nil] at h2
  show (actsR d (fun a=>wrR d (bodyM d a)) [] t.acts.l).length ≤ _
  omega
theorem ruRd_len {d : PrgD} (hC : PrgC d) (u : UnitD) (hu : u.cond.l.length ≤ 1000000) : (ruRd d u).length ≤ 10000000:=by
 unfold ruRd
 split
 ·have h1:=gathM_len d [] ⟨FL u.cond.l,HL u.cond.l,[]⟩
  have h2:=FLn_len u.cond.l
  have h3:=HLn_len u.cond.l
  simp only [List.length_nil] at h1
  omega
 ·cases h : tblOf d u.table with
  | none=>exact Nat.zero_le _
  | some t =>
   have h1:=tblOf_small hC h
   have h2:=actsR_len (d:=d) (fun a=>rdR_bd d a) t.acts.l (keysR d t.keys.l)
   have h3:=keysR_len d t.keys.l
   show (actsR d (fun a=>rdR (bodyM d a)) (keysR d t.keys.l) t.acts.l).length ≤ _
   omega
theorem depsR_same (d : PrgD) (us : List UnitD) : depsM (RdU d us) (WrU d us) us = depsM (rdF d us) (wrF d us) us:=by
 unfold depsM
 refine List.map_congr_left fun a _=>List.map_congr_left fun b _=>depM_same (fun a=>?_) (fun a=>?_) us a b
 ·unfold RdU rdF
  cases us[a]? with
  | none=>exact SameM.rfl_
  | some u=>exact ruRd_same d u
 ·unfold WrU wrF
  cases us[a]? with
  | none=>exact SameM.rfl_
  | some u=>exact ruWr_same d u
theorem ctl_few {d : PrgD} (hU : PrgU d) (h : (ctlCheckW d).2 = 0) : (nodsPre d.control.l).length ≤ 24:=by
 have hn:=hU.nodes
 unfold ctlCheckW at h
 rw [wr_id (by omega) (by omega)] at h
 split at h
 ·cases h
 ·omega
theorem runits_g (d : PrgD) (hU : PrgU d) : Gives Tryz.prog 18 [fPrg d] (ownF (encL fUnit (bldM d))) :=
 rbuild_g d hU.ok.nod hU.nodes fun h=>by rw [(bldL_all _ _ _).1]; exact Nat.le_trans (ctl_few hU h) (by decide)
theorem rproblem_g (d : PrgD) (c : ChipD) (hU : PrgU d) (hN : PrgN d) (hC : PrgC d) : ∃ c1 c2 c3,Gives Tryz.prog 34 [fPrg d,fChip c] (.agg (cJob (jobM d c) c1 c2 c3)):=by
 have hl:=bldM_len hU hC
 have hb:=runits_g d hU
 obtain ⟨c1,e1⟩:=ownF_cap (encL fUnit (bldM d))
 rw [e1] at hb
 have hmem : ∀ {u : UnitD},u ∈ bldM d→u.cond.l.length ≤ 1000000∧u.guards.l.length ≤ 24:=fun h=>bldM_mem hU hC h
 have hD:=rdeps_g d hU.ok.nm hC (bldM d) c1 (by omega) (fun u hu=>by have:=(hmem hu).2; omega) (fun u hu=>(hmem hu).1) (fun u hu=>by have:=ruWr_len hC u; omega) (fun u hu=>by have:=ruRd_len hC u (hmem hu).1; omega)
 rw [depsR_same] at hD
 have hcs:=rcosts_g d hU hN (bldM d) c1 (by omega)
 obtain ⟨c2,e2⟩:=ownF_cap (encL fRes ((bldM d).map (unitCost d)))
 rw [e2] at hcs
 have hj : jobM d c = ⟨c,bldM d,(bldM d).map (unitCost d),depsM (rdF d (bldM d)) (wrF d (bldM d)) (bldM d)⟩:=rfl
 obtain ⟨c3,e3⟩:=ownF_cap (encL rowF (depsM (rdF d (bldM d)) (wrF d (bldM d)) (bldM d)))
 rw [e3] at hD
 refine ⟨c1,c2,c3,?_⟩
 rw [hj]
 generalize depsM (rdF d (bldM d)) (wrF d (bldM d)) (bldM d) = D at *
 generalize (bldM d).map (unitCost d) = C at *
 refine Gives.of mixed Tryz.func34 rfl rfl rfl (by kernel_rfl) ?_
 simp [fPrg,cPrg,fChip]
 refine call_g hb ?_
 simp
 refine call_g hcs ?_
 simp
 refine call_g hD ?_
 simp
theorem job_costs (d : PrgD) (c : ChipD) : ∀ x ∈ (jobM d c).costs,x.1 ≤ 9223372036854775807∧x.2 ≤ 9223372036854775807:=by
 intro x hx
 obtain ⟨u,_,rfl⟩:=List.mem_map.1 hx
 have:=unitCost_bd d u
 omega
def rvpI (d : PrgD) (c : ChipD) (S : List Int) (J : List FV) (cs : Cap) (i : Nat) (s : St) : Prop:=noneT (fun s=>!stIn c s) S i∧Vf.Sl [(2,.f (.sl (encL intF S) cs)),(4,.ref 1 0),(7,.ref 2 0),(8,.f (intF i))] 68 [aPrg d,(cChip c).map .f,J.map .f] [] s
def rvpJ (d : PrgD) (c : ChipD) (S : List Int) (J : List FV) (j : JobD) (cs : Cap) (i : Nat) (s : St) : Prop:=noneT (fun s=>!fitsAt j c S s) (List.range c.stages.toNat) i∧Vf.Sl [(2,.f (.sl (encL intF S) cs)),(4,.ref 1 0),(7,.ref 2 0),(9,.f (intF i))] 68 [aPrg d,(cChip c).map .f,J.map .f] [] s
theorem rvalidP_g (d : PrgD) (c : ChipD) (S : List Int) (cs : Cap) (hU : PrgU d) (hN : PrgN d) (hS : S.length ≤ maxLen) : Gives Tryz.prog 17 [fPrg d,fChip c,.sl (encL intF S) cs] (boolF (validM d c S)):=by
 refine Gives.of mixed Tryz.func17 rfl rfl rfl (by kernel_rfl) ?_
 simp [fPrg,cPrg]
 refine call_g (rprg_g d hU hN) ?_
 by_cases h1 : (prgCheckW d).1 = 0
 case neg =>
  have hv : validM d c S = false:=by unfold validM; rw [decide_eq_false h1]; rfl
  rw [hv]
  simp [h1]
 have hC:=prgC_of h1
 simp [h1]
 refine call_g (rchip_g c) ?_
 by_cases h2 : chipCheck c = 0
 case neg =>
  have hv : validM d c S = false:=by unfold validM; rw [decide_eq_false h2]; simp
  rw [hv]
  simp [h2]
 obtain ⟨k1,k2⟩:=chip_few h2
 obtain ⟨c1,c2,c3,hJ⟩:=rproblem_g d c hU hN hC
 have hv : validM d c S = (satM (jobM d c).deps S && !(S.any fun s=>!stIn c s) && !((List.range c.stages.toNat).any fun s=>!fitsAt (jobM d c) c S s)):=by unfold validM; rw [decide_eq_true h1,decide_eq_true h2]; rfl
 have hl:=bldM_len hU hC
 have hju : (jobM d c).units.length = (bldM d).length:=rfl
 have hjc : (jobM d c).costs.length = (bldM d).length:=by simp [jobM]
 have hjd : (jobM d c).deps.length = (bldM d).length:=by simp [jobM,depsM]
 have hjchip : (jobM d c).chip = c:=rfl
 have hjb:=job_costs d c
 rw [hv]
 clear hv
 simp [h2]
 refine call_g hJ ?_
 generalize jobM d c = j at *
 subst hjchip
 simp
 by_cases h3 : S.length = j.units.length
 case neg =>
  have h4 : satM j.deps S = false:=by
   unfold satM
   rw [decide_eq_false (by omega)]
   rfl
  rw [h4]
  have h3' : ¬ (S.length : Int) = j.units.length:=by omega
  simp [h3,h3']
 simp [h3]
 refine forX mixed S.length (rvpI d j.chip S (cJob j c1 c2 c3) cs) (by kernel_rfl) ⟨noneT.zero,Sl.of rfl rfl rfl⟩ ?_
 rintro i ⟨ts,hh,kk⟩ hi ⟨hno,rfl,rfl,f,rfl⟩
 by_cases hlt : i < S.length
 ·obtain ⟨x,hx,hx'⟩:=nth_of hlt
  have hw:=wrap64 (x:=(i : Int) + 1) (by omega) (by omega)
  by_cases h4 : x < 0
  ·have ha : (S.any fun s=>!stIn j.chip s) = true:=any_hit hx' (by simp [stIn]; omega)
   rw [ha]
   simp [hlt,hx,h4]
  by_cases h5 : x < j.chip.stages
  ·have h6 : ¬ j.chip.stages ≤ x:=by omega
   simp [hlt,hx,h4,h6,hw]
   exact ⟨hno.next hx' (by simp [stIn]; omega),Sl.of rfl rfl rfl⟩
  ·have ha : (S.any fun s=>!stIn j.chip s) = true:=any_hit hx' (by simp [stIn]; omega)
   rw [ha]
   simp [hlt,hx,h4,(show j.chip.stages ≤ x by omega)]
 rw [hno.all hlt]
 obtain rfl : i = S.length:=by omega
 simp
 refine forX mixed j.chip.stages.toNat (rvpJ d j.chip S (cJob j c1 c2 c3) j cs) (by kernel_rfl) ⟨noneT.zero,Sl.of rfl rfl rfl⟩ ?_
 clear hlt hi hno
 rintro i ⟨ts,hh,kk⟩ hi ⟨hno,rfl,rfl,f,rfl⟩
 by_cases hlt : i < j.chip.stages.toNat
 ·have hw:=wrap64 (x:=(i : Int) + 1) (by omega) (by omega)
  have hlt' : (i : Int) < j.chip.stages:=by omega
  have hr : (List.range j.chip.stages.toNat)[i]? = some i:=by simp [hlt]
  simp [hlt']
  refine call_g (rload_g j c1 c2 S cs i (by omega) (by omega) (by omega) hjb) ?_
  simp
  refine call_g (rwithin_g (usTo j S i S.length) j.chip) ?_
  cases h6 : withinM (usTo j S i S.length) j.chip with
  | false =>
   have ha : ((List.range j.chip.stages.toNat).any fun s=>!fitsAt j j.chip S s) = true:=any_hit hr (by simp [fitsAt,h6])
   rw [ha]
   simp
  | true =>
   simp [hw]
   exact ⟨hno.next hr (by simp [fitsAt,h6]),Sl.of rfl rfl rfl⟩
 have hlt2 : ¬ i < (List.range j.chip.stages.toNat).length:=by simpa using hlt
 rw [hno.all hlt2]
 have hlt' : ¬ (i : Int) < j.chip.stages:=by omega
 simp [hlt']
 refine call_g (rsat_g j.deps S c3 cs (by omega)) ?_
 simp
def chip0 : ChipD:=⟨0,0,0,0,0,0,0,0⟩
def useM (d : PrgD) (S : List Int) (s : Int) : UsD:=if (prgCheckW d).1 = 0∧S.length = (bldM d).length then usTo (jobM d chip0) S s S.length else ⟨0,0,(0,0)⟩
def fUse (u : UsD) : FV:=.tup [intF u.tables,intF u.gates,fRes u.cost]
theorem useP_g (d : PrgD) (S : List Int) (cs : Cap) (s : Int) (hU : PrgU d) (hS : S.length ≤ maxLen) : Gives Tryz.prog 14 [fPrg d,.sl (encL intF S) cs,intF s] (fUse (useM d S s)):=by
 refine Gives.of mixed Tryz.func14 rfl rfl rfl (by kernel_rfl) ?_
 simp [fPrg,cPrg]
 refine call_g (prg_g d hU.ok) ?_
 by_cases h1 : (prgCheckW d).1 = 0
 case neg =>
  have hv : useM d S s = ⟨0,0,(0,0)⟩:=if_neg fun h=>h1 h.1
  rw [hv]
  simp [h1,fUse]
  exact ⟨3,_,rfl,rfl⟩
 have hC:=prgC_of h1
 obtain ⟨c1,c2,c3,hJ⟩:=newJob_g d chip0 hU hC
 have hjc : (jobM d chip0).costs.length = (bldM d).length:=by simp [jobM]
 have hju : (jobM d chip0).units.length = (bldM d).length:=rfl
 simp [h1]
 refine call_g hJ ?_
 unfold useM
 rw [← hju] at hjc ⊢
 generalize jobM d chip0 = j at *
 by_cases h2 : S.length = j.units.length
 case neg =>
  have h2' : ¬ (S.length : Int) = j.units.length:=by omega
  rw [if_neg fun h=>h2 h.2]
  simp [h2,h2',fUse]
  exact ⟨3,_,rfl,rfl⟩
 rw [if_pos ⟨h1,h2⟩]
 simp [h2]
 refine call_g (usage_g j c1 c2 c3 S cs s (by omega) (by omega) hS) ?_
 rw [h2]
 simp [fUse]
 exact ⟨3,_,rfl,rfl⟩
theorem useR_g (d : PrgD) (S : List Int) (cs : Cap) (s : Int) (hU : PrgU d) (hN : PrgN d) (hS : S.length ≤ maxLen) : Gives Tryz.prog 15 [fPrg d,.sl (encL intF S) cs,intF s] (fUse (useM d S s)):=by
 refine Gives.of mixed Tryz.func15 rfl rfl rfl (by kernel_rfl) ?_
 have hb:=runits_g d hU
 obtain ⟨c1,e1⟩:=ownF_cap (encL fUnit (bldM d))
 rw [e1] at hb
 simp [fPrg,cPrg]
 refine call_g hb ?_
 simp
 refine call_g (rprg_g d hU hN) ?_
 by_cases h1 : (prgCheckW d).1 = 0
 case neg =>
  have hv : useM d S s = ⟨0,0,(0,0)⟩:=if_neg fun h=>h1 h.1
  rw [hv]
  simp [h1,fUse]
  exact ⟨3,_,rfl,rfl⟩
 have hC:=prgC_of h1
 have hl:=bldM_len hU hC
 have hcs:=rcosts_g d hU hN (bldM d) c1 (by omega)
 obtain ⟨c2,e2⟩:=ownF_cap (encL fRes ((bldM d).map (unitCost d)))
 rw [e2] at hcs
 have hju : bldM d = (jobM d chip0).units:=rfl
 have hjc : (bldM d).map (unitCost d) = (jobM d chip0).costs:=rfl
 have hjb:=job_costs d chip0
 unfold useM
 rw [hjc] at hcs
 rw [hju] at hcs hl ⊢
 have hcl : (jobM d chip0).costs.length = (jobM d chip0).units.length:=by simp [jobM]
 generalize jobM d chip0 = j at *
 by_cases h2 : S.length = j.units.length
 case neg =>
  have h2' : ¬ (S.length : Int) = j.units.length:=by omega
  rw [if_neg fun h=>h2 h.2]
  simp [h1,h2,h2',fUse]
  exact ⟨3,_,rfl,rfl⟩
 rw [if_pos ⟨h1,h2⟩]
 simp [h1,h2]
 refine call_g hcs ?_
 simp
 refine call_g (rload_g j c1 c2 S cs s (by omega) hcl (by omega) hjb) ?_
 rw [h2]
 simp [fUse]
 exact ⟨3,_,rfl,rfl⟩
theorem opb_sl {P : Program} {t e : TypeId} {α : Type} {enc : α→FV} {ok : α→Prop} {ms : α→Nat} {sz : Nat} (ht : P.underlying t = some (.slice e)) (hc : P.cellsOf e = sz) (hs : 0 < sz) (hl : ∀ y,(enc y).cells.length = sz) (he : ∀ N,OpB P N e α enc ok ms) (N : Nat) :
  OpB P N t (List α) (fun l=>.sl (encL enc l) .un) (fun l=>∀ y ∈ l,ok y) (fun l=>lsum ms l + 1):=opb_all (fun N=>opb_slice ht hc hs hl (he N)) N
def IOk (x : Int) : Prop:=-9223372036854775808 ≤ x∧x ≤ 9223372036854775807
theorem iok_of {x : Int} (h : (Lit.int .i64 x).wf = true) : IOk x:=by
 simp only [Lit.wf,Bool.and_eq_true,decide_eq_true_eq] at h
 exact h
structure CallD where
 act : Int
 args : List Int
abbrev fCallD (x : CallD) : FV:=.agg [intF x.act,sl (encL u32F x.args)]
theorem u32_of {x : Int} (h : (Lit.int .u32 x).wf = true) : U32 x:=by
 simp only [Lit.wf,Bool.and_eq_true,decide_eq_true_eq] at h
 exact ⟨h.1,Int.lt_of_le_of_lt h.2 (by decide)⟩
def ms_fld (x : FldD) : Nat:=((x.name.size + 1) + (1 + 0)) + 1
theorem fld_opb (N : Nat) : OpB Tryz.prog N 124 FldD fFld (fun _=>True) ms_fld :=
 opb_all (fun N=>(opb_struct Tryz.underlying124 (fun y=>by kernel_rfl) (fldb_cons (sz:=1) (opb_string Tryz.underlying9) rfl (by kernel_rfl) (fun _=>rfl) (fldb_cons (sz:=1) (opb_int Tryz.underlying3) rfl (by kernel_rfl) (fun _=>rfl) fldb_nil))).map (β:=FldD) (enc':=fFld) (ok':=fun _=>True) (ms':=ms_fld) (fun p=>⟨p.1,p.2.1⟩) (fun _=>rfl) (fun _ _=>trivial) (fun _=>Nat.le_refl _)) N
theorem fld_sl (N : Nat) : OpB Tryz.prog N 23 (List FldD) (fun l=>.sl (encL fFld l) .un) (fun l=>∀ y ∈ l,(fun _=>True) y) (fun l=>lsum ms_fld l + 1):=opb_sl (sz:=2) Tryz.underlying23 (by kernel_rfl) (by decide) (fun _=>rfl) fld_opb N
def ms_hdr (x : HdrD) : Nat:=((x.name.size + 1) + ((lsum ms_fld x.fields.l + 1) + 0)) + 1
theorem hdr_opb (N : Nat) : OpB Tryz.prog N 118 HdrD fHdr (fun _=>True) ms_hdr :=
 opb_all (fun N=>(opb_struct Tryz.underlying118 (fun y=>by kernel_rfl) (fldb_cons (sz:=1) (opb_string Tryz.underlying9) rfl (by kernel_rfl) (fun _=>rfl) (fldb_cons (sz:=1) (fld_sl N) rfl (by kernel_rfl) (fun _=>rfl) fldb_nil))).map (β:=HdrD) (enc':=fHdr) (ok':=fun _=>True) (ms':=ms_hdr) (fun p=>⟨p.1,⟨p.2.1⟩⟩) (fun _=>rfl) (fun _ _=>trivial) (fun _=>Nat.le_refl _)) N
def ms_reg (x : RegD) : Nat:=((x.name.size + 1) + (1 + (1 + 0))) + 1
theorem reg_opb (N : Nat) : OpB Tryz.prog N 120 RegD fReg (fun _=>True) ms_reg :=
 opb_all (fun N=>(opb_struct Tryz.underlying120 (fun y=>by kernel_rfl) (fldb_cons (sz:=1) (opb_string Tryz.underlying9) rfl (by kernel_rfl) (fun _=>rfl) (fldb_cons (sz:=1) (opb_int Tryz.underlying3) rfl (by kernel_rfl) (fun _=>rfl) (fldb_cons (sz:=1) (opb_int Tryz.underlying3) rfl (by kernel_rfl) (fun _=>rfl) fldb_nil)))).map (β:=RegD) (enc':=fReg) (ok':=fun _=>True) (ms':=ms_reg) (fun p=>⟨p.1,p.2.1,p.2.2.1⟩) (fun _=>rfl) (fun _ _=>trivial) (fun _=>Nat.le_refl _)) N
def ms_ex (x : ExD) : Nat:=(1 + (1 + (1 + 0))) + 1
theorem ex_opb (N : Nat) : OpB Tryz.prog N 126 ExD fEx (fun _=>True) ms_ex :=
 opb_all (fun N=>(opb_struct Tryz.underlying126 (fun y=>by kernel_rfl) (fldb_cons (sz:=1) (opb_int Tryz.underlying3) rfl (by kernel_rfl) (fun _=>rfl) (fldb_cons (sz:=1) (opb_int Tryz.underlying3) rfl (by kernel_rfl) (fun _=>rfl) (fldb_cons (sz:=1) (opb_int Tryz.underlying3) rfl (by kernel_rfl) (fun _=>rfl) fldb_nil)))).map (β:=ExD) (enc':=fEx) (ok':=fun _=>True) (ms':=ms_ex) (fun p=>⟨p.1,p.2.1,p.2.2.1⟩) (fun _=>rfl) (fun _ _=>trivial) (fun _=>Nat.le_refl _)) N
def ms_ref (x : (Int × Int)) : Nat:=(1 + (1 + 0)) + 1
theorem ref_opb (N : Nat) : OpB Tryz.prog N 71 (Int × Int) (fun r : Int × Int=>fRef r.1 r.2) (fun _=>True) ms_ref :=
 opb_all (fun N=>(opb_struct Tryz.underlying71 (fun y=>by kernel_rfl) (fldb_cons (sz:=1) (opb_int Tryz.underlying3) rfl (by kernel_rfl) (fun _=>rfl) (fldb_cons (sz:=1) (opb_int Tryz.underlying3) rfl (by kernel_rfl) (fun _=>rfl) fldb_nil))).map (β:=(Int × Int)) (enc':=(fun r : Int × Int=>fRef r.1 r.2)) (ok':=fun _=>True) (ms':=ms_ref) (fun p=>(p.1,p.2.1)) (fun _=>rfl) (fun _ _=>trivial) (fun _=>Nat.le_refl _)) N
theorem ex_sl (N : Nat) : OpB Tryz.prog N 54 (List ExD) (fun l=>.sl (encL fEx l) .un) (fun l=>∀ y ∈ l,(fun _=>True) y) (fun l=>lsum ms_ex l + 1):=opb_sl (sz:=3) Tryz.underlying54 (by kernel_rfl) (by decide) (fun _=>rfl) ex_opb N
def ms_st (x : StD) : Nat:=(1 + (ms_ref (x.dh,x.df) + (1 + (1 + ((lsum ms_ex x.index.l + 1) + ((lsum ms_ex x.value.l + 1) + 0)))))) + 1
theorem st_opb (N : Nat) : OpB Tryz.prog N 116 StD fSt (fun _=>True) ms_st :=
 opb_all (fun N=>(opb_struct Tryz.underlying116 (fun y=>by kernel_rfl) (fldb_cons (sz:=1) (opb_int Tryz.underlying3) rfl (by kernel_rfl) (fun _=>rfl) (fldb_cons (sz:=2) (ref_opb N) rfl (by kernel_rfl) (fun _=>rfl) (fldb_cons (sz:=1) (opb_int Tryz.underlying3) rfl (by kernel_rfl) (fun _=>rfl) (fldb_cons (sz:=1) (opb_int Tryz.underlying3) rfl (by kernel_rfl) (fun _=>rfl) (fldb_cons (sz:=1) (ex_sl N) rfl (by kernel_rfl) (fun _=>rfl) (fldb_cons (sz:=1) (ex_sl N) rfl (by kernel_rfl) (fun _=>rfl) fldb_nil))))))).map (β:=StD) (enc':=fSt) (ok':=fun _=>True) (ms':=ms_st) (fun p=>⟨p.1,p.2.1.1,p.2.1.2,p.2.2.1,p.2.2.2.1,⟨p.2.2.2.2.1⟩,⟨p.2.2.2.2.2.1⟩⟩) (fun _=>rfl) (fun _ _=>trivial) (fun _=>Nat.le_refl _)) N
theorem st_sl (N : Nat) : OpB Tryz.prog N 112 (List StD) (fun l=>.sl (encL fSt l) .un) (fun l=>∀ y ∈ l,(fun _=>True) y) (fun l=>lsum ms_st l + 1):=opb_sl (sz:=7) Tryz.underlying112 (by kernel_rfl) (by decide) (fun _=>rfl) st_opb N
def ms_act (x : ActD) : Nat:=((x.name.size + 1) + ((lsum ms_fld x.params.l + 1) + ((lsum ms_st x.body.l + 1) + 0))) + 1
theorem act_opb (N : Nat) : OpB Tryz.prog N 114 ActD fAct (fun _=>True) ms_act :=
 opb_all (fun N=>(opb_struct Tryz.underlying114 (fun y=>by kernel_rfl) (fldb_cons (sz:=1) (opb_string Tryz.underlying9) rfl (by kernel_rfl) (fun _=>rfl) (fldb_cons (sz:=1) (fld_sl N) rfl (by kernel_rfl) (fun _=>rfl) (fldb_cons (sz:=1) (st_sl N) rfl (by kernel_rfl) (fun _=>rfl) fldb_nil)))).map (β:=ActD) (enc':=fAct) (ok':=fun _=>True) (ms':=ms_act) (fun p=>⟨p.1,⟨p.2.1⟩,⟨p.2.2.1⟩⟩) (fun _=>rfl) (fun _ _=>trivial) (fun _=>Nat.le_refl _)) N
def ms_key (x : KeyD) : Nat:=(ms_ref (x.h,x.f) + (1 + 0)) + 1
theorem key_opb (N : Nat) : OpB Tryz.prog N 128 KeyD fKey (fun _=>True) ms_key :=
 opb_all (fun N=>(opb_struct Tryz.underlying128 (fun y=>by kernel_rfl) (fldb_cons (sz:=2) (ref_opb N) rfl (by kernel_rfl) (fun _=>rfl) (fldb_cons (sz:=1) (opb_int Tryz.underlying3) rfl (by kernel_rfl) (fun _=>rfl) fldb_nil))).map (β:=KeyD) (enc':=fKey) (ok':=fun _=>True) (ms':=ms_key) (fun p=>⟨p.1.1,p.1.2,p.2.1⟩) (fun _=>rfl) (fun _ _=>trivial) (fun _=>Nat.le_refl _)) N
theorem u32_sl (N : Nat) : OpB Tryz.prog N 65 (List Int) (fun l=>.sl (encL (fun y : Int=>.sc (.int .u32 y)) l) .un) (fun l=>∀ y ∈ l,(fun y : Int=>(Lit.int .u32 y).wf = true) y) (fun l=>lsum (fun _=>1) l + 1):=opb_sl (sz:=1) Tryz.underlying65 (by kernel_rfl) (by decide) (fun _=>rfl) (fun N=>opb_int Tryz.underlying197) N
def ms_call (x : CallD) : Nat:=(1 + ((lsum (fun _=>1) x.args + 1) + 0)) + 1
theorem call_opb (N : Nat) : OpB Tryz.prog N 67 CallD fCallD (fun x=>IOk x.act∧∀ y ∈ x.args,U32 y) ms_call :=
 opb_all (fun N=>(opb_struct Tryz.underlying67 (fun y=>by kernel_rfl) (fldb_cons (sz:=1) (opb_int Tryz.underlying3) rfl (by kernel_rfl) (fun _=>rfl) (fldb_cons (sz:=1) (u32_sl N) rfl (by kernel_rfl) (fun _=>rfl) fldb_nil))).map (β:=CallD) (enc':=fCallD) (ok':=fun x=>IOk x.act∧∀ y ∈ x.args,U32 y) (ms':=ms_call) (fun p=>⟨p.1,p.2.1⟩) (fun _=>rfl) (fun _ h=>⟨iok_of h.1,fun y hy=>u32_of (h.2.1 y hy)⟩) (fun _=>Nat.le_refl _)) N
theorem key_sl (N : Nat) : OpB Tryz.prog N 64 (List KeyD) (fun l=>.sl (encL fKey l) .un) (fun l=>∀ y ∈ l,(fun _=>True) y) (fun l=>lsum ms_key l + 1):=opb_sl (sz:=3) Tryz.underlying64 (by kernel_rfl) (by decide) (fun _=>rfl) key_opb N
theorem int_sl (N : Nat) : OpB Tryz.prog N 29 (List Int) (fun l=>.sl (encL (fun y : Int=>.sc (.int .i64 y)) l) .un) (fun l=>∀ y ∈ l,(fun y : Int=>(Lit.int .i64 y).wf = true) y) (fun l=>lsum (fun _=>1) l + 1):=opb_sl (sz:=1) Tryz.underlying29 (by kernel_rfl) (by decide) (fun _=>rfl) (fun N=>opb_int Tryz.underlying3) N
def ms_tbl (x : TblD) : Nat:=((x.name.size + 1) + ((lsum ms_key x.keys.l + 1) + ((lsum (fun _=>1) x.acts.l + 1) + (ms_call (⟨x.dfl,x.args.l⟩ : CallD) + (1 + 0))))) + 1
theorem tbl_opb (N : Nat) : OpB Tryz.prog N 69 TblD fTbl (fun x=>(∀ a ∈ x.acts.l,IOk a)∧IOk x.dfl∧∀ y ∈ x.args.l,U32 y) ms_tbl :=
 opb_all (fun N=>(opb_struct Tryz.underlying69 (fun y=>by kernel_rfl) (fldb_cons (sz:=1) (opb_string Tryz.underlying9) rfl (by kernel_rfl) (fun _=>rfl) (fldb_cons (sz:=1) (key_sl N) rfl (by kernel_rfl) (fun _=>rfl) (fldb_cons (sz:=1) (int_sl N) rfl (by kernel_rfl) (fun _=>rfl) (fldb_cons (sz:=2) (call_opb N) rfl (by kernel_rfl) (fun _=>rfl) (fldb_cons (sz:=1) (opb_int Tryz.underlying3) rfl (by kernel_rfl) (fun _=>rfl) fldb_nil)))))).map (β:=TblD) (enc':=fTbl) (ok':=fun x=>(∀ a ∈ x.acts.l,IOk a)∧IOk x.dfl∧∀ y ∈ x.args.l,U32 y) (ms':=ms_tbl) (fun p=>⟨p.1,⟨p.2.1⟩,⟨p.2.2.1⟩,p.2.2.2.1.act,⟨p.2.2.2.1.args⟩,p.2.2.2.2.1⟩) (fun _=>rfl) (fun _ h=>⟨fun a ha=>iok_of (h.2.2.1 a ha),h.2.2.2.1.1,h.2.2.2.1.2⟩) (fun _=>Nat.le_refl _)) N
def ms_case (x : CaseD) : Nat:=(1 + (1 + (1 + 0))) + 1
theorem case_opb (N : Nat) : OpB Tryz.prog N 246 CaseD fCase (fun x=>U32 x.value∧U32 x.mask) ms_case :=
 opb_all (fun N=>(opb_struct Tryz.underlying246 (fun y=>by kernel_rfl) (fldb_cons (sz:=1) (opb_int Tryz.underlying197) rfl (by kernel_rfl) (fun _=>rfl) (fldb_cons (sz:=1) (opb_int Tryz.underlying197) rfl (by kernel_rfl) (fun _=>rfl) (fldb_cons (sz:=1) (opb_int Tryz.underlying3) rfl (by kernel_rfl) (fun _=>rfl) fldb_nil)))).map (β:=CaseD) (enc':=fCase) (ok':=fun x=>U32 x.value∧U32 x.mask) (ms':=ms_case) (fun p=>⟨p.1,p.2.1,p.2.2.1⟩) (fun _=>rfl) (fun _ h=>⟨u32_of h.1,u32_of h.2.1⟩) (fun _=>Nat.le_refl _)) N
theorem case_sl (N : Nat) : OpB Tryz.prog N 72 (List CaseD) (fun l=>.sl (encL fCase l) .un) (fun l=>∀ y ∈ l,(fun x=>U32 x.value∧U32 x.mask) y) (fun l=>lsum ms_case l + 1):=opb_sl (sz:=3) Tryz.underlying72 (by kernel_rfl) (by decide) (fun _=>rfl) case_opb N
def ms_sta (x : StaD) : Nat:=((x.name.size + 1) + ((lsum (fun _=>1) x.extract.l + 1) + (1 + (ms_ref (x.onh,x.onf) + ((lsum ms_case x.cases.l + 1) + (1 + 0)))))) + 1
theorem sta_opb (N : Nat) : OpB Tryz.prog N 74 StaD fSta (fun x=>∀ c ∈ x.cases.l,U32 c.value∧U32 c.mask) ms_sta :=
 opb_all (fun N=>(opb_struct Tryz.underlying74 (fun y=>by kernel_rfl) (fldb_cons (sz:=1) (opb_string Tryz.underlying9) rfl (by kernel_rfl) (fun _=>rfl) (fldb_cons (sz:=1) (int_sl N) rfl (by kernel_rfl) (fun _=>rfl) (fldb_cons (sz:=1) (opb_bool Tryz.underlying4) rfl (by kernel_rfl) (fun _=>rfl) (fldb_cons (sz:=2) (ref_opb N) rfl (by kernel_rfl) (fun _=>rfl) (fldb_cons (sz:=1) (case_sl N) rfl (by kernel_rfl) (fun _=>rfl) (fldb_cons (sz:=1) (opb_int Tryz.underlying3) rfl (by kernel_rfl) (fun _=>rfl) fldb_nil))))))).map (β:=StaD) (enc':=fSta) (ok':=fun x=>∀ c ∈ x.cases.l,U32 c.value∧U32 c.mask) (ms':=ms_sta) (fun p=>⟨p.1,⟨p.2.1⟩,p.2.2.1,p.2.2.2.1.1,p.2.2.2.1.2,⟨p.2.2.2.2.1⟩,p.2.2.2.2.2.1⟩) (fun _=>rfl) (fun _ h=>h.2.2.2.2.1) (fun _=>Nat.le_refl _)) N
mutual
def ms_nod : NodD→Nat
 | .mk _ _ c tl el=>(1 + (1 + ((lsum ms_ex c + 1) + ((ms_nods tl + 1) + ((ms_nods el + 1) + 0))))) + 1
def ms_nods : List NodD→Nat
 | []=>0
 | x :: l=>ms_nod x + ms_nods l
end
theorem ms_nods_eq (l : List NodD) : lsum ms_nod l = ms_nods l:=by
 induction l with
 | nil=>rfl
 | cons x l ih=>rw [lsum,ms_nods,ih]
theorem nod_opb : ∀ N,OpB Tryz.prog N 122 NodD fNod (fun _=>True) ms_nod
 | 0=>OpB.zero
 | N + 1=>by
  have hs : OpB Tryz.prog N 28 (List NodD) (fun l=>.sl (encL fNod l) .un) (fun l=>∀ y ∈ l,True) (fun l=>lsum ms_nod l + 1):=(opb_slice (sz:=5) Tryz.underlying28 (by kernel_rfl) (by decide) (fun x=>by rw [fNod_eq]; rfl) (nod_opb N)).mono (Nat.le_succ N)
  refine (opb_struct Tryz.underlying122 (fun y=>by kernel_rfl) (fldb_cons (sz:=1) (opb_int Tryz.underlying3) rfl (by kernel_rfl) (fun _=>rfl) (fldb_cons (sz:=1) (opb_int Tryz.underlying3) rfl (by kernel_rfl) (fun _=>rfl) (fldb_cons (sz:=1) (ex_sl N) rfl (by kernel_rfl) (fun _=>rfl) (fldb_cons (sz:=1) hs rfl (by kernel_rfl) (fun _=>rfl) (fldb_cons (sz:=1) hs rfl (by kernel_rfl) (fun _=>rfl) fldb_nil)))))).map (fun p=>.mk p.1 p.2.1 p.2.2.1 p.2.2.2.1 p.2.2.2.2.1) (fun p=>by rw [fNod_eq]; rfl) (fun _ _=>trivial) (fun p=>?_)
  show ms_nod _ ≤ _
  rw [ms_nod,← ms_nods_eq,← ms_nods_eq]
  exact Nat.le_refl _
theorem nod_sl (N : Nat) : OpB Tryz.prog N 28 (List NodD) (fun l=>.sl (encL fNod l) .un) (fun l=>∀ y ∈ l,(fun _=>True) y) (fun l=>lsum ms_nod l + 1):=opb_sl (sz:=5) Tryz.underlying28 (by kernel_rfl) (by decide) (fun x=>by rw [fNod_eq]; rfl) nod_opb N
theorem hdr_sl (N : Nat) : OpB Tryz.prog N 22 (List HdrD) (fun l=>.sl (encL fHdr l) .un) (fun l=>∀ y ∈ l,(fun _=>True) y) (fun l=>lsum ms_hdr l + 1):=opb_sl (sz:=2) Tryz.underlying22 (by kernel_rfl) (by decide) (fun _=>rfl) hdr_opb N
theorem reg_sl (N : Nat) : OpB Tryz.prog N 24 (List RegD) (fun l=>.sl (encL fReg l) .un) (fun l=>∀ y ∈ l,(fun _=>True) y) (fun l=>lsum ms_reg l + 1):=opb_sl (sz:=3) Tryz.underlying24 (by kernel_rfl) (by decide) (fun _=>rfl) reg_opb N
theorem act_sl (N : Nat) : OpB Tryz.prog N 25 (List ActD) (fun l=>.sl (encL fAct l) .un) (fun l=>∀ y ∈ l,(fun _=>True) y) (fun l=>lsum ms_act l + 1):=opb_sl (sz:=3) Tryz.underlying25 (by kernel_rfl) (by decide) (fun _=>rfl) act_opb N
theorem tbl_sl (N : Nat) : OpB Tryz.prog N 26 (List TblD) (fun l=>.sl (encL fTbl l) .un) (fun l=>∀ y ∈ l,(fun x=>(∀ a ∈ x.acts.l,IOk a)∧IOk x.dfl∧∀ y ∈ x.args.l,U32 y) y) (fun l=>lsum ms_tbl l + 1):=opb_sl (sz:=6) Tryz.underlying26 (by kernel_rfl) (by decide) (fun _=>rfl) tbl_opb N
theorem sta_sl (N : Nat) : OpB Tryz.prog N 27 (List StaD) (fun l=>.sl (encL fSta l) .un) (fun l=>∀ y ∈ l,(fun x=>∀ c ∈ x.cases.l,U32 c.value∧U32 c.mask) y) (fun l=>lsum ms_sta l + 1):=opb_sl (sz:=7) Tryz.underlying27 (by kernel_rfl) (by decide) (fun _=>rfl) sta_opb N
def ms_prg (x : PrgD) : Nat:=((x.name.size + 1) + ((lsum ms_hdr x.headers.l + 1) + ((lsum ms_fld x.meta_.l + 1) + ((lsum ms_reg x.regs.l + 1) + ((lsum ms_act x.acts.l + 1) + ((lsum ms_tbl x.tables.l + 1) + ((lsum ms_sta x.states.l + 1) + ((lsum ms_nod x.control.l + 1) + ((lsum (fun _=>1) x.dep.l + 1) + 0))))))))) + 1
theorem prg_opb (N : Nat) : OpB Tryz.prog N 31 PrgD fPrg (fun x=>(∀ t ∈ x.tables.l,(∀ a ∈ t.acts.l,IOk a)∧IOk t.dfl∧∀ y ∈ t.args.l,U32 y)∧∀ s ∈ x.states.l,∀ c ∈ s.cases.l,U32 c.value∧U32 c.mask) ms_prg :=
 opb_all (fun N=>(opb_struct Tryz.underlying31 (fun y=>by kernel_rfl) (fldb_cons (sz:=1) (opb_string Tryz.underlying9) rfl (by kernel_rfl) (fun _=>rfl) (fldb_cons (sz:=1) (hdr_sl N) rfl (by kernel_rfl) (fun _=>rfl) (fldb_cons (sz:=1) (fld_sl N) rfl (by kernel_rfl) (fun _=>rfl) (fldb_cons (sz:=1) (reg_sl N) rfl (by kernel_rfl) (fun _=>rfl) (fldb_cons (sz:=1) (act_sl N) rfl (by kernel_rfl) (fun _=>rfl) (fldb_cons (sz:=1) (tbl_sl N) rfl (by kernel_rfl) (fun _=>rfl) (fldb_cons (sz:=1) (sta_sl N) rfl (by kernel_rfl) (fun _=>rfl) (fldb_cons (sz:=1) (nod_sl N) rfl (by kernel_rfl) (fun _=>rfl) (fldb_cons (sz:=1) (int_sl N) rfl (by kernel_rfl) (fun _=>rfl) fldb_nil)))))))))).map (β:=PrgD) (enc':=fPrg) (ok':=fun x=>(∀ t ∈ x.tables.l,(∀ a ∈ t.acts.l,IOk a)∧IOk t.dfl∧∀ y ∈ t.args.l,U32 y)∧∀ s ∈ x.states.l,∀ c ∈ s.cases.l,U32 c.value∧U32 c.mask) (ms':=ms_prg) (fun p=>⟨p.1,⟨p.2.1⟩,⟨p.2.2.1⟩,⟨p.2.2.2.1⟩,⟨p.2.2.2.2.1⟩,⟨p.2.2.2.2.2.1⟩,⟨p.2.2.2.2.2.2.1⟩,⟨p.2.2.2.2.2.2.2.1⟩,⟨p.2.2.2.2.2.2.2.2.1⟩⟩) (fun _=>rfl) (fun _ h=>⟨h.2.2.2.2.2.1,h.2.2.2.2.2.2.1⟩) (fun _=>Nat.le_refl _)) N
def ms_chip (x : ChipD) : Nat:=(1 + (1 + (1 + (1 + (1 + (1 + (1 + (1 + 0)))))))) + 1
theorem chip_opb (N : Nat) : OpB Tryz.prog N 33 ChipD fChip (fun _=>True) ms_chip :=
 opb_all (fun N=>(opb_struct Tryz.underlying33 (fun y=>by kernel_rfl) (fldb_cons (sz:=1) (opb_int Tryz.underlying3) rfl (by kernel_rfl) (fun _=>rfl) (fldb_cons (sz:=1) (opb_int Tryz.underlying3) rfl (by kernel_rfl) (fun _=>rfl) (fldb_cons (sz:=1) (opb_int Tryz.underlying3) rfl (by kernel_rfl) (fun _=>rfl) (fldb_cons (sz:=1) (opb_int Tryz.underlying3) rfl (by kernel_rfl) (fun _=>rfl) (fldb_cons (sz:=1) (opb_int Tryz.underlying3) rfl (by kernel_rfl) (fun _=>rfl) (fldb_cons (sz:=1) (opb_int Tryz.underlying3) rfl (by kernel_rfl) (fun _=>rfl) (fldb_cons (sz:=1) (opb_int Tryz.underlying3) rfl (by kernel_rfl) (fun _=>rfl) (fldb_cons (sz:=1) (opb_int Tryz.underlying3) rfl (by kernel_rfl) (fun _=>rfl) fldb_nil))))))))).map (β:=ChipD) (enc':=fChip) (ok':=fun _=>True) (ms':=ms_chip) (fun p=>⟨p.1,p.2.1,p.2.2.1,p.2.2.2.1,p.2.2.2.2.1,p.2.2.2.2.2.1,p.2.2.2.2.2.2.1,p.2.2.2.2.2.2.2.1⟩) (fun _=>rfl) (fun _ _=>trivial) (fun _=>Nat.le_refl _)) N
abbrev fC35 (x : PrgD × ChipD × List Int) : FV:=.agg (cPrg x.1 ++ (cChip x.2.1 ++ [sl (encL intF x.2.2)]))
def ms_c35 (x : PrgD × ChipD × List Int) : Nat:=(ms_prg x.1 + (ms_chip x.2.1 + ((lsum (fun _=>1) x.2.2 + 1) + 0))) + 1
theorem c35_opb (N : Nat) : OpB Tryz.prog N 44 (PrgD × ChipD × List Int) fC35 (fun x=>(∀ t ∈ x.1.tables.l,(∀ a ∈ t.acts.l,IOk a)∧IOk t.dfl∧∀ y ∈ t.args.l,U32 y)∧∀ s ∈ x.1.states.l,∀ c ∈ s.cases.l,U32 c.value∧U32 c.mask) ms_c35 :=
 opb_all (fun N=>(opb_struct Tryz.underlying44 (fun y=>by kernel_rfl) (fldb_cons (sz:=9) (prg_opb N) rfl (by kernel_rfl) (fun _=>rfl) (fldb_cons (sz:=8) (chip_opb N) rfl (by kernel_rfl) (fun _=>rfl) (fldb_cons (sz:=1) (int_sl N) rfl (by kernel_rfl) (fun _=>rfl) fldb_nil)))).map (β:=PrgD × ChipD × List Int) (enc':=fC35) (ok':=fun x=>(∀ t ∈ x.1.tables.l,(∀ a ∈ t.acts.l,IOk a)∧IOk t.dfl∧∀ y ∈ t.args.l,U32 y)∧∀ s ∈ x.1.states.l,∀ c ∈ s.cases.l,U32 c.value∧U32 c.mask) (ms':=ms_c35) (fun p=>(p.1,p.2.1,p.2.2.1)) (fun _=>rfl) (fun _ h=>h.1) (fun _=>Nat.le_refl _)) N
theorem ms_nods_len (l : List NodD) : l.length ≤ ms_nods l:=by
 induction l with
 | nil=>exact Nat.le_refl _
 | cons x l ih =>
  obtain ⟨k,t,c,a,b⟩:=x
  rw [ms_nods,ms_nod,List.length_cons]
  omega
mutual
theorem nodB_n : ∀ (x : NodD),ms_nod x ≤ maxLen→NodB x.thn.l∧NodB x.els.l
 | .mk k t c tl el,h=>by
  rw [ms_nod] at h
  exact ⟨nodB_l tl (by omega),nodB_l el (by omega)⟩
theorem nodB_l : ∀ (l : List NodD),ms_nods l ≤ maxLen→NodB l
 | [],h=>.mk [] (Nat.zero_le _) (fun x hx=>by cases hx) (fun x hx=>by cases hx)
 | x :: l,h=>by
  have hlen:=ms_nods_len (x :: l)
  rw [ms_nods] at h hlen
  obtain ⟨h1,h2⟩:=nodB_n x (by omega)
  cases nodB_l l (by omega) with
  | mk _ hl a b =>
   refine .mk _ (by omega) (fun y hy=>?_) (fun y hy=>?_)
   ·rcases List.mem_cons.1 hy with rfl | hy
    ·exact h1
    ·exact a y hy
   ·rcases List.mem_cons.1 hy with rfl | hy
    ·exact h2
    ·exact b y hy
end
theorem lsum_ex (l : List ExD) : 2 * l.length ≤ lsum ms_ex l:=by
 induction l with
 | nil=>exact Nat.le_refl _
 | cons x l ih =>
  have : 2 ≤ ms_ex x:=by unfold ms_ex; omega
  simp only [lsum,List.length_cons]; omega
mutual
theorem nodM_n : ∀ (x : NodD),(nodPre x).length ≤ ms_nod x∧∀ y ∈ nodPre x,2 * y.cond.l.length ≤ ms_nod x
 | .mk k t c tl el=>by
  obtain ⟨a1,a2⟩:=nodM_l tl
  obtain ⟨b1,b2⟩:=nodM_l el
  have hc:=lsum_ex c
  rw [nodPre,ms_nod]
  refine ⟨by simp only [List.length_cons,List.length_append]; omega,fun y hy=>?_⟩
  rcases List.mem_cons.1 hy with rfl | hy
  ·show 2 * c.length ≤ _
   omega
  rcases List.mem_append.1 hy with hy | hy
  ·have:=a2 y hy; omega
  ·have:=b2 y hy; omega
theorem nodM_l : ∀ (l : List NodD),(nodsPre l).length ≤ ms_nods l∧∀ y ∈ nodsPre l,2 * y.cond.l.length ≤ ms_nods l
 | []=>⟨Nat.le_refl _,fun y hy=>by rw [nodsPre] at hy; cases hy⟩
 | x :: l=>by
  obtain ⟨a1,a2⟩:=nodM_n x
  obtain ⟨b1,b2⟩:=nodM_l l
  rw [nodsPre,ms_nods]
  refine ⟨by simp only [List.length_append]; omega,fun y hy=>?_⟩
  rcases List.mem_append.1 hy with hy | hy
  ·have:=a2 y hy; omega
  ·have:=b2 y hy; omega
end
theorem prgU_of {d : PrgD} (h : ms_prg d ≤ 1048576) (hok : ∀ t ∈ d.tables.l,(∀ a ∈ t.acts.l,IOk a)∧IOk t.dfl∧∀ y ∈ t.args.l,U32 y) : PrgU d:=by
 unfold ms_prg at h
 have m1 : ∀ x ∈ d.headers.l,ms_hdr x ≤ 1048576:=fun x hx=>by have:=lsum_mem (f:=ms_hdr) hx; omega
 have m2 : ∀ x ∈ d.meta_.l,ms_fld x ≤ 1048576:=fun x hx=>by have:=lsum_mem (f:=ms_fld) hx; omega
 have m3 : ∀ x ∈ d.regs.l,ms_reg x ≤ 1048576:=fun x hx=>by have:=lsum_mem (f:=ms_reg) hx; omega
 have m4 : ∀ x ∈ d.acts.l,ms_act x ≤ 1048576:=fun x hx=>by have:=lsum_mem (f:=ms_act) hx; omega
 have m5 : ∀ x ∈ d.tables.l,ms_tbl x ≤ 1048576:=fun x hx=>by have:=lsum_mem (f:=ms_tbl) hx; omega
 have m6 : ∀ x ∈ d.states.l,ms_sta x ≤ 1048576:=fun x hx=>by have:=lsum_mem (f:=ms_sta) hx; omega
 have m7:=lsum_len (f:=ms_sta) (fun x=>by unfold ms_sta; omega) d.states.l
 have m8:=ms_nods_eq d.control.l
 refine ⟨⟨⟨by omega,fun x hx=>?_,fun x hx=>?_,fun x hx=>?_,fun x hx=>?_,fun x hx=>?_,fun x hx=>?_⟩,fun t ht=>?_,nodB_l _ (by unfold maxLen; omega),by omega⟩,?_,?_⟩
 ·have h1:=m1 x hx
  unfold ms_hdr at h1
  exact ⟨by omega,fun y hy=>by have h2:=lsum_mem (f:=ms_fld) hy; unfold ms_fld at h1 h2; omega⟩
 ·have h1:=m2 x hx
  unfold ms_fld at h1
  omega
 ·have h1:=m3 x hx
  unfold ms_reg at h1
  omega
 ·have h1:=m4 x hx
  unfold ms_act at h1
  exact ⟨by omega,fun y hy=>by have h2:=lsum_mem (f:=ms_fld) hy; unfold ms_fld at h1 h2; omega⟩
 ·have h1:=m5 x hx
  unfold ms_tbl at h1
  omega
 ·have h1:=m6 x hx
  unfold ms_sta at h1
  omega
 ·have h1:=m5 t ht
  obtain ⟨o1,o2,_⟩:=hok t ht
  unfold ms_tbl ms_call at h1
  have h2:=lsum_len (f:=fun _ : Int=>1) (fun _=>Nat.le_refl _) t.args.l
  exact ⟨o1,o2,by simp only at h1; omega⟩
 ·have h1:=(nodM_l d.control.l).1
  omega
 ·intro y hy
  have h1:=(nodM_l d.control.l).2 y hy
  omega
theorem prgN_of {d : PrgD} (hok : ∀ t ∈ d.tables.l,(∀ a ∈ t.acts.l,IOk a)∧IOk t.dfl∧∀ y ∈ t.args.l,U32 y) (h2 : ∀ s ∈ d.states.l,∀ c ∈ s.cases.l,U32 c.value∧U32 c.mask) : PrgN d :=
 ⟨fun t ht=>(hok t ht).2.2,h2⟩
end Go.Proofs.YtafenffmgpcjcaaGreat
