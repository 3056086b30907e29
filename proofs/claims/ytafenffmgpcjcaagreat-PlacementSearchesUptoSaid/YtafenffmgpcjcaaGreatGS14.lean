/- Texts of the proof: GS14. -/
import Derived.Test.YtafenffmgpcjcaaGreatGS13
import Derived.Test.YtafenffmgpcjcaaGreatGS9
import Derived.Test.YtafenffmgpcjcaaGreatGS11
import Derived.Test.YtafenffmgpcjcaaGreatGS12
import Derived.Test.YtafenffmgpcjcaaGreatGVC1
import Derived.Test.YtafenffmgpcjcaaGreatGS6
namespace Go.Proofs.YtafenffmgpcjcaaGreat
open Go.RowKit Go.Proofs.YtafenffmgpcjcaaGreat.Vf
set_option linter.unusedVariables false
set_option linter.unusedSimpArgs false
set_option maxRecDepth 100000
set_option maxHeartbeats 4000000
theorem rowTo_in (Rd Wr:Nat→List Int) (us:List UnitD) (i:Nat):List.replicate us.length 0=rowTo Rd Wr us i (i+1) i:=by
 apply List.ext_getElem
 ·simp [rowTo]
 ·intro b h1 h2
  simp only [rowTo,List.getElem_map,List.getElem_range,List.getElem_replicate]
  split
  ·rename_i h
   rw [depM,if_pos (by rcases h with h | ⟨_,h⟩ <;> omega)]
  ·rfl
theorem rowTo_set (Rd Wr:Nat→List Int) (us:List UnitD) {i j:Nat} (hj:j < us.length):(rowTo Rd Wr us i j i).set j (depM Rd Wr us i j)=rowTo Rd Wr us i (j+1) i:=by
 have:=congrFun (rowTo_put (Rd:=Rd) (Wr:=Wr) (us:=us) (i:=i) (j:=j) rfl hj) i
 simpa using this
theorem rowTo_all (Rd Wr:Nat→List Int) (us:List UnitD) {i:Nat} (hi:i < us.length):(depsM Rd Wr us)[i]?=some (rowTo Rd Wr us i us.length i):=by
 unfold depsM
 rw [List.getElem?_map,List.getElem?_range hi]
 refine congrArg some (List.map_congr_left fun b hb=>?_)
 rw [if_pos (.inr ⟨rfl,List.mem_range.1 hb⟩)]
def rb1 (d:PrgD) (us:List UnitD) (cu:Cap) (D:List (List Int)) (i:Nat) (s:St):Prop:=∃ g k x t,OwnT k (encL rowF (D.take i)) 1 x t ∧
 Vf.Sl [(1,.f (.sl (encL fUnit us) cu)),(2,.ref 0 0),(5,x),(6,.f (intF i))] 39 (aPrg d::g) k s
def rb2 (d:PrgD) (us:List UnitD) (cu:Cap) (r:Nat→List Int) (i:Nat) (g:List (List AV)) (k:List (Nat × Nat)) (x:AV) (j:Nat) (s:St):Prop:=∃ m,m=i+1+j ∧
 Vf.Sl [(1,.f (.sl (encL fUnit us) cu)),(2,.ref 0 0),(5,x),(6,.f (intF i)),(7,.ms (g.length+1) 0 us.length us.length 1),(8,.f (intF m))] 39 (aPrg d::(g ++ [rowA (r m)])) k s
theorem rdeps_g (d:PrgD) (hn:NmOk d) (hC:PrgC d) (us:List UnitD) (cu:Cap) (hl:us.length≤100000) (hg:∀ u ∈ us,u.guards.l.length < 2^62) (hc:∀ u ∈ us,u.cond.l.length≤1000000) (hw:∀ u ∈ us,(ruWr d u).length < 2^62) (hr:∀ u ∈ us,(ruRd d u).length < 2^62) :
  Gives Tryz.prog 19 [fPrg d,.sl (encL fUnit us) cu] (ownF (encL rowF (depsM (RdU d us) (WrU d us) us))):=by
 have hn2:us.length < 2^32:=by omega
 have hDl:(depsM (RdU d us) (WrU d us) us).length=us.length:=by simp [depsM]
 refine Gives.ofW Tryz.func19 rfl rfl rfl (by decide) ?_
 refine W.two (W.x mixed (by kernel_rfl) ?_)
 simp [fPrg,cPrg]
 refine W.two (W.x mixed (by kernel_rfl) ?_)
 simp
 refine W.two (W.two (W.x mixed (by kernel_rfl) ?_))
 simp
 refine W.blk (forW us.length (rb1 d us cu (depsM (RdU d us) (WrU d us) us)) ⟨[],[],_,0,.nil,Sl.of rfl rfl rfl⟩ ?_)
 rintro i ⟨ts,hh,kk⟩ hi ⟨g,k,x,t,ho,rfl,rfl,ff,rfl⟩
 refine W.two (W.x mixed (by kernel_rfl) ?_)
 by_cases hlt:i < us.length
 case neg =>
  obtain rfl:i=us.length:=by omega
  rw [← hDl,List.take_length] at ho
  simp
  refine W.x mixed (by kernel_rfl) ?_
  simp
  rw [ho.ret]
 have hw1:=wrap64 (x:=(i:Int)+1) (by omega) (by omega)
 simp [hlt]
 refine W.two (W.blk (W.two (W.x mixed (by kernel_rfl) ?_)))
 simp [make_i hn2]
 refine W.two (W.two (W.x mixed (by kernel_rfl) ?_))
 simp [hw1]
 rw [rowTo_in (RdU d us) (WrU d us) us i]
 refine W.blk (forW (us.length - (i+1)) (rb2 d us cu (fun m=>rowTo (RdU d us) (WrU d us) us i m i) i g kk x) ⟨_,rfl,Sl.of rfl rfl rfl⟩ ?_)
 rintro jj ⟨ts,hh,kk⟩ hj ⟨j,hj',rfl,rfl,ff,rfl⟩
 refine W.two (W.x mixed (by kernel_rfl) ?_)
 by_cases hjl:j < us.length
 case neg =>
  obtain rfl:j=us.length:=by omega
  simp
  refine frzM_W (d:=7) (b:=g.length+1) (fs:=encL intF (rowTo (RdU d us) (WrU d us) us i us.length i)) rfl (by simp [rowA,encL]) (by simp [rowTo]) (fun x hx=>?_) ?_
  ·obtain ⟨y,_,rfl⟩:=List.mem_map.1 hx
   rfl
  simp
  refine W.x mixed (by kernel_rfl) ?_
  simp [-opAppend]
  obtain ⟨t2,k2,e2,ho2,hk2,_⟩:=append_own ty58 ty29 (by simp) ho (y:=.f (.sl [rowF (rowTo (RdU d us) (WrU d us) us i us.length i)] .full)) rfl (by simp) (by simp) (by simp; omega) (by simp; omega)
  rw [e2]
  have hnx:encL rowF ((depsM (RdU d us) (WrU d us) us).take i) ++ [rowF (rowTo (RdU d us) (WrU d us) us i us.length i)]=encL rowF ((depsM (RdU d us) (WrU d us) us).take (i+1)):=by
   rw [List.take_add_one,rowTo_all _ _ us hlt]
   simp [encL]
  rw [hnx] at ho2
  rw [hnx]
  simp
  refine W.x mixed (by kernel_rfl) ?_
  simp [hw1]
  exact ⟨_,_,_,t2,ho2,Sl.of rfl rfl rfl⟩
 obtain ⟨u,hu,hu'⟩:=nth_of hlt
 obtain ⟨v,hv,hv'⟩:=nth_of hjl
 have mu:=List.mem_of_getElem? hu'
 have mv:=List.mem_of_getElem? hv'
 have hw2:=wrap64 (x:=(j:Int)+1) (by omega) (by omega)
 simp [hjl]
 refine W.two (W.blk (W.x mixed (by kernel_rfl) ?_))
 simp [aPrg]
 refine call_g (rdepend_g d hn hC us cu i j u v hu' hv' (by omega) hl (hg u mu) (hg v mv) (hc u mu) (hc v mv) (hw u mu) (hw v mv) (hr u mu) (hr v mv)) ?_
 have hrl:=rowTo_len (RdU d us) (WrU d us) us i j i
 have hj1:j+1≤us.length:=hjl
 simp [hjl,hj1,hrl,rowTo_set _ _ us hjl]
 refine W.x mixed (by kernel_rfl) ?_
 simp [hw2]
 refine ⟨?_,j+1,?_,Sl.of rfl rfl rfl⟩ <;> omega
def stIn (c:ChipD) (s:Int):Bool:=decide (0≤s) && decide (s < c.stages)
def fitsAt (j:JobD) (c:ChipD) (S:List Int) (s:Nat):Bool:=withinM (usTo j S s S.length) c
def validM (d:PrgD) (c:ChipD) (S:List Int):Bool:=decide ((prgCheckW d).1=0) && decide (chipCheck c=0) && satM (jobM d c).deps S && !(S.any fun s=>!stIn c s) && !((List.range c.stages.toNat).any fun s=>!fitsAt (jobM d c) c S s)
theorem chip_few {c:ChipD} (h:chipCheck c=0):1≤c.stages∧c.stages≤16:=by
 unfold chipCheck at h
 split at h
 ·cases h
 ·omega
def vlI (d:PrgD) (c:ChipD) (S:List Int) (J:FV) (cs:Cap) (i:Nat) (s:St):Prop:=noneT (fun s=>!stIn c s) S i∧∃ g,Vf.Sl [(2,.f (.sl (encL intF S) cs)),(4,.ref 1 0),(7,.f J),(30,.f (.sl (encL intF S) cs)),(31,.f (intF S.length)),(32,.f (intF i))] 58 (aPrg d::(cChip c).map .f::g) [] s
def vlJ (d:PrgD) (c:ChipD) (S:List Int) (J:FV) (j:JobD) (cs:Cap) (i:Nat) (s:St):Prop:=noneT (fun s=>!fitsAt j c S s) (List.range c.stages.toNat) i∧∃ g,Vf.Sl [(2,.f (.sl (encL intF S) cs)),(4,.ref 1 0),(7,.f J),(46,.f (intF c.stages)),(47,.f (intF i))] 58 (aPrg d::(cChip c).map .f::g) [] s
theorem valid_g (d:PrgD) (c:ChipD) (S:List Int) (cs:Cap) (hU:PrgU d) (hS:S.length≤maxLen):Gives Tryz.prog 16 [fPrg d,fChip c,.sl (encL intF S) cs] (boolF (validM d c S)):=by
 refine Gives.of mixed Tryz.func16 rfl rfl rfl (by kernel_rfl) ?_
 simp [fPrg,cPrg]
 refine call_g (prg_g d hU.ok) ?_
 by_cases h1:(prgCheckW d).1=0
 case neg =>
  have hv:validM d c S=false:=by unfold validM; rw [decide_eq_false h1]; rfl
  rw [hv]
  simp [h1]
 have hC:=prgC_of h1
 simp [h1]
 refine call_g (chip_g c) ?_
 by_cases h2:chipCheck c=0
 case neg =>
  have hv:validM d c S=false:=by unfold validM; rw [decide_eq_false h2]; simp
  rw [hv]
  simp [h2]
 obtain ⟨k1,k2⟩:=chip_few h2
 obtain ⟨c1,c2,c3,hJ⟩:=newJob_g d c hU hC
 have hv:validM d c S=(satM (jobM d c).deps S && !(S.any fun s=>!stIn c s) && !((List.range c.stages.toNat).any fun s=>!fitsAt (jobM d c) c S s)):=by unfold validM; rw [decide_eq_true h1,decide_eq_true h2]; rfl
 have hl:=bldM_len hU hC
 have hju:(jobM d c).units.length=(bldM d).length:=rfl
 have hjc:(jobM d c).costs.length=(bldM d).length:=by simp [jobM]
 have hjd:(jobM d c).deps.length=(bldM d).length:=by simp [jobM,depsM]
 have hjchip:(jobM d c).chip=c:=rfl
 rw [hv]
 clear hv
 simp [h2]
 refine call_g hJ ?_
 generalize jobM d c=j at *
 simp
 refine call_g (sat_g j.deps S c3 cs (by unfold maxLen; omega)) ?_
 cases h3:satM j.deps S with
 | false=>simp
 | true =>
 have hlen:S.length=j.deps.length:=by
  unfold satM at h3
  simp only [Bool.and_eq_true,decide_eq_true_eq] at h3
  first | exact h3.1 | omega
 simp
 refine forX mixed S.length (vlI d c S (.fp (cJob j c1 c2 c3)) cs) (by kernel_rfl) ⟨noneT.zero,[],Sl.of rfl rfl rfl⟩ ?_
 rintro i ⟨ts,hh,kk⟩ hi ⟨hno,g,rfl,rfl,f,rfl⟩
 by_cases hlt:i < S.length
 ·obtain ⟨x,hx,hx'⟩:=nth_of hlt
  have hw:=wrap64 (x:=(i:Int)+1) (by omega) (by unfold maxLen at hS; omega)
  by_cases h4:x < 0
  ·have ha:(S.any fun s=>!stIn c s)=true:=any_hit hx' (by simp [stIn]; omega)
   rw [ha]
   simp [hlt,hx,h4]
  by_cases h5:x < c.stages
  ·have h6:¬ c.stages≤x:=by omega
   simp [hlt,hx,h4,h6,hw]
   exact ⟨hno.next hx' (by simp [stIn]; omega),_,Sl.of rfl rfl rfl⟩
  ·have ha:(S.any fun s=>!stIn c s)=true:=any_hit hx' (by simp [stIn]; omega)
   rw [ha]
   simp [hlt,hx,h4,(show c.stages≤x by omega)]
 rw [hno.all hlt]
 obtain rfl:i=S.length:=by omega
 simp
 refine forX mixed c.stages.toNat (vlJ d c S (.fp (cJob j c1 c2 c3)) j cs) (by kernel_rfl) ⟨noneT.zero,g,Sl.of rfl rfl rfl⟩ ?_
 clear hlt hi hno
 rintro i ⟨ts,hh,kk⟩ hi ⟨hno,g,rfl,rfl,f,rfl⟩
 by_cases hlt:i < c.stages.toNat
 ·have hw:=wrap64 (x:=(i:Int)+1) (by omega) (by omega)
  have hlt':(i:Int) < c.stages:=by omega
  have hr:(List.range c.stages.toNat)[i]?=some i:=by simp [hlt]
  simp [hlt']
  refine call_g (usage_g j c1 c2 c3 S cs i (by omega) (by omega) hS) ?_
  simp
  refine call_g (within_g (usTo j S i S.length) c) ?_
  cases h6:withinM (usTo j S i S.length) c with
  | false =>
   have ha:((List.range c.stages.toNat).any fun s=>!fitsAt j c S s)=true:=any_hit hr (by simp [fitsAt,h6])
   rw [ha]
   simp
  | true =>
   simp [hw]
   exact ⟨hno.next hr (by simp [fitsAt,h6]),_,Sl.of rfl rfl rfl⟩
 have hlt2:¬ i < (List.range c.stages.toNat).length:=by simpa using hlt
 rw [hno.all hlt2]
 have hlt':¬ (i:Int) < c.stages:=by omega
 simp [hlt']
def inM (x a b:Int):Bool:=decide (a≤x) && decide (x≤b)
theorem rin_g (x a b:Int):Gives Tryz.prog 26 [intF x,intF a,intF b] (boolF (inM x a b)):=by
 refine Gives.of mixed Tryz.func26 rfl rfl rfl (by kernel_rfl) ?_
 unfold inM
 by_cases c1:a≤x <;> by_cases c2:x≤b <;> simp [c1,c2]
theorem chipCheck_in (c:ChipD):chipCheck c=if inM c.stages 1 16 && (inM c.tables 0 64 && (inM c.gates 0 64 && (inM c.sram 0 4096 && (inM c.tcam 0 4096 && (inM c.c8 0 64 && (inM c.c16 0 64 && inM c.c32 0 64)))))) then 0 else 9:=by
 have h5:(List.range 5).any (fun k=>bad64 (chipN c k))=(bad64 c.tables || (bad64 c.gates || (bad64 c.c8 || (bad64 c.c16 || bad64 c.c32)))):=by
  simp [List.range,List.range.loop,chipN]
 unfold chipCheck
 rw [h5]
 unfold inM bad64
 by_cases h:(1≤c.stages∧c.stages≤16)∧(0≤c.tables∧c.tables≤64)∧(0≤c.gates∧c.gates≤64)∧(0≤c.sram∧c.sram≤4096)∧(0≤c.tcam∧c.tcam≤4096)∧(0≤c.c8∧c.c8≤64)∧(0≤c.c16∧c.c16≤64)∧(0≤c.c32∧c.c32≤64)
 ·rw [if_neg (by omega),if_neg (by simp only [Bool.or_eq_true,decide_eq_true_eq]; omega),if_neg (by omega),if_pos (by simp only [Bool.and_eq_true,decide_eq_true_eq]; omega)]
 ·rw [if_neg (c:=(_=true)) (t:=(0:Int)) (by simp only [Bool.and_eq_true,decide_eq_true_eq]; omega)]
  by_cases h1:c.stages < 1∨16 < c.stages
  ·rw [if_pos h1]
  rw [if_neg h1]
  by_cases h2:c.sram < 0∨4096 < c.sram∨c.tcam < 0∨4096 < c.tcam
  ·rw [if_pos h2]; split <;> rfl
  ·rw [if_pos (by simp only [Bool.or_eq_true,decide_eq_true_eq]; omega)]
theorem rchip_g (c:ChipD):Gives Tryz.prog 9 [fChip c] (intF (chipCheck c)):=by
 rw [chipCheck_in]
 refine Gives.of mixed Tryz.func9 rfl rfl rfl (by kernel_rfl) ?_
 simp
 refine call_g (rin_g c.stages 1 16) ?_
 cases inM c.stages 1 16
 ·simp
 simp
 refine call_g (rin_g c.tables 0 64) ?_
 cases inM c.tables 0 64
 ·simp
 simp
 refine call_g (rin_g c.gates 0 64) ?_
 cases inM c.gates 0 64
 ·simp
 simp
 refine call_g (rin_g c.sram 0 4096) ?_
 cases inM c.sram 0 4096
 ·simp
 simp
 refine call_g (rin_g c.tcam 0 4096) ?_
 cases inM c.tcam 0 4096
 ·simp
 simp
 refine call_g (rin_g c.c8 0 64) ?_
 cases inM c.c8 0 64
 ·simp
 simp
 refine call_g (rin_g c.c16 0 64) ?_
 cases inM c.c16 0 64
 ·simp
 simp
 refine call_g (rin_g c.c32 0 64) ?_
 cases inM c.c32 0 64
 ·simp
 simp
theorem rwithin_g (u:UsD) (c:ChipD):Gives Tryz.prog 35 [fUs u,fChip c] (boolF (withinM u c)):=by
 refine Gives.of mixed Tryz.func35 rfl rfl rfl (by kernel_rfl) ?_
 unfold withinM
 by_cases c1:u.tables≤c.tables <;> by_cases c2:u.gates≤c.gates <;> simp [c1,c2]
 refine call_g (rfits2_g u.cost c) ?_
 simp
def rcosI (d:PrgD) (us:List UnitD) (c:Cap) (i:Nat) (s:St):Prop:=∃ k x t,OwnT k (encL fRes ((us.map (unitCost d)).take i)) 2 x t ∧
 Vf.Sl [(1,.f (.sl (encL fUnit us) c)),(2,.ref 0 0),(5,x),(6,.f (intF i))] 23 [aPrg d] k s
theorem rcosts_g (d:PrgD) (hU:PrgU d) (hN:PrgN d) (us:List UnitD) (c:Cap) (hl:us.length≤100000):Gives Tryz.prog 40 [fPrg d,.sl (encL fUnit us) c] (ownF (encL fRes (us.map (unitCost d)))):=by
 refine Gives.of mixed Tryz.func40 rfl rfl rfl (by kernel_rfl) ?_
 simp [fPrg,cPrg]
 refine forX mixed us.length (rcosI d us c) (by kernel_rfl) ⟨[],_,0,.nil,Sl.of rfl rfl rfl⟩ ?_
 rintro i ⟨ts,hh,kk⟩ hi ⟨k,x,t,ho,rfl,rfl,f,rfl⟩
 by_cases hlt:i < us.length
 ·obtain ⟨u,hu,hu'⟩:=nth_of hlt
  have hw:=wrap64 (x:=(i:Int)+1) (by omega) (by omega)
  simp [hlt,hu,aPrg,fUnit]
  refine call_g (runitCost_g d hU hN u) ?_
  simp [-opAppend]
  obtain ⟨t',k',e,ho',_⟩:=append_own ty89 ty47 (by simp) ho (y:=.f (.sl [fRes (unitCost d u)] .full)) rfl (by simp) (by simp) (by simp; omega) (by simp; omega)
  rw [e]
  have hnx:encL fRes ((us.map (unitCost d)).take i) ++ [fRes (unitCost d u)]=encL fRes ((us.map (unitCost d)).take (i+1)):=by
   rw [List.take_add_one,List.getElem?_map,hu']
   simp [encL]
  rw [hnx] at ho' ⊢
  simp [hw]
  exact ⟨_,_,_,ho',Sl.of rfl rfl rfl⟩
 ·obtain rfl:i=us.length:=by omega
  have:(us.map (unitCost d)).take us.length=us.map (unitCost d):=List.take_of_length_le (by simp)
  rw [this] at ho
  simp
  rw [ho.ret]
theorem tblCost_bd (d:PrgD) (i:Int):(0≤(tblCost d i).1∧(tblCost d i).1≤100000000)∧(0≤(tblCost d i).2∧(tblCost d i).2≤100000000):=by
 unfold tblCost
 split
 case isFalse=>exact ⟨⟨by decide,by decide⟩,by decide,by decide⟩
 rename_i h
 have hC:=prgC_of h
 cases hr:tblOf d i with
 | none =>
  show (0≤(0:Int)∧(0:Int)≤100000000)∧(0≤(0:Int)∧(0:Int)≤100000000)
  decide
 | some t =>
  simp only
  unfold tblOf at hr
  have c1:¬ i < 0:=by intro c; rw [if_pos c] at hr; cases hr
  rw [if_neg c1] at hr
  have htc:(tblCheckA d t).2=0:=by
   have:=hC.tc i.toNat (List.getElem?_eq_some_iff.1 hr).1
   unfold tblCheck at this
   rw [if_neg (by omega),Int.toNat_natCast,hr] at this
   exact this
  have hsz:1≤t.size∧t.size≤256:=by
   unfold tblCheckA at htc
   split at htc
   ·cases htc
   ·split at htc
    ·cases htc
    ·split at htc
     ·cases htc
     ·omega
  have hA:=argBits_bd (widthsOk_of hC) t
  have hbd:=tblWidths_bd d i
  have hbb:=isum_32 hbd.2
  have hB:0≤tblBits d i∧tblBits d i≤192:=by unfold tblBits; omega
  generalize argBits d t=A at hA ⊢
  generalize tblBits d i=B at hB ⊢
  have m1:0≤t.size * (B+(8+A))∧t.size * (B+(8+A))≤256 * 33000:=⟨Int.mul_nonneg (by omega) (by omega),Int.mul_le_mul hsz.2 (by omega) (by omega) (by omega)⟩
  have m2:0≤t.size * (8+A)∧t.size * (8+A)≤256 * 33000:=⟨Int.mul_nonneg (by omega) (by omega),Int.mul_le_mul hsz.2 (by omega) (by omega) (by omega)⟩
  have m3:0≤t.size * B∧t.size * B≤256 * 33000:=⟨Int.mul_nonneg (by omega) (by omega),Int.mul_le_mul hsz.2 (by omega) (by omega) (by omega)⟩
  split
  ·exact ⟨⟨by decide,by decide⟩,by decide,by decide⟩
  ·split <;> simp only [blocksOf] <;> omega
theorem unitCost_bd (d:PrgD) (u:UnitD):(0≤(unitCost d u).1∧(unitCost d u).1≤100000000)∧(0≤(unitCost d u).2∧(unitCost d u).2≤100000000):=by
 unfold unitCost
 split
 ·exact ⟨⟨by decide,by decide⟩,by decide,by decide⟩
 ·exact tblCost_bd d u.table
def usCo (cs:List (Int × Int)) (S:List Int) (s:Int):Nat→List (Int × Int)
 | 0=>[]
 | k+1=>match S[k]?,cs[k]? with
  | some x,some co=>if x=s then usCo cs S s k ++ [co] else usCo cs S s k
  | _,_=>usCo cs S s k
theorem usCo_len (cs:List (Int × Int)) (S:List Int) (s:Int) (k:Nat):(usCo cs S s k).length≤k:=by
 induction k with
 | zero=>exact Nat.le_refl _
 | succ k ih =>
  unfold usCo
  split
  ·split
   ·simp; omega
   ·omega
  ·omega
theorem usCo_mem (cs:List (Int × Int)) (S:List Int) (s:Int) (k:Nat):∀ x ∈ usCo cs S s k,x ∈ cs:=by
 induction k with
 | zero=>intro x hx; cases hx
 | succ k ih =>
  unfold usCo
  split
  ·rename_i hco
   split
   ·intro x hx
    rcases List.mem_append.1 hx with h | h
    ·exact ih x h
    ·obtain rfl:=List.mem_singleton.1 h
     exact List.mem_of_getElem? hco
   ·exact ih
  ·exact ih
theorem sumR_two {a co:Int × Int} (h:(0≤a.1∧a.1≤9223372036854775807)∧(0≤a.2∧a.2≤9223372036854775807)):sumR [a,co]=sumStep a co:=by
 have:sumStep (0,0) a=a:=by
  rw [sumStep_eq,satAdd_min,satAdd_min,if_neg (by simp only; omega),if_neg (by simp only; omega)]
  refine Prod.ext ?_ ?_ <;> simp only <;> omega
 show sumStep (sumStep (0,0) a) co=_
 rw [this]
theorem usTo_cost (j:JobD) (S:List Int) (s:Int) (hlen:j.costs.length=j.units.length) (k:Nat):(usTo j S s k).cost=sumR (usCo j.costs S s k):=by
 induction k with
 | zero=>rfl
 | succ k ih =>
  unfold usTo usCo
  cases hx:S[k]? with
  | none=>exact ih
  | some x =>
   cases hc:j.costs[k]? with
   | none=>cases j.units[k]? <;> exact ih
   | some co =>
    have hk:=(List.getElem?_eq_some_iff.1 hc).1
    rw [List.getElem?_eq_getElem (show k < j.units.length by omega)]
    simp only
    split
    ·show sumR [(usTo j S s k).cost,co]=_
     rw [ih,sumR_two (a:=sumR (usCo j.costs S s k)) (sumFold_bd (usCo j.costs S s k) (0,0) ⟨by simp,by simp⟩)]
     unfold sumR
     rw [List.foldl_append]
     rfl
    ·exact ih
def ldI (j:JobD) (c1 c2 c:Cap) (S:List Int) (s:Int) (i:Nat) (st:St):Prop:=∃ k x t,OwnT k (encL fRes (usCo j.costs S s i)) 2 x t ∧
 Vf.Sl [(0,.f (.sl (encL fUnit j.units) c1)),(1,.f (.sl (encL fRes j.costs) c2)),(2,.f (.sl (encL intF S) c)),(3,.f (intF s)),(8,.ref 0 0),(9,.ref 1 0),(10,x),(11,.f (intF i))] 50 [[.f (intF 0),.f (intF 0),.f (intF 0),.f (intF 0)],[.f (intF (usTo j S s i).tables),.f (intF (usTo j S s i).gates),.f (intF 0),.f (intF 0)]] k st
theorem rload_g (j:JobD) (c1 c2:Cap) (S:List Int) (c:Cap) (s:Int) (h1:S.length≤j.units.length) (h2:j.costs.length=j.units.length) (hl:S.length≤100000) (hb:∀ x ∈ j.costs,x.1≤9223372036854775807∧x.2≤9223372036854775807) :
  Gives Tryz.prog 36 [.sl (encL fUnit j.units) c1,.sl (encL fRes j.costs) c2,.sl (encL intF S) c,intF s] (fUs (usTo j S s S.length)):=by
 refine Gives.of mixed Tryz.func36 rfl rfl rfl (by kernel_rfl) ?_
 simp
 refine forX mixed S.length (ldI j c1 c2 c S s) (by kernel_rfl) ⟨[],_,0,.nil,Sl.of rfl rfl rfl⟩ ?_
 rintro i ⟨ts,hh,kk⟩ hi ⟨k,x,t,ho,rfl,rfl,ff,rfl⟩
 by_cases hlt:i < S.length
 ·obtain ⟨v,hv,hv'⟩:=nth_of hlt
  have lu:i < j.units.length:=by omega
  have lc:i < j.costs.length:=by omega
  obtain ⟨un,hun,hun'⟩:=nth_of lu
  obtain ⟨co,hco,hco'⟩:=nth_of lc
  have hw:=wrap64 (x:=(i:Int)+1) (by omega) (by omega)
  have hn:usTo j S s (i+1)=if v=s then usAdd (usTo j S s i) un co else usTo j S s i:=by
   rw [usTo,hv',hun',hco']
  have hn2:usCo j.costs S s (i+1)=if v=s then usCo j.costs S s i ++ [co] else usCo j.costs S s i:=by
   rw [usCo,hv',hco']
  by_cases c0:v=s
  case neg =>
   rw [if_neg c0] at hn hn2
   simp [hlt,hv,c0,hw]
   exact ⟨_,_,_,by rw [hn2]; exact ho,by rw [hn]; exact Sl.of rfl rfl rfl⟩
  rw [if_pos c0] at hn hn2
  have hle:=usCo_len j.costs S s i
  obtain ⟨t',k',e,ho',_⟩:=append_own ty89 ty47 (by simp) ho (y:=.f (.sl [fRes co] .full)) rfl (by simp) (by simp) (by simp; omega) (by simp; omega)
  have hnx:encL fRes (usCo j.costs S s i) ++ [fRes co]=encL fRes (usCo j.costs S s (i+1)):=by
   rw [hn2]; simp [encL]
  rw [hnx] at e ho'
  by_cases c3:un.table < 0
  ·simp [hlt,hv,c0,lu,hun,c3,lc,hco,-opAppend]
   rw [e]
   simp [hw]
   refine ⟨_,_,_,ho',?_⟩
   rw [hn]
   simp only [usAdd,c3,if_true]
   exact Sl.of rfl rfl rfl
  ·simp [hlt,hv,c0,lu,hun,c3,lc,hco,-opAppend]
   rw [e]
   simp [hw]
   refine ⟨_,_,_,ho',?_⟩
   rw [hn]
   simp only [usAdd,c3,if_false]
   exact Sl.of rfl rfl rfl
 ·obtain rfl:i=S.length:=by omega
  simp
  obtain ⟨cx,ex⟩:=ownF_cap (encL fRes (usCo j.costs S s S.length))
  have hle:=usCo_len j.costs S s S.length
  have hs:=rsum_g (usCo j.costs S s S.length) cx (by unfold maxLen; omega) fun y hy=>hb y (usCo_mem _ _ _ _ y hy)
  rw [← ex] at hs
  have hct:=usTo_cost j S s h2 S.length
  have hfin:usTo j S s S.length=⟨(usTo j S s S.length).tables,(usTo j S s S.length).gates,sumR (usCo j.costs S s S.length)⟩:=by rw [← hct]
  generalize (usTo j S s S.length).tables=A at hfin ⊢
  generalize (usTo j S s S.length).gates=B at hfin ⊢
  rw [hfin]
  rcases ho with ⟨h0,rfl⟩ | ⟨h0,rfl,_⟩
  ·rw [h0] at hs
   simp
   refine call_g hs ?_
   simp
  ·unfold ownF at hs
   rw [if_neg h0] at hs
   simp
   refine call_g hs ?_
   simp
theorem ruWr_len {d:PrgD} (hC:PrgC d) (u:UnitD):(ruWr d u).length≤1000000:=by
 unfold ruWr
 cases h:tblOf d u.table with
 | none=>exact Nat.zero_le _
 | some t =>
  have h1:=tblOf_small hC h
  have h2:=actsR_len (d:=d) (fun a=>wrR_bd d (prgS_of hC).f a) t.acts.l []
  rw [List.length_nil] at h2
  show (actsR d (fun a=>wrR d (bodyM d a)) [] t.acts.l).length≤_
  omega
theorem ruRd_len {d:PrgD} (hC:PrgC d) (u:UnitD) (hu:u.cond.l.length≤1000000):(ruRd d u).length≤10000000:=by
 unfold ruRd
 split
 ·have h1:=gathM_len d [] ⟨FL u.cond.l,HL u.cond.l,[]⟩
  have h2:=FLn_len u.cond.l
  have h3:=HLn_len u.cond.l
  simp only [List.length_nil] at h1
  omega
 ·cases h:tblOf d u.table with
  | none=>exact Nat.zero_le _
  | some t =>
   have h1:=tblOf_small hC h
   have h2:=actsR_len (d:=d) (fun a=>rdR_bd d a) t.acts.l (keysR d t.keys.l)
   have h3:=keysR_len d t.keys.l
   show (actsR d (fun a=>rdR (bodyM d a)) (keysR d t.keys.l) t.acts.l).length≤_
   omega
theorem depsR_same (d:PrgD) (us:List UnitD):depsM (RdU d us) (WrU d us) us=depsM (rdF d us) (wrF d us) us:=by
 unfold depsM
 refine List.map_congr_left fun a _=>List.map_congr_left fun b _=>depM_same (fun a=>?_) (fun a=>?_) us a b
 ·unfold RdU rdF
  cases us[a]? with
  | none=>exact SameM.rfl_
  | some u=>exact ruRd_same d u
 ·unfold WrU wrF
  cases us[a]? with
  | none=>exact SameM.rfl_
  | some u=>exact ruWr_same d u
theorem ctl_few {d:PrgD} (hU:PrgU d) (h:(ctlCheckW d).2=0):(nodsPre d.control.l).length≤24:=by
 have hn:=hU.nodes
 unfold ctlCheckW at h
 rw [wr_id (by omega) (by omega)] at h
 split at h
 ·cases h
 ·omega
theorem runits_g (d:PrgD) (hU:PrgU d):Gives Tryz.prog 18 [fPrg d] (ownF (encL fUnit (bldM d))) :=
 rbuild_g d hU.ok.nod hU.nodes fun h=>by rw [(bldL_all _ _ _).1]; exact Nat.le_trans (ctl_few hU h) (by decide)
theorem rproblem_g (d:PrgD) (c:ChipD) (hU:PrgU d) (hN:PrgN d) (hC:PrgC d):∃ c1 c2 c3,Gives Tryz.prog 34 [fPrg d,fChip c] (.agg (cJob (jobM d c) c1 c2 c3)):=by
 have hl:=bldM_len hU hC
 have hb:=runits_g d hU
 obtain ⟨c1,e1⟩:=ownF_cap (encL fUnit (bldM d))
 rw [e1] at hb
 have hmem:∀ {u:UnitD},u ∈ bldM d→u.cond.l.length≤1000000∧u.guards.l.length≤24:=fun h=>bldM_mem hU hC h
 have hD:=rdeps_g d hU.ok.nm hC (bldM d) c1 (by omega) (fun u hu=>by have:=(hmem hu).2; omega) (fun u hu=>(hmem hu).1) (fun u hu=>by have:=ruWr_len hC u; omega) (fun u hu=>by have:=ruRd_len hC u (hmem hu).1; omega)
 rw [depsR_same] at hD
 have hcs:=rcosts_g d hU hN (bldM d) c1 (by omega)
 obtain ⟨c2,e2⟩:=ownF_cap (encL fRes ((bldM d).map (unitCost d)))
 rw [e2] at hcs
 have hj:jobM d c=⟨c,bldM d,(bldM d).map (unitCost d),depsM (rdF d (bldM d)) (wrF d (bldM d)) (bldM d)⟩:=rfl
 obtain ⟨c3,e3⟩:=ownF_cap (encL rowF (depsM (rdF d (bldM d)) (wrF d (bldM d)) (bldM d)))
 rw [e3] at hD
 refine ⟨c1,c2,c3,?_⟩
 rw [hj]
 generalize depsM (rdF d (bldM d)) (wrF d (bldM d)) (bldM d)=D at *
 generalize (bldM d).map (unitCost d)=C at *
 refine Gives.of mixed Tryz.func34 rfl rfl rfl (by kernel_rfl) ?_
 simp [fPrg,cPrg,fChip]
 refine call_g hb ?_
 simp
 refine call_g hcs ?_
 simp
 refine call_g hD ?_
 simp
theorem job_costs (d:PrgD) (c:ChipD):∀ x ∈ (jobM d c).costs,x.1≤9223372036854775807∧x.2≤9223372036854775807:=by
 intro x hx
 obtain ⟨u,_,rfl⟩:=List.mem_map.1 hx
 have:=unitCost_bd d u
 omega
abbrev fPlc (st:Int) (stage:FV) (steps reason:Int) (units:FV):FV:=.agg [intF st,stage,intF steps,intF reason,units]
theorem infeasible_g (reason steps:Int) (l:List Int) (c:Cap):Gives Tryz.prog 28 [intF reason,intF steps,.sl (encL intF l) c] (fPlc 2 (.sl [] .nil) steps reason (.sl (encL intF l) c)):=by
 refine Gives.of mixed Tryz.func28 rfl rfl rfl (by kernel_rfl) ?_
 simp
def folOk (D:List (List Int)) (u:Nat) (s:Int) (i:Nat) (x:Int):Bool:=match D[i]? with
 | some r=>match r[u]? with
  | some k=>if k=2 then decide (x < s) else if k=1 then decide (x≤s) else true
  | none=>true
 | none=>true
def folBad (D:List (List Int)) (S:List Int) (u:Nat) (s:Int) (i:Nat):Bool:=match S[i]? with
 | some x=>!folOk D u s i x
 | none=>false
def folM (D:List (List Int)) (S:List Int) (u:Nat) (s:Int):Bool:=!((List.range u).any (folBad D S u s))
def foI (j:JobD) (c1 c2 c3:Cap) (S:List Int) (c:Cap) (u:Nat) (s:Int) (i:Nat) (st:St):Prop:=noneT (folBad j.deps S u s) (List.range u) i ∧
 Vf.Sl [(0,.f (.fp (cJob j c1 c2 c3))),(2,.f (intF u)),(3,.f (intF s)),(13,.f (sl (encL intF (S.take u)))),(14,.f (intF u)),(15,.f (intF i))] 41 [] [] st
theorem jfollows_g (j:JobD) (c1 c2 c3:Cap) (S:List Int) (c:Cap) (u:Nat) (s:Int) (hu:u≤S.length) (hD:∀ i,i < u→∃ r,j.deps[i]?=some r∧u < r.length) (hl:S.length≤maxLen) :
  Gives Tryz.prog 61 [.fp (cJob j c1 c2 c3),.sl (encL intF S) c,intF u,intF s] (boolF (folM j.deps S u s)):=by
 refine Gives.of mixed Tryz.func61 rfl rfl rfl (by kernel_rfl) ?_
 have hsl:opSlice (tyOf Tryz.prog) 29 (.f (.sl (encL intF S) c)) none (some (.f (intF u))) none=some (.f (sl (encL intF (S.take u)))):=by
  simp [opSlice,optIdx,idx,hu,encL]
 have hmin:min u S.length=u:=Nat.min_eq_left hu
 have hlen:(S.take u).length=u:=by rw [List.length_take,hmin]
 generalize hv:folM j.deps S u s=v
 unfold folM at hv
 simp [hsl,hmin]
 refine forX mixed u (foI j c1 c2 c3 S c u s) (by kernel_rfl) ⟨noneT.zero,Sl.of rfl rfl rfl⟩ ?_
 rintro i ⟨ts,hh,kk⟩ hi ⟨hno,rfl,rfl,f,rfl⟩
 by_cases hlt:i < u
 ·obtain ⟨x,hx,hx'⟩:=nth_of (show i < (S.take u).length by omega)
  have hxS:S[i]?=some x:=by rw [List.getElem?_take_of_lt hlt] at hx'; exact hx'
  obtain ⟨r,hr',hul⟩:=hD i hlt
  obtain ⟨r',hr,hr2⟩:=nth_of (List.getElem?_eq_some_iff.1 hr').1
  obtain rfl:r=r':=by rw [hr'] at hr2; exact Option.some.inj hr2
  obtain ⟨q,hq,hq'⟩:=nth_of hul
  have hil:=(List.getElem?_eq_some_iff.1 hr').1
  have hw:=wrap64 (x:=(i:Int)+1) (by omega) (by unfold maxLen at hl; omega)
  have hb:folBad j.deps S u s i=!(if q=2 then decide (x < s) else if q=1 then decide (x≤s) else true):=by
   unfold folBad folOk
   rw [hxS,hr']
   simp only
   rw [hq']
  have hri:(List.range u)[i]?=some i:=by simp [hlt]
  by_cases k2:q=2
  ·rw [if_pos k2] at hb
   by_cases c0:s≤x
   ·have ha:(List.range u).any (folBad j.deps S u s)=true:=any_hit hri (by rw [hb]; simp; omega)
    rw [ha] at hv
    subst hv
    simp [hlt,hx,hr,hil,hul,hq,k2,c0]
   ·simp [hlt,hx,hr,hil,hul,hq,k2,c0,hw]
    exact ⟨hno.next hri (by rw [hb]; simp; omega),Sl.of rfl rfl rfl⟩
  rw [if_neg k2] at hb
  by_cases k1:q=1
  ·rw [if_pos k1] at hb
   by_cases c0:s < x
   ·have ha:(List.range u).any (folBad j.deps S u s)=true:=any_hit hri (by rw [hb]; simp; omega)
    rw [ha] at hv
    subst hv
    simp [hlt,hx,hr,hil,hul,hq,k1,c0]
   ·simp [hlt,hx,hr,hil,hul,hq,k1,c0,hw]
    exact ⟨hno.next hri (by rw [hb]; simp; omega),Sl.of rfl rfl rfl⟩
  ·rw [if_neg k1] at hb
   simp [hlt,hx,hr,hil,hul,hq,k1,k2,hw]
   exact ⟨hno.next hri (by rw [hb]; rfl),Sl.of rfl rfl rfl⟩
 ·obtain rfl:i=u:=by omega
  rw [hno.all (by simp)] at hv
  subst hv
  simp
inductive SRes where
 | placed (S:List Int) (k:Nat)
 | undecided (k:Nat)
 | full (k:Nat)
def fSRes:SRes→FV
 | .placed S k=>fPlc 1 (sl (encL intF S)) k 0 (.sl [] .nil)
 | .undecided k=>fPlc 3 (.sl [] .nil) k 19 (.sl [] .nil)
 | .full k=>fPlc 2 (.sl [] .nil) k 13 (.sl [] .nil)
def srchM (j:JobD) (B u s k:Nat) (S:List Int):SRes :=
 if u=j.units.length then .placed S k
 else if (s:Int) < j.chip.stages then
  if hk:B≤k then .undecided k
  else match j.units[u]?,j.costs[u]? with
   | some un,some co=>if withinM (usAdd (usTo j S s u) un co) j.chip && folM j.deps S u s then srchM j B (u+1) 0 (k+1) (S.set u s) else srchM j B u (s+1) (k+1) S
   | _,_=>.full k
 else if hu:u=0 then .full k
 else srchM j B (u - 1) ((S.getD (u - 1) 0).toNat+1) k S
termination_by (B - k) * (j.units.length+2)+u
decreasing_by
 ·obtain ⟨d,hd⟩:∃ d,B - k=d+1:=⟨B - k - 1,by omega⟩
  rw [hd,show B - (k+1)=d by omega,Nat.succ_mul]
  omega
 ·obtain ⟨d,hd⟩:∃ d,B - k=d+1:=⟨B - k - 1,by omega⟩
  rw [hd,show B - (k+1)=d by omega,Nat.succ_mul]
  omega
 ·omega
def cUs (v:UsD):List AV:=[.f (intF v.tables),.f (intF v.gates),.f (intF v.cost.1),.f (intF v.cost.2)]
def usA (F:Nat→UsD):List AV:=(List.range 16).flatMap fun t=>cUs (F t)
@[simp] theorem usA_len (F:Nat→UsD):(usA F).length=64:=rfl
theorem usA_get (F:Nat→UsD) {t:Nat} (ht:t < 16):((usA F).drop (t * 4)).take 4=cUs (F t):=by
 match t,ht with
 | 0,_=>rfl | 1,_=>rfl | 2,_=>rfl | 3,_=>rfl | 4,_=>rfl | 5,_=>rfl | 6,_=>rfl | 7,_=>rfl | 8,_=>rfl | 9,_=>rfl | 10,_=>rfl | 11,_=>rfl | 12,_=>rfl | 13,_=>rfl | 14,_=>rfl | 15,_=>rfl | t+16,h=>exact absurd h (by omega)
theorem usA_over (F:Nat→UsD) (v:UsD) {t:Nat} (ht:t < 16):over (usA F) (t * 4) (cUs v)=usA (fun q=>if q=t then v else F q):=by
 match t,ht with
 | 0,_=>rfl | 1,_=>rfl | 2,_=>rfl | 3,_=>rfl | 4,_=>rfl | 5,_=>rfl | 6,_=>rfl | 7,_=>rfl | 8,_=>rfl | 9,_=>rfl | 10,_=>rfl | 11,_=>rfl | 12,_=>rfl | 13,_=>rfl | 14,_=>rfl | 15,_=>rfl | t+16,h=>exact absurd h (by omega)
theorem usTo_congr {j:JobD} {S S':List Int} {t:Int}:∀ {u:Nat},(∀ i,i < u→S[i]?=S'[i]?)→usTo j S t u=usTo j S' t u
 | 0,_=>rfl
 | u+1,h=>by rw [usTo,usTo,h u (by omega),usTo_congr fun i hi=>h i (by omega)]
theorem usTo_put {j:JobD} {S:List Int} {u s:Nat} {un:UnitD} {co:Int × Int} (hu:j.units[u]?=some un) (hc:j.costs[u]?=some co) (hl:u < S.length) (t:Nat) :
  usTo j (S.set u s) t (u+1)=if t=s then usAdd (usTo j S s u) un co else usTo j S t u:=by
 have e:∀ t:Int,usTo j (S.set u s) t u=usTo j S t u:=fun t=>usTo_congr fun i hi=>by rw [List.getElem?_set_ne (by omega)]
 rw [usTo,List.getElem?_set_self hl,hu,hc]
 simp only [e]
 by_cases h:t=s
 ·subst h; rw [if_pos rfl,if_pos rfl]
 ·rw [if_neg (by omega),if_neg h]
theorem usTo_back {j:JobD} {S:List Int} {v:Nat} {x:Int} {un:UnitD} {co:Int × Int} (hx:S[v]?=some x) (hu:j.units[v]?=some un) (hc:j.costs[v]?=some co) (t:Nat) (s:Nat) (hs:x=s) :
  (if t=s then usTo j S s v else usTo j S t (v+1))=usTo j S t v:=by
 rw [usTo,hx,hu,hc]
 simp only
 by_cases h:t=s
 ·subst h; rw [if_pos rfl]
 ·rw [if_neg h,if_neg (by omega)]
structure SOk (j:JobD) (B:Nat) (R:SRes) (m u s k:Nat) (S:List Int):Prop where
 hm:(B - k) * (j.units.length+2)+u=m
 hu:u≤j.units.length
 hk:k≤B
 hS:S.length=j.units.length
 hx:∀ i,i < u→∃ x,S[i]?=some x∧0≤x∧x < j.chip.stages
 hs:s≤16
 hr:srchM j B u s k S=R
def seS (j:JobD) (c1 c2 c3:Cap) (B u s k:Nat) (S:List Int) (g:List (List AV)) (st:St):Prop :=
 Vf.Sl [(0,.f (.fp (cJob j c1 c2 c3))),(1,.f (intF B)),(4,.ref 0 0),(5,.ref 1 0),(6,.ms 2 0 j.units.length j.units.length 1),(7,.f (intF u)),(8,.f (intF s)),(9,.f (intF k))] 91
  ([.f (intF 0),.f (.sl [] .nil),.f (intF 0),.f (intF 0),.f (.sl [] .nil)]::usA (fun t=>usTo j S t u)::rowA S::g) [] st
def seI (j:JobD) (c1 c2 c3:Cap) (B:Nat) (R:SRes) (m:Nat) (st:St):Prop:=∃ u s k S g,SOk j B R m u s k S∧seS j c1 c2 c3 B u s k S g st
def seJ (j:JobD) (c1 c2 c3:Cap) (B:Nat) (R:SRes) (m u q:Nat) (st:St):Prop:=∃ m' s k S g,m'≤m∧SOk j B R m' u s k S∧q≤s∧seS j c1 c2 c3 B u s k S g st
theorem fz_row {A U:List AV} {S:List Int} {n:Nat} {g:List (List AV)} (hn:S.length=n):fzH 0 (A::U::rowA S::g) 1 (.ms 2 0 n n 1)=some (.sl (encL intF S) .un):=by
 subst hn
 have ht:((rowA S).drop 0).take (S.length * 1)=rowA S:=by simp [List.take_of_length_le]
 show (if _ then _ else _)=_
 rw [ht,if_pos ⟨by omega,by omega,by simp,by omega,rowA_one S⟩,rowA_fz]
 show (if _ then _ else _)=_
 rw [if_pos (ints_one S)]
 show some (FV.sl (chunk false 1 S.length (S.map intF)) .un)=_
 rw [chunk_ints]; rfl
theorem fz_part {A U:List AV} {S:List Int} {w n:Nat} {g:List (List AV)} (hw:w≤S.length) (hn:w≤n):fzH 0 (A::U::rowA S::g) 1 (.ms 2 0 w n 1)=some (.sl (encL intF (S.take w)) .un):=by
 have hl:(S.take w).length=w:=by rw [List.length_take]; omega
 have ht:((rowA S).drop 0).take (w * 1)=rowA (S.take w):=by simp [rowA,List.map_take]
 show (if _ then _ else _)=_
 rw [ht,if_pos ⟨by omega,by omega,by simp; omega,by omega,rowA_one _⟩,rowA_fz]
 show (if _ then _ else _)=_
 rw [if_pos (ints_one _)]
 have hc:=chunk_ints (S.take w)
 rw [hl] at hc
 show some (FV.sl (chunk false 1 w ((S.take w).map intF)) .un)=_
 rw [hc]; rfl
theorem ret_placed {A U:List AV} {S:List Int} {n k:Nat} {g:List (List AV)} {R:FV→Prop} (hn:S.length=n) (h:R (fPlc 1 (sl (encL intF S)) k 0 (.sl [] .nil))) :
  RetA (A::U::rowA S::g) [.f (.sc (.int .i64 1)),.ms 2 0 n n 1,.f (.sc (.int .i64 k)),.f (.sc (.int .i64 0)),.f (.sl [] .nil)] R:=by
 subst hn
 refine ⟨2,_,?_,h⟩
 have ht:((rowA S).drop 0).take (S.length * 1)=rowA S:=by simp [List.take_of_length_le]
 have hx:fzH 0 (A::U::rowA S::g) 1 (.ms 2 0 S.length S.length 1)=some (sl (encL intF S)):=by
  show (if _ then _ else _)=_
  rw [ht,if_pos ⟨by omega,by omega,by simp,by omega,rowA_one S⟩,rowA_fz]
  show (if _ then _ else _)=_
  rw [if_pos (ints_one S)]
  show some (FV.sl (chunk false 1 S.length (S.map intF)) .un)=_
  rw [chunk_ints]; rfl
 simp only [fzH,mapO] at hx ⊢
 rw [hx]
def se12 (j:JobD) (c1 c2 c3:Cap) (B u s k r:Nat):List (Nat × AV) :=
 [(0,.f (.fp (cJob j c1 c2 c3))),(1,.f (intF B)),(4,.ref 0 0),(5,.ref 1 0),(6,.ms 2 0 j.units.length j.units.length 1),(7,.f (intF u)),(8,.f (intF s)),(9,.f (intF (k+1))),(10,.ref r 0)]
def heS (F:Nat→UsD) (S:List Int) (g:List (List AV)) (v:UsD):List (List AV) :=
 [.f (intF 0),.f (.sl [] .nil),.f (intF 0),.f (intF 0),.f (.sl [] .nil)]::usA F::rowA S::(g ++ [cUs v])
def va12 (j:JobD) (c1 c2 c3:Cap) (u s:Nat) (v:UsD) (b1 b2:Bool):Nat→AV
 | 0=>.agg (cUs v)
 | 1=>.f (.fp (cJob j c1 c2 c3))
 | 2=>.f (.fp (cJob j c1 c2 c3))
 | 3=>.f (.fp (cJob j c1 c2 c3))
 | 4=>.agg ((cChip j.chip).map .f)
 | 5=>.f (boolF b1)
 | 6=>.f (boolF b1)
 | 7=>if b1 then .f (.fp (cJob j c1 c2 c3)) else undefA
 | 8=>if b1 then .ms 2 0 j.units.length j.units.length 1 else undefA
 | 9=>if b1 then .f (intF u) else undefA
 | 10=>if b1 then .f (intF s) else undefA
 | 11=>if b1 then .f (boolF b2) else undefA
 | _=>.f (boolF (b1 && b2))
theorem search_g (j:JobD) (c1 c2 c3:Cap) (B:Nat) (hn:j.units.length≤1000) (hc:j.costs.length=j.units.length) (hD0:∀ i,i < j.units.length→∃ r,j.deps[i]?=some r∧r.length=j.units.length) (h1:1≤j.chip.stages) (h16:j.chip.stages≤16) (hB:B≤1048576) :
  Gives Tryz.prog 31 [.fp (cJob j c1 c2 c3),intF B] (fSRes (srchM j B 0 0 0 (List.replicate j.units.length 0))):=by
 generalize hR:srchM j B 0 0 0 (List.replicate j.units.length 0)=R
 refine Gives.ofW Tryz.func31 rfl rfl rfl (by decide) ?_
 refine W.two (W.x mixed (by kernel_rfl) ?_)
 simp
 refine W.scopeJ (l:=0) (seI j c1 c2 c3 B R) rfl ?_ ?_
 ·rintro m ⟨ts,hh,kk⟩ ⟨u,s,k,S,g,ok,rfl,rfl,f,rfl⟩
  have hr:=ok.hr
  rw [srchM] at hr
  refine W.two (W.x mixed (by kernel_rfl) ?_)
  by_cases e:u=j.units.length
  ·rw [if_pos e] at hr
   subst hr
   have hrd:j.units.length≤S.length:=by rw [ok.hS]; omega
   simp [e]
   exact ret_placed ok.hS rfl
  ·rw [if_neg e] at hr
   have hul:u < j.units.length:=by have:=ok.hu; omega
   have e':¬((u:Int)=j.units.length):=by omega
   clear hr
   simp [e']
   refine W.two (W.blk (forW 16 (seJ j c1 c2 c3 B R m u) ⟨m,s,k,S,g,Nat.le_refl _,ok,Nat.zero_le _,Sl.of rfl rfl rfl⟩ ?_))
   rintro q ⟨ts,hh,kk⟩ hq ⟨m',s,k,S,g,hm',ok,hqs,rfl,rfl,f,rfl⟩
   have hr:=ok.hr
   rw [srchM,if_neg e] at hr
   refine W.two (W.x mixed (by kernel_rfl) ?_)
   by_cases c0:(s:Int) < j.chip.stages
   ·rw [if_pos c0] at hr
    simp [c0]
    refine W.two (W.blk (W.two (W.x mixed (by kernel_rfl) ?_)))
    by_cases d1:B≤k
    ·rw [dif_pos d1] at hr
     subst hr
     obtain rfl:k=B:=by have:=ok.hk; omega
     simp
     rfl
    ·rw [dif_neg d1] at hr
     have d1':¬((k:Int)=B):=by omega
     have hs16:s < 16:=by omega
     have hle:4≤64 - s * 4:=by omega
     have hg:=usA_get (fun t=>usTo j S t u) hs16
     have hwk:=wrap64 (x:=(k:Int)+1) (by omega) (by omega)
     obtain ⟨un,hun,hun'⟩:=nth_of hul
     obtain ⟨co,hco,hco'⟩:=nth_of (show u < j.costs.length by omega)
     rw [hun',hco'] at hr
     simp only at hr
     simp [d1']
     refine W.two (W.x mixed (by kernel_rfl) ?_)
     simp [hwk]
     refine W.two (W.x mixed (by kernel_rfl) ?_)
     simp [hs16,hle,hg]
     refine call_g (add_g j c1 c2 c3 (usTo j S s u) u hun' hco') ?_
     simp
     generalize hv:usAdd (usTo j S s u) un co=v at *
     have hten:∀ {A U R:List AV} {c:List AV},ix (A::U::R::(g ++ [c])) (g.length+1+1+1)=some c:=fun {A U R c}=>by simp [ix]
     generalize hb1:withinM v j.chip=b1 at *
     generalize hb2:folM j.deps S u s=b2 at *
     refine W.two (W.draw_semG mixed (DrwT (heS (fun t=>usTo j S t u) S g v) (se12 j c1 c2 c3 B u s k (g.length+1+1+1)) 49 13 (va12 j c1 c2 c3 u s v b1 b2) 91) ⟨rfl,rfl,rfl,?_,fun i _ h=>by cases h⟩ ?_ ?_ (by kernel_rfl))
     ·intro p hp
      simp [se12] at hp
      rcases hp with rfl | rfl | rfl | rfl | rfl | rfl | rfl | rfl | rfl <;> rfl
     ·rintro D ⟨t,h,kk⟩ i o ho hD hdep T
      obtain ⟨e1,e2,hl,hkp,hT⟩:=id T
      cases e1
      cases e2
      have k0:ix t 0=some (.f (.fp (cJob j c1 c2 c3))):=hkp (0,_) (by simp [se12])
      have k6:ix t 6=some (.ms 2 0 j.units.length j.units.length 1):=hkp (6,_) (by simp [se12])
      have k7:ix t 7=some (.f (intF u)):=hkp (7,_) (by simp [se12])
      have k8:ix t 8=some (.f (intF s)):=hkp (8,_) (by simp [se12])
      have k10:ix t 10=some (.ref (g.length+1+1+1) 0):=hkp (10,_) (by simp [se12])
      match i,ho with
      | 0,ho =>
       obtain rfl:=Option.some.inj ho
       simp [k10,heS,hten,cUs]
       exact T.put 0 (by decide) (by decide) rfl rfl
      | 1,ho =>
       obtain rfl:=Option.some.inj ho
       simp [k0]
       exact T.put 1 (by decide) (by decide) rfl rfl
      | 2,ho =>
       obtain rfl:=Option.some.inj ho
       have d1:D 1=true:=hdep ⟨1,.data⟩ (by simp) rfl
       have f1:ix t 50=some (.f (.fp (cJob j c1 c2 c3))):=hT 1 (by decide) d1
       simp [f1]
       exact T.put 2 (by decide) (by decide) rfl rfl
      | 3,ho =>
       obtain rfl:=Option.some.inj ho
       have d2:D 2=true:=hdep ⟨2,.data⟩ (by simp) rfl
       have f2:ix t 51=some (.f (.fp (cJob j c1 c2 c3))):=hT 2 (by decide) d2
       simp [f2]
       exact T.put 3 (by decide) (by decide) rfl rfl
      | 4,ho =>
       obtain rfl:=Option.some.inj ho
       have d3:D 3=true:=hdep ⟨3,.data⟩ (by simp) rfl
       have f3:ix t 52=some (.f (.fp (cJob j c1 c2 c3))):=hT 3 (by decide) d3
       simp [f3]
       exact T.put 4 (by decide) (by decide) rfl rfl
      | 5,ho =>
       obtain rfl:=Option.some.inj ho
       have d0:D 0=true:=hdep ⟨0,.data⟩ (by simp) rfl
       have f0:ix t 49=some (.agg (cUs v)):=hT 0 (by decide) d0
       have d4:D 4=true:=hdep ⟨4,.data⟩ (by simp) rfl
       have f4:ix t 53=some (.agg ((cChip j.chip).map .f)):=hT 4 (by decide) d4
       simp [f0,f4]
       refine call_g (within_g v j.chip) ?_
       rw [hb1]
       simp
       exact T.put 5 (by decide) (by decide) rfl rfl
      | 6,ho =>
       obtain rfl:=Option.some.inj ho
       have d5:D 5=true:=hdep ⟨5,.data⟩ (by simp) rfl
       have f5:ix t 54=some (.f (boolF b1)):=hT 5 (by decide) d5
       simp [f5]
       exact T.put 6 (by decide) (by decide) rfl rfl
      | 7,ho =>
       obtain rfl:=Option.some.inj ho
       have d6:D 6=true:=hdep ⟨6,.guard⟩ (by simp) rfl
       have f6:ix t 55=some (.f (boolF b1)):=hT 6 (by decide) d6
       cases b1 <;> simp [f6,k0] <;> exact T.put 7 (by decide) (by decide) rfl rfl
      | 8,ho =>
       obtain rfl:=Option.some.inj ho
       have d6:D 6=true:=hdep ⟨6,.guard⟩ (by simp) rfl
       have f6:ix t 55=some (.f (boolF b1)):=hT 6 (by decide) d6
       cases b1 <;> simp [f6,k6] <;> exact T.put 8 (by decide) (by decide) rfl rfl
      | 9,ho =>
       obtain rfl:=Option.some.inj ho
       have d6:D 6=true:=hdep ⟨6,.guard⟩ (by simp) rfl
       have f6:ix t 55=some (.f (boolF b1)):=hT 6 (by decide) d6
       cases b1 <;> simp [f6,k7] <;> exact T.put 9 (by decide) (by decide) rfl rfl
      | 10,ho =>
       obtain rfl:=Option.some.inj ho
       have d6:D 6=true:=hdep ⟨6,.guard⟩ (by simp) rfl
       have f6:ix t 55=some (.f (boolF b1)):=hT 6 (by decide) d6
       cases b1 <;> simp [f6,k8] <;> exact T.put 10 (by decide) (by decide) rfl rfl
      | 11,ho =>
       obtain rfl:=Option.some.inj ho
       have d6:D 6=true:=hdep ⟨6,.guard⟩ (by simp) rfl
       have f6:ix t 55=some (.f (boolF b1)):=hT 6 (by decide) d6
       have d7:D 7=true:=hdep ⟨7,.data⟩ (by simp) rfl
       have d8:D 8=true:=hdep ⟨8,.data⟩ (by simp) rfl
       have d9:D 9=true:=hdep ⟨9,.data⟩ (by simp) rfl
       have d10:D 10=true:=hdep ⟨10,.data⟩ (by simp) rfl
       have f7:=hT 7 (by decide) d7
       have f8:=hT 8 (by decide) d8
       have f9:=hT 9 (by decide) d9
       have f10:=hT 10 (by decide) d10
       cases b1 with
       | false =>
        simp [f6]
        exact T.put 11 (by decide) (by decide) rfl rfl
       | true =>
        simp only [va12,if_true] at f7 f8 f9 f10
        simp [f6,f7,f8,f9,f10]
        refine call_m rfl (jfollows_g j c1 c2 c3 S .un u s (by rw [ok.hS]; omega) (fun i hi=>by obtain ⟨r,h1,h2⟩:=hD0 i (by omega); exact ⟨r,h1,by omega⟩) (by rw [ok.hS]; unfold maxLen; omega)) ?_ ?_
        ·have hz:=fz_row (A:=[.f (intF 0),.f (.sl [] .nil),.f (intF 0),.f (intF 0),.f (.sl [] .nil)]) (U:=usA fun t=>usTo j S t u) (g:=g ++ [cUs v]) ok.hS
         have hz:fzM ([.f (intF 0),.f (.sl [] .nil),.f (intF 0),.f (intF 0),.f (.sl [] .nil)]::usA (fun t=>usTo j S t u)::rowA S::(g ++ [cUs v])) (.ms 2 0 j.units.length j.units.length 1)=some (.sl (encL intF S) .un):=hz
         have hf:∀ H x,fzM H (.f x)=some x:=fun _ _=>rfl
         simp [mapO,hz,hf]
        ·rw [hb2]
         simp
         exact T.put 11 (by decide) (by decide) rfl rfl
      | 12,ho =>
       obtain rfl:=Option.some.inj ho
       have d6:D 6=true:=hdep ⟨6,.data⟩ (by simp) rfl
       have f6:ix t 55=some (.f (boolF b1)):=hT 6 (by decide) d6
       have d11:D 11=true:=hdep ⟨11,.data⟩ (by simp) rfl
       have f11:=hT 11 (by decide) d11
       cases b1 <;> simp only [va12,if_true,if_false] at f11 <;> simp [f6,f11] <;> exact T.put 12 (by decide) (by decide) rfl rfl
      | i+13,ho=>simp at ho
     ·rintro D ⟨t,h,kk⟩ hD T
      obtain ⟨e1,e2,hl,hkp,hT⟩:=T
      cases e1
      cases e2
      have f12:=hT 12 (by decide) (hD 12 (by decide))
      clear hT hD
      have hsl:Vf.Sl ((se12 j c1 c2 c3 B u s k (g.length+1+1+1)) ++ [(61,.f (boolF (b1 && b2)))]) 91 (heS (fun t=>usTo j S t u) S g v) [] ⟨t,heS (fun t=>usTo j S t u) S g v,[]⟩:=Sl.of (picks_of fun p hp=>by
       rcases List.mem_append.1 hp with hp | hp
       ·exact hkp p hp
       ·obtain rfl:=List.mem_singleton.1 hp
        exact f12) hl rfl
      clear hkp f12 hl
      obtain ⟨_,_,f',rfl⟩:=hsl
      refine W.x mixed (by kernel_rfl) ?_
      have hst:s * 4+4≤64:=by omega
      have huS:u < S.length:=by rw [ok.hS]; exact hul
      have hov:=usA_over (fun t=>usTo j S t u) v hs16
      cases hb:b1 && b2 with
      | true =>
       have huS1:u+1≤S.length:=huS
       have hwu:=wrap64 (x:=(u:Int)+1) (by omega) (by omega)
       simp only [cUs,over] at hov
       simp [heS,se12,hb,hs16,hten,cUs,hst,hul,huS,huS1,hov,hwu]
       rw [if_pos hb] at hr
       refine ⟨(B - (k+1)) * (j.units.length+2)+(u+1),?_,u+1,0,k+1,S.set u s,g ++ [cUs v],⟨rfl,hul,by omega,by simpa using ok.hS,fun i hi=>?_,Nat.zero_le _,hr⟩,?_⟩
       ·have hm:=ok.hm
        have hk:=ok.hk
        obtain ⟨d,hd⟩:∃ d,B - k=d+1:=⟨B - k - 1,by omega⟩
        rw [hd,Nat.succ_mul] at hm
        rw [show B - (k+1)=d by omega]
        omega
       ·by_cases e1:i=u
        ·subst e1
         exact ⟨s,List.getElem?_set_self huS,by omega,c0⟩
        ·obtain ⟨x,g1,g2⟩:=ok.hx i (by omega)
         exact ⟨x,by rw [List.getElem?_set_ne (by omega)]; exact g1,g2⟩
       ·have hF:(fun t:Nat=>usTo j (S.set u s) t (u+1))=fun t:Nat=>if t=s then v else usTo j S t u:=funext fun t=>by rw [usTo_put hun' hco' huS,hv]
        unfold seS
        rw [hF]
        exact Sl.of rfl rfl rfl
      | false =>
       have hws:=wrap64 (x:=(s:Int)+1) (by omega) (by omega)
       simp [heS,se12,hb,hws]
       refine W.x mixed (by kernel_rfl) ?_
       simp [hws]
       rw [if_neg (by rw [hb]; decide)] at hr
       refine ⟨by omega,(B - (k+1)) * (j.units.length+2)+u,s+1,k+1,S,g ++ [cUs v],?_,⟨rfl,ok.hu,by omega,ok.hS,ok.hx,by omega,hr⟩,by omega,?_⟩
       ·have hm:=ok.hm
        have hk:=ok.hk
        have:(B - (k+1)) * (j.units.length+2)≤(B - k) * (j.units.length+2):=Nat.mul_le_mul_right _ (by omega)
        omega
       ·exact Sl.of rfl rfl rfl
   ·rw [if_neg c0] at hr
    simp [c0]
    refine W.two (W.x mixed (by kernel_rfl) ?_)
    by_cases u0:u=0
    ·rw [dif_pos u0] at hr
     subst u0
     subst hr
     simp
     refine call_g (infeasible_g 13 k [] .nil) ?_
     simp
     rfl
    ·rw [dif_neg u0] at hr
     have u0':¬((u:Int)=0):=by omega
     obtain ⟨x,hx,hx0,hx1⟩:=ok.hx (u - 1) (by omega)
     obtain ⟨un,hun,hun'⟩:=nth_of (show u - 1 < j.units.length by omega)
     obtain ⟨co,hco,hco'⟩:=nth_of (show u - 1 < j.costs.length by omega)
     obtain ⟨y,rfl⟩:=Int.eq_ofNat_of_zero_le hx0
     obtain ⟨w,rfl⟩:∃ w,u=w+1:=⟨u - 1,by omega⟩
     rw [Nat.add_sub_cancel] at *
     have hwS:w < S.length:=by rw [ok.hS]; omega
     have hwr:=wrap64 (x:=((w+1:Nat):Int) - 1) (by omega) (by omega)
     rw [show ((w+1:Nat):Int) - 1=w by omega] at hwr
     have gx:=rowA_at hx
     simp [u0']
     refine W.two (W.x mixed (by kernel_rfl) ?_)
     simp [hwr]
     refine W.two (W.x mixed (by kernel_rfl) ?_)
     have hwn:w < j.units.length:=by omega
     simp [hwS,hwn,gx]
     refine W.two (W.x mixed (by kernel_rfl) ?_)
     have hwn':w≤j.units.length:=by omega
     have hsl:opSlice (tyOf Tryz.prog) 29 (.ms 2 0 j.units.length j.units.length 1) none (some (.f (.sc (.int .i64 w)))) none=some (.ms 2 0 w j.units.length 1):=by
      simp [opSlice,optIdx,idx,hwn']
     have hy16:y < 16:=by omega
     have hst:y * 4+4≤64:=by omega
     have hfz:=fz_part (A:=[.f (intF 0),.f (.sl [] .nil),.f (intF 0),.f (intF 0),.f (.sl [] .nil)]) (U:=usA fun t=>usTo j S t (w+1)) (g:=g) (S:=S) (w:=w) (n:=j.units.length) (by omega) hwn'
     have hlen:(S.take w).length=w:=by rw [List.length_take]; omega
     have hu:=usage_g j c1 c2 c3 (S.take w) .un y (by omega) (by omega) (by unfold maxLen; omega)
     rw [hlen,usTo_congr (S':=S) fun i hi=>by rw [List.getElem?_take_of_lt hi]] at hu
     simp [hsl]
     refine call_m rfl hu ?_ ?_
     ·have hf:∀ H x,fzM H (.f x)=some x:=fun _ _=>rfl
      have hz:fzM ([.f (intF 0),.f (.sl [] .nil),.f (intF 0),.f (intF 0),.f (.sl [] .nil)]::usA (fun t=>usTo j S t (w+1))::rowA S::g) (.ms 2 0 w j.units.length 1)=some (.sl (encL intF (S.take w)) .un):=hfz
      simp [mapO,hz,hf]
     have hov:=usA_over (fun t=>usTo j S t (w+1)) (usTo j S y w) hy16
     have hF:(fun t:Nat=>if t=y then usTo j S y w else usTo j S t (w+1))=fun t:Nat=>usTo j S t w:=funext fun t=>usTo_back hx hun' hco' t y rfl
     rw [hF] at hov
     simp only [cUs,over] at hov
     simp [hy16,hst,cUs,hov]
     have hwy:=wrap64 (x:=(y:Int)+1) (by omega) (by omega)
     have hgd:S.getD w 0=(y:Int):=by rw [List.getD_eq_getElem?_getD,hx]; rfl
     rw [hgd,Int.toNat_natCast] at hr
     refine W.x mixed (by kernel_rfl) ?_
     simp [hwy]
     have hm:=ok.hm
     refine ⟨(B - k) * (j.units.length+2)+w,by omega,w,y+1,k,S,g,⟨rfl,by omega,ok.hk,ok.hS,fun i hi=>ok.hx i (by omega),by omega,hr⟩,?_⟩
     exact Sl.of rfl rfl rfl
 ·intro hpass
  have hmk:j.units.length < 2^32:=by omega
  refine W.two (W.x mixed (by kernel_rfl) ?_)
  simp
  refine W.two (W.x mixed (by kernel_rfl) ?_)
  simp [make_i hmk]
  refine W.two (W.x mixed (by kernel_rfl) ?_)
  simp
  refine W.two (W.x mixed (by kernel_rfl) ?_)
  simp
  refine hpass ((B - 0) * (j.units.length+2)+0) _ ⟨0,0,0,List.replicate j.units.length 0,[],⟨rfl,Nat.zero_le _,Nat.zero_le _,by simp,fun i hi=>absurd hi (Nat.not_lt_zero i),Nat.zero_le _,hR⟩,?_⟩
  exact Sl.of rfl rfl rfl
def gp (l:List (Bool × Bool)) (k:Nat):Bool × Bool:=l.getD k (false,false)
def fR (D:List (List Int)) (l:List (Bool × Bool)) (j m:Nat):Bool:=(List.range m).any fun k=>(gp l k).1 && decide (kindM D k j ≠ 0)
def fL (D:List (List Int)) (l:List (Bool × Bool)) (j m:Nat):Bool:=(List.range m).any fun k=>(decide (kindM D k j=2) && (gp l k).1) || (decide (kindM D k j=1) && (gp l k).2)
def folTo (D:List (List Int)) (i:Nat):Nat→List (Bool × Bool)
 | 0=>[]
 | j+1=>folTo D i j ++ [(decide (j=i) || fR D (folTo D i j) j j,fL D (folTo D i j) j j)]
theorem folTo_len (D:List (List Int)) (i:Nat):∀ n,(folTo D i n).length=n
 | 0=>rfl
 | n+1=>by rw [folTo,List.length_append,folTo_len D i n]; rfl
theorem folTo_pre (D:List (List Int)) (i:Nat) {k n:Nat} (h:k < n):∀ m,n≤m→gp (folTo D i m) k=gp (folTo D i n) k:=by
 intro m hm
 induction m with
 | zero=>omega
 | succ m ih =>
  by_cases e:n=m+1
  ·rw [e]
  ·rw [← ih (by omega),folTo]
   unfold gp
   rw [List.getD_eq_getElem?_getD,List.getD_eq_getElem?_getD,List.getElem?_append_left (by rw [folTo_len]; omega)]
def folP (D:List (List Int)) (i k:Nat):Bool × Bool:=gp (folTo D i (k+1)) k
theorem folP_eq (D:List (List Int)) (i:Nat) {k n:Nat} (h:k < n):gp (folTo D i n) k=folP D i k:=folTo_pre D i (Nat.lt_succ_self k) n h
def fRq (D:List (List Int)) (i j m:Nat):Bool:=(List.range m).any fun k=>(folP D i k).1 && decide (kindM D k j ≠ 0)
def fLq (D:List (List Int)) (i j m:Nat):Bool:=(List.range m).any fun k=>(decide (kindM D k j=2) && (folP D i k).1) || (decide (kindM D k j=1) && (folP D i k).2)
theorem any_same {p q:Nat→Bool} {n:Nat} (h:∀ k,k < n→p k=q k):(List.range n).any p=(List.range n).any q:=by
 rw [Bool.eq_iff_iff,List.any_eq_true,List.any_eq_true]
 constructor
 ·rintro ⟨k,hk,e⟩; exact ⟨k,hk,by rw [← h k (List.mem_range.1 hk)]; exact e⟩
 ·rintro ⟨k,hk,e⟩; exact ⟨k,hk,by rw [h k (List.mem_range.1 hk)]; exact e⟩
theorem folP_1 (D:List (List Int)) (i j:Nat):(folP D i j).1=(decide (j=i) || fRq D i j j):=by
 have h:fR D (folTo D i j) j j=fRq D i j j:=any_same fun k hk=>by rw [folP_eq D i hk]
 rw [← h]
 unfold folP gp
 rw [folTo,List.getD_eq_getElem?_getD,List.getElem?_append_right (by rw [folTo_len]; exact Nat.le_refl _),folTo_len]
 simp
theorem folP_2 (D:List (List Int)) (i j:Nat):(folP D i j).2=fLq D i j j:=by
 have h:fL D (folTo D i j) j j=fLq D i j j:=any_same fun k hk=>by rw [folP_eq D i hk]
 rw [← h]
 unfold folP gp
 rw [folTo,List.getD_eq_getElem?_getD,List.getElem?_append_right (by rw [folTo_len]; exact Nat.le_refl _),folTo_len]
 simp
theorem any_next (p:Nat→Bool) (n:Nat):(List.range (n+1)).any p=((List.range n).any p || p n):=by
 rw [List.range_succ,List.any_append]; simp
theorem fRq_next (D:List (List Int)) (i j m:Nat):fRq D i j (m+1)=(fRq D i j m || ((folP D i m).1 && decide (kindM D m j ≠ 0))):=any_next _ _
theorem fLq_next (D:List (List Int)) (i j m:Nat):fLq D i j (m+1)=(fLq D i j m || ((decide (kindM D m j=2) && (folP D i m).1) || (decide (kindM D m j=1) && (folP D i m).2))):=any_next _ _
theorem any_false {p:Nat→Bool} {n:Nat} (h:∀ k,k < n→p k=false):(List.range n).any p=false:=by
 rw [List.any_eq_false]
 intro k hk
 rw [h k (List.mem_range.1 hk)]
 decide
theorem folP_low (D:List (List Int)) (i:Nat):∀ j,j < i→folP D i j=(false,false):=by
 intro j
 induction j using Nat.strongRecOn with
 | ind j ih =>
  intro hj
  have h1:fRq D i j j=false:=any_false fun k hk=>by rw [ih k hk (by omega)]; rfl
  have h2:fLq D i j j=false:=any_false fun k hk=>by rw [ih k hk (by omega)]; simp
  apply Prod.ext
  ·rw [folP_1,h1,decide_eq_false (by omega)]; rfl
  ·rw [folP_2,h2]
theorem folP_lead (D:List (List Int)) (i:Nat):∀ j,(folP D i j).2=true→(folP D i j).1=true:=by
 intro j
 induction j using Nat.strongRecOn with
 | ind j ih =>
  intro h
  rw [folP_2] at h
  obtain ⟨k,hk,hp⟩:=List.any_eq_true.1 h
  have hk:=List.mem_range.1 hk
  rw [folP_1]
  have:fRq D i j j=true:=by
   refine List.any_eq_true.2 ⟨k,List.mem_range.2 hk,?_⟩
   simp only [Bool.or_eq_true,Bool.and_eq_true,decide_eq_true_eq] at hp ⊢
   rcases hp with ⟨a,b⟩ | ⟨a,b⟩
   ·exact ⟨b,by omega⟩
   ·exact ⟨ih k hk b,by omega⟩
  rw [this,Bool.or_true]
theorem folP_self (D:List (List Int)) (i:Nat):folP D i i=(true,false):=by
 have h2:fLq D i i i=false:=any_false fun k hk=>by rw [folP_low D i k hk]; simp
 apply Prod.ext
 ·rw [folP_1,decide_eq_true rfl]; rfl
 ·rw [folP_2,h2]
theorem fRq_low (D:List (List Int)) (i j m:Nat) (h:m≤i):fRq D i j m=false:=any_false fun k hk=>by rw [folP_low D i k (by omega)]; rfl
theorem fLq_low (D:List (List Int)) (i j m:Nat) (h:m≤i):fLq D i j m=false:=any_false fun k hk=>by rw [folP_low D i k (by omega)]; simp
def folRow (D:List (List Int)) (n i:Nat):List Bool:=(List.range n).map fun j=>(folP D i j).2
def folAll (D:List (List Int)) (n:Nat):List (List Bool):=(List.range n).map (folRow D n)
end Go.Proofs.YtafenffmgpcjcaaGreat
