/- Texts of the proof: GS15. -/
import Derived.Test.YtafenffmgpcjcaaGreatGS14
import Derived.Test.YtafenffmgpcjcaaGreatGVC1
namespace Go.Proofs.YtafenffmgpcjcaaGreat
open Go.RowKit Go.Proofs.YtafenffmgpcjcaaGreat.Vf
set_option linter.unusedVariables false
set_option linter.unusedSimpArgs false
set_option maxRecDepth 100000
set_option maxHeartbeats 4000000
theorem rwith_g (l:List Int) (c:Cap) (x:Int) (hl:l.length≤100000):Gives Tryz.prog 72 [.sl (encL intF l) c,intF x] (.sl (encL intF (l ++ [x])) .un):=by
 refine Gives.of mixed Tryz.func72 rfl rfl rfl (by kernel_rfl) ?_
 simp [-opAppend]
 obtain ⟨x1,t1,k1,e1,ho1,_⟩:=append_own0 (k:=[]) ty29 ty3 (by simp) (OwnT.nil (t:=0)) (y:=.f (.sl (encL intF l) c)) rfl (by simp [encL]) (by simp; omega) (by simp; omega)
 rw [e1]
 simp [-opAppend]
 obtain ⟨t2,k2,e2,ho2,_⟩:=append_own ty29 ty3 (by simp) ho1 (y:=.f (.sl [intF x] .full)) rfl (by simp) (by simp) (by simp; omega) (by simp; omega)
 rw [e2]
 simp
theorem folM_congr {D:List (List Int)} {S S':List Int} {u:Nat} {s:Int} (h:∀ i,i < u→S[i]?=S'[i]?):folM D S u s=folM D S' u s:=by
 unfold folM
 rw [any_same fun k hk=>?_]
 unfold folBad
 rw [h k hk]
def rftI (j:JobD) (c1 c2 c3 cs:Cap) (S:List Int) (u:Nat) (s:Int) (i:Nat) (st:St):Prop:=noneT (folBad j.deps S u s) (List.range u) i ∧
 Vf.Sl [(1,.f (.sl (encL intF S) cs)),(2,.ref 0 0),(5,.f (.sl (encL rowF j.deps) c3)),(6,.f (intF u)),(7,.f (intF i))] 71 [(cJob j c1 c2 c3).map .f] [] st
theorem rfit_g (j:JobD) (c1 c2 c3:Cap) (S:List Int) (cs:Cap) (u:Nat) (s:Int) (hS:S.length=u+1) (hs:S[u]?=some s) (hu:u < j.units.length) (hc:j.costs.length=j.units.length) (hD:∀ i,i < u→∃ r,j.deps[i]?=some r∧u < r.length) (hl:j.units.length≤1000)
  (hb:∀ x ∈ j.costs,x.1≤9223372036854775807∧x.2≤9223372036854775807) :
  Gives Tryz.prog 73 [.agg (cJob j c1 c2 c3),.sl (encL intF S) cs] (boolF (folM j.deps S u s && withinM (usTo j S s (u+1)) j.chip)):=by
 refine Gives.of mixed Tryz.func73 rfl rfl rfl (by kernel_rfl) ?_
 have hw0:IntKind.i64.wrap (u:Int)=u:=wrap64 (by omega) (by omega)
 have hld:=rload_g j c1 c2 S cs s (by omega) hc (by omega) hb
 rw [hS] at hld
 generalize hv:folM j.deps S u s=v
 unfold folM at hv
 simp [hS,hw0]
 refine forX mixed u (rftI j c1 c2 c3 cs S u s) (by kernel_rfl) ⟨noneT.zero,Sl.of rfl rfl rfl⟩ ?_
 obtain ⟨s',hsn,hsn'⟩:=nth_of (show u < S.length by omega)
 obtain rfl:s=s':=Option.some.inj (hs.symm.trans hsn')
 rintro i ⟨ts,hh,kk⟩ hi ⟨hno,rfl,rfl,f,rfl⟩
 by_cases hlt:i < u
 ·obtain ⟨x,hx,hx'⟩:=nth_of (show i < S.length by omega)
  obtain ⟨r,hr',hul⟩:=hD i hlt
  obtain ⟨r',hr,hr2⟩:=nth_of (List.getElem?_eq_some_iff.1 hr').1
  obtain rfl:r=r':=by rw [hr'] at hr2; exact Option.some.inj hr2
  obtain ⟨q,hq,hq'⟩:=nth_of hul
  have hil:=(List.getElem?_eq_some_iff.1 hr').1
  have hiS:i < u+1:=by omega
  have hw:=wrap64 (x:=(i:Int)+1) (by omega) (by omega)
  have hbd:folBad j.deps S u s i=!(if q=2 then decide (x < s) else if q=1 then decide (x≤s) else true):=by
   unfold folBad folOk
   rw [hx',hr']
   simp only
   rw [hq']
  have hri:(List.range u)[i]?=some i:=by simp [hlt]
  by_cases k2:q=2
  ·rw [if_pos k2] at hbd
   by_cases c0:s≤x
   ·have ha:(List.range u).any (folBad j.deps S u s)=true:=any_hit hri (by rw [hbd]; simp; omega)
    rw [ha] at hv
    subst hv
    simp [hlt,hil,hr,hul,hq,hiS,hS,hx,hsn,k2,c0]
   ·simp [hlt,hil,hr,hul,hq,hiS,hS,hx,hsn,k2,c0,hw]
    exact ⟨hno.next hri (by rw [hbd]; simp; omega),Sl.of rfl rfl rfl⟩
  rw [if_neg k2] at hbd
  by_cases k1:q=1
  ·rw [if_pos k1] at hbd
   by_cases c0:s < x
   ·have ha:(List.range u).any (folBad j.deps S u s)=true:=any_hit hri (by rw [hbd]; simp; omega)
    rw [ha] at hv
    subst hv
    simp [hlt,hil,hr,hul,hq,hiS,hS,hx,hsn,k1,c0]
   ·simp [hlt,hil,hr,hul,hq,hiS,hS,hx,hsn,k1,c0,hw]
    exact ⟨hno.next hri (by rw [hbd]; simp; omega),Sl.of rfl rfl rfl⟩
  rw [if_neg k1] at hbd
  simp [hlt,hil,hr,hul,hq,k1,k2,hw]
  exact ⟨hno.next hri (by rw [hbd]; rfl),Sl.of rfl rfl rfl⟩
 ·obtain rfl:i=u:=by omega
  rw [hno.all (by simp)] at hv
  subst hv
  simp [hS,hsn]
  refine call_g hld ?_
  simp
  refine call_g (rwithin_g (usTo j S s (i+1)) j.chip) ?_
  simp
def rseI (j:JobD) (c1 c2 c3:Cap) (B:Nat) (R:SRes) (m:Nat) (st:St):Prop:=∃ u s k S,SOk j B R m u s k S ∧
 Vf.Sl [(1,.f (intF B)),(2,.ref 0 0),(4,.ref 1 0),(5,.f (.sl (encL intF (S.take u)) .un)),(6,.f (intF s)),(7,.f (intF k))] 56 [(cJob j c1 c2 c3).map .f,[.f (intF 0),.f (.sl [] .nil),.f (intF 0),.f (intF 0),.f (.sl [] .nil)]] [] st
def fSResU:SRes→FV
 | .placed S k=>fPlc 1 (.sl (encL intF S) .un) k 0 (.sl [] .nil)
 | .undecided k=>fPlc 3 (.sl [] .nil) k 19 (.sl [] .nil)
 | .full k=>fPlc 2 (.sl [] .nil) k 13 (.sl [] .nil)
theorem rsearch_g (j:JobD) (c1 c2 c3:Cap) (B:Nat) (hn:j.units.length≤1000) (hc:j.costs.length=j.units.length) (hD0:∀ i,i < j.units.length→∃ r,j.deps[i]?=some r∧r.length=j.units.length) (h1:1≤j.chip.stages) (h16:j.chip.stages≤16) (hB:B≤1048576)
  (hb:∀ x ∈ j.costs,x.1≤9223372036854775807∧x.2≤9223372036854775807) :
  Gives Tryz.prog 38 [.agg (cJob j c1 c2 c3),intF B] (fSResU (srchM j B 0 0 0 (List.replicate j.units.length 0))):=by
 generalize hR:srchM j B 0 0 0 (List.replicate j.units.length 0)=R
 refine Gives.ofW Tryz.func38 rfl rfl rfl (by decide) ?_
 refine W.two (W.x mixed (by kernel_rfl) ?_)
 simp
 refine W.two (W.x mixed (by kernel_rfl) ?_)
 simp
 refine weakT_W (d:=5) rfl weak_un ?_
 refine W.two (W.x mixed (by kernel_rfl) ?_)
 simp
 refine W.two (W.blk (loopX mixed (rseI j c1 c2 c3 B R) ((B - 0) * (j.units.length+2)+0) (by kernel_rfl) ⟨0,0,0,List.replicate j.units.length 0,⟨rfl,Nat.zero_le _,Nat.zero_le _,by simp,fun i hi=>absurd hi (Nat.not_lt_zero i),Nat.zero_le _,hR⟩,Sl.of rfl rfl rfl⟩ ?_))
 rintro m ⟨ts,hh,kk⟩ ⟨u,s,k,S,ok,rfl,rfl,f,rfl⟩
 have hr:=ok.hr
 have hlen:min u S.length=u:=Nat.min_eq_left (by rw [ok.hS]; exact ok.hu)
 have hlen2:(S.take u).length=u:=by rw [List.length_take,hlen]
 have huu:=ok.hu
 rw [srchM] at hr
 by_cases e:u=j.units.length
 ·rw [if_pos e] at hr
  subst hr
  have ht:S.take u=S:=List.take_of_length_le (by rw [ok.hS]; omega)
  rw [ht] at hlen2
  have e':¬ u < j.units.length:=by omega
  simp [hlen2,e',ht]
  refine W.x mixed (by kernel_rfl) ?_
  simp
  rfl
 rw [if_neg e] at hr
 have hul:u < j.units.length:=by omega
 by_cases c0:(s:Int) < j.chip.stages
 ·rw [if_pos c0] at hr
  have c0':¬ j.chip.stages≤(s:Int):=by omega
  by_cases d1:B≤k
  ·rw [dif_pos d1] at hr
   subst hr
   obtain rfl:k=B:=by have:=ok.hk; omega
   simp [hlen,hul,c0']
   rfl
  rw [dif_neg d1] at hr
  have d1':¬((k:Int)=B):=by omega
  have hs16:s < 16:=by omega
  obtain ⟨un,hun,hun'⟩:=nth_of hul
  obtain ⟨co,hco,hco'⟩:=nth_of (show u < j.costs.length by omega)
  rw [hun',hco'] at hr
  simp only at hr
  have hwk:=wrap64 (x:=(k:Int)+1) (by omega) (by omega)
  have hws:=wrap64 (x:=(s:Int)+1) (by omega) (by omega)
  simp [hlen,hul,c0',d1',hwk,hws]
  refine call_g (rwith_g (S.take u) .un s (by omega)) ?_
  simp [hws]
  have hT:S.take u ++ [(s:Int)]=(S.set u s).take (u+1):=by
   rw [List.take_add_one,List.getElem?_set_self (by rw [ok.hS]; exact hul),List.take_set_of_le (Nat.le_refl _)]
   rfl
  have hfi:=rfit_g j c1 c2 c3 (S.take u ++ [(s:Int)]) .un u s (by simp [hlen]) (by rw [List.getElem?_append_right (by omega),hlen2,Nat.sub_self]; rfl) hul hc (fun i hi=>by obtain ⟨r,g1,g2⟩:=hD0 i (by omega); exact ⟨r,g1,by omega⟩) hn hb
  have hf1:folM j.deps (S.take u ++ [(s:Int)]) u s=folM j.deps S u s:=folM_congr fun i hi=>by rw [List.getElem?_append_left (by omega),List.getElem?_take_of_lt hi]
  have hf2:usTo j (S.take u ++ [(s:Int)]) s (u+1)=usAdd (usTo j S s u) un co:=by
   rw [hT,usTo_congr (S':=S.set u s) fun i hi=>by rw [List.getElem?_take_of_lt hi],usTo_put hun' hco' (by rw [ok.hS]; exact hul) s,if_pos rfl]
  rw [hf1,hf2,Bool.and_comm] at hfi
  refine call_g hfi ?_
  have hm:=ok.hm
  obtain ⟨d,hd⟩:∃ d,B - k=d+1:=⟨B - k - 1,by omega⟩
  rw [hd,Nat.succ_mul] at hm
  cases hcc:withinM (usAdd (usTo j S s u) un co) j.chip && folM j.deps S u s with
  | true =>
   rw [if_pos hcc] at hr
   simp
   refine ⟨(B - (k+1)) * (j.units.length+2)+(u+1),?_,u+1,0,k+1,S.set u s,⟨rfl,hul,by omega,by simpa using ok.hS,fun i hi=>?_,Nat.zero_le _,hr⟩,?_⟩
   ·rw [show B - (k+1)=d by omega]; omega
   ·by_cases e1:i=u
    ·subst e1
     exact ⟨s,List.getElem?_set_self (by rw [ok.hS]; exact hul),by omega,c0⟩
    ·obtain ⟨x,g1,g2⟩:=ok.hx i (by omega)
     exact ⟨x,by rw [List.getElem?_set_ne (by omega)]; exact g1,g2⟩
   ·rw [← hT]; exact Sl.of rfl rfl rfl
  | false =>
   rw [if_neg (by rw [hcc]; decide)] at hr
   simp
   refine ⟨(B - (k+1)) * (j.units.length+2)+u,?_,u,s+1,k+1,S,⟨rfl,ok.hu,by omega,ok.hS,ok.hx,by omega,hr⟩,?_⟩
   ·rw [show B - (k+1)=d by omega]; omega
   ·exact Sl.of rfl rfl rfl
 ·rw [if_neg c0] at hr
  have c0':j.chip.stages≤(s:Int):=by omega
  by_cases u0:u=0
  ·rw [dif_pos u0] at hr
   subst u0
   subst hr
   simp [hul,c0']
   rfl
  rw [dif_neg u0] at hr
  have u0':¬((u:Int)=0):=by omega
  obtain ⟨x,hx,hx0,hx1⟩:=ok.hx (u - 1) (by omega)
  obtain ⟨y,rfl⟩:=Int.eq_ofNat_of_zero_le hx0
  obtain ⟨w,rfl⟩:∃ w,u=w+1:=⟨u - 1,by omega⟩
  rw [Nat.add_sub_cancel] at *
  have hul':(w:Int)+1 < j.units.length:=by omega
  have hw0:¬ (w:Int)+1=0:=by omega
  have hwr:IntKind.i64.wrap (w:Int)=w:=wrap64 (by omega) (by omega)
  have hgx:nth (S.take (w+1)) w=some (y:Int):=by
   show (S.take (w+1))[w]?=_
   rw [List.getElem?_take_of_lt (by omega)]; exact hx
  have hwy:=wrap64 (x:=(y:Int)+1) (by omega) (by omega)
  have hsl:opSlice (tyOf Tryz.prog) 29 (.f (.sl (encL intF (S.take (w+1))) .un)) none (some (.f (.sc (.int .i64 w)))) none=some (.f (sl (encL intF (S.take w)))):=by
   have:w≤(S.take (w+1)).length:=by omega
   have ht:(S.take (w+1)).take w=S.take w:=by rw [List.take_take,Nat.min_eq_left (by omega)]
   simp [opSlice,optIdx,idx,encL]
   refine ⟨⟨by omega,fun x hx=>?_⟩,by rw [List.take_take,Nat.min_eq_left (by omega)]⟩
   obtain ⟨y,_,rfl⟩:=List.mem_map.1 (List.mem_of_mem_take hx)
   rfl
  have hgd:S.getD w 0=(y:Int):=by rw [List.getD_eq_getElem?_getD,hx]; rfl
  rw [hgd,Int.toNat_natCast] at hr
  simp [hlen,hul,hul',hw0,c0',u0',hwr,hgx,hwy,hsl]
  have hm:=ok.hm
  refine ⟨(B - k) * (j.units.length+2)+w,by omega,w,y+1,k,S,⟨rfl,by omega,ok.hk,ok.hS,fun i hi=>ok.hx i (by omega),by omega,hr⟩,?_⟩
  exact Sl.of rfl rfl rfl
def fits1 (j:JobD) (i:Nat):Bool:=match j.units[i]?,j.costs[i]? with
 | some un,some co=>withinM (usAdd ⟨0,0,(0,0)⟩ un co) j.chip
 | _,_=>true
theorem find_hit {p:Nat→Bool} {n i:Nat} (h:noneT p (List.range n) i) (hi:i < n) (hp:p i=true):(List.range n).find? p=some i:=by
 rw [List.find?_range_eq_some]
 exact ⟨hp,List.mem_range.2 hi,fun q hq=>by simpa using h q q hq (List.getElem?_range (by omega))⟩
theorem find_none {p:Nat→Bool} {n:Nat} (h:noneT p (List.range n) n):(List.range n).find? p=none:=by
 rw [List.find?_eq_none]
 intro q hq
 have hq:=List.mem_range.1 hq
 simpa using h q q hq (List.getElem?_range hq)
def obsR (j:JobD) (cr:List Int) (cc:Cap):FV:=match (List.range j.units.length).find? fun i=>!fits1 j i with
 | some i=>.tup [intF 18,.sl [intF i] .full]
 | none=>if (earE j.deps j.deps.length).any (fun s=>decide (j.chip.stages≤s)) then .tup [intF 17,.sl (encL intF cr) cc] else .tup [intF 0,.sl [] .nil]
def obI (j:JobD) (c1 c2 c3:Cap) (i:Nat) (st:St):Prop:=noneT (fun i=>!fits1 j i) (List.range j.units.length) i ∧
 Vf.Sl [(0,.f (.fp (cJob j c1 c2 c3))),(11,.f (intF j.units.length)),(12,.f (intF i))] 51 [] [] st
def obJ (j:JobD) (c1 c2 c3:Cap) (S:List Int) (i:Nat) (st:St):Prop:=noneT (fun s=>decide (j.chip.stages≤s)) S i ∧
 Vf.Sl [(0,.f (.fp (cJob j c1 c2 c3))),(32,.f (sl (encL intF S))),(33,.f (intF S.length)),(34,.f (intF i))] 51 [] [] st
theorem obstacle_g (j:JobD) (c1 c2 c3:Cap) (cr:List Int) (cc:Cap) (hn:j.units.length≤1000) (hc:j.costs.length=j.units.length) (hd:j.deps.length=j.units.length)
  (hcr:Gives Tryz.prog 60 [.sl (encL rowF j.deps) c3] (.sl (encL intF cr) cc)) :
  Gives Tryz.prog 30 [.fp (cJob j c1 c2 c3)] (obsR j cr cc):=by
 refine Gives.of mixed Tryz.func30 rfl rfl rfl (by kernel_rfl) ?_
 generalize hv:obsR j cr cc=v
 unfold obsR at hv
 simp
 refine forX mixed j.units.length (obI j c1 c2 c3) (by kernel_rfl) ⟨noneT.zero,Sl.of rfl rfl rfl⟩ ?_
 rintro i ⟨ts,hh,kk⟩ hi ⟨hno,rfl,rfl,f,rfl⟩
 by_cases hlt:i < j.units.length
 ·obtain ⟨un,hun,hun'⟩:=nth_of hlt
  obtain ⟨co,hco,hco'⟩:=nth_of (show i < j.costs.length by omega)
  have hw:=wrap64 (x:=(i:Int)+1) (by omega) (by omega)
  have hf:fits1 j i=withinM (usAdd ⟨0,0,(0,0)⟩ un co) j.chip:=by unfold fits1; rw [hun',hco']
  simp [hlt]
  refine call_g (add_g j c1 c2 c3 ⟨0,0,(0,0)⟩ i hun' hco') ?_
  simp
  refine call_g (within_g (usAdd ⟨0,0,(0,0)⟩ un co) j.chip) ?_
  rw [← hf]
  cases hb:fits1 j i with
  | false =>
   rw [find_hit hno hlt (by rw [hb]; rfl)] at hv
   subst hv
   simp
  | true =>
   simp [hw]
   exact ⟨hno.next (x:=i) (by simp [hlt]) (by rw [hb]; rfl),Sl.of rfl rfl rfl⟩
 ·obtain rfl:i=j.units.length:=by omega
  rw [find_none hno] at hv
  simp only at hv
  simp
  refine call_g (earliest_g j.deps c3 (by omega)) ?_
  simp
  have hE:(earE j.deps j.deps.length).length=j.units.length:=by rw [earE_length,hd]
  generalize earE j.deps j.deps.length=E at *
  refine forX mixed E.length (obJ j c1 c2 c3 E) (by kernel_rfl) ⟨noneT.zero,Sl.of rfl rfl rfl⟩ ?_
  rintro i ⟨ts,hh,kk⟩ hi ⟨hno2,rfl,rfl,f2,rfl⟩
  by_cases hlt2:i < E.length
  ·obtain ⟨x,hx,hx'⟩:=nth_of hlt2
   have hw:=wrap64 (x:=(i:Int)+1) (by omega) (by omega)
   by_cases c0:j.chip.stages≤x
   ·have ha:(E.any fun s=>decide (j.chip.stages≤s))=true:=any_hit hx' (by simpa using c0)
    rw [ha,if_pos rfl] at hv
    subst hv
    simp [hlt2,hx,c0]
    refine call_g hcr ?_
    simp
   ·simp [hlt2,hx,c0,hw]
    exact ⟨hno2.next hx' (by simpa using c0),Sl.of rfl rfl rfl⟩
  ·obtain rfl:i=E.length:=by omega
   rw [hno2.all (by simp),if_neg (by decide)] at hv
   subst hv
   simp
def plcJ (j:JobD) (b:Int) (cr:List Int) (cc:Cap):FV:=match (List.range j.units.length).find? fun i=>!fits1 j i with
 | some i=>fPlc 2 (.sl [] .nil) 0 18 (.sl (encL intF [(i:Int)]) .full)
 | none=>if (earE j.deps j.deps.length).any (fun s=>decide (j.chip.stages≤s)) then fPlc 2 (.sl [] .nil) 0 17 (.sl (encL intF cr) cc) else fSRes (srchM j (min b 1048576).toNat 0 0 0 (List.replicate j.units.length 0))
def plcF (d:PrgD) (c:ChipD) (b:Int) (cr:List Int) (cc:Cap):FV :=
 if (prgCheckW d).1=0 then (if chipCheck c=0 then (if b < 0 then fPlc 2 (.sl [] .nil) 0 2 (.sl [] .nil) else plcJ (jobM d c) b cr cc) else fPlc 2 (.sl [] .nil) 0 (chipCheck c) (.sl [] .nil)) else fPlc 2 (.sl [] .nil) 0 (prgCheckW d).1 (.sl [] .nil)
theorem place_g (d:PrgD) (c:ChipD) (b:Int) (cr:List Int) (cc:Cap) (hU:PrgU d) (hcr:∀ c3,Gives Tryz.prog 60 [.sl (encL rowF (jobM d c).deps) c3] (.sl (encL intF cr) cc)) :
  Gives Tryz.prog 11 [fPrg d,fChip c,intF b] (plcF d c b cr cc):=by
 refine Gives.of mixed Tryz.func11 rfl rfl rfl (by kernel_rfl) ?_
 generalize hv:plcF d c b cr cc=v
 unfold plcF at hv
 simp [fPrg,cPrg]
 refine call_g (prg_g d hU.ok) ?_
 by_cases h1:(prgCheckW d).1=0
 case neg =>
  rw [if_neg h1] at hv
  subst hv
  simp [h1]
  refine call_g (infeasible_g (prgCheckW d).1 0 [] .nil) ?_
  simp
 have hC:=prgC_of h1
 rw [if_pos h1] at hv
 simp [h1]
 refine call_g (chip_g c) ?_
 by_cases h2:chipCheck c=0
 case neg =>
  rw [if_neg h2] at hv
  subst hv
  simp [h2]
  refine call_g (infeasible_g (chipCheck c) 0 [] .nil) ?_
  simp
 rw [if_pos h2] at hv
 obtain ⟨k1,k2⟩:=chip_few h2
 obtain ⟨c1,c2,c3,hJ⟩:=newJob_g d c hU hC
 have hl:=bldM_len hU hC
 have hju:(jobM d c).units.length=(bldM d).length:=rfl
 have hjc:(jobM d c).costs.length=(jobM d c).units.length:=by simp [jobM]
 have hjd:(jobM d c).deps.length=(jobM d c).units.length:=by simp [jobM,depsM]
 have hjr:∀ i,i < (jobM d c).units.length→∃ r,(jobM d c).deps[i]?=some r∧r.length=(jobM d c).units.length:=fun i hi=>by
  have hi:i < (bldM d).length:=hi
  exact ⟨(List.range (bldM d).length).map fun b=>depM (rdF d (bldM d)) (wrF d (bldM d)) (bldM d) i b,by simp [jobM,depsM,hi],by simp [jobM]⟩
 have hjchip:(jobM d c).chip=c:=rfl
 simp [h2]
 by_cases h3:b < 0
 ·rw [if_pos h3] at hv
  subst hv
  simp [h3]
  refine call_g (infeasible_g 2 0 [] .nil) ?_
  simp
 rw [if_neg h3] at hv
 simp [h3]
 refine call_g hJ ?_
 have hob:=obstacle_g (jobM d c) c1 c2 c3 cr cc (by omega) hjc hjd (hcr c3)
 generalize jobM d c=j at *
 simp
 refine call_g hob ?_
 unfold plcJ at hv
 unfold obsR
 cases hf:(List.range j.units.length).find? fun i=>!fits1 j i with
 | some i =>
  rw [hf] at hv
  simp only at hv
  subst hv
  simp
  refine call_g (infeasible_g 18 0 [(i:Int)] .full) ?_
  simp
 | none =>
  rw [hf] at hv
  simp only at hv
  cases he:(earE j.deps j.deps.length).any (fun s=>decide (j.chip.stages≤s)) with
  | true =>
   rw [he,if_pos rfl] at hv
   subst hv
   simp
   refine call_g (infeasible_g 17 0 cr cc) ?_
   simp
  | false =>
   rw [he,if_neg (by decide)] at hv
   subst hv
   have hB:(((min b 1048576).toNat:Nat):Int)=min b 1048576:=Int.toNat_of_nonneg (by omega)
   have hs:=search_g j c1 c2 c3 (min b 1048576).toNat (by omega) hjc hjr (by rw [hjchip]; exact k1) (by rw [hjchip]; exact k2) (by omega)
   rw [hB] at hs
   simp
   rw [ops_min (q:=.i64) (a:=b) (b:=1048576) rfl rfl]
   simp
   refine call_g hs ?_
   cases hR:srchM j (min b 1048576).toNat 0 0 0 (List.replicate j.units.length 0) <;> simp [fSRes]
abbrev browF (r:List Bool):FV:=.sl (encL boolF r) .un
def afterM (A:List (List Bool)) (i j:Nat):Bool:=match A[i]? with
 | some r=>r.getD j false
 | none=>false
def szIn (A:List (List Bool)) (i:Nat) (S:List Int):Nat→List Int
 | 0=>S.set i 1
 | j+1=>if afterM A i j then (szIn A i S j).set i (max ((szIn A i S j).getD i 0) (IntKind.i64.wrap ((szIn A i S j).getD j 0+1))) else szIn A i S j
def szM (A:List (List Bool)) (n:Nat):Nat→List Int × Nat
 | 0=>(List.replicate n 0,0)
 | k+1=>(szIn A (n - 1 - k) (szM A n k).1 n,if k=0∨(szIn A (n - 1 - k) (szM A n k).1 n).getD (szM A n k).2 0≤(szIn A (n - 1 - k) (szM A n k).1 n).getD (n - 1 - k) 0 then n - 1 - k else (szM A n k).2)
theorem szIn_length (A:List (List Bool)) (i:Nat) (S:List Int):∀ j,(szIn A i S j).length=S.length
 | 0=>by simp [szIn]
 | j+1=>by rw [szIn]; split <;> simp [szIn_length A i S j]
theorem szM_length (A:List (List Bool)) (n:Nat):∀ k,(szM A n k).1.length=n
 | 0=>by simp [szM]
 | k+1=>by rw [szM]; simp [szIn_length,szM_length A n k]
theorem szM_first (A:List (List Bool)) (n:Nat):∀ k,0 < n→(szM A n k).2 < n
 | 0,h=>h
 | k+1,h=>by
  have:=szM_first A n k h
  rw [szM]; simp only; split
  ·omega
  ·exact this
def cpOk (A:List (List Bool)) (S:List Int) (a j:Nat):Bool:=afterM A a j && decide (S.getD j 0=S.getD a 0 - 1)
def cpW (A:List (List Bool)) (S:List Int) (n:Nat):Nat→Nat→List Int
 | 0,a=>[(a:Int)]
 | f+1,a=>if S.getD a 0≤1 then [(a:Int)] else match (List.range n).find? (cpOk A S a) with
  | some j=>(a:Int)::cpW A S n f j
  | none=>[(a:Int)]
def critL (A:List (List Bool)) (n:Nat):List Int:=if n=0 then [] else cpW A (szM A n n).1 n n (szM A n n).2
def critC (n:Nat):Cap:=if n=0 then .nil else .un
abbrev gz (S:List Int) (q:Nat):Int:=S.getD q 0
theorem gz_set_ne {S:List Int} {i q:Nat} (x:Int) (h:i ≠ q):gz (S.set i x) q=gz S q:=by
 unfold gz; rw [List.getD_eq_getElem?_getD,List.getD_eq_getElem?_getD,List.getElem?_set_ne h]
theorem gz_set_eq {S:List Int} {i:Nat} (x:Int) (h:i < S.length):gz (S.set i x) i=x:=by
 unfold gz; rw [List.getD_eq_getElem?_getD,List.getElem?_set_self h]; rfl
def AOk (A:List (List Bool)) (n:Nat):Prop:=∀ i j,afterM A i j=true→i < j∧j < n
structure Siz (A:List (List Bool)) (n lo:Nat) (S:List Int):Prop where
 len:S.length=n
 one:∀ q,lo≤q→q < n→1≤gz S q∧gz S q≤n - q
 up:∀ q j,lo≤q→q < n→afterM A q j=true→gz S j+1≤gz S q
 hit:∀ q,lo≤q→q < n→gz S q=1∨∃ j,afterM A q j=true∧gz S q=gz S j+1
theorem szIn_siz {A:List (List Bool)} {n i:Nat} {S:List Int} (hA:AOk A n) (hn:n≤1000) (hi:i < n) (h:Siz A n (i+1) S):∀ j,j≤n →
  (∀ q,q ≠ i→gz (szIn A i S j) q=gz S q)∧1≤gz (szIn A i S j) i∧gz (szIn A i S j) i≤n - i∧(∀ j',j' < j→afterM A i j'=true→gz S j'+1≤gz (szIn A i S j) i) ∧
  (gz (szIn A i S j) i=1∨∃ j',j' < j∧afterM A i j'=true∧gz (szIn A i S j) i=gz S j'+1):=by
 intro j
 induction j with
 | zero =>
  intro _
  have e:gz (szIn A i S 0) i=1:=by rw [szIn]; exact gz_set_eq 1 (by rw [h.len]; exact hi)
  refine ⟨fun q hq=>by rw [szIn]; exact gz_set_ne _ (Ne.symm hq),by rw [e]; exact Int.le_refl _,by rw [e]; omega,fun j' hj=>by omega,.inl e⟩
 | succ j ih =>
  intro hj
  obtain ⟨a,b,c,d,e⟩:=ih (by omega)
  have hl:(szIn A i S j).length=n:=by rw [szIn_length,h.len]
  rw [szIn]
  by_cases ha:afterM A i j=true
  ·rw [if_pos ha]
   have hij:=hA i j ha
   have hsj:=h.one j (by omega) hij.2
   have ej:(szIn A i S j).getD j 0=gz S j:=a j (by omega)
   have ei:(szIn A i S j).getD i 0=gz (szIn A i S j) i:=rfl
   have hw:IntKind.i64.wrap (gz S j+1)=gz S j+1:=wrap64 (by omega) (by omega)
   rw [ej,ei,hw]
   have hself:=gz_set_eq (S:=szIn A i S j) (i:=i) (max (gz (szIn A i S j) i) (gz S j+1)) (by rw [hl]; exact hi)
   rw [hself]
   refine ⟨fun q hq=>by rw [gz_set_ne _ (Ne.symm hq)]; exact a q hq,by omega,by omega,fun j' hj' ha'=>?_,?_⟩
   ·rcases Nat.lt_or_ge j' j with h1 | h1
    ·have:=d j' h1 ha'; omega
    ·obtain rfl:j'=j:=by omega
     omega
   ·by_cases hm:gz (szIn A i S j) i≤gz S j+1
    ·exact .inr ⟨j,by omega,ha,by omega⟩
    ·rcases e with e | ⟨j',h1,h2,h3⟩
     ·exact .inl (by omega)
     ·exact .inr ⟨j',by omega,h2,by omega⟩
  ·rw [if_neg ha]
   refine ⟨a,b,c,fun j' hj' ha'=>?_,?_⟩
   ·rcases Nat.lt_or_ge j' j with h1 | h1
    ·exact d j' h1 ha'
    ·obtain rfl:j'=j:=by omega
     exact absurd ha' ha
   ·rcases e with e | ⟨j',h1,h2,h3⟩
    ·exact .inl e
    ·exact .inr ⟨j',by omega,h2,h3⟩
theorem szM_siz {A:List (List Bool)} {n:Nat} (hA:AOk A n) (hn:n≤1000):∀ k,k≤n→Siz A n (n - k) (szM A n k).1
 | 0,_=>⟨szM_length A n 0,fun q h1 h2=>by omega,fun q j h1 h2=>by omega,fun q h1 h2=>by omega⟩
 | k+1,hk=>by
  have ih:=szM_siz hA hn k (by omega)
  have hi:n - 1 - k < n:=by omega
  have en:n - (k+1)=n - 1 - k:=by omega
  rw [show n - k=n - 1 - k+1 by omega] at ih
  obtain ⟨a,b,c,d,e⟩:=szIn_siz hA hn hi ih n (Nat.le_refl _)
  rw [szM]
  show Siz A n (n - (k+1)) (szIn A (n - 1 - k) (szM A n k).1 n)
  rw [en]
  have hlR:(szIn A (n - 1 - k) (szM A n k).1 n).length=n:=by rw [szIn_length,szM_length]
  generalize (szM A n k).1=S at *
  generalize szIn A (n - 1 - k) S n=R at *
  refine ⟨hlR,fun q h1 h2=>?_,fun q j h1 h2 h3=>?_,fun q h1 h2=>?_⟩
  ·by_cases hq:q=n - 1 - k
   ·subst hq; exact ⟨b,c⟩
   ·rw [a q hq]; exact ih.one q (by omega) h2
  ·have hj:=hA q j h3
   rw [a j (by omega)]
   by_cases hq:q=n - 1 - k
   ·subst hq; exact d j hj.2 h3
   ·rw [a q hq]; exact ih.up q j (by omega) h2 h3
  ·by_cases hq:q=n - 1 - k
   ·subst hq
    rcases e with e | ⟨j,h3,h4,h5⟩
    ·exact .inl e
    ·exact .inr ⟨j,h4,by rw [h5,a j (by have:=hA _ _ h4; omega)]⟩
   ·rcases ih.hit q (by omega) h2 with e2 | ⟨j,h4,h5⟩
    ·exact .inl (by rw [a q hq]; exact e2)
    ·exact .inr ⟨j,h4,by rw [a q hq,a j (by have:=hA _ _ h4; omega)]; exact h5⟩
theorem szM_best {A:List (List Bool)} {n:Nat} (hA:AOk A n) (hn:n≤1000):∀ k,k≤n→0 < k→n - k≤(szM A n k).2∧(szM A n k).2 < n∧∀ q,n - k≤q→q < n→gz (szM A n k).1 q≤gz (szM A n k).1 (szM A n k).2∧(q < (szM A n k).2→gz (szM A n k).1 q < gz (szM A n k).1 (szM A n k).2)
 | 0,_,h=>by omega
 | k+1,hk,_=>by
  have ihS:=szM_siz hA hn k (by omega)
  have hi:n - 1 - k < n:=by omega
  have en:n - (k+1)=n - 1 - k:=by omega
  have en2:n - k=n - 1 - k+1:=by omega
  rw [show n - k=n - 1 - k+1 by omega] at ihS
  obtain ⟨a,b,c,d,e⟩:=szIn_siz hA hn hi ihS n (Nat.le_refl _)
  rw [szM]
  simp only
  rw [en]
  by_cases hk0:k=0
  ·rw [if_pos (.inl hk0)]
   refine ⟨Nat.le_refl _,hi,fun q h1 h2=>?_⟩
   obtain rfl:q=n - 1 - k:=by omega
   exact ⟨Int.le_refl _,fun h=>by omega⟩
  have ih:=szM_best hA hn k (by omega) (by omega)
  rw [en2] at ih
  generalize (szM A n k).1=S at *
  generalize (szM A n k).2=f at *
  obtain ⟨i1,i2,i3⟩:=ih
  have af:=a f (by omega)
  by_cases hc:gz (szIn A (n - 1 - k) S n) f≤gz (szIn A (n - 1 - k) S n) (n - 1 - k)
  ·rw [if_pos (.inr hc)]
   refine ⟨Nat.le_refl _,hi,fun q h1 h2=>⟨?_,fun h=>by omega⟩⟩
   by_cases hq:q=n - 1 - k
   ·rw [hq]; exact Int.le_refl _
   ·rw [a q hq]
    have:=(i3 q (by omega) h2).1
    omega
  ·rw [if_neg (by rintro (h | h); exact hk0 h; exact hc h)]
   refine ⟨by omega,i2,fun q h1 h2=>?_⟩
   by_cases hq:q=n - 1 - k
   ·rw [hq]; exact ⟨by omega,fun _=>by omega⟩
   ·rw [a q hq,af]
    exact i3 q (by omega) h2
theorem find_range_least {p:Nat→Bool} {n j:Nat} (h:(List.range n).find? p=some j):j < n∧p j=true∧∀ q,q < j→p q=false:=by
 rw [List.find?_range_eq_some] at h
 exact ⟨List.mem_range.1 h.2.1,h.1,fun q hq=>by simpa using h.2.2 q hq⟩
theorem cpW_some {A:List (List Bool)} {n:Nat} {S:List Int} (h:Siz A n 0 S) (hA:AOk A n) {a:Nat} (ha:a < n) (h1:¬ gz S a≤1):∃ j,(List.range n).find? (cpOk A S a)=some j∧a < j∧j < n∧afterM A a j=true∧gz S j=gz S a - 1∧∀ q,q < j→cpOk A S a q=false:=by
 cases hf:(List.range n).find? (cpOk A S a) with
 | none =>
  exfalso
  rw [List.find?_eq_none] at hf
  rcases h.hit a (by omega) ha with e | ⟨j,h2,h3⟩
  ·omega
  ·exact hf j (List.mem_range.2 (hA a j h2).2) (by unfold cpOk; simp only [Bool.and_eq_true,decide_eq_true_eq]; exact ⟨h2,by show gz S j=gz S a - 1; omega⟩)
 | some j =>
  obtain ⟨h2,h3,h4⟩:=find_range_least hf
  unfold cpOk at h3
  simp only [Bool.and_eq_true,decide_eq_true_eq] at h3
  exact ⟨j,rfl,(hA a j h3.1).1,h2,h3.1,h3.2,h4⟩
theorem cpW_fuel {A:List (List Bool)} {n:Nat} {S:List Int} (h:Siz A n 0 S) (hA:AOk A n):∀ (f a:Nat),a < n→gz S a≤f+1→cpW A S n (f+1) a=cpW A S n f a∧((cpW A S n f a).length:Int)=gz S a∧(cpW A S n f a).head?=some (a:Int)
 | 0,a,ha,hf=>by
  have h1:=(h.one a (by omega) ha).1
  have hf:gz S a≤1:=by omega
  have e1:cpW A S n (0+1) a=[(a:Int)]:=by rw [cpW]; exact if_pos hf
  have e0:cpW A S n 0 a=[(a:Int)]:=rfl
  rw [e1,e0]
  exact ⟨rfl,by show ((1:Nat):Int)=_; omega,rfl⟩
 | f+1,a,ha,hf=>by
  by_cases h1:gz S a≤1
  ·have h2:=(h.one a (by omega) ha).1
   rw [cpW,if_pos h1,cpW,if_pos h1]
   exact ⟨rfl,by show ((1:Nat):Int)=_; omega,rfl⟩
  ·obtain ⟨j,e,h2,h3,h4,h5,h6⟩:=cpW_some h hA ha h1
   obtain ⟨g1,g2,g3⟩:=cpW_fuel h hA f j h3 (by omega)
   rw [cpW,if_neg h1,e,cpW,if_neg h1,e]
   simp only
   rw [g1]
   exact ⟨rfl,by rw [List.length_cons]; omega,rfl⟩
def smallM:List Int→List Int→Bool
 | a::l,b::m=>if a=b then smallM l m else decide (a < b)
 | [],b::_=>true
 | _,[]=>false
def tailM (A:List (List Bool)) (i:Nat) (B:Nat→List Int):Nat→List Int
 | 0=>[]
 | j+1=>if i < j∧afterM A i j=true∧((tailM A i B j).length < (B j).length∨((B j).length=(tailM A i B j).length∧smallM (B j) (tailM A i B j)=true)) then B j else tailM A i B j
def bestM (A:List (List Bool)) (n:Nat):Nat→Nat→List Int
 | 0=>fun _=>[]
 | k+1=>fun q=>if q=n - 1 - k then ((n - 1 - k:Nat):Int)::tailM A (n - 1 - k) (bestM A n k) n else bestM A n k q
def outM (A:List (List Bool)) (n:Nat):Nat→List Int
 | 0=>[]
 | k+1=>if (outM A n k).length≤(bestM A n (k+1) (n - 1 - k)).length then bestM A n (k+1) (n - 1 - k) else outM A n k
theorem tail_walk {A:List (List Bool)} {n i:Nat} {S:List Int} {B:Nat→List Int} (hA:AOk A n) (h:Siz A n 0 S) (hi:i < n) (hn:n≤1000) (hB:∀ q,i < q→q < n→B q=cpW A S n n q):∀ j,j≤n →
  (tailM A i B j=[]∧∀ q,q < j→afterM A i q=false)∨∃ m,m < j∧afterM A i m=true∧tailM A i B j=B m∧(∀ q,q < j→afterM A i q=true→gz S q≤gz S m)∧∀ q,q < m→afterM A i q=true→gz S q < gz S m:=by
 intro j
 induction j with
 | zero=>intro _; exact .inl ⟨rfl,fun q hq=>by omega⟩
 | succ j ih =>
  intro hj
  have ih:=ih (by omega)
  rw [tailM]
  by_cases ha:afterM A i j=true
  case neg =>
   rw [if_neg (fun h=>ha h.2.1)]
   have ha:afterM A i j=false:=by simpa using ha
   rcases ih with ⟨h1,h2⟩ | ⟨m,h1,h2,h3,h4,h5⟩
   ·refine .inl ⟨h1,fun q hq=>?_⟩
    rcases Nat.lt_or_ge q j with g | g
    ·exact h2 q g
    ·obtain rfl:q=j:=by omega
     exact ha
   ·refine .inr ⟨m,by omega,h2,h3,fun q hq hq2=>?_,h5⟩
    rcases Nat.lt_or_ge q j with g | g
    ·exact h4 q g hq2
    ·obtain rfl:q=j:=by omega
     rw [ha] at hq2; cases hq2
  have hij:=hA i j ha
  have bj:=hB j hij.1 hij.2
  have lj:=cpW_fuel h hA n j hij.2 (by have:=(h.one j (by omega) hij.2).2; omega)
  rcases ih with ⟨h1,h2⟩ | ⟨m,h1,h2,h3,h4,h5⟩
  ·rw [if_pos ⟨hij.1,ha,.inl (by rw [h1,bj]; have:=(h.one j (by omega) hij.2).1; have:=lj.2.1; simp only [List.length_nil]; omega)⟩]
   refine .inr ⟨j,by omega,ha,rfl,fun q hq hq2=>?_,fun q hq hq2=>?_⟩
   ·rcases Nat.lt_or_ge q j with g | g
    ·rw [h2 q g] at hq2; cases hq2
    ·obtain rfl:q=j:=by omega
     exact Int.le_refl _
   ·rw [h2 q hq] at hq2; cases hq2
  ·have him:=hA i m h2
   have bm:=hB m him.1 him.2
   have lm:=cpW_fuel h hA n m him.2 (by have:=(h.one m (by omega) him.2).2; omega)
   by_cases hlt:gz S m < gz S j
   ·rw [if_pos ⟨hij.1,ha,.inl (by rw [h3,bm,bj]; have:=lm.2.1; have:=lj.2.1; omega)⟩]
    refine .inr ⟨j,by omega,ha,rfl,fun q hq hq2=>?_,fun q hq hq2=>?_⟩
    ·rcases Nat.lt_or_ge q j with g | g
     ·have:=h4 q g hq2; omega
     ·obtain rfl:q=j:=by omega
      exact Int.le_refl _
    ·have:=h4 q hq hq2; omega
   ·have hns:smallM (B j) (B m)=false:=by
     have e1:=lj.2.2
     have e2:=lm.2.2
     rw [← bj] at e1
     rw [← bm] at e2
     cases hbj:B j with
     | nil=>rw [hbj] at e1; cases e1
     | cons x l =>
      cases hbm:B m with
      | nil=>rw [hbm] at e2; cases e2
      | cons y l2 =>
       rw [hbj] at e1
       rw [hbm] at e2
       have e1:x=(j:Int):=by simpa using e1
       have e2:y=(m:Int):=by simpa using e2
       rw [smallM,if_neg (by omega),decide_eq_false (by omega)]
    rw [if_neg (by
     rintro ⟨_,_,g | g⟩
     ·rw [h3,bm,bj] at g; have:=lm.2.1; have:=lj.2.1; omega
     ·rw [h3,hns] at g; cases g.2)]
    refine .inr ⟨m,by omega,h2,h3,fun q hq hq2=>?_,h5⟩
    rcases Nat.lt_or_ge q j with g | g
    ·exact h4 q g hq2
    ·obtain rfl:q=j:=by omega
     omega
theorem best_walk {A:List (List Bool)} {n:Nat} {S:List Int} (hA:AOk A n) (h:Siz A n 0 S) (hn:n≤1000):∀ k,k≤n→∀ q,n - k≤q→q < n→bestM A n k q=cpW A S n n q
 | 0,_,q,h1,h2=>by omega
 | k+1,hk,q,h1,h2=>by
  have ih:=best_walk hA h hn k (by omega)
  rw [bestM]
  by_cases hq:q=n - 1 - k
  case neg=>exact (if_neg hq).trans (ih q (by omega) h2)
  refine (if_pos hq).trans ?_
  subst hq
  have hw:=tail_walk (i:=n - 1 - k) (B:=bestM A n k) hA h h2 hn (fun q hq hq2=>ih q (by omega) hq2) n (Nat.le_refl _)
  obtain ⟨m,rfl⟩:∃ m,n=m+1:=⟨n - 1,by omega⟩
  rcases hw with ⟨e,g⟩ | ⟨j,g1,g2,g3,g4,g5⟩
  ·rw [e]
   have:gz S (m+1 - 1 - k)≤1:=by
    rcases h.hit _ (by omega) h2 with e | ⟨j,e1,e2⟩
    ·omega
    ·rw [g j (hA _ _ e1).2] at e1; cases e1
   rw [cpW,if_pos this]
  ·have hij:=hA _ _ g2
   have hs:gz S (m+1 - 1 - k)=gz S j+1:=by
    rcases h.hit _ (by omega) h2 with e | ⟨j2,e1,e2⟩
    ·have:=h.up _ j (by omega) h2 g2
     have:=(h.one j (by omega) hij.2).1
     omega
    ·have:=g4 j2 (hA _ _ e1).2 e1
     have:=h.up _ j (by omega) h2 g2
     omega
   have hj1:=(h.one j (by omega) hij.2)
   have h1':¬ gz S (m+1 - 1 - k)≤1:=by omega
   obtain ⟨j2,e,e2,e3,e4,e5,e6⟩:=cpW_some h hA h2 h1'
   have:j2=j:=by
    rcases Nat.lt_trichotomy j2 j with l | l | l
    ·have:=g5 j2 l e4; omega
    ·exact l
    ·have:=e6 j l
     unfold cpOk at this
     rw [g2,decide_eq_true (show S.getD j 0=S.getD (m+1 - 1 - k) 0 - 1 by show gz S j=gz S (m+1 - 1 - k) - 1; omega)] at this
     cases this
   subst this
   rw [cpW,if_neg h1',e]
   simp only
   rw [g3,ih j2 (by omega) hij.2]
   have hf:=cpW_fuel h hA m j2 hij.2 (by omega)
   rw [hf.1]
theorem out_walk {A:List (List Bool)} {n:Nat} (hA:AOk A n) (hn:n≤1000):outM A n n=critL A n:=by
 unfold critL
 by_cases h0:n=0
 ·subst h0; rfl
 rw [if_neg h0]
 have hS:Siz A n 0 (szM A n n).1:=by have:=szM_siz hA hn n (Nat.le_refl _); rwa [Nat.sub_self] at this
 have hb:=szM_best hA hn n (Nat.le_refl _) (by omega)
 rw [Nat.sub_self] at hb
 generalize (szM A n n).2=f at *
 generalize (szM A n n).1=S at *
 obtain ⟨_,f1,f2⟩:=hb
 have key:∀ k,k≤n→(n - k≤f→outM A n k=cpW A S n n f)∧(f < n - k→((outM A n k).length:Int)≤gz S f):=by
  intro k
  induction k with
  | zero =>
   intro _
   refine ⟨fun h=>by omega,fun _=>?_⟩
   have:=(hS.one f (by omega) f1).1
   show ((0:Nat):Int)≤_
   omega
  | succ k ih =>
   intro hk
   obtain ⟨i1,i2⟩:=ih (by omega)
   have hi:n - 1 - k < n:=by omega
   have bw:=best_walk hA hS hn (k+1) hk (n - 1 - k) (by omega) hi
   have hl:=(cpW_fuel hS hA n (n - 1 - k) hi (by have:=(hS.one _ (by omega) hi).2; omega)).2.1
   have hlf:=(cpW_fuel hS hA n f f1 (by have:=(hS.one _ (by omega) f1).2; omega)).2.1
   rw [outM,bw]
   rcases Nat.lt_trichotomy (n - 1 - k) f with c | c | c
   ·have e:=i1 (by omega)
    have:=(f2 (n - 1 - k) (by omega) hi).2 c
    rw [e,if_neg (by omega)]
    exact ⟨fun _=>rfl,fun h=>by omega⟩
   ·have:=i2 (by omega)
    rw [c] at hl ⊢
    rw [if_pos (by omega)]
    exact ⟨fun _=>rfl,fun h=>by omega⟩
   ·have a1:=i2 (by omega)
    have a2:=(f2 (n - 1 - k) (by omega) hi).1
    refine ⟨fun h=>by omega,fun _=>?_⟩
    split <;> omega
 exact (key n (Nat.le_refl _)).1 (by omega)
def crtI (d:List (List Int)) (A:List (List Bool)) (c:Cap) (n k:Nat) (s:St):Prop:=Vf.Sl [(0,.f (.sl (encL rowF d) c)),(3,.f (intF n)),(4,.f (.sl (encL browF A) .un)),(5,.ms 0 0 n n 1),(6,.f (intF (szM A n k).2)),(7,.f (intF ((n:Int) - 1 - k)))] 108 [rowA (szM A n k).1] [] s
def crtJ (d:List (List Int)) (A:List (List Bool)) (c:Cap) (n k j:Nat) (s:St):Prop:=Vf.Sl [(0,.f (.sl (encL rowF d) c)),(3,.f (intF n)),(4,.f (.sl (encL browF A) .un)),(5,.ms 0 0 n n 1),(6,.f (intF (szM A n k).2)),(7,.f (intF ((n - 1 - k:Nat):Int))),(27,.f (intF n)),(28,.f (intF j))] 108 [rowA (szIn A (n - 1 - k) (szM A n k).1 j)] [] s
theorem cpW_step {A:List (List Bool)} {n:Nat} {S:List Int} (h:Siz A n 0 S) (hA:AOk A n) {a:Nat} (ha:a < n) :
  (gz S a≤1∧cpW A S n n a=[(a:Int)])∨(¬ gz S a≤1∧∃ j,j < n∧gz S j=gz S a - 1∧(∀ q,q < j→cpOk A S a q=false)∧cpOk A S a j=true∧cpW A S n n a=(a:Int)::cpW A S n n j):=by
 obtain ⟨m,rfl⟩:∃ m,n=m+1:=⟨n - 1,by omega⟩
 by_cases h1:gz S a≤1
 ·exact .inl ⟨h1,by rw [cpW]; exact if_pos h1⟩
 ·obtain ⟨j,e,h2,h3,h4,h5,h6⟩:=cpW_some h hA ha h1
  have hj:=h.one j (by omega) h3
  obtain ⟨g1,_⟩:=cpW_fuel h hA m j h3 (by omega)
  refine .inr ⟨h1,j,h3,h5,h6,(find_range_least e).2.1,?_⟩
  rw [g1,cpW]
  refine (if_neg h1).trans ?_
  rw [e]
def LineT (k:List (Nat × Nat)) (x:AV) (L:List Int):Prop:=x=.f (.sl (encL intF L) .full)∨∃ t,x=.own (encL intF L) t∧k[t]?=some (L.length,1)
theorem line_app {k:List (Nat × Nat)} {x:AV} {L:List Int} (h:LineT k x L) (hL:L.length≤100000) (j:Int):∃ t' k',opAppend (tyOf Tryz.prog) k 29 x (.f (.sl [intF j] .full))=some (.own (encL intF (L ++ [j])) t',k')∧LineT k' (.own (encL intF (L ++ [j])) t') (L ++ [j]):=by
 have hc:∀ u ∈ encL intF L,(u.cells.length == 1)=true:=fun u hu=>by
  obtain ⟨y,_,rfl⟩:=List.mem_map.1 hu
  rfl
 have hall:(encL intF L).all (fun u=>u.cells.length == 1)=true:=List.all_eq_true.2 hc
 have hl:(encL intF L).length=L.length:=by simp
 have he:encL intF L ++ [intF j]=encL intF (L ++ [j]):=by simp [encL]
 rcases h with rfl | ⟨t,rfl,ht⟩
 ·refine ⟨k.length,k ++ [(L.length+1,1)],?_,.inr ⟨_,rfl,by simp⟩⟩
  unfold opAppend
  simp only [ty29,ty3,elems]
  rw [if_neg (by decide),if_pos (by rfl),if_neg (by simp),if_pos ⟨by decide,hall,by simp; omega,by simp; omega⟩,he]
  simp
 ·have htl:=(List.getElem?_eq_some_iff.1 ht).1
  refine ⟨t,k.set t (L.length+1,1),?_,.inr ⟨_,rfl,by rw [List.getElem?_set_self htl]; simp⟩⟩
  unfold opAppend
  simp only [ty29,ty3,elems]
  rw [if_neg (by decide),if_pos (by rfl),if_neg (by simp),if_pos ⟨by rw [hl]; exact ht,by simp; omega,by simp; omega⟩,he]
  simp
def wkI (A:List (List Bool)) (n:Nat) (S R:List Int) (m:Nat) (s:St):Prop:=∃ a L x k,a < n∧m=(gz S a).toNat∧L.length+m≤n+1∧LineT k x L∧L ++ (cpW A S n n a).tail=R ∧
 Vf.Sl [(3,.f (intF n)),(4,.f (.sl (encL browF A) .un)),(5,.ms 0 0 n n 1),(9,x),(10,.f (intF a))] 108 [rowA S] k s
def wkJ (A:List (List Bool)) (n:Nat) (S:List Int) (a:Nat) (x:AV) (k:List (Nat × Nat)) (j:Nat) (s:St):Prop:=noneT (cpOk A S a) (List.range n) j ∧
 Vf.Sl [(3,.f (intF n)),(4,.f (.sl (encL browF A) .un)),(5,.ms 0 0 n n 1),(9,x),(10,.f (intF a)),(78,.f (intF n)),(79,.f (intF j))] 108 [rowA S] k s
theorem critical_g (d:List (List Int)) (A:List (List Bool)) (c:Cap) (n:Nat) (hd:d.length=n) (hn:n≤1000) (hA:A.length=n) (hr:∀ r ∈ A,r.length=n) (hAO:AOk A n)
  (hfo:Gives Tryz.prog 120 [.sl (encL rowF d) c] (.sl (encL browF A) .un)) :
  Gives Tryz.prog 60 [.sl (encL rowF d) c] (.sl (encL intF (critL A n)) (critC n)):=by
 refine Gives.ofW Tryz.func60 rfl rfl rfl (by decide) ?_
 have hmk:n < 2^32:=by omega
 refine W.two (W.x mixed (by kernel_rfl) ?_)
 simp
 refine W.scp ?_
 refine W.two (W.x mixed (by kernel_rfl) ?_)
 simp [hd]
 refine W.two (W.x mixed (by kernel_rfl) ?_)
 simp
 refine call_g hfo ?_
 simp
 refine W.two (W.x mixed (by kernel_rfl) ?_)
 simp [make_i hmk]
 refine W.two (W.x mixed (by kernel_rfl) ?_)
 simp
 have hw0:=wrap64 (x:=(n:Int) - 1) (by omega) (by omega)
 refine W.two (W.two (W.x mixed (by kernel_rfl) ?_))
 simp [hw0]
 refine W.blk (forW n (crtI d A c n) ?_ ?_)
 ·unfold crtI
  simp [szM]
  exact Sl.of rfl rfl rfl
 rintro k ⟨ts,hh,kk⟩ hk ⟨rfl,rfl,f,rfl⟩
 refine W.two (W.x mixed (by kernel_rfl) ?_)
 by_cases hkn:k < n
 ·have g0:(0:Int)≤(n:Int) - 1 - k:=by omega
  have ge:(n:Int) - 1 - k=((n - 1 - k:Nat):Int):=by omega
  have hlen:=szM_length A n k
  have hif:n - 1 - k < n:=by omega
  have hif2:n - 1 - k+1≤n:=by omega
  rw [ge]
  simp
  refine W.two (W.blk (W.two (W.x mixed (by kernel_rfl) ?_)))
  simp [hif,hif2,hlen]
  refine W.two (W.two (W.x mixed (by kernel_rfl) ?_))
  simp
  refine W.blk (forX mixed n (crtJ d A c n k) (by kernel_rfl) (Sl.of rfl rfl rfl) ?_)
  rintro j ⟨ts,hh,kk⟩ hj ⟨rfl,rfl,f,rfl⟩
  have hsl:(szIn A (n - 1 - k) (szM A n k).1 j).length=n:=by rw [szIn_length,hlen]
  have hs:szIn A (n - 1 - k) (szM A n k).1 (j+1)=if afterM A (n - 1 - k) j then (szIn A (n - 1 - k) (szM A n k).1 j).set (n - 1 - k) (max ((szIn A (n - 1 - k) (szM A n k).1 j).getD (n - 1 - k) 0) (IntKind.i64.wrap ((szIn A (n - 1 - k) (szM A n k).1 j).getD j 0+1))) else szIn A (n - 1 - k) (szM A n k).1 j:=rfl
  by_cases hjn:j < n
  ·have hw':=wrap64 (x:=(j:Int)+1) (by omega) (by omega)
   obtain ⟨r,hrr,hrr'⟩:=nth_of (show n - 1 - k < A.length by omega)
   have hrl:r.length=n:=hr r (List.mem_of_getElem? hrr')
   obtain ⟨b,hb,hb'⟩:=nth_of (show j < r.length by omega)
   have haf:afterM A (n - 1 - k) j=b:=by unfold afterM; rw [hrr']; simp only; rw [List.getD_eq_getElem?_getD,hb']; rfl
   rw [haf] at hs
   cases b with
   | false =>
    simp [hjn,hif,hA,hrr,hrl,hb,hw']
    unfold crtJ
    rw [hs]
    exact Sl.of rfl rfl rfl
   | true =>
    rw [if_pos rfl] at hs
    generalize szIn A (n - 1 - k) (szM A n k).1 j=S at *
    obtain ⟨x,hx,hx'⟩:=nth_of (show n - 1 - k < S.length by omega)
    obtain ⟨y,hy,hy'⟩:=nth_of (show j < S.length by omega)
    have gx:=rowA_at hx'
    have gy:=rowA_at hy'
    have dx:S.getD (n - 1 - k) 0=x:=by rw [List.getD_eq_getElem?_getD,hx']; rfl
    have dy:S.getD j 0=y:=by rw [List.getD_eq_getElem?_getD,hy']; rfl
    rw [dx,dy] at hs
    simp [hjn,hif,hA,hrr,hrl,hb,hsl,gx,gy]
    rw [ops_max (q:=.i64) (a:=x) (b:=IntKind.i64.wrap (y+1)) rfl rfl]
    simp [hsl,hif,hif2,hw',hjn]
    unfold crtJ
    rw [hs]
    exact Sl.of rfl rfl rfl
  ·obtain rfl:n=j:=by omega
   have hM:szM A n (k+1)=(szIn A (n - 1 - k) (szM A n k).1 n,if k=0∨(szIn A (n - 1 - k) (szM A n k).1 n).getD (szM A n k).2 0≤(szIn A (n - 1 - k) (szM A n k).1 n).getD (n - 1 - k) 0 then n - 1 - k else (szM A n k).2):=rfl
   have hfs:=szM_first A n k (by omega)
   have hw7:=wrap64 (x:=((n - 1 - k:Nat):Int) - 1) (by omega) (by omega)
   have e7:((n - 1 - k:Nat):Int) - 1=(n:Int) - 1 - ((k+1:Nat):Int):=by omega
   rw [e7] at hw7
   simp
   generalize szIn A (n - 1 - k) (szM A n k).1 n=S at *
   generalize (szM A n k).2=fst at *
   obtain ⟨x,hx,hx'⟩:=nth_of (show n - 1 - k < S.length by omega)
   obtain ⟨y,hy,hy'⟩:=nth_of (show fst < S.length by omega)
   have gx:=rowA_at hx'
   have gy:=rowA_at hy'
   have dx:S.getD (n - 1 - k) 0=x:=by rw [List.getD_eq_getElem?_getD,hx']; rfl
   have dy:S.getD fst 0=y:=by rw [List.getD_eq_getElem?_getD,hy']; rfl
   rw [dx,dy] at hM
   refine W.two (W.x mixed (by kernel_rfl) ?_)
   by_cases k0:k=0
   ·have e1:((n - 1 - k:Nat):Int)=(n:Int) - 1:=by omega
    rw [if_pos (.inl k0)] at hM
    simp [hw0,e1]
    refine W.x mixed (by kernel_rfl) ?_
    simp
    refine W.x mixed (by kernel_rfl) ?_
    have e8:(n:Int) - 1 - 1=(n:Int) - 1 - ((k+1:Nat):Int):=by omega
    have hw7':IntKind.i64.wrap ((n:Int) - 1 - 1)=(n:Int) - 1 - ((k+1:Nat):Int):=by rw [e8]; exact hw7
    simp [hw7']
    refine ⟨by omega,?_⟩
    unfold crtI
    rw [hM]
    simp only [e1]
    exact Sl.of rfl rfl rfl
   ·have e1:¬((n - 1 - k:Nat):Int)=(n:Int) - 1:=by omega
    by_cases c1:y≤x
    ·rw [if_pos (.inr c1)] at hM
     simp [hw0,e1,hsl,hif,hfs,gx,gy,c1]
     refine W.x mixed (by kernel_rfl) ?_
     simp
     refine W.x mixed (by kernel_rfl) ?_
     simp only [← e7] at hw7
     simp [hw7]
     refine ⟨by omega,?_⟩
     unfold crtI
     rw [hM,← e7]
     exact Sl.of rfl rfl rfl
    ·rw [if_neg (by rintro (h | h); exact k0 h; exact c1 h)] at hM
     simp [hw0,e1,hsl,hif,hfs,gx,gy,c1]
     refine W.x mixed (by kernel_rfl) ?_
     simp
     refine W.x mixed (by kernel_rfl) ?_
     simp only [← e7] at hw7
     simp [hw7]
     refine ⟨by omega,?_⟩
     unfold crtI
     rw [hM,← e7]
     exact Sl.of rfl rfl rfl
 ·obtain rfl:k=n:=by omega
  have hk1:¬((k:Int)≤(k:Int) - 1):=by omega
  simp [hk1]
  refine W.two (W.x mixed (by kernel_rfl) ?_)
  by_cases n0:k=0
  ·subst n0
   simp [critL,critC,encL]
  ·simp [n0]
   refine W.two (W.x mixed (by kernel_rfl) ?_)
   simp
   refine W.two (W.x mixed (by kernel_rfl) ?_)
   simp
   refine W.two (W.x mixed (by kernel_rfl) ?_)
   simp
   have hsiz:=szM_siz hAO hn k (Nat.le_refl _)
   rw [Nat.sub_self] at hsiz
   have hfirst:=szM_first A k k (by omega)
   have hR:critL A k=cpW A (szM A k k).1 k k (szM A k k).2:=by unfold critL; rw [if_neg n0]
   have hcc:critC k=.un:=by unfold critC; rw [if_neg n0]
   rw [hR,hcc]
   generalize (szM A k k).2=a0 at *
   generalize (szM A k k).1=S at *
   generalize hRR:cpW A S k k a0=R
   have hS:S.length=k:=hsiz.len
   have ho0:=hsiz.one a0 (by omega) hfirst
   have hst:[(a0:Int)] ++ (cpW A S k k a0).tail=R:=by
    rw [← hRR]
    rcases cpW_step hsiz hAO hfirst with ⟨_,e⟩ | ⟨_,j,_,_,_,_,e⟩ <;> rw [e] <;> rfl
   refine loopW (gz S a0).toNat (wkI A k S R) ?_ ?_
   ·refine ⟨a0,[(a0:Int)],.f (.sl (encL intF [(a0:Int)]) .full),[],hfirst,rfl,by simp only [List.length_singleton]; omega,.inl rfl,hst,?_⟩
    exact Sl.of rfl rfl rfl
   clear hst hRR ho0 hfirst
   rintro m ⟨ts,hh,kk⟩ ⟨a,L,x,k2,ha,hm,hLm,hln,hst,rfl,rfl,f,rfl⟩
   have hoa:=hsiz.one a (by omega) ha
   obtain ⟨xa,hxa,hxa'⟩:=nth_of (show a < S.length by omega)
   have gxa:=rowA_at hxa'
   have dxa:gz S a=xa:=by unfold gz; rw [List.getD_eq_getElem?_getD,hxa']; rfl
   refine W.two (W.x mixed (by kernel_rfl) ?_)
   rcases cpW_step hsiz hAO ha with ⟨h1,e⟩ | ⟨h1,j,hj,hgj,hno0,hyes,e⟩
   ·rw [dxa] at h1
    have h1':¬ 1 < xa:=by omega
    simp [hS,ha,gxa,h1']
    rw [e,List.tail_cons,List.append_nil] at hst
    subst hst
    rcases hln with rfl | ⟨t9,rfl,_⟩
    ·refine weakT_W (d:=9) rfl weak_un ?_
     refine W.x mixed (by kernel_rfl) ?_
     simp
    ·refine W.x mixed (by kernel_rfl) ?_
     simp
   ·rw [dxa] at h1 hgj
    have h1':1 < xa:=by omega
    have hoj:=hsiz.one j (by omega) hj
    rw [dxa] at hm
    simp [hS,ha,gxa,h1']
    refine W.blk (W.two (W.x mixed (by kernel_rfl) ?_))
    simp
    refine W.blk (forW k (wkJ A k S a x kk) ⟨.zero,Sl.of rfl rfl rfl⟩ ?_)
    rintro q ⟨ts,hh,kk⟩ hq ⟨hno,rfl,rfl,f,rfl⟩
    refine W.two (W.x mixed (by kernel_rfl) ?_)
    have hqj:q≤j:=by
     rcases Nat.lt_or_ge j q with h | h
     ·have:=hno j j h (range_at (show j < k by omega))
      rw [hyes] at this; cases this
     ·exact h
    have hqk:q < k:=by omega
    have hw':=wrap64 (x:=(q:Int)+1) (by omega) (by omega)
    obtain ⟨xq,hxq,hxq'⟩:=nth_of (show q < S.length by omega)
    have gxq:=rowA_at hxq'
    have dxq:gz S q=xq:=by unfold gz; rw [List.getD_eq_getElem?_getD,hxq']; rfl
    obtain ⟨r,hrr,hrr'⟩:=nth_of (show a < A.length by omega)
    have hrl:r.length=k:=hr r (List.mem_of_getElem? hrr')
    obtain ⟨b,hb,hb'⟩:=nth_of (show q < r.length by omega)
    have haf:afterM A a q=b:=by unfold afterM; rw [hrr']; simp only; rw [List.getD_eq_getElem?_getD,hb']; rfl
    have hwx:=wrap64 (x:=xa - 1) (by omega) (by omega)
    have hcp:cpOk A S a q=(b && decide (xq=xa - 1)):=by
     unfold cpOk
     rw [haf]
     show (b && decide (gz S q=gz S a - 1))=_
     rw [dxq,dxa]
    simp [hqk]
    refine W.two (W.x mixed (by kernel_rfl) ?_)
    simp
    refine W.two (W.blk (W.two (W.x mixed (by kernel_rfl) ?_)))
    simp
    refine W.two (W.x mixed (by kernel_rfl) ?_)
    cases hc2:(b && decide (xq=xa - 1)) with
    | true =>
     rw [hc2] at hcp
     obtain rfl:q=j:=by
      rcases Nat.lt_or_ge q j with h | h
      ·rw [hno0 q h] at hcp; cases hcp
      ·omega
     simp only [Bool.and_eq_true,decide_eq_true_eq] at hc2
     obtain ⟨rfl,hxe⟩:=hc2
     simp [ha,hA,hrr,hrl,hb,hS,hqk,gxa,gxq,hwx,hxe,-opAppend]
     obtain ⟨t',k',e9,hl9⟩:=line_app hln (by omega) q
     rw [e,List.tail_cons] at hst
     refine W.x mixed (by kernel_rfl) ?_
     simp [-opAppend]
     rw [e9]
     simp
     refine ⟨(gz S q).toNat,by rw [hgj]; omega,q,L ++ [(q:Int)],_,k',hqk,rfl,by rw [hgj]; simp only [List.length_append,List.length_singleton]; omega,hl9,?_,Sl.of rfl rfl rfl⟩
     rw [← hst]
     rcases cpW_step hsiz hAO hqk with ⟨_,e2⟩ | ⟨_,j2,_,_,_,_,e2⟩ <;> rw [e2] <;> simp
    | false =>
     have hnx:noneT (cpOk A S a) (List.range k) (q+1):=hno.next (range_at hqk) (by rw [hcp,hc2])
     cases b with
     | false =>
      simp [ha,hA,hrr,hrl,hb,hS,hqk,gxa,gxq,hwx]
      refine W.x mixed (by kernel_rfl) ?_
      simp
      refine W.x mixed (by kernel_rfl) ?_
      simp [hw']
      exact ⟨hnx,Sl.of rfl rfl rfl⟩
     | true =>
      have hxe:¬ xq=xa - 1:=by simpa using hc2
      simp [ha,hA,hrr,hrl,hb,hS,hqk,gxa,gxq,hwx,hxe]
      refine W.x mixed (by kernel_rfl) ?_
      simp
      refine W.x mixed (by kernel_rfl) ?_
      simp [hw']
      exact ⟨hnx,Sl.of rfl rfl rfl⟩
end Go.Proofs.YtafenffmgpcjcaaGreat
