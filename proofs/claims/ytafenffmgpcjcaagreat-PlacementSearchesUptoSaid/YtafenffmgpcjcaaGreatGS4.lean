/- Texts of the proof: GS4. -/
import Derived.Test.YtafenffmgpcjcaaGreatGS3
import Derived.WalkKit
import Derived.Below
import Derived.Maps.OwnSet
import Derived.Lib.Hide
namespace Go.Proofs.YtafenffmgpcjcaaGreat
open Go.RowKit Go.Proofs.YtafenffmgpcjcaaGreat.Vf
set_option linter.unusedVariables false
set_option linter.unusedSimpArgs false
set_option maxRecDepth 100000
set_option maxHeartbeats 4000000
theorem applies_g (x:NodD):Gives Tryz.prog 157 [fNod x] (boolF (nodApplies x)):=by
 refine Gives.of mixed Tryz.func157 rfl rfl rfl (by kernel_rfl) ?_
 rw [fNod_eq]
 unfold nodApplies
 by_cases c1:x.kind=1
 ·simp [c1]
 ·by_cases c3:x.kind=3
  ·simp [c3]
  ·have e1:(x.kind == 1)=false:=by simpa using c1
   have e3:(x.kind == 3)=false:=by simpa using c3
   simp [c1,c3]
def cnI (d:PrgD) (x:NodD) (used:List Int) (i:Nat) (s:St):Prop:=noneT (fun u=>u == x.table) used i∧∃ g,Vf.Sl [(3,.ref 0 0),(4,.ref 1 0),(12,.f (intF x.kind)),(27,.f (sl (encL intF used))),(28,.f (intF used.length)),(29,.f (intF i))] 66 (aPrg d::[.f (intF x.kind),.f (intF x.table),.f (sl (encL fEx x.cond.l)),.f (sl (encL fNod x.thn.l)),.f (sl (encL fNod x.els.l))]::g) [] s
theorem node_g (d:PrgD) (x:NodD) (used:List Int) (hu:used.length < 2^62):Gives Tryz.prog 156 [fPrg d,fNod x,sl (encL intF used)] (intF (nodCheckW d x used)):=by
 refine Gives.of mixed Tryz.func156 rfl rfl rfl (by kernel_rfl) ?_
 rw [fNod_eq]
 by_cases k2:x.kind=2
 ·have hv:nodCheckW d x used=if (exCheck d [] x.cond.l).2 ≠ 0 then (exCheck d [] x.cond.l).2 else if (exCheck d [] x.cond.l).1 ≠ 1 then 10 else 0:=by unfold nodCheckW; rw [if_neg (by omega),if_pos k2]
  rw [hv]
  simp [k2,fPrg,cPrg]
  refine call_g (Gives.weak (exCheck_g d [] x.cond.l)) ?_
  by_cases h1:(exCheck d [] x.cond.l).2=0
  ·by_cases h2:(exCheck d [] x.cond.l).1=1
   ·simp [h1,h2]
   ·simp [h1,h2]
  ·simp [h1]
 by_cases k1:x.kind=1∨x.kind=3
 case neg =>
  have k1a:¬ x.kind=1:=fun h=>k1 (.inl h)
  have k1b:¬ x.kind=3:=fun h=>k1 (.inr h)
  have hv:nodCheckW d x used=11:=by unfold nodCheckW; rw [if_neg k1,if_neg k2]
  simp [k1a,k1b,k2,fPrg,cPrg,hv]
 have hv:nodCheckW d x used=if x.table < 0∨(d.tables.l.length:Int)≤x.table then 8
  else if used.contains x.table then 7
  else if x.kind=1∧0 < wr ((x.thn.l.length:Int)+x.els.l.length) then 5 else 0:=by unfold nodCheckW; rw [if_pos k1]
 have hc:used.contains x.table=used.any (fun u=>u == x.table):=by
  clear hu hv
  induction used with
  | nil=>rfl
  | cons a l ih =>
   rw [List.contains_cons,List.any_cons,ih,Bool.beq_comm]
 rw [hc] at hv
 have k1':¬ (¬ x.kind=1∧¬ x.kind=3):=by omega
 by_cases c1:x.table < 0
 ·rw [if_pos (.inl c1)] at hv
  rcases k1 with k1 | k1 <;> simp [k1,k2,fPrg,cPrg,hv,c1]
 by_cases c2:(d.tables.l.length:Int)≤x.table
 ·rw [if_pos (.inr c2)] at hv
  rcases k1 with k1 | k1 <;> simp [k1,k2,fPrg,cPrg,hv,c1,c2]
 rw [if_neg (by omega)] at hv
 rcases k1 with k1 | k1
 ·simp [k1,k2,fPrg,cPrg,c1,c2]
  refine forX mixed used.length (cnI d x used) (by kernel_rfl) ⟨.zero,_,by rw [k1]; exact Sl.of rfl rfl rfl⟩ ?_
  rintro i ⟨ts,hh,kk⟩ hi ⟨hno,g,rfl,rfl,f,rfl⟩
  by_cases hil:i < used.length
  ·obtain ⟨u,hx1,hx1'⟩:=nth_of hil
   have hw:=wrap64 (x:=(i:Int)+1) (by omega) (by omega)
   by_cases hq:u=x.table
   ·rw [if_pos (any_hit hx1' (by simpa using hq))] at hv
    simp [hil,hx1,hq,hv]
   ·simp [hil,hx1,hq,hw]
    exact ⟨hno.next hx1' (by simpa using hq),_,Sl.of rfl rfl rfl⟩
  ·obtain rfl:i=used.length:=by omega
   rw [hno.all (by omega),if_neg (by decide)] at hv
   by_cases h1:0 < IntKind.i64.wrap ((x.thn.l.length:Int)+x.els.l.length)
   ·rw [if_pos ⟨k1,h1⟩] at hv
    simp [hil,k1,h1,hv]
   ·rw [if_neg (fun h=>h1 h.2)] at hv
    simp [hil,k1,h1,hv]
 ·simp [k1,k2,fPrg,cPrg,c1,c2]
  refine forX mixed used.length (cnI d x used) (by kernel_rfl) ⟨.zero,_,by rw [k1]; exact Sl.of rfl rfl rfl⟩ ?_
  rintro i ⟨ts,hh,kk⟩ hi ⟨hno,g,rfl,rfl,f,rfl⟩
  by_cases hil:i < used.length
  ·obtain ⟨u,hx1,hx1'⟩:=nth_of hil
   have hw:=wrap64 (x:=(i:Int)+1) (by omega) (by omega)
   by_cases hq:u=x.table
   ·rw [if_pos (any_hit hx1' (by simpa using hq))] at hv
    simp [hil,hx1,hq,hv]
   ·simp [hil,hx1,hq,hw]
    exact ⟨hno.next hx1' (by simpa using hq),_,Sl.of rfl rfl rfl⟩
  ·obtain rfl:i=used.length:=by omega
   rw [hno.all (by omega),if_neg (by decide)] at hv
   rw [if_neg (fun h=>by have:=h.1; omega)] at hv
   simp [hil,k1,hv]
inductive NodB:List NodD→Prop
 | mk (l:List NodD) (hl:l.length≤maxLen) (h1:∀ x ∈ l,NodB x.thn.l) (h2:∀ x ∈ l,NodB x.els.l):NodB l
theorem nodDeepW_eq (x:NodD):nodDeepW x=max (nodsDeepW x.thn.l) (nodsDeepW x.els.l):=by obtain ⟨k,t,c,a,b⟩:=x; rfl
theorem mostW_nonneg (l:List NodD):0≤nodsMostW l:=by
 induction l with
 | nil=>simp [nodsMostW]
 | cons x l ih=>rw [nodsMostW]; omega
theorem mostW_snoc (l:List NodD) (x:NodD):nodsMostW (l ++ [x])=max (nodsMostW l) (nodDeepW x):=by
 induction l with
 | nil=>have:=mostW_nonneg [x]; simp [nodsMostW] at *; omega
 | cons y l ih=>rw [List.cons_append,nodsMostW,ih,nodsMostW]; omega
theorem deepW_eq {l:List NodD} (h:l ≠ []):nodsDeepW l=wr (nodsMostW l+1):=by
 cases l with
 | nil=>exact absurd rfl h
 | cons x l=>rw [nodsDeepW,nodsMostW]
def neI (l:List NodD) (i:Nat) (s:St):Prop:=∃ g,Vf.Sl [(3,.f (intF (nodsMostW (l.take i)))),(9,.f (sl (encL fNod l))),(10,.f (intF l.length)),(11,.f (intF i))] 26 g [] s
theorem nest_g (l:List NodD) (h:NodB l):Gives Tryz.prog 153 [sl (encL fNod l)] (intF (nodsDeepW l)):=by
 induction h with
 | mk l hl h1 h2 ih1 ih2 =>
  refine Gives.of mixed Tryz.func153 rfl rfl rfl (by kernel_rfl) ?_
  by_cases c0:l.length=0
  ·have:l=[]:=List.eq_nil_of_length_eq_zero c0
   subst this
   simp [nodsDeepW]
  have hne:l ≠ []:=fun h=>c0 (by rw [h]; rfl)
  rw [deepW_eq hne]
  simp [c0,hne]
  refine forX mixed l.length (neI l) (by kernel_rfl) ⟨_,Sl.of rfl rfl rfl⟩ ?_
  rintro i ⟨ts,hh,kk⟩ hi ⟨g,rfl,rfl,f,rfl⟩
  by_cases hlt:i < l.length
  ·obtain ⟨x,hx,hx'⟩:=nth_of hlt
   have hm:=List.mem_of_getElem? hx'
   have hw:=wrap64 (x:=(i:Int)+1) (by omega) (by unfold maxLen at hl; omega)
   have hn:nodsMostW (l.take (i+1))=max (nodsMostW (l.take i)) (max (nodsDeepW x.thn.l) (nodsDeepW x.els.l)):=by
    rw [take_snoc hx',mostW_snoc,nodDeepW_eq]
   simp [hlt,hx,fNod_eq]
   refine call_g (ih1 x hm) ?_
   simp
   refine call_g (ih2 x hm) ?_
   rw [ops_max3 (q:=.i64) (a:=nodsMostW (l.take i)) (b:=nodsDeepW x.thn.l) (c:=nodsDeepW x.els.l) rfl rfl rfl]
   simp [hw]
   rw [← hn]
   exact ⟨_,Sl.of rfl rfl rfl⟩
  ·obtain rfl:i=l.length:=by omega
   simp [hlt,wr]
end Go.Proofs.YtafenffmgpcjcaaGreat
namespace Go.Proofs.YtafenffmgpcjcaaGreat
open Go.RowKit Go.Proofs.YtafenffmgpcjcaaGreat.Vf
set_option linter.unusedVariables false
set_option linter.unusedSimpArgs false
set_option maxRecDepth 100000
set_option maxHeartbeats 4000000
theorem count1_r (x:NodD) (n:Int) (b:Nat) (h:List (List AV)) (k:List (Nat × Nat)) (hb:h[b]?=some [.f (intF n)]):GivesR Tryz.prog 209 [.f (fNod x),.ref b 0] h k (.f (boolF true)) (h.set b [.f (intF (wr (n+1)))]) k:=by
 refine GivesR.of mixed Tryz.func209 rfl rfl rfl (by kernel_rfl) ?_
 have hbl:=(List.getElem?_eq_some_iff.1 hb).1
 have hb':ix (h ++ [[.f (intF x.kind),.f (intF x.table),.f (sl (encL fEx x.cond.l)),.f (sl (encL fNod x.thn.l)),.f (sl (encL fNod x.els.l))]]) b=some [.f (intF n)]:=by
  show (h ++ _)[b]?=_
  rw [List.getElem?_append_left hbl]; exact hb
 rw [fNod_eq]
 simp [hb']
 exact retR_eq rfl (List.set_append_left _ _ hbl) (List.append_nil k).symm (by simp) (Nat.le_refl _) (BelC.set fun z hz=>by simp at hz; subst hz; exact .f _)
section walk
variable {S:Type}
def Vis (Inv:S→List (List AV)→List (Nat × Nat)→Prop) (g:FuncId) (args:List AV) (s s':S) (q:Bool):Prop :=
 ∀ h k,Inv s h k→∀ e,∃ h' k',GivesR Tryz.prog g args (h ++ e) k (.f (boolF q)) (h' ++ e) k'∧Inv s' h' k'∧h'.length=h.length∧k.length≤k'.length∧BelC h h' k'.length
def runV (V:S→NodD→Bool × S):S→List NodD→Bool × S
 | s,[]=>(true,s)
 | s,x::l=>if (V s x).1 then runV V (V s x).2 l else (false,(V s x).2)
theorem runV_append (V:S→NodD→Bool × S) (s:S) (a b:List NodD):runV V s (a ++ b)=if (runV V s a).1 then runV V (runV V s a).2 b else (false,(runV V s a).2):=by
 induction a generalizing s with
 | nil=>simp [runV]
 | cons x a ih =>
  simp only [List.cons_append,runV]
  split
  ·rw [ih]
  ·simp
def nodC (x:NodD):List AV:=[.f (intF x.kind),.f (intF x.table),.f (sl (encL fEx x.cond.l)),.f (sl (encL fNod x.thn.l)),.f (sl (encL fNod x.els.l))]
def Reach (f:FuncId) (cs:List AV) (e:List (List AV)) (q:Bool) (hT:List (List AV)) (kT:List (Nat × Nat)):List NodD→List (List AV)→List (List AV)→List (Nat × Nat)→Prop
 | [],B,h,k=>q=true∧h=hT∧k=kT
 | x::r,B,h,k=>∃ h1 k1 b1,h1.length=h.length∧GivesR Tryz.prog f (.f (fNod x)::cs) (h ++ (e ++ (B ++ [nodC x]))) k (.f (boolF b1)) (h1 ++ (e ++ (B ++ [nodC x]))) k1 ∧
  ((b1=false∧q=false∧h1=hT∧k1=kT)∨(b1=true∧∃ h2 k2 b2,h2.length=h1.length∧GivesR Tryz.prog 154 [.f (sl (encL fNod x.thn.l)),.fnr f cs] (h1 ++ (e ++ (B ++ [nodC x]))) k1 (.f (boolF b2)) (h2 ++ (e ++ (B ++ [nodC x]))) k2 ∧
    ((b2=false∧q=false∧h2=hT∧k2=kT)∨(b2=true∧∃ h3 k3 b3,h3.length=h2.length∧GivesR Tryz.prog 154 [.f (sl (encL fNod x.els.l)),.fnr f cs] (h2 ++ (e ++ (B ++ [nodC x]))) k2 (.f (boolF b3)) (h3 ++ (e ++ (B ++ [nodC x]))) k3 ∧
      ((b3=false∧q=false∧h3=hT∧k3=kT)∨(b3=true∧Reach f cs e q hT kT r (B ++ [nodC x]) h3 k3))))))
theorem reach_ex (V:S→NodD→Bool × S) (Inv:S→List (List AV)→List (Nat × Nat)→Prop) (f:FuncId) (cs:List AV) (e:List (List AV)) (hV:∀ s x,Vis Inv f (.f (fNod x)::cs) s (V s x).2 (V s x).1):∀ (l:List NodD)
  (h1:∀ x ∈ l,∀ s,Vis Inv 154 [.f (sl (encL fNod x.thn.l)),.fnr f cs] s (runV V s (nodsPre x.thn.l)).2 (runV V s (nodsPre x.thn.l)).1)
  (h2:∀ x ∈ l,∀ s,Vis Inv 154 [.f (sl (encL fNod x.els.l)),.fnr f cs] s (runV V s (nodsPre x.els.l)).2 (runV V s (nodsPre x.els.l)).1)
  (B:List (List AV)) (s:S) (h:List (List AV)) (k:List (Nat × Nat)),Inv s h k→∃ hT kT,Reach f cs e (runV V s (nodsPre l)).1 hT kT l B h k∧Inv (runV V s (nodsPre l)).2 hT kT∧hT.length=h.length∧k.length≤kT.length∧BelC h hT kT.length
 | [],h1,h2,B,s,h,k,hi=>⟨h,k,⟨rfl,rfl,rfl⟩,hi,rfl,Nat.le_refl _,.refl⟩
 | x::l,h1,h2,B,s,h,k,hi=>by
  have en:nodsPre (x::l)=x::(nodsPre x.thn.l ++ (nodsPre x.els.l ++ nodsPre l)):=by obtain ⟨a,b,c,d,e⟩:=x; simp [nodsPre,nodPre]; rfl
  rw [en]
  obtain ⟨ha,ka,ga,ia,la,na,ba⟩:=hV s x h k hi (e ++ (B ++ [nodC x]))
  cases va:(V s x).1 with
  | false =>
   have er:runV V s (x::(nodsPre x.thn.l ++ (nodsPre x.els.l ++ nodsPre l)))=(false,(V s x).2):=by rw [runV,if_neg (by rw [va]; decide)]
   rw [er]
   exact ⟨ha,ka,⟨ha,ka,false,la,by rw [va] at ga; exact ga,.inl ⟨rfl,rfl,rfl,rfl⟩⟩,ia,la,na,ba⟩
  | true =>
  have er:runV V s (x::(nodsPre x.thn.l ++ (nodsPre x.els.l ++ nodsPre l)))=runV V (V s x).2 (nodsPre x.thn.l ++ (nodsPre x.els.l ++ nodsPre l)):=by rw [runV,if_pos va]
  rw [er,runV_append]
  rw [va] at ga
  generalize (V s x).2=s1 at *
  obtain ⟨hb,kb,gb,ib,lb,nb,bb⟩:=h1 x (.head _) s1 ha ka ia (e ++ (B ++ [nodC x]))
  cases vb:(runV V s1 (nodsPre x.thn.l)).1 with
  | false =>
   rw [if_neg (by decide)]
   exact ⟨hb,kb,⟨ha,ka,true,la,ga,.inr ⟨rfl,hb,kb,false,lb,by rw [vb] at gb; exact gb,.inl ⟨rfl,rfl,rfl,rfl⟩⟩⟩,ib,lb.trans la,Nat.le_trans na nb,ba.trans bb la nb⟩
  | true =>
  rw [if_pos rfl,runV_append]
  rw [vb] at gb
  generalize (runV V s1 (nodsPre x.thn.l)).2=s2 at *
  obtain ⟨hc,kc,gc,ic,lc,nc,bc⟩:=h2 x (.head _) s2 hb kb ib (e ++ (B ++ [nodC x]))
  cases vc:(runV V s2 (nodsPre x.els.l)).1 with
  | false =>
   rw [if_neg (by decide)]
   exact ⟨hc,kc,⟨ha,ka,true,la,ga,.inr ⟨rfl,hb,kb,true,lb,gb,.inr ⟨rfl,hc,kc,false,lc,by rw [vc] at gc; exact gc,.inl ⟨rfl,rfl,rfl,rfl⟩⟩⟩⟩,ic,lc.trans (lb.trans la),Nat.le_trans na (Nat.le_trans nb nc),(ba.trans bb la nb).trans bc (lb.trans la) nc⟩
  | true =>
  rw [if_pos rfl]
  rw [vc] at gc
  generalize (runV V s2 (nodsPre x.els.l)).2=s3 at *
  obtain ⟨hT,kT,rT,iT,lT,nT,bT⟩:=reach_ex V Inv f cs e hV l (fun y hy=>h1 y (.tail _ hy)) (fun y hy=>h2 y (.tail _ hy)) (B ++ [nodC x]) s3 hc kc ic
  exact ⟨hT,kT,⟨ha,ka,true,la,ga,.inr ⟨rfl,hb,kb,true,lb,gb,.inr ⟨rfl,hc,kc,true,lc,gc,.inr ⟨rfl,rT⟩⟩⟩⟩,iT,lT.trans (lc.trans (lb.trans la)),Nat.le_trans na (Nat.le_trans nb (Nat.le_trans nc nT)),((ba.trans bb la nb).trans bc (lb.trans la) nc).trans bT (lc.trans (lb.trans la)) nT⟩
def preI (f:FuncId) (cs:List AV) (e:List (List AV)) (q:Bool) (hT:List (List AV)) (kT:List (Nat × Nat)) (l:List NodD) (i:Nat) (s:St):Prop:=∃ h k B,h.length=hT.length∧Reach f cs e q hT kT (l.drop i) B h k∧Vf.Sl [(1,.fnr f cs),(7,.f (sl (encL fNod l))),(8,.f (intF l.length)),(9,.f (intF i))] 32 (h ++ (e ++ B)) k s
theorem pre_r (V:S→NodD→Bool × S) (Inv:S→List (List AV)→List (Nat × Nat)→Prop) (f:FuncId) (cs:List AV) (hV:∀ s x,Vis Inv f (.f (fNod x)::cs) s (V s x).2 (V s x).1) (l:List NodD) (hB:NodB l) :
  ∀ s,Vis Inv 154 [.f (sl (encL fNod l)),.fnr f cs] s (runV V s (nodsPre l)).2 (runV V s (nodsPre l)).1:=by
 induction hB with
 | mk l hl h1 h2 ih1 ih2 =>
  intro s h k hi e
  obtain ⟨hT,kT,hr,hi',hlen,hk,hbel⟩:=reach_ex V Inv f cs e hV l ih1 ih2 [] s h k hi
  refine ⟨hT,kT,?_,hi',hlen,hk,hbel⟩
  generalize (runV V s (nodsPre l)).1=q at hr
  clear hi hi' ih1 ih2 hV
  refine GivesR.of mixed Tryz.func154 rfl rfl rfl (by kernel_rfl) ?_
  simp
  refine forX mixed l.length (preI f cs e q hT kT l) (by kernel_rfl) ⟨h,k,[],hlen.symm,hr,by rw [List.append_nil]; exact Sl.of rfl rfl rfl⟩ ?_
  rintro i ⟨ts,hh,kk⟩ hi ⟨h,k,B,hln,hr,rfl,rfl,g,rfl⟩
  by_cases hlt:i < l.length
  ·obtain ⟨x,hx,hx'⟩:=nth_of hlt
   have hw:=wrap64 (x:=(i:Int)+1) (by omega) (by unfold maxLen at hl; omega)
   have hdr:l.drop i=x::l.drop (i+1):=by
    obtain ⟨hj,rfl⟩:=List.getElem?_eq_some_iff.1 hx'
    exact List.drop_eq_getElem_cons hj
   rw [hdr] at hr
   obtain ⟨ha,ka,b1,la,g1,hr⟩:=hr
   rw [fNod_eq] at g1
   simp [hlt,hx,fNod_eq]
   refine ⟨_,g1.agg.x,?_⟩
   rintro _ _ _ ⟨rfl,rfl,rfl⟩
   rcases hr with ⟨rfl,rfl,rfl,rfl⟩ | ⟨rfl,hb,kb,b2,lb,g2,hr⟩
   ·simp
    exact retR_eq rfl (List.append_assoc _ _ _).symm (List.append_nil _).symm (by simp [hlen]) hk (hbel.app hlen)
   simp [← la,nodC]
   refine call_r g2 ?_
   rcases hr with ⟨rfl,rfl,rfl,rfl⟩ | ⟨rfl,hc,kc,b3,lc,g3,hr⟩
   ·simp
    exact retR_eq rfl (List.append_assoc _ _ _).symm (List.append_nil _).symm (by simp [hlen]) hk (hbel.app hlen)
   simp [← lb,nodC]
   refine call_r g3 ?_
   rcases hr with ⟨rfl,rfl,rfl,rfl⟩ | ⟨rfl,hr⟩
   ·simp
    exact retR_eq rfl (List.append_assoc _ _ _).symm (List.append_nil _).symm (by simp [hlen]) hk (hbel.app hlen)
   simp [hw,nodC]
   exact ⟨hc,kc,B ++ [nodC x],by rw [lc,lb,la,hln],hr,Sl.of rfl rfl rfl⟩
  ·obtain rfl:i=l.length:=by omega
   rw [List.drop_length] at hr
   obtain ⟨rfl,rfl,rfl⟩:=hr
   simp
   exact retR_eq rfl (List.append_assoc _ _ _).symm (List.append_nil _).symm (by simp [hlen]) hk (hbel.app hlen)
end walk
end Go.Proofs.YtafenffmgpcjcaaGreat
namespace Go.Proofs.YtafenffmgpcjcaaGreat
open Go.RowKit Go.Proofs.YtafenffmgpcjcaaGreat.Vf
set_option linter.unusedVariables false
set_option linter.unusedSimpArgs false
set_option maxRecDepth 100000
set_option maxHeartbeats 4000000
def cntV (s:Int) (x:NodD):Bool × Int:=(true,wr (s+1))
theorem cnt_run (l:List NodD):∀ s,runV cntV (wr s) l=(true,wr (s+l.length)):=by
 induction l with
 | nil=>intro s; simp [runV]
 | cons x l ih =>
  intro s
  rw [runV,if_pos (by rfl)]
  show runV cntV (wr (wr s+1)) l=_
  rw [wr_add,ih]
  simp only [List.length_cons]
  congr 2
  omega
def cntI (s:Int) (h:List (List AV)) (k:List (Nat × Nat)):Prop:=h=[[.f (intF s)]]∧k=[]
theorem cnt_vis (s:Int) (x:NodD):Vis cntI 209 [.f (fNod x),.ref 0 0] s (cntV s x).2 (cntV s x).1:=by
 rintro h k ⟨rfl,rfl⟩ e
 exact ⟨_,_,count1_r x s 0 ([[.f (intF s)]] ++ e) [] rfl,⟨rfl,rfl⟩,rfl,Nat.le_refl _,BelC.set (b:=0) (fun z hz=>by simp at hz; subst hz; exact .f _)⟩
theorem count_g (l:List NodD) (hB:NodB l):Gives Tryz.prog 152 [sl (encL fNod l)] (intF (wr (nodsPre l).length)):=by
 refine Gives.of mixed Tryz.func152 rfl rfl rfl (by kernel_rfl) ?_
 simp
 obtain ⟨h',k',hg,⟨rfl,rfl⟩,-⟩:=pre_r cntV cntI 209 [.ref 0 0] cnt_vis l hB 0 [[.f (intF 0)]] [] ⟨rfl,rfl⟩ []
 have hc:runV cntV 0 (nodsPre l)=(true,wr (nodsPre l).length):=by
  have:=cnt_run (nodsPre l) 0
  rw [show wr 0=0 from rfl,Int.zero_add] at this
  exact this
 rw [hc] at hg
 refine call_r hg ?_
 simp
theorem nodup_snoc {l:List Int} {t:Int} (h:l.Nodup) (ht:t ∉ l):(l ++ [t]).Nodup:=by
 rw [List.nodup_append]
 exact ⟨h,by simp,fun x hx y hy=>by
  obtain rfl:y=t:=by simpa using hy
  exact fun e=>ht (e ▸ hx)⟩
theorem nodup_range:∀ (n:Nat) (l:List Int),l.Nodup→(∀ x ∈ l,0≤x∧x < n)→l.length≤n:=by
 intro n
 induction n with
 | zero =>
  intro l _ h
  cases l with
  | nil=>simp
  | cons x l=>have:=h x (List.mem_cons_self ..); omega
 | succ n ih =>
  intro l hd h
  have h1:=ih (l.filter (fun x=>!decide (x=(n:Int)))) (hd.filter _) (fun x hx=>by
   have hx2:=List.mem_filter.1 hx
   have:=h x hx2.1
   have hne:¬ x=(n:Int):=by simpa using hx2.2
   omega)
  have h2:∀ (l:List Int),l.Nodup→l.length≤(l.filter (fun x=>!decide (x=(n:Int)))).length+1:=by
   intro l
   induction l with
   | nil=>intro _; simp
   | cons y l ihl =>
    intro hd
    rw [List.nodup_cons] at hd
    rw [List.filter_cons]
    split
    ·simp only [List.length_cons]; have:=ihl hd.2; omega
    ·rename_i q
     have hy:y=n:=by simpa using q
     have:l.filter (fun x=>!decide (x=(n:Int)))=l:=List.filter_eq_self.2 fun x hx=>by
      simp only [Bool.not_eq_true',decide_eq_false_iff_not]
      intro e
      exact hd.1 (by rw [hy,← e]; exact hx)
     rw [this]
     simp
  have:=h2 l hd
  omega
theorem nodeW (d:PrgD) (x:NodD) (used:List Int) (hu:used.length < 2^62) {c:Cap}:Gives Tryz.prog 156 ([fPrg d,fNod x,.sl (encL intF used) c].map unc) (intF (nodCheckW d x used)):=by
 have:=node_g d x used hu
 rw [fNod_eq] at this ⊢
 exact this
structure CtlS where
 used:List Int
 e:Int
 n:Int
def ctlV (d:PrgD) (s:CtlS) (x:NodD):Bool × CtlS :=
 if nodCheckW d x s.used ≠ 0 then (false,⟨s.used,nodCheckW d x s.used,s.n⟩) else (true,⟨if nodApplies x then s.used ++ [x.table] else s.used,0,wr (s.n+1)⟩)
structure CtlI (d:PrgD) (s:CtlS) (h:List (List AV)) (k:List (Nat × Nat)):Prop where
 nd:s.used.Nodup
 rg:∀ u ∈ s.used,0≤u∧u < d.tables.l.length
 mem:∃ u tk,OwnT k (encL intF s.used) 1 u tk∧h=[aPrg d,[.f (intF s.e)],[.f (intF s.n)],[u]]
theorem two_sets {a b c u:List AV} {x y:FV} (r:List (List AV)) (n:Nat) (_:True:=trivial):BelC (a::b::c::u::r) (a::[.f x]::[.f y]::u::r) n :=
 (BelC.set (h:=a::b::c::u::r) (b:=1) (cs:=[.f x]) fun z hz=>by simp at hz; subst hz; exact .f _).trans (BelC.set (h:=a::[.f x]::c::u::r) (b:=2) (cs:=[.f y]) fun z hz=>by simp at hz; subst hz; exact .f _) rfl (Nat.le_refl _)
theorem three_sets {a b c u:List AV} {x y:FV} {l:List FV} {t:Nat} (r:List (List AV)) (n:Nat) (ht:t < n):BelC (a::b::c::u::r) (a::[.f x]::[.f y]::[.own l t]::r) n :=
 (two_sets r n).trans (BelC.set (h:=a::[.f x]::[.f y]::u::r) (b:=3) (cs:=[.own l t]) fun z hz=>by simp at hz; subst hz; exact .own _ _ ht) rfl (Nat.le_refl _)
theorem ctl_vis (d:PrgD) (hd:d.tables.l.length≤100000) (s:CtlS) (x:NodD):Vis (CtlI d) 155 [.f (fNod x),.ref 0 0,.ref 3 0,.ref 1 0,.ref 2 0] s (ctlV d s x).2 (ctlV d s x).1:=by
 obtain ⟨used,e,n⟩:=s
 rintro h k ⟨hnd,hrg,u,tk,ho,rfl⟩ ext
 simp only at hnd hrg ho
 have hul:used.length≤100000:=Nat.le_trans (nodup_range _ _ hnd hrg) hd
 by_cases hc:nodCheckW d x used=0
 case neg =>
  have hV:ctlV d ⟨used,e,n⟩ x=(false,⟨used,nodCheckW d x used,n⟩):=by unfold ctlV; rw [if_pos hc]
  rw [hV]
  refine ⟨[aPrg d,[.f (intF (nodCheckW d x used))],[.f (intF n)],[u]],k,?_,⟨hnd,hrg,u,tk,ho,rfl⟩,rfl,Nat.le_refl _,?_⟩
  ·refine GivesR.of mixed Tryz.func155 rfl rfl rfl (by kernel_rfl) ?_
   rw [fNod_eq]
   obtain ⟨c,hcc⟩:=ownF_is (encL intF used)
   have hfz:=ho.fzA
   rw [hcc] at hfz
   unfold Vf.fzA at hfz
   simp [aPrg,hfz]
   refine call_g (@Gives.weak _ _ [fPrg d,.agg [intF x.kind,intF x.table,sl (encL fEx x.cond.l),sl (encL fNod x.thn.l),sl (encL fNod x.els.l)],.sl (encL intF used) c] _ (by rw [← fNod_eq]; exact nodeW d x used (by omega))) ?_
   simp [hc]
   exact retR_eq rfl (by simp; rfl) (List.append_nil k).symm (by simp) (Nat.le_refl _) (BelC.set (b:=1) fun z hz=>by simp at hz; subst hz; exact .f _)
  ·exact BelC.set (b:=1) fun z hz=>by simp at hz; subst hz; exact .f _
 have hV:ctlV d ⟨used,e,n⟩ x=(true,⟨if nodApplies x then used ++ [x.table] else used,0,wr (n+1)⟩):=by unfold ctlV; rw [if_neg (by simpa using hc)]
 rw [hV]
 cases ha:nodApplies x with
 | false =>
  refine ⟨[aPrg d,[.f (intF 0)],[.f (intF (wr (n+1)))],[u]],k,?_,⟨hnd,hrg,u,tk,ho,rfl⟩,rfl,Nat.le_refl _,?_⟩
  ·refine GivesR.of mixed Tryz.func155 rfl rfl rfl (by kernel_rfl) ?_
   rw [fNod_eq]
   obtain ⟨c,hcc⟩:=ownF_is (encL intF used)
   have hfz:=ho.fzA
   rw [hcc] at hfz
   unfold Vf.fzA at hfz
   simp [aPrg,hfz]
   refine call_g (@Gives.weak _ _ [fPrg d,.agg [intF x.kind,intF x.table,sl (encL fEx x.cond.l),sl (encL fNod x.thn.l),sl (encL fNod x.els.l)],.sl (encL intF used) c] _ (by rw [← fNod_eq]; exact nodeW d x used (by omega))) ?_
   simp [hc]
   refine call_g (by rw [← fNod_eq]; exact applies_g x) ?_
   simp [ha]
   exact retR_eq rfl (by simp [wr]; rfl) (List.append_nil k).symm (by simp) (Nat.le_refl _) (two_sets _ _)
  ·exact two_sets _ _
 | true =>
  have hnot:x.table ∉ used∧0≤x.table∧x.table < d.tables.l.length:=by
   have hk:x.kind=1∨x.kind=3:=by simpa [nodApplies] using ha
   unfold nodCheckW at hc
   rw [if_pos hk] at hc
   split at hc
   ·cases hc
   ·rename_i h1
    split at hc
    ·cases hc
    ·rename_i h2
     exact ⟨fun hm=>h2 (by simpa using hm),by omega,by omega⟩
  obtain ⟨t',k',e1,ho',hkl,-⟩:=append_own ty29 ty3 (by simp) ho (y:=.f (.sl [intF x.table] .full)) rfl (by simp) (by simp) (by simp; omega) (by simp; omega)
  have htl:t' < k'.length:=ho'.lt (List.append_ne_nil_of_right_ne_nil _ (List.cons_ne_nil _ _))
  refine ⟨[aPrg d,[.f (intF 0)],[.f (intF (wr (n+1)))],[.own (encL intF used ++ [intF x.table]) t']],k',?_,⟨nodup_snoc hnd hnot.1,?_,_,t',by rw [if_pos rfl,← encL_snoc]; exact ho',rfl⟩,rfl,hkl,?_⟩
  ·refine GivesR.of mixed Tryz.func155 rfl rfl rfl (by kernel_rfl) ?_
   rw [fNod_eq]
   obtain ⟨c,hcc⟩:=ownF_is (encL intF used)
   have hfz:=ho.fzA
   rw [hcc] at hfz
   unfold Vf.fzA at hfz
   simp [aPrg,hfz]
   refine call_g (@Gives.weak _ _ [fPrg d,.agg [intF x.kind,intF x.table,sl (encL fEx x.cond.l),sl (encL fNod x.thn.l),sl (encL fNod x.els.l)],.sl (encL intF used) c] _ (by rw [← fNod_eq]; exact nodeW d x used (by omega))) ?_
   simp [hc]
   refine call_g (by rw [← fNod_eq]; exact applies_g x) ?_
   simp [ha,-opAppend]
   rw [e1]
   simp
   exact retR_eq rfl (by simp [wr]; rfl) (List.append_nil k').symm (by simp) hkl (three_sets _ _ htl)
  ·intro u hu
   simp at hu
   rcases hu with hu | rfl
   ·exact hrg u hu
   ·exact hnot.2
  ·exact three_sets _ _ htl
theorem ctl_run (d:PrgD) (l:List NodD):∀ (used:List Int) (n:Nat),(runV (ctlV d) ⟨used,0,wr n⟩ l).2.e=(ctlGoW d l used n).2∧((ctlGoW d l used n).2 ≠ 0→(runV (ctlV d) ⟨used,0,wr n⟩ l).2.n=wr (ctlGoW d l used n).1):=by
 induction l with
 | nil=>intro used n; exact ⟨rfl,fun h=>absurd rfl h⟩
 | cons x l ih =>
  intro used n
  rw [runV,ctlGoW]
  by_cases hc:nodCheckW d x used=0
  ·have hV:ctlV d ⟨used,0,wr n⟩ x=(true,⟨if nodApplies x then used ++ [x.table] else used,0,wr (wr n+1)⟩):=by unfold ctlV; rw [if_neg (by simpa using hc)]
   have e1:∀ a b:Nat × Int,(if nodCheckW d x used ≠ 0 then a else b)=b:=fun a b=>if_neg (fun h=>h hc)
   rw [hV,if_pos (by rfl),e1]
   have:=ih (if nodApplies x then used ++ [x.table] else used) (n+1)
   rw [show ((n+1:Nat):Int)=(n:Int)+1 by omega,← wr_add] at this
   exact this
  ·have hV:ctlV d ⟨used,0,wr n⟩ x=(false,⟨used,nodCheckW d x used,wr n⟩):=by unfold ctlV; rw [if_pos hc]
   rw [hV,if_neg (fun h=>by cases h),if_pos hc]
   exact ⟨rfl,fun _=>rfl⟩
theorem ctl_g (d:PrgD) (hd:d.tables.l.length≤100000) (hB:NodB d.control.l):Gives Tryz.prog 107 [fPrg d] (two (ctlCheckW d)):=by
 refine Gives.of mixed Tryz.func107 rfl rfl rfl (by kernel_rfl) ?_
 simp [fPrg,cPrg]
 refine call_g (count_g d.control.l hB) ?_
 by_cases c1:24 < wr (nodsPre d.control.l).length
 ·have hv:ctlCheckW d=(-1,12):=by unfold ctlCheckW; rw [if_pos c1]
  simp [c1,hv]
 simp [c1]
 refine call_g (nest_g d.control.l hB) ?_
 by_cases c2:6 < nodsDeepW d.control.l
 ·have hv:ctlCheckW d=(-1,14):=by unfold ctlCheckW; rw [if_neg c1,if_pos c2]
  simp [c2,hv]
 have hv:ctlCheckW d=if (ctlGoW d (nodsPre d.control.l) [] 0).2 ≠ 0 then (wr (ctlGoW d (nodsPre d.control.l) [] 0).1,(ctlGoW d (nodsPre d.control.l) [] 0).2) else (0,0):=by unfold ctlCheckW; rw [if_neg c1,if_neg c2]
 rw [hv]
 simp [c2]
 obtain ⟨h',k',hg,⟨hnd,hrg,u,tk,ho,rfl⟩,-⟩:=pre_r (ctlV d) (CtlI d) 155 [.ref 0 0,.ref 3 0,.ref 1 0,.ref 2 0] (ctl_vis d hd) d.control.l hB ⟨[],0,wr 0⟩ [aPrg d,[.f (intF 0)],[.f (intF (wr 0))],[.f (.sl [] .nil)]] [] ⟨List.nodup_nil,by simp,_,0,.nil,rfl⟩ []
 have hr:=ctl_run d (nodsPre d.control.l) [] 0
 generalize runV (ctlV d) ⟨[],0,wr 0⟩ (nodsPre d.control.l)=r at *
 generalize ctlGoW d (nodsPre d.control.l) [] 0=q at *
 have hr1:r.2.e=q.2:=hr.1
 have hr2:q.2 ≠ 0→r.2.n=wr q.1:=hr.2
 rw [hr1] at hg
 refine call_r hg ?_
 by_cases h0:q.2=0
 ·simp [h0]
 ·rw [hr2 h0]
  simp [h0]
end Go.Proofs.YtafenffmgpcjcaaGreat
namespace Go.Proofs.YtafenffmgpcjcaaGreat
open Go.RowKit Go.Proofs.YtafenffmgpcjcaaGreat.Vf
open Go.Maps (Keyed)
set_option linter.unusedVariables false
abbrev I64 (x:Int):Prop:=-9223372036854775808≤x∧x≤9223372036854775807
def Blk (w:World) (g:Nat) (t:TypeId) (cs:Array Value):Prop:=w.heap[g]?=some (.cells cs t (0,0))
section
variable {w w':World} {g:Nat} {t:TypeId} {cs:Array Value}
theorem Blk.lt (h:Blk w g t cs):g < w.heap.size:=(Array.getElem?_eq_some_iff.1 h).1
theorem Blk.cell (h:Blk w g t cs) (i:Nat):w.cell? ⟨g,i,none⟩=cs[i]?:=cell_of_row w g i cs t (0,0) h
theorem Blk.frozen (h:Blk w g t cs) (i:Nat):w.frozen? ⟨g,i,none⟩=false:=by
 unfold Blk at h
 simp [World.frozen?,h]
theorem Blk.new (w:World) (t:TypeId) (cs:Array Value):Blk (w.alloc (.cells cs t)) w.heap.size t cs:=heap_alloc_new w _
theorem Blk.set_ (h:Blk w g t cs) (i:Nat) (u:Value):Blk (w.setCell ⟨g,i,none⟩ u) g t (cs.setIfInBounds i u):=by
 unfold Blk at h ⊢
 simp [World.setCell,Array.getElem?_modify,h]
theorem Blk.below {B:Nat} (h:Blk w g t cs) (hb:Below B w w') (hg:g < B):Blk w' g t cs:=(hb.block g hg).trans h
end
structure Fr (N:Nat) (w W:World) (l:List (Nat × TypeId × Array Value)):Prop where
 base:N≤w.heap.size
 below:Below N w W
 blk:∀ x ∈ l,N≤x.1∧Blk W x.1 x.2.1 x.2.2
section
variable {N:Nat} {w W W':World} {l:List (Nat × TypeId × Array Value)}
theorem Fr.start (w:World):Fr w.heap.size w w []:=⟨Nat.le_refl _,Below.refl _ _,fun x hx=>absurd hx (by simp)⟩
theorem Fr.le (h:Fr N w W l):N≤W.heap.size:=Nat.le_trans h.base h.below.size
theorem Fr.call (h:Fr N w W l) (hb:Below W.heap.size W W'):Fr N w W' l :=
 ⟨h.base,h.below.trans (hb.mono h.le),fun x hx=>⟨(h.blk x hx).1,(h.blk x hx).2.below hb (h.blk x hx).2.lt⟩⟩
theorem Fr.alloc (h:Fr N w W l) (cs:Array Value) (t:TypeId):Fr N w (W.alloc (.cells cs t)) ((W.heap.size,t,cs)::l):=by
 have h2:=h.call ((Below.refl _ W).alloc (Nat.le_refl _) (.cells cs t))
 refine ⟨h.base,h2.below,fun x hx=>?_⟩
 rcases List.mem_cons.1 hx with rfl | hx
 ·exact ⟨h.le,Blk.new _ _ _⟩
 ·exact h2.blk x hx
theorem Fr.of_eq (h:Fr N w W l) (e:W'=W):Fr N w W' l:=e ▸ h
theorem Fr.skip {x:Nat × TypeId × Array Value} (h:Fr N w W (x::l)):Fr N w W l:=⟨h.base,h.below,fun y hy=>h.blk y (List.mem_cons_of_mem _ hy)⟩
theorem Fr.cell {g:Nat} {t:TypeId} {cs:Array Value} (h:Fr N w W l) (hm:(g,t,cs) ∈ l) (i:Nat):W.cell? ⟨g,i,none⟩=cs[i]?:=(h.blk _ hm).2.cell i
theorem Fr.frozen {g:Nat} {t:TypeId} {cs:Array Value} (h:Fr N w W l) (hm:(g,t,cs) ∈ l) (i:Nat):W.frozen? ⟨g,i,none⟩=false:=(h.blk _ hm).2.frozen i
theorem Fr.lt {g:Nat} {t:TypeId} {cs:Array Value} (h:Fr N w W l) (hm:(g,t,cs) ∈ l):g < W.heap.size:=(h.blk _ hm).2.lt
end
theorem Calls.named {P:Program} {f:FuncId} {args:Array Value} {w:World} {Q:Ending→World→Prop} (h:∀ W,W=w→Calls P f args W Q):Calls P f args w Q:=h w rfl
def Sett (P:Program) (w:World) (k e:TypeId) (g n:Nat) (ks:List Lit):Prop :=
 ∃ D:DataW Unit,w.ownsMap P k (plainElem P e) g n D∧(∀ kl,(kl ∈ ks→D.atKey kl (.lit (.bool false))=.lit (.bool true))∧(kl ∉ ks→D.atKey kl (.lit (.bool false))=.lit (.bool false)))
section
variable {P:Program} {w w':World} {k e t:TypeId} {g n:Nat} {ks:List Lit}
theorem Sett.made (w:World):Sett P (w.alloc (.map #[] 0)) k e w.heap.size 0 []:=⟨.map [],World.ownsMap_made _ _ _ _,fun kl=>⟨fun h=>absurd h (by simp),fun _=>by simp [DataW.atKey]⟩⟩
theorem Sett.lt (h:Sett P w k e g n ks):g < w.heap.size:=h.choose_spec.1.lt
theorem Sett.kept {row:Option Nat} (h:Sett P w k e g n ks) (hg:w.grownBy w' row) (hne:some g ≠ row):Sett P w' k e g n ks:=by
 obtain ⟨D,h1,h2⟩:=h
 exact ⟨D,h1.kept hg hne,h2⟩
theorem Sett.below (h:Sett P w k e g n ks) (hb:Below w.heap.size w w'):Sett P w' k e g n ks :=
 h.kept (row:=none) ⟨hb.os,hb.tape,hb.output,hb.size,fun k hk _=>hb.block k hk⟩ (by simp)
theorem plainElem_bool_inv {v:Value} {x:Bool} {ps:List MemPlace} (he:P.underlying e=some .bool) (h:plainElem (H:=Unit) P e v=some (.lit (.bool x),ps)):v=.bool x:=by
 unfold plainElem at h
 rw [he] at h
 cases v <;> simp at h
 rw [h.1]
theorem Sett.look (h:Sett P w k e g n ks) (K:Keyed P k) (ht:P.underlying t=some (.map k e)) (he:P.underlying e=some .bool) (hz:(zeroValue e).run P w=.ok (.bool false) w)
  {key:Value} {kl:Lit} (hkey:keyOf P k key=some kl) {b:Bool} (hb:b=true ↔ kl ∈ ks):(Instr.lookup t (.map (some g)) key false).run P w=.ok (.bool b) w:=by
 obtain ⟨D,h1,h2⟩:=h
 obtain ⟨v,ps,hrun,hv⟩:=h1.lookup K ht hz (plainElem_bool he false) hkey
 cases b with
 | true =>
  rw [(h2 kl).1 (hb.1 rfl)] at hv
  rw [plainElem_bool_inv he hv] at hrun
  exact hrun
 | false =>
  rw [(h2 kl).2 (fun h=>by have:=hb.2 h; cases this)] at hv
  rw [plainElem_bool_inv he hv] at hrun
  exact hrun
theorem Sett.put_ (h:Sett P w k e g n ks) (K:Keyed P k) (ht:P.underlying t=some (.map k e)) (he:P.underlying e=some .bool) (hn:n < maxLen)
  {key:Value} {kl:Lit} (hkey:keyOf P k key=some kl) (hkl:WideAt.IsKeyLit kl):∃ w',(Instr.mapUpdate t (.map (some g)) key (.bool true)).run P w=.ok () w'∧Sett P w' k e g (n+1) (kl::ks)∧w.grownBy w' (some g):=by
 obtain ⟨D,h1,h2⟩:=h
 obtain ⟨w',hrun,h3,h4⟩:=h1.update K ht hn hkey (plainElem_bool he true)
 refine ⟨w',hrun,⟨_,h3,fun kl'=>?_⟩,h4⟩
 by_cases hk:kl'=kl
 ·subst hk
  rw [Maps.atKey_put_same h1.isMap hkl]
  simp
 ·rw [Maps.atKey_put_other hk]
  simp only [List.mem_cons,hk,false_or]
  exact h2 kl'
end
theorem wpList_put_set {P:Program} (w:World) {ops:Array Oper} {rest:List Oper} {o:Oper} {a:Act} {Q:Exit→Act→World→Prop}
  (hg:o.guard=none) (m x v:Operand) (t:TypeId) (hop:o.op=Op.mapUpdate t m x v) (k e:TypeId) (K:Keyed P k) (ht:P.underlying t=some (.map k e)) (he:P.underlying e=some .bool) (g n:Nat) (ks:List Lit)
  (hm:a.eval m=.map (some g)) (hown:Sett P w k e g n ks) (hn:n < maxLen) (key:Value) (kl:Lit) (hx:a.eval x=key) (hv:a.eval v=.bool true) (hkey:keyOf P k key=some kl) (hkl:WideAt.IsKeyLit kl)
  (hK:∀ w',Sett P w' k e g (n+1) (kl::ks)→w.grownBy w' (some g)→wpList P ops Q rest (a.put o.dst undef) w'):wpList P ops Q (o::rest) a w:=by
 refine wpList_plain hg fun K' hK'=>?_
 obtain ⟨w',hrun,r1,r2⟩:=hown.put_ K ht he hn hkey hkl
 unfold Oper.wp
 simp [execOp,hop,hm,hx,hv,hrun,Result.andThen]
 exact hK' _ _ (hK w' r1 r2)
abbrev kInt (x:Int):Lit:=.int .i64 x
abbrev kStr (s:ByteArray):Lit:=.string s.data.toList
theorem kInt_wf {x:Int} (h:I64 x):(Lit.int .i64 x).wf=true:=WalkArith.wf_i64 h
theorem mem_kInt (x:Int) (l:List Int):l.contains x=true ↔ kInt x ∈ l.map kInt:=by
 simp [kInt,List.mem_map]
theorem mem_kStr (s:ByteArray) (l:List ByteArray):l.any (fun t=>sEq t s)=true ↔ kStr s ∈ l.map kStr:=by
 simp only [List.any_eq_true,List.mem_map,sEq,beq_iff_eq,ByteArray.toList_eq]
 constructor
 ·rintro ⟨x,hx,h⟩
  exact ⟨x,hx,by unfold kStr; rw [h]⟩
 ·rintro ⟨x,hx,h⟩
  exact ⟨x,hx,by unfold kStr at h; injection h⟩
section
variable {N:Nat} {w W:World} {L r:List (Nat × TypeId × Array Value)} {x0 x1 x2 x3 x4:Nat × TypeId × Array Value}
theorem Fr.name (F:Fr N w W L):∃ l,l=L∧Fr N w W l:=⟨_,rfl,F⟩
theorem Fr.at_mem (F:Fr N w W L) (h:x0 ∈ L):(∀ i,W.cell? ⟨x0.1,i,none⟩=x0.2.2[i]?)∧x0.1 < W.heap.size∧∀ i,W.frozen? ⟨x0.1,i,none⟩=false :=
 ⟨fun i=>F.cell h i,F.lt h,fun i=>F.frozen h i⟩
theorem Fr.c0 (F:Fr N w W L) (h:L=x0::r):(∀ i,W.cell? ⟨x0.1,i,none⟩=x0.2.2[i]?)∧x0.1 < W.heap.size∧∀ i,W.frozen? ⟨x0.1,i,none⟩=false:=F.at_mem (by rw [h]; exact .head _)
theorem Fr.c1 (F:Fr N w W L) (h:L=x1::x0::r):(∀ i,W.cell? ⟨x0.1,i,none⟩=x0.2.2[i]?)∧x0.1 < W.heap.size∧∀ i,W.frozen? ⟨x0.1,i,none⟩=false:=F.at_mem (by rw [h]; exact .tail _ (.head _))
end
theorem wp_named {P:Program} {c:Code} {Q:Exit→Act→World→Prop} {a:Act} {w:World} (h:∀ W,W=w→c.wp P Q a W):c.wp P Q a w:=h w rfl
theorem Fr.grown {N:Nat} {w W W':World} {L:List (Nat × TypeId × Array Value)} {g:Nat} (F:Fr N w W L) (hg:W.grownBy W' (some g)) (hN:N≤g) (hne:∀ x ∈ L,x.1 ≠ g):Fr N w W' L :=
 ⟨F.base,F.below.grown hg F.le (fun k hk=>by injection hk with hk; omega),fun x hx=>⟨(F.blk x hx).1,by
  have h:=(F.blk x hx).2
  unfold Blk at h ⊢
  rw [hg.block x.1 (Array.getElem?_eq_some_iff.1 h).1 (fun e=>hne x hx (by injection e))]
  exact h⟩⟩
theorem Fr.alloc_any {N:Nat} {w W:World} {L:List (Nat × TypeId × Array Value)} (F:Fr N w W L) (o:Obj):Fr N w (W.alloc o) L:=F.call ((Below.refl _ W).alloc (Nat.le_refl _) o)
end Go.Proofs.YtafenffmgpcjcaaGreat
