/- Texts of the proof: GS13. -/
import Derived.Test.YtafenffmgpcjcaaGreatGS12
import Derived.Test.YtafenffmgpcjcaaGreatGS11
import Derived.Test.YtafenffmgpcjcaaGreatGS8
import Derived.Test.YtafenffmgpcjcaaGreatGVC1
namespace Go.Proofs.YtafenffmgpcjcaaGreat
open Go.RowKit Go.Proofs.YtafenffmgpcjcaaGreat.Vf
set_option linter.unusedVariables false
set_option linter.unusedSimpArgs false
set_option maxRecDepth 100000
set_option maxHeartbeats 4000000
abbrev cAc (a:Tri):List FV:=[ownF (encL fRp a.F),ownF (encL intF a.M),ownF (encL intF a.G)]
abbrev aAc (a:Tri):List AV:=[.f (ownF (encL fRp a.F)),.f (ownF (encL intF a.M)),.f (ownF (encL intF a.G))]
abbrev nAc:List AV:=[.f (.sl [] .nil),.f (.sl [] .nil),.f (.sl [] .nil)]
def rE (a:Tri) (n:List ExD):Tri:=⟨allIn insR a.F (FL n),allIn insZ a.M (HL n),a.G⟩
def rH (a:Tri) (h:Int):Tri:=⟨a.F,insZ h a.M,a.G⟩
def rG (a:Tri) (r:Int):Tri:=⟨a.F,a.M,insZ r a.G⟩
def rF (a:Tri) (x:FR):Tri:=⟨insR x a.F,a.M,a.G⟩
theorem allR_len (l a:List FR):(allIn insR a l).length≤a.length+l.length:=allIn_len (fun x l=>insBy_len x l) l a
theorem allZ_len (l a:List Int):(allIn insZ a l).length≤a.length+l.length:=allIn_len (fun x l=>insBy_len x l) l a
theorem FLn_len (n:List ExD):(FL n).length≤n.length:=by have:=FL_len n n.length; rwa [List.take_length] at this
theorem HLn_len (n:List ExD):(HL n).length≤n.length:=by have:=HL_len n n.length; rwa [List.take_length] at this
@[simp] theorem one_sl {l:List FV} {c:Cap}:(AV.f (.sl l c)).one=true:=rfl
@[simp] theorem one_int {k:IntKind} {x:Int}:(AV.f (.sc (.int k x))).one=true:=rfl
@[simp] theorem one_bool {x:Bool}:(AV.f (.sc (.bool x))).one=true:=rfl
@[simp] theorem one_str {x:ByteArray}:(AV.f (.sc (.string x))).one=true:=rfl
@[simp] theorem one_fp {l:List FV}:(AV.f (.fp l)).one=true:=rfl
@[simp] theorem one_ref {b o:Nat}:(AV.ref b o).one=true:=rfl
def rreI (a:Tri) (n:List ExD) (c:Cap) (c1 c2:Cap) (i:Nat) (st:St):Prop:=∃ g,Vf.Sl [(2,.ref 0 0),(4,.ref 1 0),(5,.f (.sl (encL fRp (FL n)) c1)),(6,.f (.sl (encL intF (HL n)) c2)),(7,.f (intF i))] 42 (aAc ⟨allIn insR a.F ((FL n).take i),a.M,a.G⟩::nAc::g) [] st
def rreJ (a:Tri) (n:List ExD) (c:Cap) (c1 c2:Cap) (i:Nat) (st:St):Prop:=∃ g,Vf.Sl [(2,.ref 0 0),(4,.ref 1 0),(6,.f (.sl (encL intF (HL n)) c2)),(8,.f (intF i))] 42 (aAc ⟨allIn insR a.F (FL n),allIn insZ a.M ((HL n).take i),a.G⟩::nAc::g) [] st
theorem rreading_g (a:Tri) (n:List ExD) (c:Cap) (hn:n.length≤100000) (ha:triB a 100000):Gives Tryz.prog 193 [.agg (cAc a),.sl (encL fEx n) c] (.agg (cAc (rE a n))):=by
 refine Gives.of mixed Tryz.func193 rfl rfl rfl (by kernel_rfl) ?_
 obtain ⟨a1,a2,a3⟩:=ha
 have hf:=FLn_len n
 have hh:=HLn_len n
 simp [-AV.one]
 refine call_g (rfields_g n c (by omega)) ?_
 simp [-AV.one]
 refine call_g (rheadersL_g n c (by omega)) ?_
 obtain ⟨c1,e1⟩:=ownF_is (encL fRp (FL n))
 obtain ⟨c2,e2⟩:=ownF_is (encL intF (HL n))
 rw [e1,e2]
 simp [-AV.one]
 refine forX mixed (FL n).length (rreI a n c c1 c2) (by kernel_rfl) ⟨[],Sl.of rfl rfl rfl⟩ ?_
 rintro i ⟨ts,hh,kk⟩ hi ⟨g,rfl,rfl,f,rfl⟩
 by_cases hlt:i < (FL n).length
 ·obtain ⟨x,hx,hx'⟩:=nth_of hlt
  have hw:=wrap64 (x:=(i:Int)+1) (by omega) (by omega)
  have hl:=allR_len ((FL n).take i) a.F
  rw [List.length_take] at hl
  simp [hlt,hx,-AV.one]
  refine call_g (raddF_g (allIn insR a.F ((FL n).take i)) x (by omega)) ?_
  simp [hw,-AV.one]
  unfold rreI
  rw [allIn_next hx']
  exact ⟨_,Sl.of rfl rfl rfl⟩
 obtain rfl:i=(FL n).length:=by omega
 rw [List.take_length]
 simp [-AV.one]
 refine forX mixed (HL n).length (rreJ a n c c1 c2) (by kernel_rfl) ⟨_,Sl.of rfl rfl rfl⟩ ?_
 clear hi hlt
 rintro i ⟨ts,hh,kk⟩ hi ⟨g,rfl,rfl,f,rfl⟩
 by_cases hlt:i < (HL n).length
 ·obtain ⟨x,hx,hx'⟩:=nth_of hlt
  have hw:=wrap64 (x:=(i:Int)+1) (by omega) (by omega)
  have hl:=allZ_len ((HL n).take i) a.M
  rw [List.length_take] at hl
  simp [hlt,hx,-AV.one]
  refine call_g (raddZ_g (allIn insZ a.M ((HL n).take i)) x (by omega)) ?_
  simp [hw,-AV.one]
  unfold rreJ
  rw [allIn_next hx']
  exact ⟨_,Sl.of rfl rfl rfl⟩
 obtain rfl:i=(HL n).length:=by omega
 rw [List.take_length]
 simp [rE,-AV.one]
theorem ins_rE_b {a:Tri} {n:List ExD} {m k:Nat} (h:triB a m) (hn:n.length≤k):triB (rE a n) (m+k):=by
 obtain ⟨a1,a2,a3⟩:=h
 have h1:=allR_len (FL n) a.F
 have h2:=allZ_len (HL n) a.M
 have h3:=FLn_len n
 have h4:=HLn_len n
 exact ⟨show (allIn insR a.F (FL n)).length≤m+k by omega,show (allIn insZ a.M (HL n)).length≤m+k by omega,show a.G.length≤m+k by omega⟩
theorem ins_rH_b {a:Tri} {h:Int} {m:Nat} (hb:triB a m):triB (rH a h) (m+1):=by
 obtain ⟨a1,a2,a3⟩:=hb
 have:(insZ h a.M).length≤a.M.length+1:=insBy_len h a.M
 exact ⟨show a.F.length≤m+1 by omega,show (insZ h a.M).length≤m+1 by omega,show a.G.length≤m+1 by omega⟩
theorem ins_rG_b {a:Tri} {h:Int} {m:Nat} (hb:triB a m):triB (rG a h) (m+1):=by
 obtain ⟨a1,a2,a3⟩:=hb
 have:(insZ h a.G).length≤a.G.length+1:=insBy_len h a.G
 exact ⟨show a.F.length≤m+1 by omega,show a.M.length≤m+1 by omega,show (insZ h a.G).length≤m+1 by omega⟩
theorem ins_rF_b {a:Tri} {h:FR} {m:Nat} (hb:triB a m):triB (rF a h) (m+1):=by
 obtain ⟨a1,a2,a3⟩:=hb
 have:(insR h a.F).length≤a.F.length+1:=insBy_len h a.F
 exact ⟨show (insR h a.F).length≤m+1 by omega,show a.M.length≤m+1 by omega,show a.G.length≤m+1 by omega⟩
theorem FL_same (n:List ExD):SameM (FL n) (fldsM n):=by
 unfold FL fldsM
 refine SameM.trans (allIn_mem insR_mem (fldsTo n) []) ?_
 exact (canR_mem _).symm
theorem HL_same (n:List ExD):SameM (HL n) (hdrsM n):=by
 unfold HL hdrsM
 refine SameM.trans (allIn_mem insZ_mem (hdrsTo n) []) ?_
 exact (canZ_mem _).symm
theorem SameT.e {a b:Tri} (h:SameT a b) (n:List ExD):SameT (rE a n) (triE b n) :=
 ⟨SameM.trans (allIn_mem insR_mem (FL n) a.F) (h.F.app (FL_same n)),SameM.trans (allIn_mem insZ_mem (HL n) a.M) (h.M.app (HL_same n)),h.G⟩
theorem ins_app {a b:List Int} (h:SameM a b) (x:Int):SameM (insZ x a) (b ++ [x]):=fun z=>by
 rw [insZ_mem,List.mem_append,List.mem_singleton,h z]
theorem SameT.h {a b:Tri} (h:SameT a b) (x:Int):SameT (rH a x) (triH b x):=⟨h.F,ins_app h.M x,h.G⟩
theorem SameT.g {a b:Tri} (h:SameT a b) (x:Int):SameT (rG a x) (triR b x):=⟨h.F,h.M,ins_app h.G x⟩
theorem SameT.f {a b:Tri} (h:SameT a b) (x:FR):SameT (rF a x) (triF b [x]):=⟨fun z=>by
 show z ∈ insR x a.F ↔ z ∈ b.F ++ [x]
 rw [insR_mem,List.mem_append,List.mem_singleton,h.F z],h.M,h.G⟩
def rdStepR (a:Tri) (s:StD):Tri :=
 if s.kind=1 then (if s.dh=-1 then rE a s.value.l else rH (rE a s.value.l) s.dh)
 else if s.kind=2 then rH a s.hdr
 else if s.kind=4 then (if s.dh=-1 then rG (rE a s.index.l) s.reg else rG (rH (rE a s.index.l) s.dh) s.reg)
 else if s.kind=5 then rE (rE a s.index.l) s.value.l
 else a
def rdR (l:List StD):Tri:=l.foldl rdStepR ⟨[],[],[]⟩
theorem rdR_next {l:List StD} {i:Nat} {s:StD} (h:l[i]?=some s):rdR (l.take (i+1))=rdStepR (rdR (l.take i)) s:=by
 unfold rdR
 rw [← take_one h,List.foldl_append]; rfl
theorem SameT.hr {a b:Tri} (h:SameT a b) (x y:Int):SameT (rG (rH a x) y) (triH (triR b y) x):=⟨h.F,ins_app h.M x,ins_app h.G y⟩
theorem rdStepR_same {a b:Tri} (h:SameT a b) (s:StD):SameT (rdStepR a s) (rdStep b s):=by
 unfold rdStepR rdStep
 split
 ·split
  ·exact h.e _
  ·exact (h.e _).h _
 split
 ·exact h.h _
 split
 ·split
  ·exact (h.e _).g _
  ·exact (h.e _).hr _ _
 split
 ·exact (h.e _).e _
 ·exact h
theorem rdR_same (l:List StD):SameT (rdR l) (rdTo l):=by
 have:∀ (l:List StD) (a b:Tri),SameT a b→SameT (l.foldl rdStepR a) (l.foldl rdStep b):=by
  intro l
  induction l with
  | nil=>exact fun a b h=>h
  | cons s l ih=>exact fun a b h=>ih _ _ (rdStepR_same h s)
 exact this l _ _ ⟨SameM.rfl_,SameM.rfl_,SameM.rfl_⟩
theorem rdR_b {d:PrgD} {l:List StD} (h:∀ s ∈ l,StOk d s) (i:Nat):triB (rdR (l.take i)) (50 * i):=by
 induction i with
 | zero=>exact ⟨Nat.zero_le _,Nat.zero_le _,Nat.zero_le _⟩
 | succ i ih =>
  by_cases hi:i < l.length
  ·rw [rdR_next (List.getElem?_eq_getElem hi)]
   have hs:=h _ (List.getElem_mem hi)
   generalize l[i]=s at *
   obtain ⟨h1,h2,h3,h4⟩:=hs
   unfold rdStepR
   split
   ·have e:=ins_rE_b ih (h3 (by omega))
    split
    ·exact e.mono (by omega)
    ·exact (ins_rH_b e).mono (by omega)
   split
   ·exact (ins_rH_b ih).mono (by omega)
   split
   ·have e:=ins_rE_b ih (h4 (by omega))
    split
    ·exact (ins_rG_b e).mono (by omega)
    ·exact (ins_rG_b (ins_rH_b e)).mono (by omega)
   split
   ·exact (ins_rE_b (ins_rE_b ih (h4 (by omega))) (h3 (by omega))).mono (by omega)
   ·exact ih.mono (by omega)
  ·rw [List.take_of_length_le (by omega)] at ih ⊢
   exact ih.mono (by omega)
def rrdI (d:PrgD) (l:List StD) (i:Nat) (s:St):Prop:=∃ g,Vf.Sl [(2,.ref 0 0),(9,.ref 1 0),(10,.f (sl (encL fSt l))),(11,.f (intF i))] 107 (aPrg d::aAc (rdR (l.take i))::g) [] s
theorem ractReads_g (d:PrgD) (hn:NmOk d) (r:Int):Gives Tryz.prog 140 [fPrg d,intF r] (fTri (rdR (bodyM d r))):=by
 refine Gives.of mixed Tryz.func140 rfl rfl rfl (by kernel_rfl) ?_
 obtain ⟨hlen,hok⟩:=bodyM_ok d r
 generalize hL:bodyM d r=L at *
 simp [fPrg,cPrg,-AV.one]
 refine call_g (ract_g d hn r) ?_
 by_cases h0:(actCheck d r).2=0
 case neg =>
  have:L=[]:=by
   rw [← hL]
   unfold bodyM
   unfold actCheck at h0
   split
   ·rfl
   ·rename_i a ha
    rw [ha] at h0
    exact if_neg h0
  subst this
  simp [h0,rdR,encL,ownF]
 rcases actAt (d:=d) r with ⟨c1,hr⟩ | ⟨c1,c2,hr⟩ | ⟨c1,c2,c3,a,ha,ha',hr⟩
 ·unfold actCheck at h0; rw [hr] at h0; cases h0
 ·unfold actCheck at h0; rw [hr] at h0; cases h0
 have c0:0≤r:=by omega
 have hb:L=a.body.l:=by
  rw [← hL]
  unfold bodyM
  rw [hr]
  unfold actCheck at h0
  rw [hr] at h0
  exact if_pos h0
 rw [hb] at hlen hok ⊢
 clear hL hb
 simp [h0,c0,c1,c2,c3,ha,-AV.one]
 refine forX mixed a.body.l.length (rrdI d a.body.l) (by kernel_rfl) ⟨[],Sl.of rfl rfl rfl⟩ ?_
 rintro i ⟨ts,hh,kk⟩ hi ⟨g,rfl,rfl,f,rfl⟩
 by_cases hlt:i < a.body.l.length
 ·obtain ⟨x,hx,hx'⟩:=nth_of hlt
  have hw:=wrap64 (x:=(i:Int)+1) (by omega) (by omega)
  have hx2:=hok x (List.mem_of_getElem? hx')
  obtain ⟨s1,s2,s3,s4⟩:=hx2
  have hB:=rdR_b hok i
  have hnx:=rdR_next hx'
  have hB2:triB (rdR (a.body.l.take i)) 100000:=hB.mono (by omega)
  generalize hT:rdR (a.body.l.take i)=T at *
  have fin:∀ {R:Tri} {ts:List AV} {g2:List (List AV)},rdStepR T x=R→Vf.Sl [(2,.ref 0 0),(9,.ref 1 0),(10,.f (sl (encL fSt a.body.l))),(11,.f (intF ((i+1:Nat):Int)))] 107 (aPrg d::aAc R::g2) [] ⟨ts,aPrg d::aAc R::g2,[]⟩→rrdI d a.body.l (i+1) ⟨ts,aPrg d::aAc R::g2,[]⟩:=fun {R ts g2} e h=>by
   unfold rrdI
   rw [hnx,e]
   exact ⟨_,h⟩
  simp [hlt,hx,-AV.one]
  rcases s1 with k1 | k2 | k3 | k4 | k5
  ·have hv:=s3 (.inl k1)
   have hE:=ins_rE_b hB hv
   simp [k1,-AV.one]
   refine call_g (rreading_g T x.value.l .un (by omega) hB2) ?_
   by_cases cd:x.dh=-1
   ·have e:rdStepR T x=rE T x.value.l:=by unfold rdStepR; rw [if_pos k1,if_pos cd]
    simp [k1,cd,hw,-AV.one]
    exact fin e (Sl.of rfl rfl rfl)
   ·have e:rdStepR T x=rH (rE T x.value.l) x.dh:=by unfold rdStepR; rw [if_pos k1,if_neg cd]
    simp [k1,cd,-AV.one]
    refine call_g (raddZ_g (rE T x.value.l).M x.dh (by have:=hE.2.1; omega)) ?_
    simp [k1,hw,-AV.one]
    exact fin e (Sl.of rfl rfl rfl)
  ·have e:rdStepR T x=rH T x.hdr:=by unfold rdStepR; rw [if_neg (by omega),if_pos k2]
   simp [k2,-AV.one]
   refine call_g (raddZ_g T.M x.hdr (by have:=hB.2.1; omega)) ?_
   simp [k2,hw,-AV.one]
   exact fin e (Sl.of rfl rfl rfl)
  ·have e:rdStepR T x=T:=by unfold rdStepR; rw [if_neg (by omega),if_neg (by omega),if_neg (by omega),if_neg (by omega)]
   simp [k3,hw,-AV.one]
   exact fin e (Sl.of rfl rfl rfl)
  ·have hv:=s4 (.inl k4)
   have hE:=ins_rE_b hB hv
   simp [k4,-AV.one]
   refine call_g (rreading_g T x.index.l .un (by omega) hB2) ?_
   by_cases cd:x.dh=-1
   ·have e:rdStepR T x=rG (rE T x.index.l) x.reg:=by unfold rdStepR; rw [if_neg (by omega),if_neg (by omega),if_pos k4,if_pos cd]
    simp [k4,cd,-AV.one]
    refine call_g (raddZ_g (rE T x.index.l).G x.reg (by have:=hE.2.2; omega)) ?_
    simp [k4,hw,-AV.one]
    exact fin e (Sl.of rfl rfl rfl)
   ·have e:rdStepR T x=rG (rH (rE T x.index.l) x.dh) x.reg:=by unfold rdStepR; rw [if_neg (by omega),if_neg (by omega),if_pos k4,if_neg cd]
    simp [k4,cd,-AV.one]
    refine call_g (raddZ_g (rE T x.index.l).M x.dh (by have:=hE.2.1; omega)) ?_
    simp [k4,-AV.one]
    refine call_g (raddZ_g (rE T x.index.l).G x.reg (by have:=hE.2.2; omega)) ?_
    simp [k4,hw,-AV.one]
    exact fin e (Sl.of rfl rfl rfl)
  ·have hv:=s4 (.inr k5)
   have hv2:=s3 (.inr k5)
   have hE:=ins_rE_b hB hv
   have e:rdStepR T x=rE (rE T x.index.l) x.value.l:=by unfold rdStepR; rw [if_neg (by omega),if_neg (by omega),if_neg (by omega),if_pos k5]
   simp [k5,-AV.one]
   refine call_g (rreading_g T x.index.l .un (by omega) hB2) ?_
   simp [k5,-AV.one]
   refine call_g (rreading_g (rE T x.index.l) x.value.l .un (by omega) (hE.mono (by omega))) ?_
   simp [k5,hw,-AV.one]
   exact fin e (Sl.of rfl rfl rfl)
 ·obtain rfl:i=a.body.l.length:=by omega
  rw [List.take_length]
  simp [-AV.one]
def rFs (a:Tri) (l:List FR):Tri:=⟨allIn insR a.F l,a.M,a.G⟩
theorem SameT.fs {a b:Tri} (h:SameT a b) (x:Int) (l:List FR):SameT (rH (rFs a l) x) (triF (triH b x) l):=⟨SameM.trans (allIn_mem insR_mem l a.F) (h.F.app SameM.rfl_),ins_app h.M x,h.G⟩
theorem ins_rFs_b {a:Tri} {l:List FR} {m k:Nat} (hb:triB a m) (hl:l.length≤k):triB (rFs a l) (m+k):=by
 obtain ⟨a1,a2,a3⟩:=hb
 have:=allR_len l a.F
 exact ⟨show (allIn insR a.F l).length≤m+k by omega,show a.M.length≤m+k by omega,show a.G.length≤m+k by omega⟩
def wrStepR (d:PrgD) (a:Tri) (s:StD):Tri :=
 if s.kind=1∨s.kind=4 then rF a (s.dh,s.df)
 else if s.kind=2∨s.kind=3 then rH (rFs a (hdrRefs s.hdr (nFld d s.hdr))) s.hdr
 else if s.kind=5 then rG a s.reg
 else a
def wrR (d:PrgD) (l:List StD):Tri:=l.foldl (wrStepR d) ⟨[],[],[]⟩
theorem wrR_next {d:PrgD} {l:List StD} {i:Nat} {s:StD} (h:l[i]?=some s):wrR d (l.take (i+1))=wrStepR d (wrR d (l.take i)) s:=by
 unfold wrR
 rw [← take_one h,List.foldl_append]; rfl
theorem wrStepR_same {d:PrgD} {a b:Tri} (h:SameT a b) (s:StD):SameT (wrStepR d a s) (wrStep d b s):=by
 unfold wrStepR wrStep
 split
 ·exact h.f _
 split
 ·exact h.fs _ _
 split
 ·exact h.g _
 ·exact h
theorem wrR_same (d:PrgD) (l:List StD):SameT (wrR d l) (wrTo d l):=by
 have:∀ (l:List StD) (a b:Tri),SameT a b→SameT (l.foldl (wrStepR d) a) (l.foldl (wrStep d) b):=by
  intro l
  induction l with
  | nil=>exact fun a b h=>h
  | cons s l ih=>exact fun a b h=>ih _ _ (wrStepR_same h s)
 exact this l _ _ ⟨SameM.rfl_,SameM.rfl_,SameM.rfl_⟩
theorem wrR_b {d:PrgD} (hF:∀ x ∈ d.headers.l,x.fields.l.length≤1000) (l:List StD) (i:Nat):triB (wrR d (l.take i)) (1001 * i):=by
 induction i with
 | zero=>exact ⟨Nat.zero_le _,Nat.zero_le _,Nat.zero_le _⟩
 | succ i ih =>
  by_cases hi:i < l.length
  ·rw [wrR_next (List.getElem?_eq_getElem hi)]
   unfold wrStepR
   split
   ·exact (ins_rF_b ih).mono (by omega)
   split
   ·exact (ins_rH_b (ins_rFs_b ih (k:=1000) (by rw [hdrRefs_len]; exact nFld_le hF _))).mono (by omega)
   split
   ·exact (ins_rG_b ih).mono (by omega)
   ·exact ih.mono (by omega)
  ·rw [List.take_of_length_le (by omega)] at ih ⊢
   exact ih.mono (by omega)
def rwrI (d:PrgD) (l:List StD) (i:Nat) (s:St):Prop:=∃ g,Vf.Sl [(2,.ref 0 0),(9,.ref 1 0),(10,.f (sl (encL fSt l))),(11,.f (intF i))] 91 (aPrg d::aAc (wrR d (l.take i))::g) [] s
def rwrJ (d:PrgD) (l:List StD) (i:Nat) (T:Tri) (K:Int) (y:StD) (g:List (List AV)) (j:Nat) (s:St):Prop :=
 Vf.Sl [(2,.ref 0 0),(9,.ref 1 0),(10,.f (sl (encL fSt l))),(11,.f (intF i)),(12,.ref (g.length+1+1) 0),(13,.f (intF j))] 91 (aPrg d::aAc (rFs T (hdrRefs y.hdr j))::(g ++ [[.f (intF K),.f (intF y.dh),.f (intF y.df),.f (intF y.reg),.f (intF y.hdr),.f (sl (encL fEx y.index.l)),.f (sl (encL fEx y.value.l))]])) [] s
theorem ractWrites_g (d:PrgD) (hn:NmOk d) (hF:∀ x ∈ d.headers.l,x.fields.l.length≤1000) (r:Int):Gives Tryz.prog 134 [fPrg d,intF r] (fTri (wrR d (bodyM d r))):=by
 refine Gives.of mixed Tryz.func134 rfl rfl rfl (by kernel_rfl) ?_
 obtain ⟨hlen,hok⟩:=bodyM_ok d r
 generalize hL:bodyM d r=L at *
 simp [fPrg,cPrg,-AV.one]
 refine call_g (ract_g d hn r) ?_
 by_cases h0:(actCheck d r).2=0
 case neg =>
  have:L=[]:=by
   rw [← hL]
   unfold bodyM
   unfold actCheck at h0
   split
   ·rfl
   ·rename_i a ha
    rw [ha] at h0
    exact if_neg h0
  subst this
  simp [h0,wrR,encL,ownF]
 rcases actAt (d:=d) r with ⟨c1,hr⟩ | ⟨c1,c2,hr⟩ | ⟨c1,c2,c3,a,ha,ha',hr⟩
 ·unfold actCheck at h0; rw [hr] at h0; cases h0
 ·unfold actCheck at h0; rw [hr] at h0; cases h0
 have c0:0≤r:=by omega
 have hb:L=a.body.l:=by
  rw [← hL]
  unfold bodyM
  rw [hr]
  unfold actCheck at h0
  rw [hr] at h0
  exact if_pos h0
 rw [hb] at hlen hok ⊢
 clear hL hb
 simp [h0,c0,c1,c2,c3,ha,-AV.one]
 refine forX mixed a.body.l.length (rwrI d a.body.l) (by kernel_rfl) ⟨[],Sl.of rfl rfl rfl⟩ ?_
 rintro i ⟨ts,hh,kk⟩ hi ⟨g,rfl,rfl,f,rfl⟩
 by_cases hlt:i < a.body.l.length
 ·obtain ⟨x,hx,hx'⟩:=nth_of hlt
  have hw:=wrap64 (x:=(i:Int)+1) (by omega) (by omega)
  have hx2:=hok x (List.mem_of_getElem? hx')
  obtain ⟨s1,s2,s3,s4⟩:=hx2
  have hB:=wrR_b hF a.body.l i
  have hnx:=wrR_next (d:=d) hx'
  generalize hT:wrR d (a.body.l.take i)=T at *
  have fin:∀ {R:Tri} {ts:List AV} {g2:List (List AV)},wrStepR d T x=R→Vf.Sl [(2,.ref 0 0),(9,.ref 1 0),(10,.f (sl (encL fSt a.body.l))),(11,.f (intF ((i+1:Nat):Int)))] 91 (aPrg d::aAc R::g2) [] ⟨ts,aPrg d::aAc R::g2,[]⟩→rwrI d a.body.l (i+1) ⟨ts,aPrg d::aAc R::g2,[]⟩:=fun {R ts g2} e h=>by
   unfold rwrI
   rw [hnx,e]
   exact ⟨_,h⟩
  simp [hlt,hx,-AV.one]
  rcases s1 with k1 | k2 | k2 | k1 | k5
  case inl | inr.inr.inr.inl =>
   have e:wrStepR d T x=rF T (x.dh,x.df):=by unfold wrStepR; rw [if_pos (by omega)]
   simp [k1,-AV.one]
   refine call_g (raddF_g T.F (x.dh,x.df) (by have:=hB.1; omega)) ?_
   simp [hw,-AV.one]
   exact fin e (Sl.of rfl rfl rfl)
  case inr.inl | inr.inr.inl =>
   obtain ⟨b1,b2⟩:=s2 (by omega)
   obtain ⟨y,hy,hy'⟩:=nth_of (show x.hdr.toNat < d.headers.l.length by omega)
   have b3:x.hdr.toNat < d.headers.l.length:=by omega
   have hnf:nFld d x.hdr=y.fields.l.length:=by unfold nFld; rw [hy']
   have hfl:=hF y (List.mem_of_getElem? hy')
   have e:wrStepR d T x=rH (rFs T (hdrRefs x.hdr y.fields.l.length)) x.hdr:=by unfold wrStepR; rw [if_neg (by omega),if_pos (by omega),hnf]
   simp [k2,-AV.one]
   refine forX mixed y.fields.l.length (rwrJ d a.body.l i T _ x g) (by kernel_rfl) (Sl.of rfl rfl rfl) ?_
   rintro j ⟨ts,hh,kk⟩ hj ⟨rfl,rfl,ff,rfl⟩
   by_cases hjt:j < y.fields.l.length
   ·have hwj:=wrap64 (x:=(j:Int)+1) (by omega) (by omega)
    have hl:=allR_len (hdrRefs x.hdr j) T.F
    rw [hdrRefs_len] at hl
    have hB1:=hB.1
    simp [hjt,b1,b3,hy,aPrg,rFs,-AV.one]
    refine call_g (raddF_g (allIn insR T.F (hdrRefs x.hdr j)) (x.hdr,(j:Int)) (by omega)) ?_
    simp [hwj,-AV.one]
    unfold rwrJ rFs
    rw [hdrRefs_next,allIn_snoc]
    exact Sl.of rfl rfl rfl
   ·obtain rfl:j=y.fields.l.length:=by omega
    simp [b1,b3,hy,aPrg,rFs,-AV.one]
    refine call_g (raddZ_g T.M x.hdr (by have:=hB.2.1; omega)) ?_
    simp [hw,-AV.one]
    exact fin e (Sl.of rfl rfl rfl)
  case inr.inr.inr.inr =>
   have e:wrStepR d T x=rG T x.reg:=by unfold wrStepR; rw [if_neg (by omega),if_neg (by omega),if_pos k5]
   simp [k5,-AV.one]
   refine call_g (raddZ_g T.G x.reg (by have:=hB.2.2; omega)) ?_
   simp [k5,hw,-AV.one]
   exact fin e (Sl.of rfl rfl rfl)
 ·obtain rfl:i=a.body.l.length:=by omega
  rw [List.take_length]
  simp [-AV.one]
def rfnI (d:PrgD) (n i:Nat) (s:St):Prop:=∃ g,Vf.Sl [(1,.f (intF n)),(2,.ref 0 0),(5,.f (intF (cntTo (d.headers.l.take i)))),(6,.f (intF i))] 22 (aPrg d::g) [] s
theorem rcnt_g (d:PrgD) (hs:PrgS d) (n:Nat) (hn:n≤d.headers.l.length):Gives Tryz.prog 192 [fPrg d,intF n] (intF (cntTo (d.headers.l.take n))):=by
 refine Gives.of mixed Tryz.func192 rfl rfl rfl (by kernel_rfl) ?_
 have hh:=hs.h
 simp [fPrg,cPrg]
 refine forX mixed n (rfnI d n) (by kernel_rfl) ⟨[],Sl.of rfl rfl rfl⟩ ?_
 rintro i ⟨ts,hh,kk⟩ hi ⟨g,rfl,rfl,f,rfl⟩
 by_cases hlt:i < n
 ·obtain ⟨x,hx,hx'⟩:=nth_of (show i < d.headers.l.length by omega)
  have hw:=wrap64 (x:=(i:Int)+1) (by omega) (by omega)
  have hb:=cntTo_bd (l:=d.headers.l.take i) fun y hy=>hs.f y (List.mem_of_mem_take hy)
  rw [List.length_take] at hb
  have hf:=hs.f x (List.mem_of_getElem? hx')
  have hw2:=wrap64 (x:=cntTo (d.headers.l.take i)+x.fields.l.length) (by omega) (by omega)
  simp [hlt,hx,(show i < d.headers.l.length by omega),aPrg,hw,hw2]
  exact ⟨_,by rw [cntTo_next hx']; exact Sl.of rfl rfl rfl⟩
 ·obtain rfl:i=n:=by omega
  simp
theorem fst_1 (d:PrgD):fstTo d 1 4=cntTo d.headers.l:=by simp [fstTo,cntAt]
theorem fst_2 (d:PrgD):fstTo d 2 4=cntTo d.headers.l+d.headers.l.length:=by simp [fstTo,cntAt]
theorem fst_3 (d:PrgD):fstTo d 3 4=cntTo d.headers.l+d.headers.l.length+d.meta_.l.length:=by simp [fstTo,cntAt]
theorem rvalidCell_g (d:PrgD) (hs:PrgS d) (i:Int):Gives Tryz.prog 190 [fPrg d,intF i] (intF (cellM d 1 i)):=by
 refine Gives.of mixed Tryz.func190 rfl rfl rfl (by kernel_rfl) ?_
 have hb:=cntTo_bd hs.f
 have h1:=hs.h
 have hc:=rcnt_g d hs d.headers.l.length (Nat.le_refl _)
 rw [List.take_length] at hc
 have e1:cntAt d 1=d.headers.l.length:=rfl
 by_cases c1:i < 0
 ·have hv:cellM d 1 i=-1:=if_pos (.inl c1)
  simp [fPrg,cPrg,c1,hv]
 by_cases c2:(d.headers.l.length:Int)≤i
 ·have hv:cellM d 1 i=-1:=if_pos (.inr c2)
  simp [fPrg,cPrg,c1,c2,hv]
 have hv:cellM d 1 i=cntTo d.headers.l+i:=by unfold cellM; rw [if_neg (by rw [e1]; omega)]; show fstTo d 1 4+i=_; rw [fst_1]
 have w1:=wrap64 (x:=cntTo d.headers.l+i) (by omega) (by omega)
 simp [fPrg,cPrg,c1,c2]
 refine call_g hc ?_
 simp [w1,hv]
theorem rregCell_g (d:PrgD) (hs:PrgS d) (i:Int):Gives Tryz.prog 191 [fPrg d,intF i] (intF (cellM d 3 i)):=by
 refine Gives.of mixed Tryz.func191 rfl rfl rfl (by kernel_rfl) ?_
 have hb:=cntTo_bd hs.f
 have h1:=hs.h
 have h2:=hs.m
 have h3:=hs.r
 have hc:=rcnt_g d hs d.headers.l.length (Nat.le_refl _)
 rw [List.take_length] at hc
 have e1:cntAt d 3=d.regs.l.length:=rfl
 by_cases c1:i < 0
 ·have hv:cellM d 3 i=-1:=if_pos (.inl c1)
  simp [fPrg,cPrg,c1,hv]
 by_cases c2:(d.regs.l.length:Int)≤i
 ·have hv:cellM d 3 i=-1:=if_pos (.inr c2)
  simp [fPrg,cPrg,c1,c2,hv]
 have hv:cellM d 3 i=cntTo d.headers.l+d.headers.l.length+d.meta_.l.length+i:=by unfold cellM; rw [if_neg (by rw [e1]; omega)]; show fstTo d 3 4+i=_; rw [fst_3]
 have w1:=wrap64 (x:=cntTo d.headers.l+d.headers.l.length) (by omega) (by omega)
 have w2:=wrap64 (x:=cntTo d.headers.l+d.headers.l.length+d.meta_.l.length) (by omega) (by omega)
 have w3:=wrap64 (x:=cntTo d.headers.l+d.headers.l.length+d.meta_.l.length+i) (by omega) (by omega)
 simp [fPrg,cPrg,c1,c2]
 refine call_g hc ?_
 simp [w1,w2,w3,hv]
theorem rfieldCell_g (d:PrgD) (hs:PrgS d) (h f:Int):Gives Tryz.prog 139 [fPrg d,fRef h f] (intF (fieldCell d h f)):=by
 refine Gives.of mixed Tryz.func139 rfl rfl rfl (by kernel_rfl) ?_
 have hb:=cntTo_bd hs.f
 have h1:=hs.h
 have h2:=hs.m
 have hc:=rcnt_g d hs d.headers.l.length (Nat.le_refl _)
 rw [List.take_length] at hc
 have e2:cntAt d 2=d.meta_.l.length:=rfl
 generalize hv:fieldCell d h f=v
 unfold fieldCell at hv
 by_cases c0:h=-1
 ·rw [if_pos c0] at hv
  subst c0
  by_cases c1:f < 0
  ·have hv2:cellM d 2 f=-1:=if_pos (.inl c1)
   rw [hv2] at hv
   subst hv
   simp [fPrg,cPrg,c1,(show ¬ 0≤f by omega)]
  by_cases c2:(d.meta_.l.length:Int)≤f
  ·have hv2:cellM d 2 f=-1:=if_pos (.inr c2)
   rw [hv2] at hv
   subst hv
   simp [fPrg,cPrg,c1,(show 0≤f by omega),(show ¬ f < (d.meta_.l.length:Int) by omega)]
  have hv2:cellM d 2 f=cntTo d.headers.l+d.headers.l.length+f:=by unfold cellM; rw [if_neg (by rw [e2]; omega)]; show fstTo d 2 4+f=_; rw [fst_2]
  rw [hv2] at hv
  subst hv
  have w1:=wrap64 (x:=cntTo d.headers.l+d.headers.l.length) (by omega) (by omega)
  have w2:=wrap64 (x:=cntTo d.headers.l+d.headers.l.length+f) (by omega) (by omega)
  simp [fPrg,cPrg,c1,(show 0≤f by omega),(show f < (d.meta_.l.length:Int) by omega)]
  refine call_g hc ?_
  simp [w1,w2]
 rw [if_neg c0] at hv
 by_cases c1:h < 0
 ·rw [if_pos (.inl c1)] at hv
  subst hv
  simp [fPrg,cPrg,c0,c1]
 by_cases c2:(d.headers.l.length:Int)≤h
 ·rw [if_pos (.inr c2)] at hv
  subst hv
  simp [fPrg,cPrg,c0,c1,c2]
 rw [if_neg (by omega)] at hv
 obtain ⟨y,hy,hy'⟩:=nth_of (show h.toNat < d.headers.l.length by omega)
 have b3:h.toNat < d.headers.l.length:=by omega
 have b4:0≤h:=by omega
 rw [hy'] at hv
 have hv:(if f < 0∨(y.fields.l.length:Int)≤f then -1 else f+cntTo (d.headers.l.take h.toNat))=v:=hv
 by_cases c3:f < 0
 ·rw [if_pos (.inl c3)] at hv
  subst hv
  simp [fPrg,cPrg,c0,c1,c2,c3]
 by_cases c4:(y.fields.l.length:Int)≤f
 ·rw [if_pos (.inr c4)] at hv
  subst hv
  simp [fPrg,cPrg,c0,c1,c2,c3,b3,b4,hy,c4]
 rw [if_neg (by omega)] at hv
 subst hv
 have hcn:=rcnt_g d hs h.toNat (by omega)
 rw [show ((h.toNat:Nat):Int)=h by omega] at hcn
 have hb2:=cntTo_bd (l:=d.headers.l.take h.toNat) fun y hy=>hs.f y (List.mem_of_mem_take hy)
 rw [List.length_take] at hb2
 have hfl:=hs.f y (List.mem_of_getElem? hy')
 have w1:=wrap64 (x:=f+cntTo (d.headers.l.take h.toNat)) (by omega) (by omega)
 have w2:IntKind.i64.wrap (cntTo (d.headers.l.take h.toNat)+f)=f+cntTo (d.headers.l.take h.toNat):=by rw [Int.add_comm]; exact w1
 simp [fPrg,cPrg,c0,c1,c2,c3,b3,b4,hy,c4]
 refine call_g hcn ?_
 simp [w1,w2]
theorem insZ_at {l:List Int} {n:Int} {i:Nat} (h:∀ y ∈ l.take i,y < n) {y:Int} (hy:l[i]?=some y) (hge:n≤y):insZ n l=if y=n then l else l.take i ++ n::l.drop i:=by
 have hd:l.drop i=y::l.drop (i+1):=by
  obtain ⟨hi,e⟩:=List.getElem?_eq_some_iff.1 hy
  rw [List.drop_eq_getElem_cons hi,e]
 have e:=insBy_none (lt:=ltZ) (eq:=eqZ) (x:=n) (l.drop i) (fun y hy=>by simpa using h y hy)
 rw [List.take_append_drop] at e
 show insBy ltZ eqZ n l=_
 rw [e,hd,insBy,if_neg (by simp; omega)]
 by_cases hq:y=n
 ·rw [if_pos (by simpa using hq),if_pos hq,← hd,List.take_append_drop]
 ·rw [if_neg (by simpa using hq),if_neg hq]
theorem insZ_end {l:List Int} {n:Int} (h:∀ y ∈ l,y < n):insZ n l=l ++ [n]:=by
 have e:=insBy_none (lt:=ltZ) (eq:=eqZ) (x:=n) [] (fun y hy=>by simpa using h y hy)
 rw [List.append_nil] at e
 exact e
theorem ints_all (l:List Int):(encL intF l).all (fun u=>u.cells.length == 1)=true:=by
 rw [List.all_eq_true]
 intro u hu
 obtain ⟨x,_,rfl⟩:=List.mem_map.1 hu
 rfl
theorem app_two (k:List (Nat × Nat)) (a:List Int) (n:Int) (ha:a.length≤10000000):∃ x1 k1 x2 k2 t2,opAppend (tyOf Tryz.prog) k 29 (.f (.sl [] .full)) (.f (sl (encL intF a)))=some (x1,k1) ∧
  opAppend (tyOf Tryz.prog) k1 29 x1 (.f (.sl [intF n] .full))=some (x2,k2)∧OwnT k2 (encL intF (a ++ [n])) 1 x2 t2:=by
 by_cases h:a=[]
 ·subst h
  have e:=append_full (k:=k) (ys:=[intF n]) (c:=.full) (y:=.f (.sl [intF n] .full)) (by decide) ty29 ty3 (by simp) rfl (by simp) (by simp) (by simp) (by simp)
  refine ⟨.f (.sl [] .full),k,_,_,k.length,?_,e,.inr ⟨by simp [encL],rfl,by simp⟩⟩
  simp [encL]
 ·have hne:encL intF a ≠ []:=by simpa [encL] using h
  have e:=append_full (k:=k) (ys:=encL intF a) (c:=.full) (y:=.f (sl (encL intF a))) (by decide) ty29 ty3 (by simp) rfl hne (by simp [encL]) (by simp; omega) (by simp; omega)
  have ho:OwnT (k ++ [((encL intF a).length,1)]) (encL intF a) 1 (.own (encL intF a) k.length) k.length:=.inr ⟨hne,rfl,by simp⟩
  obtain ⟨t',k',e2,ho',_⟩:=append_own ty29 ty3 (by simp) ho (y:=.f (.sl [intF n] .full)) rfl (by simp) (by simp) (by simp; omega) (by simp; omega)
  rw [enc_one] at e2 ho'
  exact ⟨_,_,_,_,_,e,e2,ho'⟩
theorem sliceD {l:List Int} {c:Cap} {i:Nat} (hi:i≤l.length):opSlice (tyOf Tryz.prog) 29 (.f (.sl (encL intF l) c)) (some (.f (intF i))) none none=some (.f (sl (encL intF (l.drop i)))):=by
 simp [opSlice,optIdx,idx,hi,encL]
 rw [List.take_of_length_le (by simp)]
def rinI (l:List Int) (c:Cap) (n:Int) (i:Nat) (s:St):Prop:=(∀ j y,j < i→l[j]?=some y→y < n)∧∃ g,Vf.Sl [(0,.f (.sl (encL intF l) c)),(1,.f (intF n)),(5,.f (intF i))] 52 g [] s
theorem rinsert_g (l:List Int) (n:Int) (hl:l.length≤10000000):Gives Tryz.prog 138 [ownF (encL intF l),intF n] (ownF (encL intF (insM n l))):=by
 refine Gives.of mixed Tryz.func138 rfl rfl rfl (by kernel_rfl) ?_
 obtain ⟨c,hc⟩:=ownF_is (encL intF l)
 generalize hv:ownF (encL intF (insM n l))=v
 rw [hc]
 simp
 refine forX mixed l.length (rinI l c n) (by kernel_rfl) ⟨fun j y h=>by omega,[],Sl.of rfl rfl rfl⟩ ?_
 rintro i ⟨ts,hh,kk⟩ hi ⟨hno,g,rfl,rfl,f,rfl⟩
 have hlow:∀ y ∈ l.take i,y < n:=fun y hy=>by
  obtain ⟨j,hj,e⟩:=List.getElem_of_mem hy
  rw [List.length_take] at hj
  exact hno j y (by omega) (by rw [← e,List.getElem_take]; exact List.getElem?_eq_getElem (by omega))
 by_cases hlt:i < l.length
 ·obtain ⟨y,hy,hy'⟩:=nth_of hlt
  have hw:=wrap64 (x:=(i:Int)+1) (by omega) (by omega)
  by_cases c1:y < n
  ·simp [hlt,hy,c1,hw]
   refine ⟨fun j z hj hz=>?_,_,Sl.of rfl rfl rfl⟩
   rcases Nat.lt_or_ge j i with h1 | h1
   ·exact hno j z h1 hz
   ·obtain rfl:j=i:=by omega
    rw [hy'] at hz
    obtain rfl:=Option.some.inj hz
    exact c1
  ·by_cases c2:n < 0
   ·have e:insM n l=l:=if_pos c2
    rw [e,hc] at hv
    subst hv
    simp [hlt,hy,c1,c2]
   have e:insM n l=insZ n l:=if_neg c2
   rw [e,insZ_at hlow hy' (by omega)] at hv
   by_cases c3:y=n
   ·rw [if_pos c3,hc] at hv
    subst hv
    simp [hlt,hy,c1,c2,c3]
   rw [if_neg c3] at hv
   subst hv
   obtain ⟨x1,k1,x2,k2,t2,e1,e2,ho⟩:=app_two [] (l.take i) n (by rw [List.length_take]; omega)
   obtain ⟨x3,t3,k3,e3,ho3,_⟩:=append_own0 ty29 ty3 (by simp) ho (y:=.f (sl (encL intF (l.drop i)))) rfl (ints_all _) (by simp; omega) (by simp; omega)
   rw [show encL intF (l.take i ++ [n]) ++ encL intF (l.drop i)=encL intF (l.take i ++ n::l.drop i) by simp [encL]] at ho3
   have hs1:=sliceF (enc:=intF) (l:=l) (c:=c) (i:=i) ty29 ty3 (by simp) (fun _=>rfl) (Nat.le_of_lt hlt)
   have hs2:=sliceD (l:=l) (c:=c) (i:=i) (Nat.le_of_lt hlt)
   simp [hlt,hy,c1,c2,c3,-opAppend]
   rw [hs1]
   simp [-opAppend]
   rw [e1]
   simp [-opAppend]
   rw [e2]
   simp [-opAppend]
   rw [hs2]
   simp [-opAppend]
   rw [e3]
   simp
   rw [ho3.ret]
 ·obtain rfl:i=l.length:=by omega
  by_cases c2:n < 0
  ·have e:insM n l=l:=if_pos c2
   rw [e,hc] at hv
   subst hv
   simp [c2]
  rw [List.take_length] at hlow
  have e:insM n l=insZ n l:=if_neg c2
  rw [e,insZ_end hlow] at hv
  subst hv
  obtain ⟨x1,k1,x2,k2,t2,e1,e2,ho⟩:=app_two [] l n hl
  obtain ⟨x3,t3,k3,e3,ho3,_⟩:=append_own0 ty29 ty3 (by simp) ho (y:=.f (sl [])) rfl (by simp) (by simp; omega) (by simp; omega)
  rw [List.append_nil] at ho3
  have hs1:=sliceF (enc:=intF) (l:=l) (c:=c) (i:=l.length) ty29 ty3 (by simp) (fun _=>rfl) (Nat.le_refl _)
  rw [List.take_length] at hs1
  have hs2:=sliceD (l:=l) (c:=c) (i:=l.length) (Nat.le_refl _)
  simp [c2,-opAppend]
  rw [hs1]
  simp [-opAppend]
  rw [e1]
  simp [-opAppend]
  rw [e2]
  simp [-opAppend]
  rw [hs2]
  simp [-opAppend]
  rw [e3]
  simp
  rw [ho3.ret]
theorem insAll_app (L a b:List Int):insAll L (a ++ b)=insAll (insAll L a) b:=by unfold insAll; rw [List.foldl_append]
theorem insAll_map {α:Type} (f:α→Int) {L:List Int} {l:List α} {i:Nat} {x:α} (h:l[i]?=some x):insAll L ((l.take (i+1)).map f)=insM (f x) (insAll L ((l.take i).map f)):=by
 rw [take_snoc h,List.map_append,insAll_app]; rfl
def rga1 (d:PrgD) (L:List Int) (T:Tri) (c2 c3 c4:Cap) (i:Nat) (s:St):Prop:=∃ g,Vf.Sl [(1,.f (ownF (encL intF (insAll L ((T.F.map fun r:FR=>fieldCell d r.1 r.2).take i))))),(2,.f (.sl (encL fRp T.F) c2)),(3,.f (.sl (encL intF T.M) c3)),(4,.f (.sl (encL intF T.G) c4)),(5,.ref 0 0),(11,.f (intF i))] 57 (aPrg d::g) [] s
def rga2 (d:PrgD) (L:List Int) (T:Tri) (c2 c3 c4:Cap) (i:Nat) (s:St):Prop:=∃ g,Vf.Sl [(1,.f (ownF (encL intF (insAll L ((T.M.map (cellM d 1)).take i))))),(3,.f (.sl (encL intF T.M) c3)),(4,.f (.sl (encL intF T.G) c4)),(5,.ref 0 0),(12,.f (intF i))] 57 (aPrg d::g) [] s
def rga3 (d:PrgD) (L:List Int) (T:Tri) (c2 c3 c4:Cap) (i:Nat) (s:St):Prop:=∃ g,Vf.Sl [(1,.f (ownF (encL intF (insAll L ((T.G.map (cellM d 3)).take i))))),(4,.f (.sl (encL intF T.G) c4)),(5,.ref 0 0),(13,.f (intF i))] 57 (aPrg d::g) [] s
theorem rgather_g (d:PrgD) (hs:PrgS d) (L:List Int) (T:Tri) (hL:L.length≤7000000) (hT:triB T 1000000):Gives Tryz.prog 135 [fPrg d,ownF (encL intF L),ownF (encL fRp T.F),ownF (encL intF T.M),ownF (encL intF T.G)] (ownF (encL intF (gathM d L T))):=by
 refine Gives.of mixed Tryz.func135 rfl rfl rfl (by kernel_rfl) ?_
 obtain ⟨c2,e2⟩:=ownF_is (encL fRp T.F)
 obtain ⟨c3,e3⟩:=ownF_is (encL intF T.M)
 obtain ⟨c4,e4⟩:=ownF_is (encL intF T.G)
 obtain ⟨b1,b2,b3⟩:=hT
 rw [e2,e3,e4]
 unfold gathM
 simp [fPrg,cPrg]
 refine forX mixed T.F.length (rga1 d L T c2 c3 c4) (by kernel_rfl) ⟨[],Sl.of rfl rfl rfl⟩ ?_
 rintro i ⟨ts,hh,kk⟩ hi ⟨g,rfl,rfl,f,rfl⟩
 by_cases hlt:i < T.F.length
 ·obtain ⟨x,hx,hx'⟩:=nth_of hlt
  have hw:=wrap64 (x:=(i:Int)+1) (by omega) (by omega)
  have hl:=insAll_len ((T.F.map fun r:FR=>fieldCell d r.1 r.2).take i) L
  rw [List.length_take,List.length_map] at hl
  simp [hlt,hx,aPrg]
  refine call_g (rfieldCell_g d hs x.1 x.2) ?_
  simp
  refine call_g (rinsert_g (insAll L ((T.F.map fun r:FR=>fieldCell d r.1 r.2).take i)) (fieldCell d x.1 x.2) (by omega)) ?_
  simp [hw]
  unfold rga1
  rw [insAll_next (x:=fieldCell d x.1 x.2) (by rw [List.getElem?_map,hx']; rfl)]
  exact ⟨_,Sl.of rfl rfl rfl⟩
 obtain rfl:i=T.F.length:=by omega
 rw [List.take_of_length_le (by simp)]
 have hl1:=insAll_len (T.F.map fun r:FR=>fieldCell d r.1 r.2) L
 rw [List.length_map] at hl1
 generalize insAll L (T.F.map fun r:FR=>fieldCell d r.1 r.2)=L1 at *
 simp
 clear hlt hi
 refine forX mixed T.M.length (rga2 d L1 T c2 c3 c4) (by kernel_rfl) ⟨_,Sl.of rfl rfl rfl⟩ ?_
 rintro i ⟨ts,hh,kk⟩ hi ⟨g,rfl,rfl,f,rfl⟩
 by_cases hlt:i < T.M.length
 ·obtain ⟨x,hx,hx'⟩:=nth_of hlt
  have hw:=wrap64 (x:=(i:Int)+1) (by omega) (by omega)
  have hl:=insAll_len ((T.M.map (cellM d 1)).take i) L1
  rw [List.length_take,List.length_map] at hl
  simp [hlt,hx,aPrg]
  refine call_g (rvalidCell_g d hs x) ?_
  simp
  refine call_g (rinsert_g (insAll L1 ((T.M.map (cellM d 1)).take i)) (cellM d 1 x) (by omega)) ?_
  simp [hw]
  unfold rga2
  rw [insAll_next (x:=cellM d 1 x) (by rw [List.getElem?_map,hx']; rfl)]
  exact ⟨_,Sl.of rfl rfl rfl⟩
 obtain rfl:i=T.M.length:=by omega
 rw [List.take_of_length_le (by simp)]
 have hl2:=insAll_len (T.M.map (cellM d 1)) L1
 rw [List.length_map] at hl2
 generalize insAll L1 (T.M.map (cellM d 1))=L2 at *
 simp
 clear hlt hi
 refine forX mixed T.G.length (rga3 d L2 T c2 c3 c4) (by kernel_rfl) ⟨_,Sl.of rfl rfl rfl⟩ ?_
 rintro i ⟨ts,hh,kk⟩ hi ⟨g,rfl,rfl,f,rfl⟩
 by_cases hlt:i < T.G.length
 ·obtain ⟨x,hx,hx'⟩:=nth_of hlt
  have hw:=wrap64 (x:=(i:Int)+1) (by omega) (by omega)
  have hl:=insAll_len ((T.G.map (cellM d 3)).take i) L2
  rw [List.length_take,List.length_map] at hl
  simp [hlt,hx,aPrg]
  refine call_g (rregCell_g d hs x) ?_
  simp
  refine call_g (rinsert_g (insAll L2 ((T.G.map (cellM d 3)).take i)) (cellM d 3 x) (by omega)) ?_
  simp [hw]
  unfold rga3
  rw [insAll_next (x:=cellM d 3 x) (by rw [List.getElem?_map,hx']; rfl)]
  exact ⟨_,Sl.of rfl rfl rfl⟩
 obtain rfl:i=T.G.length:=by omega
 rw [List.take_of_length_le (by simp)]
 simp
def actsR (d:PrgD) (f:Int→Tri) (L l:List Int):List Int:=l.foldl (fun L a=>gathM d L (f a)) L
theorem actsR_next {d:PrgD} {f:Int→Tri} {L l:List Int} {i:Nat} {x:Int} (h:l[i]?=some x):actsR d f L (l.take (i+1))=gathM d (actsR d f L (l.take i)) (f x):=by
 unfold actsR
 rw [← take_one h,List.foldl_append]; rfl
theorem actsR_len {d:PrgD} {f:Int→Tri} (hf:∀ a,triB (f a) 13000) (l:List Int):∀ L:List Int,(actsR d f L l).length≤L.length+39000 * l.length:=by
 induction l with
 | nil=>intro L; exact Nat.le_add_right _ _
 | cons a l ih =>
  intro L
  have h1:=ih (gathM d L (f a))
  have h2:=gathM_len d L (f a)
  obtain ⟨b1,b2,b3⟩:=hf a
  show (actsR d f (gathM d L (f a)) l).length≤_
  simp only [List.length_cons]
  omega
theorem actsR_same {d:PrgD} {f g:Int→Tri} (h:∀ a,SameT (f a) (g a)):∀ (l L K:List Int),SameM L K→SameM (actsR d f L l) (actsTo d g K l)
 | [],L,K,hL=>hL
 | a::l,L,K,hL=>actsR_same h l _ _ (gathM_same hL (h a))
def keysR (d:PrgD) (l:List KeyD):List Int:=insAll [] (l.map fun k=>fieldCell d k.h k.f)
theorem keysR_same (d:PrgD) (l:List KeyD):SameM (keysR d l) (keysTo d [] l):=by
 have:∀ (l:List KeyD) (L K:List Int),SameM L K→SameM (insAll L (l.map fun k=>fieldCell d k.h k.f)) (keysTo d K l):=by
  intro l
  induction l with
  | nil=>exact fun L K h=>h
  | cons k l ih =>
   intro L K h
   exact ih _ _ fun z=>by
    show z ∈ insM (fieldCell d k.h k.f) L ↔ z ∈ putM K (fieldCell d k.h k.f)
    rw [insM_mem,mem_put,h z]
 exact this l [] [] SameM.rfl_
theorem SameT.can {a b:Tri} (h:SameT a b):SameT a (triC b):=⟨h.F.trans (canR_mem _).symm,h.M.trans (canZ_mem _).symm,h.G.trans (canZ_mem _).symm⟩
def ruWr (d:PrgD) (u:UnitD):List Int:=match tblOf d u.table with
 | none=>[]
 | some t=>actsR d (fun a=>wrR d (bodyM d a)) [] t.acts.l
def ruRd (d:PrgD) (u:UnitD):List Int:=if u.table=-1 then gathM d [] ⟨FL u.cond.l,HL u.cond.l,[]⟩ else match tblOf d u.table with
 | none=>[]
 | some t=>actsR d (fun a=>rdR (bodyM d a)) (keysR d t.keys.l) t.acts.l
theorem ruWr_same (d:PrgD) (u:UnitD):SameM (ruWr d u) (unitWrM d u):=by
 unfold ruWr unitWrM
 cases tblOf d u.table with
 | none=>exact SameM.rfl_
 | some t=>exact SameM.trans (actsR_same (fun a=>(wrR_same d (bodyM d a)).can) t.acts.l [] [] SameM.rfl_) (canZ_mem _).symm
theorem ruRd_same (d:PrgD) (u:UnitD):SameM (ruRd d u) (unitRdM d u):=by
 unfold ruRd unitRdM
 split
 ·exact SameM.trans (gathM_same (b:=⟨fldsM u.cond.l,hdrsM u.cond.l,[]⟩) SameM.rfl_ ⟨FL_same _,HL_same _,SameM.rfl_⟩) (canZ_mem _).symm
 ·cases tblOf d u.table with
  | none=>exact SameM.rfl_
  | some t=>exact SameM.trans (actsR_same (fun a=>(rdR_same (bodyM d a)).can) t.acts.l _ _ (keysR_same d t.keys.l)) (canZ_mem _).symm
theorem wrR_bd (d:PrgD) (hF:∀ x ∈ d.headers.l,x.fields.l.length≤1000) (a:Int):triB (wrR d (bodyM d a)) 13000:=by
 have h:=wrR_b hF (bodyM d a) (bodyM d a).length
 rw [List.take_length] at h
 have hl:=(bodyM_ok d a).1
 exact h.mono (by omega)
theorem rdR_bd (d:PrgD) (a:Int):triB (rdR (bodyM d a)) 13000:=by
 have h:=rdR_b (bodyM_ok d a).2 (bodyM d a).length
 rw [List.take_length] at h
 have hl:=(bodyM_ok d a).1
 exact h.mono (by omega)
def rcwI (d:PrgD) (u:UnitD) (t:TblD) (i:Nat) (s:St):Prop:=∃ g,Vf.Sl [(2,.ref 0 0),(3,.ref 1 0),(5,.f (ownF (encL intF (actsR d (fun a=>wrR d (bodyM d a)) [] (t.acts.l.take i))))),(6,.ref 2 0),(7,.f (intF i))] 53 (aPrg d::cUnitA u::cTblA t::g) [] s
theorem rwrites_g (d:PrgD) (hn:NmOk d) (hC:PrgC d) (u:UnitD):Gives Tryz.prog 82 [fPrg d,fUnit u] (ownF (encL intF (ruWr d u))):=by
 have hS:=prgS_of hC
 refine Gives.of mixed Tryz.func82 rfl rfl rfl (by kernel_rfl) ?_
 rcases tblAt (d:=d) u.table with ⟨c1,hr⟩ | ⟨c1,c2,hr⟩ | ⟨c0,c1,c2,c3,t,hx,hx',hr⟩
 ·have hv:ruWr d u=[]:=by unfold ruWr tblOf; rw [hr]
  simp [fPrg,cPrg,c1,hv,encL,ownF]
 ·have hv:ruWr d u=[]:=by unfold ruWr tblOf; rw [hr]
  simp [fPrg,cPrg,c1,c2,hv,encL,ownF]
 have hv:ruWr d u=actsR d (fun a=>wrR d (bodyM d a)) [] t.acts.l:=by unfold ruWr tblOf; rw [hr]
 have hts:=tblOf_small hC (show tblOf d u.table=some t by unfold tblOf; exact hr)
 rw [hv]
 simp [fPrg,cPrg,c0,c1,c2,c3,hx]
 refine forX mixed t.acts.l.length (rcwI d u t) (by kernel_rfl) ⟨[],Sl.of rfl rfl rfl⟩ ?_
 rintro i ⟨ts,hh,kk⟩ hi ⟨g,rfl,rfl,f,rfl⟩
 by_cases hlt:i < t.acts.l.length
 ·obtain ⟨a,ha,ha'⟩:=nth_of hlt
  have hw:=wrap64 (x:=(i:Int)+1) (by omega) (by omega)
  have hl:=actsR_len (d:=d) (wrR_bd d hS.f) (t.acts.l.take i) []
  rw [List.length_take,List.length_nil] at hl
  simp [hlt,ha,aPrg]
  refine call_g (ractWrites_g d hn hS.f a) ?_
  simp
  refine call_g (rgather_g d hS _ (wrR d (bodyM d a)) (by omega) ((wrR_bd d hS.f a).mono (by omega))) ?_
  simp [hw]
  unfold rcwI
  rw [actsR_next ha']
  exact ⟨_,Sl.of rfl rfl rfl⟩
 ·obtain rfl:i=t.acts.l.length:=by omega
  rw [List.take_length]
  simp
def rcrK (d:PrgD) (u:UnitD) (t:TblD) (i:Nat) (s:St):Prop:=∃ g,Vf.Sl [(2,.ref 0 0),(3,.ref 1 0),(5,.f (ownF (encL intF (keysR d (t.keys.l.take i))))),(6,.ref 2 0),(7,.f (intF i))] 82 (aPrg d::cUnitA u::cTblA t::g) [] s
def rcrI (d:PrgD) (u:UnitD) (t:TblD) (i:Nat) (s:St):Prop:=∃ g,Vf.Sl [(2,.ref 0 0),(3,.ref 1 0),(5,.f (ownF (encL intF (actsR d (fun a=>rdR (bodyM d a)) (keysR d t.keys.l) (t.acts.l.take i))))),(6,.ref 2 0),(8,.f (intF i))] 82 (aPrg d::cUnitA u::cTblA t::g) [] s
theorem keysR_len (d:PrgD) (l:List KeyD):(keysR d l).length≤l.length:=by
 have:=insAll_len (l.map fun k=>fieldCell d k.h k.f) []
 simpa [keysR] using this
theorem rreads_g (d:PrgD) (hn:NmOk d) (hC:PrgC d) (u:UnitD) (hu:u.cond.l.length≤1000000):Gives Tryz.prog 86 [fPrg d,fUnit u] (ownF (encL intF (ruRd d u))):=by
 have hS:=prgS_of hC
 refine Gives.of mixed Tryz.func86 rfl rfl rfl (by kernel_rfl) ?_
 by_cases h1:u.table=-1
 ·have hv:ruRd d u=gathM d [] ⟨FL u.cond.l,HL u.cond.l,[]⟩:=if_pos h1
  have hg:=rgather_g d hS [] ⟨FL u.cond.l,HL u.cond.l,[]⟩ (Nat.zero_le _) ⟨Nat.le_trans (FLn_len _) hu,Nat.le_trans (HLn_len _) hu,Nat.zero_le _⟩
  rw [show ownF (encL intF [])=.sl [] .nil from rfl] at hg
  rw [hv]
  simp [fPrg,cPrg,h1]
  refine call_g (rfields_g u.cond.l .un (by omega)) ?_
  simp
  refine call_g (rheadersL_g u.cond.l .un (by omega)) ?_
  simp
  refine call_g hg ?_
  simp
 rcases tblAt (d:=d) u.table with ⟨c1,hr⟩ | ⟨c1,c2,hr⟩ | ⟨c0,c1,c2,c3,t,hx,hx',hr⟩
 ·have hv:ruRd d u=[]:=by unfold ruRd tblOf; rw [if_neg h1,hr]
  simp [fPrg,cPrg,h1,c1,hv,encL,ownF]
 ·have hv:ruRd d u=[]:=by unfold ruRd tblOf; rw [if_neg h1,hr]
  simp [fPrg,cPrg,h1,c1,c2,hv,encL,ownF]
 have hv:ruRd d u=actsR d (fun a=>rdR (bodyM d a)) (keysR d t.keys.l) t.acts.l:=by unfold ruRd tblOf; rw [if_neg h1,hr]
 have hts:=tblOf_small hC (show tblOf d u.table=some t by unfold tblOf; exact hr)
 rw [hv]
 simp [fPrg,cPrg,h1,c0,c1,c2,c3,hx]
 refine forX mixed t.keys.l.length (rcrK d u t) (by kernel_rfl) ⟨[],Sl.of rfl rfl rfl⟩ ?_
 rintro i ⟨ts,hh,kk⟩ hi ⟨g,rfl,rfl,f,rfl⟩
 by_cases hlt:i < t.keys.l.length
 ·obtain ⟨k,hk,hk'⟩:=nth_of hlt
  have hw:=wrap64 (x:=(i:Int)+1) (by omega) (by omega)
  have hl:=keysR_len d (t.keys.l.take i)
  rw [List.length_take] at hl
  simp [hlt,hk,aPrg]
  refine call_g (rfieldCell_g d hS k.h k.f) ?_
  simp
  refine call_g (rinsert_g (keysR d (t.keys.l.take i)) (fieldCell d k.h k.f) (by omega)) ?_
  simp [hw]
  have e:insM (fieldCell d k.h k.f) (keysR d (t.keys.l.take i))=keysR d (t.keys.l.take (i+1)):=(insAll_map (fun k:KeyD=>fieldCell d k.h k.f) hk').symm
  rw [e]
  exact ⟨_,Sl.of rfl rfl rfl⟩
 obtain rfl:i=t.keys.l.length:=by omega
 rw [List.take_length]
 simp [aPrg]
 refine forX mixed t.acts.l.length (rcrI d u t) (by kernel_rfl) ⟨_,Sl.of rfl rfl rfl⟩ ?_
 clear hi hlt
 rintro i ⟨ts,hh,kk⟩ hi ⟨g,rfl,rfl,f,rfl⟩
 by_cases hlt:i < t.acts.l.length
 ·obtain ⟨a,ha,ha'⟩:=nth_of hlt
  have hw:=wrap64 (x:=(i:Int)+1) (by omega) (by omega)
  have hkl:=keysR_len d t.keys.l
  have hl:=actsR_len (d:=d) (rdR_bd d) (t.acts.l.take i) (keysR d t.keys.l)
  rw [List.length_take] at hl
  simp [hlt,ha,aPrg]
  refine call_g (ractReads_g d hn a) ?_
  simp
  refine call_g (rgather_g d hS _ (rdR (bodyM d a)) (by omega) ((rdR_bd d a).mono (by omega))) ?_
  simp [hw]
  unfold rcrI
  rw [actsR_next ha']
  exact ⟨_,Sl.of rfl rfl rfl⟩
 ·obtain rfl:i=t.acts.l.length:=by omega
  rw [List.take_length]
  simp
theorem opNil_bool {T:TV} {op:BinOp} {ty:TypeId} {a b:Bool}:opNil T op ty (.f (.sc (.bool a))) (.f (.sc (.bool b)))=none:=by
 unfold opNil
 split <;> first | rfl | (split <;> first | rfl | (rename_i h; simp [isNilA] at h))
theorem bin_neq_b {P:Program} {T:TV} {ty:TypeId} {x y:Operand} {a b:Bool} (hu:runPure P (underlying ty)=some .bool):opBin P T .neq ty x y (.f (.sc (.bool a))) (.f (.sc (.bool b)))=some (.f (.sc (.bool (a != b)))):=by
 unfold opBin
 rw [opNil_bool]
 cases a <;> cases b <;> simp [AV.val,aggCells,cellVal,eqGuard,binOp,Op.equal] <;> (rw [show Op.maxDepth=Op.maxDepth - 1+1 from rfl]; simp only [Op.equalIn,runPure_bind,runPure_map,hu,Option.bind_some]; first | exact ⟨.bool true,rfl,rfl⟩ | exact ⟨.bool false,rfl,rfl⟩)
@[simp] theorem neqB {T:TV} {x y:Operand} {a b:Bool}:opBin Tryz.prog T .neq 4 x y (.f (.sc (.bool a))) (.f (.sc (.bool b)))=some (.f (.sc (.bool (a != b)))):=bin_neq_b (by kernel_rfl)
def rcoJ (a b:List Int) (ca cb:Cap) (x:Int) (i j:Nat) (s:St):Prop:=noneT (fun y=>x == y) b j∧∃ g,Vf.Sl [(0,.f (.sl (encL intF a) ca)),(1,.f (.sl (encL intF b) cb)),(5,.f (intF i)),(6,.f (intF j))] 28 g [] s
theorem rcommon_g (a b:List Int) (ca cb:Cap) (ha:a.length < 2^62) (hb:b.length < 2^62):Gives Tryz.prog 85 [.sl (encL intF a) ca,.sl (encL intF b) cb] (boolF (comB a b)):=by
 refine Gives.of mixed Tryz.func85 rfl rfl rfl (by kernel_rfl) ?_
 generalize hv:comB a b=v
 unfold comB at hv
 simp
 refine forX mixed a.length (fun i s=>noneT (fun x=>b.any fun y=>x == y) a i∧∃ g,Vf.Sl [(0,.f (.sl (encL intF a) ca)),(1,.f (.sl (encL intF b) cb)),(5,.f (intF i))] 28 g [] s) (by kernel_rfl) ⟨.zero,[],Sl.of rfl rfl rfl⟩ ?_
 rintro i ⟨ts,hh,kk⟩ hi ⟨hno,g,rfl,rfl,f,rfl⟩
 by_cases hlt:i < a.length
 ·obtain ⟨x,hx,hx'⟩:=nth_of hlt
  have hw:=wrap64 (x:=(i:Int)+1) (by omega) (by omega)
  simp [hlt]
  refine forX mixed b.length (rcoJ a b ca cb x i) (by kernel_rfl) ⟨.zero,_,Sl.of rfl rfl rfl⟩ ?_
  rintro j ⟨ts,hh,kk⟩ hj ⟨hno2,g,rfl,rfl,f,rfl⟩
  by_cases hjt:j < b.length
  ·obtain ⟨y,hy,hy'⟩:=nth_of hjt
   have hw':=wrap64 (x:=(j:Int)+1) (by omega) (by omega)
   by_cases he:x=y
   ·rw [any_hit hx' (any_hit (p:=fun y=>x == y) hy' (by simpa using he))] at hv
    subst hv
    simp [hlt,hx,hjt,hy,he]
   ·simp [hlt,hx,hjt,hy,he,hw']
    exact ⟨hno2.next hy' (by simpa using he),_,Sl.of rfl rfl rfl⟩
  ·obtain rfl:j=b.length:=by omega
   simp [hw]
   exact ⟨hno.next hx' (hno2.all hjt),_,Sl.of rfl rfl rfl⟩
 ·obtain rfl:i=a.length:=by omega
  rw [hno.all hlt] at hv
  subst hv
  simp
def rguI (u:UnitD) (n:Int) (i:Nat) (s:St):Prop:=noneT (fun g:GuardD=>g.unit == n) u.guards.l i∧∃ g,Vf.Sl [(1,.f (intF n)),(2,.ref 0 0),(5,.f (intF i))] 21 (cUnitA u::g) [] s
theorem rguarded_g (u:UnitD) (n:Int) (hb:u.guards.l.length < 2^62):Gives Tryz.prog 84 [fUnit u,intF n] (boolF (u.guards.l.any fun g=>g.unit == n)):=by
 refine Gives.of mixed Tryz.func84 rfl rfl rfl (by kernel_rfl) ?_
 generalize hv:(u.guards.l.any fun g=>g.unit == n)=v
 simp
 refine forX mixed u.guards.l.length (rguI u n) (by kernel_rfl) ⟨.zero,[],Sl.of rfl rfl rfl⟩ ?_
 rintro i ⟨ts,hh,kk⟩ hi ⟨hno,g,rfl,rfl,f,rfl⟩
 by_cases hlt:i < u.guards.l.length
 ·obtain ⟨x,hx,hx'⟩:=nth_of hlt
  have hw:=wrap64 (x:=(i:Int)+1) (by omega) (by omega)
  by_cases he:x.unit=n
  ·rw [any_hit hx' (by simpa using he)] at hv
   subst hv
   simp [hlt,hx,he]
  ·simp [hlt,hx,he,hw]
   exact ⟨hno.next hx' (by simpa using he),_,Sl.of rfl rfl rfl⟩
 ·obtain rfl:i=u.guards.l.length:=by omega
  rw [hno.all hlt] at hv
  subst hv
  simp
def rexJ (us:List UnitD) (c:Cap) (i j:Nat) (g0:GuardD) (v:UnitD) (a b:Nat) (s:St):Prop:=noneT (gdEq ⟨g0.unit,!g0.thn⟩) v.guards.l b∧∃ g,Vf.Sl [(0,.f (.sl (encL fUnit us) c)),(1,.f (intF i)),(2,.f (intF j)),(7,.f (intF a)),(8,.f (intF b))] 87 g [] s
theorem rexcl_g (us:List UnitD) (c:Cap) (i j:Nat) (u v:UnitD) (hi:us[i]?=some u) (hj:us[j]?=some v) (hu:u.guards.l.length < 2^62) (hv0:v.guards.l.length < 2^62):Gives Tryz.prog 83 [.sl (encL fUnit us) c,intF i,intF j] (boolF (exclM u v)):=by
 refine Gives.of mixed Tryz.func83 rfl rfl rfl (by kernel_rfl) ?_
 obtain ⟨hlt,_⟩:=List.getElem?_eq_some_iff.1 hi
 obtain ⟨hlt2,_⟩:=List.getElem?_eq_some_iff.1 hj
 obtain ⟨x,hx,hx'⟩:=nth_of hlt
 rw [hi] at hx'
 obtain rfl:=Option.some.inj hx'
 obtain ⟨y,hy,hy'⟩:=nth_of hlt2
 rw [hj] at hy'
 obtain rfl:=Option.some.inj hy'
 have n1:¬ ((i:Int) < 0):=by omega
 have n2:¬ ((j:Int) < 0):=by omega
 have n3:¬ us.length≤i:=by omega
 have n4:¬ us.length≤j:=by omega
 generalize hv:exclM u v=q
 unfold exclM at hv
 simp [hlt,hlt2,hx,hy,n1,n2,n3,n4]
 refine forX mixed u.guards.l.length (fun a s=>noneT (fun g=>v.guards.l.any (gdEq ⟨g.unit,!g.thn⟩)) u.guards.l a∧∃ g,Vf.Sl [(0,.f (.sl (encL fUnit us) c)),(1,.f (intF i)),(2,.f (intF j)),(7,.f (intF a))] 87 g [] s) (by kernel_rfl) ⟨.zero,[],Sl.of rfl rfl rfl⟩ ?_
 rintro a ⟨ts,hh,kk⟩ ha ⟨hno,g,rfl,rfl,f,rfl⟩
 by_cases hat:a < u.guards.l.length
 ·obtain ⟨g0,hg,hg'⟩:=nth_of hat
  have hw:=wrap64 (x:=(a:Int)+1) (by omega) (by omega)
  simp [hat,hlt,hx]
  refine forX mixed v.guards.l.length (rexJ us c i j g0 v a) (by kernel_rfl) ⟨.zero,_,Sl.of rfl rfl rfl⟩ ?_
  rintro b ⟨ts,hh,kk⟩ hb ⟨hno2,g,rfl,rfl,f,rfl⟩
  by_cases hbt:b < v.guards.l.length
  ·obtain ⟨g1,hg1,hg1'⟩:=nth_of hbt
   have hw':=wrap64 (x:=(b:Int)+1) (by omega) (by omega)
   by_cases he:g0.unit=g1.unit
   ·cases ht:g0.thn <;> cases ht1:g1.thn
    all_goals first
     | (have hh:gdEq ⟨g0.unit,!g0.thn⟩ g1=true:=by simp [gdEq,he,ht,ht1]
        rw [any_hit hg' (any_hit hg1' hh)] at hv
        subst hv
        simp [hat,hlt,hlt2,hx,hy,hg,hbt,hg1,he,ht,ht1]
        done)
     | (have hh:gdEq ⟨g0.unit,!g0.thn⟩ g1=false:=by simp [gdEq,he,ht,ht1]
        simp [hat,hlt,hlt2,hx,hy,hg,hbt,hg1,he,ht,ht1,hw']
        exact ⟨hno2.next hg1' hh,_,Sl.of rfl rfl rfl⟩)
   ·have hh:gdEq ⟨g0.unit,!g0.thn⟩ g1=false:=by simp [gdEq,he]
    simp [hat,hlt,hlt2,hx,hy,hg,hbt,hg1,he,hw']
    exact ⟨hno2.next hg1' hh,_,Sl.of rfl rfl rfl⟩
  ·obtain rfl:b=v.guards.l.length:=by omega
   simp [hlt2,hy,hw]
   exact ⟨hno.next hg' (hno2.all hbt),_,Sl.of rfl rfl rfl⟩
 ·obtain rfl:a=u.guards.l.length:=by omega
  rw [hno.all hat] at hv
  subst hv
  simp [hlt,hx]
theorem rkind_g (D:List (List Int)) (c:Cap) (i j:Nat) (hi:i < D.length):Gives Tryz.prog 71 [.sl (encL rowF D) c,intF i,intF j] (intF (kindM D i j)):=by
 refine Gives.of mixed Tryz.func71 rfl rfl rfl (by kernel_rfl) ?_
 obtain ⟨r,hr,hr'⟩:=nth_of hi
 have hD:D.getD i []=r:=by rw [List.getD_eq_getElem?_getD,hr']; rfl
 by_cases c1:j≤i
 ·have hv:kindM D i j=0:=if_pos (.inl c1)
  simp [c1,hv]
 by_cases c2:r.length≤j
 ·have hv:kindM D i j=0:=by unfold kindM; rw [hD,if_pos (.inr c2)]
  simp [c1,c2,hi,hr,hv]
 obtain ⟨x,hx,hx'⟩:=nth_of (show j < r.length by omega)
 have hX:r.getD j 0=x:=by rw [List.getD_eq_getElem?_getD,hx']; rfl
 have hv:kindM D i j=if x=1∨x=2 then x else 0:=by unfold kindM; rw [hD,if_neg (by omega),hX]
 rw [hv]
 have c3:j < r.length:=by omega
 by_cases k1:x=1
 ·simp [c1,c2,c3,hi,hr,hx,k1]
 by_cases k2:x=2
 ·simp [c1,c2,c3,hi,hr,hx,k2]
 simp [c1,c2,c3,hi,hr,hx,k1,k2]
theorem gds_all (l:List GuardD):(encL fGd l).all (fun u=>u.cells.length == 2)=true:=by
 rw [List.all_eq_true]
 intro u hu
 obtain ⟨x,_,rfl⟩:=List.mem_map.1 hu
 rfl
theorem runder_g (gs:List GuardD) (c:Cap) (i:Int) (q:Bool) (hl:gs.length≤100000):Gives Tryz.prog 81 [.sl (encL fGd gs) c,intF i,boolF q] (sl (encL fGd (gs ++ [⟨i,q⟩]))):=by
 refine Gives.of mixed Tryz.func81 rfl rfl rfl (by kernel_rfl) ?_
 obtain ⟨x1,t1,k1,e1,ho1,_⟩:=append_own0 (k:=[]) (l:=[]) (t:=0) ty55 ty174 (by simp) .nil (y:=.f (.sl (encL fGd gs) c)) rfl (gds_all gs) (by simp; omega) (by simp; omega)
 rw [List.nil_append] at ho1
 obtain ⟨t2,k2,e2,ho2,_⟩:=append_own ty55 ty174 (by simp) ho1 (y:=.f (.sl [.agg [intF i,boolF q]] .full)) rfl (by simp) (by simp) (by simp; omega) (by simp; omega)
 have e3:encL fGd gs ++ [.agg [intF i,boolF q]]=encL fGd (gs ++ [⟨i,q⟩]):=by simp [encL]
 rw [e3] at e2 ho2
 simp [-opAppend]
 rw [e1]
 simp [-opAppend]
 rw [e2]
 simp
def ColU (us:List UnitD) (h:List (List AV)) (k:List (Nat × Nat)):AV→List (List AV)→List (Nat × Nat)→Prop:=fun y h' k'=>h'=h∧∃ t,OwnT k' (encL fUnit us) 3 y t∧k.length≤k'.length
def colI (l:List NodD) (gs:List GuardD) (us:List UnitD) (h:List (List AV)) (k:List (Nat × Nat)) (i:Nat) (s:St):Prop:=∃ g k' x t,
 OwnT k' (encL fUnit (us ++ bldL (l.take i) gs us.length)) 3 x t∧k.length≤k'.length∧Vf.Sl [(0,x),(1,.f (sl (encL fNod l))),(2,.f (sl (encL fGd gs))),(7,.f (intF i))] 63 (h ++ g) k' s
def colM (l:List NodD) (gs:List GuardD) (n:NodD) (x:AV) (h g:List (List AV)) (k:List (Nat × Nat)) (i:Nat) (s:St):Prop:=∃ X,(X=.f (sl (encL fEx (unitOf n gs).cond.l))∨((unitOf n gs).cond.l=[]∧X=.f (.sl [] .nil))) ∧
 Vf.Sl [(0,x),(1,.f (sl (encL fNod l))),(2,.f (sl (encL fGd gs))),(7,.f (intF i)),(8,.ref (h.length+g.length) 0)] 63 (h ++ (g ++ [[.f (intF (unitOf n gs).table),X,.f (sl (encL fGd gs))]])) k s
theorem col_weak {c:Code} {Q:Pst} {X a b:AV} {h g:List (List AV)} {m:List ExD} {t:List AV} {k:List (Nat × Nat)} (hX:X=.f (sl (encL fEx m))∨(m=[]∧X=.f (.sl [] .nil)))
  (hw:W Tryz.prog c ⟨t,h ++ (g ++ [[a,.f (sl (encL fEx m)),b]]),k⟩ Q):W Tryz.prog c ⟨t,h ++ (g ++ [[a,X,b]]),k⟩ Q:=by
 rcases hX with rfl | ⟨rfl,rfl⟩
 ·exact hw
 ·refine weakH_W (b:=h.length+g.length) (j:=1) (cs:=[a,.f (.sl [] .nil),b]) (by simp) rfl weak_nil ?_
  simp
  exact hw
def cNod (n:NodD):List FV:=[intF n.kind,intF n.table,sl (encL fEx n.cond.l),sl (encL fNod n.thn.l),sl (encL fNod n.els.l)]
def fpCtrue (n:NodD):List FV:=[sl (encL fNod n.thn.l),sl (encL fNod n.els.l)]
def fpCfalse (n:NodD):List FV:=[sl (encL fNod n.els.l)]
def keC (l:List NodD) (gs:List GuardD) (i:Nat) (x:AV) (w:Int):List (Nat × AV):=[(0,x),(1,.f (sl (encL fNod l))),(2,.f (sl (encL fGd gs))),(7,.f (intF i)),(9,.f (intF w))]
def vaC (l:List NodD) (gs:List GuardD) (n:NodD) (i:Nat) (x:AV) (w:Int) (m:List NodD) (fpf:NodD→List FV) (b:Bool):Nat→AV
 | 0=>x
 | 1=>.f (sl (encL fNod l))
 | 2=>.f (intF i)
 | 3=>.f (.fp (cNod n))
 | 4=>.f (.fp (fpf n))
 | 5=>.f (sl (encL fNod m))
 | 6=>.f (sl (encL fGd gs))
 | 7=>.f (intF w)
 | _=>.f (sl (encL fGd (gs ++ [⟨w,b⟩])))
def colA (l:List NodD) (gs:List GuardD) (i:Nat) (w:Int) (V:List UnitD) (H:List (List AV)) (K:List (Nat × Nat)) (s:St):Prop:=∃ x t k',OwnT k' (encL fUnit V) 3 x t∧K.length≤k'.length∧Vf.Sl (keC l gs i x w) 63 H k' s
theorem rcollect_x (l:List NodD) (hB:NodB l):∀ (gs:List GuardD) (us:List UnitD) (x:AV) (t:Nat) (h:List (List AV)) (k:List (Nat × Nat)),OwnT k (encL fUnit us) 3 x t →
  (us ++ bldL l gs us.length).length≤100000→gs.length≤us.length →
  GivesX Tryz.prog 45 [x,.f (sl (encL fNod l)),.f (sl (encL fGd gs))] h k (ColU (us ++ bldL l gs us.length) h k):=by
 induction hB with
 | mk l hl h1 h2 ih1 ih2 =>
  intro gs us x t h k ho hlen hgs
  refine GivesX.of_W Tryz.func45 rfl rfl rfl (by decide) ?_
  refine W.two (W.x mixed (by kernel_rfl) ?_)
  simp
  refine W.two (W.two (W.x mixed (by kernel_rfl) ?_))
  simp
  refine W.blk (forW l.length (colI l gs us h k) ⟨[],k,x,t,by simpa [bldL] using ho,Nat.le_refl _,by rw [List.append_nil]; exact Sl.of rfl rfl rfl⟩ ?_)
  clear ho
  rintro i ⟨ts,hh,kk⟩ hi ⟨g,k',x',t',ho,hk,rfl,rfl,ff,rfl⟩
  refine W.two (W.x mixed (by kernel_rfl) ?_)
  by_cases hlt:i < l.length
  ·obtain ⟨n,hn,hn'⟩:=nth_of hlt
   have hw:=wrap64 (x:=(i:Int)+1) (by omega) (by unfold maxLen at hl; omega)
   simp [hlt]
   refine W.two (W.blk (W.two (W.x mixed (by kernel_rfl) ?_)))
   simp [hn,fNod_eq,hlt]
   have hmem:=List.mem_of_getElem? hn'
   refine W.two (W.mono (Q:=fun ex s'=>ex=.normal∧colM l gs n x' h g kk i s') (W.x mixed (by kernel_rfl) ?_) ?_)
   ·by_cases hk2:n.kind=2
    ·simp [hk2,hn,fNod_eq,hlt]
     exact ⟨_,.inl rfl,by simp only [unitOf,hk2,if_true]; exact Sl.of rfl rfl rfl⟩
    ·simp [hk2,hn,fNod_eq,hlt]
     exact ⟨_,.inr ⟨by simp [unitOf,hk2],rfl⟩,by simp only [unitOf,if_neg hk2]; exact Sl.of rfl rfl rfl⟩
   rintro _ ⟨ts,hh,kk2⟩ ⟨rfl,X,hX,rfl,rfl,ff2,rfl⟩
   simp
   refine col_weak hX ?_
   refine W.two (W.x mixed (by kernel_rfl) ?_)
   simp [-opLen]
   rw [ho.len ty52]
   simp
   refine W.two (W.x mixed (by kernel_rfl) ?_)
   simp [-opAppend]
   have hl0:=bldL_le l gs us.length i
   have hl1:(us ++ bldL (l.take i) gs us.length).length≤100000:=by simp at hlen ⊢; omega
   obtain ⟨t2,k2,e2,ho2,hk2,_⟩:=append_own ty52 ty57 (by simp) ho (y:=.f (.sl [fUnit (unitOf n gs)] .full)) rfl (by simp) (by simp) (by simp at hl1 ⊢; omega) (by simp at hl1 ⊢; omega)
   rw [show opAppend (tyOf Tryz.prog) kk2 52 x' (.f (FV.sl [FV.agg [intF (unitOf n gs).table,sl (encL fEx (unitOf n gs).cond.l),sl (encL fGd gs)]] Cap.full))=_ from e2]
   simp
   have hnx:=bldL_take hn' gs us.length
   rw [bldN_eq] at hnx
   simp only [Int.natCast_add] at hnx
   have hle1:=bldL_le l gs us.length (i+1)
   rw [hnx] at hle1
   have hu2:OwnT k2 (encL fUnit (us ++ (bldL (l.take i) gs us.length ++ [unitOf n gs]))) 3 (.own (encL fUnit (us ++ (bldL (l.take i) gs us.length ++ [unitOf n gs]))) t2) t2:=by simpa [encL] using ho2
   generalize hm:bldL (l.take i) gs us.length=M at *
   have hc2:(us ++ (M ++ [unitOf n gs])).length=us.length+M.length+1:=by simp; omega
   refine W.two (W.mono (Q:=fun ex s'=>ex=.normal∧colA l gs i ((us.length:Int)+M.length) ((us ++ (M ++ [unitOf n gs])) ++ bldL n.thn.l (gs ++ [⟨((us.length:Int)+M.length),true⟩]) (us ++ (M ++ [unitOf n gs])).length) (h ++ (g ++ [[.f (intF (unitOf n gs).table),.f (sl (encL fEx (unitOf n gs).cond.l)),.f (sl (encL fGd gs))]])) k2 s') (W.draw_last2 mixed 9 (DrwK (h ++ (g ++ [[.f (intF (unitOf n gs).table),.f (sl (encL fEx (unitOf n gs).cond.l)),.f (sl (encL fGd gs))]])) k2 (keC l gs i (.own (encL fUnit (us ++ (M ++ [unitOf n gs]))) t2) ((us.length:Int)+M.length)) 42 9 (vaC l gs n i (.own (encL fUnit (us ++ (M ++ [unitOf n gs]))) t2) ((us.length:Int)+M.length) n.thn.l fpCtrue true) 63) ⟨rfl,rfl,rfl,?_,fun i _ h=>by cases h⟩ ?_ ?_ rfl (by kernel_rfl) (by kernel_rfl) (by kernel_rfl)) ?_)
   ·intro p hp
    simp [keC] at hp
    rcases hp with rfl | rfl | rfl | rfl | rfl <;> rfl
   ·rintro D ⟨t,h,kk⟩ j o hj ho hD hdep T
    obtain ⟨e1,e2,hl,hkp,hT⟩:=id T
    cases e1
    cases e2
    have k0:ix t 0=some ((.own (encL fUnit (us ++ (M ++ [unitOf n gs]))) t2)):=hkp (0,_) (by simp [keC])
    have k1:ix t 1=some (.f (sl (encL fNod l))):=hkp (1,_) (by simp [keC])
    have k2:ix t 2=some (.f (sl (encL fGd gs))):=hkp (2,_) (by simp [keC])
    have k7:ix t 7=some (.f (intF i)):=hkp (7,_) (by simp [keC])
    have k9:ix t 9=some (.f (intF ((us.length:Int)+M.length))):=hkp (9,_) (by simp [keC])
    match j,ho with
    | 0,ho =>
     obtain rfl:=Option.some.inj ho
     simp [k0]
     exact T.put 0 (by decide) (by decide) rfl rfl
    | 1,ho =>
     obtain rfl:=Option.some.inj ho
     simp [k1]
     exact T.put 1 (by decide) (by decide) rfl rfl
    | 2,ho =>
     obtain rfl:=Option.some.inj ho
     simp [k7]
     exact T.put 2 (by decide) (by decide) rfl rfl
    | 3,ho =>
     obtain rfl:=Option.some.inj ho
     have d1:D 1=true:=hdep ⟨1,.data⟩ (by simp) rfl
     have f1:ix t 43=some (.f (sl (encL fNod l))):=hT 1 (by decide) d1
     have d2:D 2=true:=hdep ⟨2,.data⟩ (by simp) rfl
     have f2:ix t 44=some (.f (intF i)):=hT 2 (by decide) d2
     simp [f1,f2,hn,fNod_eq,hlt]
     exact T.put 3 (by decide) (by decide) rfl rfl
    | 4,ho =>
     obtain rfl:=Option.some.inj ho
     have d3:D 3=true:=hdep ⟨3,.data⟩ (by simp) rfl
     have f3:ix t 45=some (.f (.fp (cNod n))):=hT 3 (by decide) d3
     simp [f3,cNod]
     exact T.put 4 (by decide) (by decide) rfl rfl
    | 5,ho =>
     obtain rfl:=Option.some.inj ho
     have d4:D 4=true:=hdep ⟨4,.data⟩ (by simp) rfl
     have f4:ix t 46=some (.f (.fp (fpCtrue n))):=hT 4 (by decide) d4
     simp [f4,fpCtrue]
     exact T.put 5 (by decide) (by decide) rfl rfl
    | 6,ho =>
     obtain rfl:=Option.some.inj ho
     simp [k2]
     exact T.put 6 (by decide) (by decide) rfl rfl
    | 7,ho =>
     obtain rfl:=Option.some.inj ho
     simp [k9]
     exact T.put 7 (by decide) (by decide) rfl rfl
    | 8,ho =>
     obtain rfl:=Option.some.inj ho
     have d6:D 6=true:=hdep ⟨6,.data⟩ (by simp) rfl
     have f6:ix t 48=some (.f (sl (encL fGd gs))):=hT 6 (by decide) d6
     have d7:D 7=true:=hdep ⟨7,.data⟩ (by simp) rfl
     have f7:ix t 49=some (.f (intF ((us.length:Int)+M.length))):=hT 7 (by decide) d7
     simp [f6,f7]
     refine call_g (runder_g gs .un _ true (by simp at hl1; omega)) ?_
     simp
     exact T.put 8 (by decide) (by decide) rfl rfl
    | (_+9),ho=>omega
   ·rintro D ⟨t,h,kk⟩ o hD T ho
    obtain rfl:=Option.some.inj ho
    obtain ⟨e1,e2,hl,hkp,hT⟩:=id T
    cases e1
    cases e2
    have f0:ix t 42=some ((.own (encL fUnit (us ++ (M ++ [unitOf n gs]))) t2)):=hT 0 (by decide) (hD 0 (by decide))
    have f5:ix t 47=some (.f (sl (encL fNod n.thn.l))):=hT 5 (by decide) (hD 5 (by decide))
    have f8:ix t 50=some (.f (sl (encL fGd (gs ++ [⟨((us.length:Int)+M.length),true⟩])))):=hT 8 (by decide) (hD 8 (by decide))
    simp [f0,f5,f8]
    refine call_x (ih1 n hmem (gs ++ [⟨((us.length:Int)+M.length),true⟩]) (us ++ (M ++ [unitOf n gs])) _ t2 _ _ hu2 ?_ ?_) ?_
    ·rw [hc2]
     simp at hlen hle1 ⊢
     omega
    ·simp; omega
    rintro x3 _ k3 ⟨rfl,t3,ho3,hk3⟩
    simp
    have f1:ix (stT t 51 x3) 51=some x3:=by simp only [ix,stT]; rw [List.getElem?_set_self (by simp only at hl; omega)]
    simp [f1]
    refine ⟨x3,t3,k3,by simpa [hc2,Nat.add_assoc] using ho3,hk3,Sl.of (picks_of ?_) (by simpa [stT] using hl) rfl⟩
    intro p hp
    simp [keC] at hp
    rcases hp with rfl | rfl | rfl | rfl | rfl
    ·simp only [ix,stT]; rw [List.getElem?_set_self (by simp only [List.length_set] at hl ⊢; omega)]
    ·simp only [ix,stT]; rw [List.getElem?_set_ne (by decide),List.getElem?_set_ne (by decide)]; exact hkp (1,_) (by simp [keC])
    ·simp only [ix,stT]; rw [List.getElem?_set_ne (by decide),List.getElem?_set_ne (by decide)]; exact hkp (2,_) (by simp [keC])
    ·simp only [ix,stT]; rw [List.getElem?_set_ne (by decide),List.getElem?_set_ne (by decide)]; exact hkp (7,_) (by simp [keC])
    ·simp only [ix,stT]; rw [List.getElem?_set_ne (by decide),List.getElem?_set_ne (by decide)]; exact hkp (9,_) (by simp [keC])
   rintro _ ⟨ts,hh,kk3⟩ ⟨rfl,x3,t3,k3,ho3,hk3,rfl,rfl,ff3,rfl⟩
   rw [hc2] at ho3
   generalize hT1:bldL n.thn.l (gs ++ [⟨(us.length:Int)+M.length,true⟩]) (us.length+M.length+1)=T1 at *
   have hc3:(us ++ (M ++ [unitOf n gs]) ++ T1).length=us.length+M.length+1+T1.length:=by simp; omega
   simp
   refine (W.mono (Q:=fun ex s'=>ex=.normal∧colA l gs i ((us.length:Int)+M.length) (((us ++ (M ++ [unitOf n gs])) ++ T1) ++ bldL n.els.l (gs ++ [⟨((us.length:Int)+M.length),false⟩]) ((us ++ (M ++ [unitOf n gs])) ++ T1).length) (h ++ (g ++ [[.f (intF (unitOf n gs).table),.f (sl (encL fEx (unitOf n gs).cond.l)),.f (sl (encL fGd gs))]])) kk3 s') (W.draw_last2 mixed 9 (DrwK (h ++ (g ++ [[.f (intF (unitOf n gs).table),.f (sl (encL fEx (unitOf n gs).cond.l)),.f (sl (encL fGd gs))]])) kk3 (keC l gs i x3 ((us.length:Int)+M.length)) 52 9 (vaC l gs n i x3 ((us.length:Int)+M.length) n.els.l fpCfalse false) 63) ⟨rfl,rfl,rfl,?_,fun i _ h=>by cases h⟩ ?_ ?_ rfl (by kernel_rfl) (by kernel_rfl) (by kernel_rfl)) ?_)
   ·intro p hp
    simp [keC] at hp
    rcases hp with rfl | rfl | rfl | rfl | rfl <;> rfl
   ·rintro D ⟨t,h,kk⟩ j o hj ho hD hdep T
    obtain ⟨e1,e2,hl,hkp,hT⟩:=id T
    cases e1
    cases e2
    have k0:ix t 0=some (x3):=hkp (0,_) (by simp [keC])
    have k1:ix t 1=some (.f (sl (encL fNod l))):=hkp (1,_) (by simp [keC])
    have k2:ix t 2=some (.f (sl (encL fGd gs))):=hkp (2,_) (by simp [keC])
    have k7:ix t 7=some (.f (intF i)):=hkp (7,_) (by simp [keC])
    have k9:ix t 9=some (.f (intF ((us.length:Int)+M.length))):=hkp (9,_) (by simp [keC])
    match j,ho with
    | 0,ho =>
     obtain rfl:=Option.some.inj ho
     simp [k0]
     exact T.put 0 (by decide) (by decide) rfl rfl
    | 1,ho =>
     obtain rfl:=Option.some.inj ho
     simp [k1]
     exact T.put 1 (by decide) (by decide) rfl rfl
    | 2,ho =>
     obtain rfl:=Option.some.inj ho
     simp [k7]
     exact T.put 2 (by decide) (by decide) rfl rfl
    | 3,ho =>
     obtain rfl:=Option.some.inj ho
     have d1:D 1=true:=hdep ⟨1,.data⟩ (by simp) rfl
     have f1:ix t 53=some (.f (sl (encL fNod l))):=hT 1 (by decide) d1
     have d2:D 2=true:=hdep ⟨2,.data⟩ (by simp) rfl
     have f2:ix t 54=some (.f (intF i)):=hT 2 (by decide) d2
     simp [f1,f2,hn,fNod_eq,hlt]
     exact T.put 3 (by decide) (by decide) rfl rfl
    | 4,ho =>
     obtain rfl:=Option.some.inj ho
     have d3:D 3=true:=hdep ⟨3,.data⟩ (by simp) rfl
     have f3:ix t 55=some (.f (.fp (cNod n))):=hT 3 (by decide) d3
     simp [f3,cNod]
     exact T.put 4 (by decide) (by decide) rfl rfl
    | 5,ho =>
     obtain rfl:=Option.some.inj ho
     have d4:D 4=true:=hdep ⟨4,.data⟩ (by simp) rfl
     have f4:ix t 56=some (.f (.fp (fpCfalse n))):=hT 4 (by decide) d4
     simp [f4,fpCfalse]
     exact T.put 5 (by decide) (by decide) rfl rfl
    | 6,ho =>
     obtain rfl:=Option.some.inj ho
     simp [k2]
     exact T.put 6 (by decide) (by decide) rfl rfl
    | 7,ho =>
     obtain rfl:=Option.some.inj ho
     simp [k9]
     exact T.put 7 (by decide) (by decide) rfl rfl
    | 8,ho =>
     obtain rfl:=Option.some.inj ho
     have d6:D 6=true:=hdep ⟨6,.data⟩ (by simp) rfl
     have f6:ix t 58=some (.f (sl (encL fGd gs))):=hT 6 (by decide) d6
     have d7:D 7=true:=hdep ⟨7,.data⟩ (by simp) rfl
     have f7:ix t 59=some (.f (intF ((us.length:Int)+M.length))):=hT 7 (by decide) d7
     simp [f6,f7]
     refine call_g (runder_g gs .un _ false (by simp at hl1; omega)) ?_
     simp
     exact T.put 8 (by decide) (by decide) rfl rfl
    | (_+9),ho=>omega
   ·rintro D ⟨t,h,kk⟩ o hD T ho
    obtain rfl:=Option.some.inj ho
    obtain ⟨e1,e2,hl,hkp,hT⟩:=id T
    cases e1
    cases e2
    have f0:ix t 52=some (x3):=hT 0 (by decide) (hD 0 (by decide))
    have f5:ix t 57=some (.f (sl (encL fNod n.els.l))):=hT 5 (by decide) (hD 5 (by decide))
    have f8:ix t 60=some (.f (sl (encL fGd (gs ++ [⟨((us.length:Int)+M.length),false⟩])))):=hT 8 (by decide) (hD 8 (by decide))
    simp [f0,f5,f8]
    refine call_x (ih2 n hmem (gs ++ [⟨((us.length:Int)+M.length),false⟩]) ((us ++ (M ++ [unitOf n gs])) ++ T1) x3 t3 _ _ ho3 ?_ ?_) ?_
    ·rw [hc3]
     simp at hlen hle1 ⊢
     omega
    ·simp; omega
    rintro x3 _ k3 ⟨rfl,t3,ho3,hk3⟩
    simp
    have f1:ix (stT t 61 x3) 61=some x3:=by simp only [ix,stT]; rw [List.getElem?_set_self (by simp only at hl; omega)]
    simp [f1]
    refine ⟨x3,t3,k3,by simpa [hc3,Nat.add_assoc] using ho3,hk3,Sl.of (picks_of ?_) (by simpa [stT] using hl) rfl⟩
    intro p hp
    simp [keC] at hp
    rcases hp with rfl | rfl | rfl | rfl | rfl
    ·simp only [ix,stT]; rw [List.getElem?_set_self (by simp only [List.length_set] at hl ⊢; omega)]
    ·simp only [ix,stT]; rw [List.getElem?_set_ne (by decide),List.getElem?_set_ne (by decide)]; exact hkp (1,_) (by simp [keC])
    ·simp only [ix,stT]; rw [List.getElem?_set_ne (by decide),List.getElem?_set_ne (by decide)]; exact hkp (2,_) (by simp [keC])
    ·simp only [ix,stT]; rw [List.getElem?_set_ne (by decide),List.getElem?_set_ne (by decide)]; exact hkp (7,_) (by simp [keC])
    ·simp only [ix,stT]; rw [List.getElem?_set_ne (by decide),List.getElem?_set_ne (by decide)]; exact hkp (9,_) (by simp [keC])
   rintro _ ⟨ts,hh,kk4⟩ ⟨rfl,x4,t4,k4,ho4,hk4,rfl,rfl,ff4,rfl⟩
   rw [hc3] at ho4
   simp
   refine W.x mixed (by kernel_rfl) ?_
   simp [hw,keC]
   refine ⟨_,_,x4,t4,?_,?_,Sl.of rfl rfl rfl⟩
   ·rw [hnx]
    simpa using ho4
   ·simp only at hk hk2 hk3 hk4 ⊢
    omega
  ·obtain rfl:i=l.length:=by omega
   simp
   rw [List.take_length] at ho
   refine W.x mixed (by kernel_rfl) ?_
   simp
   exact ⟨.inr rfl,h,g,kk,[],x',rfl,rfl,(List.append_nil _).symm,hk,BelC.refl,.inl ⟨rfl,own_bel ho⟩,rfl,t',ho,hk⟩
theorem rbuild_g (d:PrgD) (hB:NodB d.control.l) (hc:(nodsPre d.control.l).length≤10000000) (hn:(ctlCheckW d).2=0→(bldL d.control.l [] 0).length≤100000):Gives Tryz.prog 18 [fPrg d] (ownF (encL fUnit (bldM d))):=by
 refine Gives.of mixed Tryz.func18 rfl rfl rfl (by kernel_rfl) ?_
 simp [fPrg,cPrg]
 refine call_g (rctl_g d hB hc) ?_
 generalize hv:bldM d=v
 unfold bldM at hv
 generalize ctlCheckW d=r at hv hn ⊢
 obtain ⟨r1,r2⟩:=r
 by_cases c1:r2=0
 case neg =>
  have hv:[]=v:=by rw [← hv]; exact (if_neg c1).symm
  subst hv
  simp [c1,encL,ownF]
 have hv:bldL d.control.l [] 0=v:=by rw [← hv]; exact (if_pos c1).symm
 simp [c1]
 refine call_x (GivesX.arg (rcollect_x d.control.l hB [] [] (.f (.sl [] .nil)) 0 _ [] .nil (by simpa using hn c1) (Nat.le_refl _)) (fun w L vals hr=>⟨hr.1,fun j y hj=>?_⟩)) ?_
 ·match j,hj with
  | 0,hj=>exact hr.2 0 y hj
  | 1,hj=>exact hr.2 1 y hj
  | 2,hj =>
   obtain rfl:AV.f (.sl [] .un)=y:=Option.some.inj hj
   obtain ⟨u,h1,h2⟩:=hr.2 2 _ rfl
   exact ⟨u,h1,weak_nil _ _ _ _ h2⟩
 rintro _ _ _ ⟨rfl,t,ho,hk⟩
 simp
 rw [ho.ret,← hv]
 rfl
theorem comB_comm (a b:List Int):comB a b=comB b a:=by
 unfold comB
 rw [Bool.eq_iff_iff]
 simp only [List.any_eq_true,beq_iff_eq]
 exact ⟨fun ⟨x,hx,y,hy,e⟩=>⟨y,hy,x,hx,e.symm⟩,fun ⟨x,hx,y,hy,e⟩=>⟨y,hy,x,hx,e.symm⟩⟩
theorem ownF_cap (l:List FV):∃ c,ownF l=.sl l c:=by
 unfold ownF
 split
 ·exact ⟨_,by rw [‹l=[]›]⟩
 ·exact ⟨_,rfl⟩
def WrU (d:PrgD) (us:List UnitD) (a:Nat):List Int:=match us[a]? with
 | some u=>ruWr d u
 | none=>[]
def RdU (d:PrgD) (us:List UnitD) (a:Nat):List Int:=match us[a]? with
 | some u=>ruRd d u
 | none=>[]
theorem WrU_at {d:PrgD} {us:List UnitD} {a:Nat} {u:UnitD} (h:us[a]?=some u):WrU d us a=ruWr d u:=by simp [WrU,h]
theorem RdU_at {d:PrgD} {us:List UnitD} {a:Nat} {u:UnitD} (h:us[a]?=some u):RdU d us a=ruRd d u:=by simp [RdU,h]
theorem rdepend_g (d:PrgD) (hn:NmOk d) (hC:PrgC d) (us:List UnitD) (c:Cap) (i j:Nat) (u v:UnitD) (hi:us[i]?=some u) (hj:us[j]?=some v) (hij:i < j) (hl:us.length≤100000)
  (gu:u.guards.l.length < 2^62) (gv:v.guards.l.length < 2^62) (cu:u.cond.l.length≤1000000) (cv:v.cond.l.length≤1000000) (wu:(ruWr d u).length < 2^62) (wv:(ruWr d v).length < 2^62) (ru:(ruRd d u).length < 2^62) (rv:(ruRd d v).length < 2^62) :
  Gives Tryz.prog 46 [fPrg d,.sl (encL fUnit us) c,intF i,intF j] (intF (depM (RdU d us) (WrU d us) us i j)):=by
 have li:i < us.length:=(List.getElem?_eq_some_iff.1 hi).1
 have lj:j < us.length:=(List.getElem?_eq_some_iff.1 hj).1
 obtain ⟨u',hu,hu'⟩:=nth_of li
 obtain ⟨v',hv,hv'⟩:=nth_of lj
 obtain rfl:u=u':=by rw [hi] at hu'; exact Option.some.inj hu'
 obtain rfl:v=v':=by rw [hj] at hv'; exact Option.some.inj hv'
 generalize hr:depM (RdU d us) (WrU d us) us i j=r
 unfold depM at hr
 rw [if_neg (by omega),hi,hj] at hr
 simp only [WrU_at hi,WrU_at hj,RdU_at hi,RdU_at hj] at hr
 have gw:=rwrites_g d hn hC u
 have gw':=rwrites_g d hn hC v
 have gr:=rreads_g d hn hC u cu
 have gr':=rreads_g d hn hC v cv
 obtain ⟨k1,e1⟩:=ownF_cap (encL intF (ruWr d u))
 obtain ⟨k2,e2⟩:=ownF_cap (encL intF (ruWr d v))
 obtain ⟨k3,e3⟩:=ownF_cap (encL intF (ruRd d u))
 obtain ⟨k4,e4⟩:=ownF_cap (encL intF (ruRd d v))
 rw [e1] at gw
 rw [e2] at gw'
 rw [e3] at gr
 rw [e4] at gr'
 have m1:=rcommon_g (ruRd d v) (ruWr d u) k4 k1 rv wu
 have m2:=rcommon_g (ruWr d v) (ruWr d u) k2 k1 wv wu
 have m3:=rcommon_g (ruRd d u) (ruWr d v) k3 k2 ru wv
 refine Gives.of mixed Tryz.func46 rfl rfl rfl (by kernel_rfl) ?_
 simp [fPrg,cPrg,hu,li,fUnit]
 refine call_g gw ?_
 simp
 refine call_g (rexcl_g us c i j u v hi hj gu gv) ?_
 by_cases c1:exclM u v=true
 ·rw [if_pos c1] at hr
  subst hr
  simp [c1]
 rw [if_neg c1] at hr
 have c1:exclM u v=false:=by simpa using c1
 simp [c1,hv,lj,fUnit]
 refine call_g (rguarded_g v i gv) ?_
 by_cases c2:(v.guards.l.any fun g=>g.unit == (i:Int))=true
 ·rw [if_pos (by simp [c2])] at hr
  subst hr
  simp [c2]
 have c2:(v.guards.l.any fun g=>g.unit == (i:Int))=false:=by simpa using c2
 simp [c2,hv,lj,fUnit]
 refine call_g gr' ?_
 simp
 refine call_g m1 ?_
 by_cases c3:comB (ruRd d v) (ruWr d u)=true
 ·rw [if_pos (by simp [c3])] at hr
  subst hr
  simp [c3]
 have c3:comB (ruRd d v) (ruWr d u)=false:=by simpa using c3
 simp [c3,hv,lj,fUnit]
 refine call_g gw' ?_
 simp
 refine call_g m2 ?_
 by_cases c4:comB (ruWr d v) (ruWr d u)=true
 ·rw [if_pos (by simp [c4])] at hr
  subst hr
  simp [c4]
 have c4:comB (ruWr d v) (ruWr d u)=false:=by simpa using c4
 rw [if_neg (by simp [c2,c3,c4])] at hr
 simp [c4,hu,hv,li,lj,fUnit]
 refine call_g gr ?_
 simp [hv,lj,fUnit]
 refine call_g gw' ?_
 simp
 refine call_g m3 ?_
 rw [comB_comm]
 generalize hb:comB (ruWr d v) (ruRd d u)=b at hr ⊢
 subst hr
 cases b <;> simp
end Go.Proofs.YtafenffmgpcjcaaGreat
