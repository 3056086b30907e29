/- Texts of the proof: GS11. -/
import Derived.Test.YtafenffmgpcjcaaGreatGS10
import Derived.Test.YtafenffmgpcjcaaGreatGS8
import Derived.Test.YtafenffmgpcjcaaGreatGS7
import Derived.Test.YtafenffmgpcjcaaGreatGS6
import Derived.Test.YtafenffmgpcjcaaGreatGS5
namespace Go.Proofs.YtafenffmgpcjcaaGreat
open Go.RowKit Go.Proofs.YtafenffmgpcjcaaGreat.Vf
set_option linter.unusedVariables false
set_option linter.unusedSimpArgs false
set_option maxRecDepth 100000
set_option maxHeartbeats 4000000
def bodyM (d:PrgD) (i:Int):List StD:=match (if i < 0 then none else d.acts.l[i.toNat]?) with
 | none=>[]
 | some a=>if (actCheckA d a).2=0 then a.body.l else []
theorem body_g (d:PrgD) (hn:NmOk d) (i:Int):∃ c,Gives Tryz.prog 222 [fPrg d,intF i] (.sl (encL fSt (bodyM d i)) c):=by
 have hg:=act_g d hn i
 rcases actAt (d:=d) i with ⟨c1,hr⟩ | ⟨c1,c2,hr⟩ | ⟨c1,c2,c3,a,ha,ha',hr⟩
 ·have hv:actCheck d i=(-1,8):=by unfold actCheck; rw [hr]
  have hb:bodyM d i=[]:=by unfold bodyM; rw [hr]
  rw [hv] at hg
  rw [hb]
  refine ⟨.nil,Gives.of mixed Tryz.func222 rfl rfl rfl (by kernel_rfl) ?_⟩
  simp [fPrg,cPrg]
  refine call_g hg ?_
  simp [encL]
 ·have hv:actCheck d i=(-1,8):=by unfold actCheck; rw [hr]
  have hb:bodyM d i=[]:=by unfold bodyM; rw [hr]
  rw [hv] at hg
  rw [hb]
  refine ⟨.nil,Gives.of mixed Tryz.func222 rfl rfl rfl (by kernel_rfl) ?_⟩
  simp [fPrg,cPrg]
  refine call_g hg ?_
  simp [encL]
 ·have hv:actCheck d i=actCheckA d a:=by unfold actCheck; rw [hr]
  have hb:bodyM d i=if (actCheckA d a).2=0 then a.body.l else []:=by unfold bodyM; rw [hr]
  rw [hv] at hg
  rw [hb]
  generalize actCheckA d a=r at hg ⊢
  obtain ⟨r1,r2⟩:=r
  by_cases c0:r2=0
  ·refine ⟨.un,Gives.of mixed Tryz.func222 rfl rfl rfl (by kernel_rfl) ?_⟩
   simp [fPrg,cPrg]
   refine call_g hg ?_
   simp [c0,(show (0:Int)≤i by omega),ha,c3]
  ·refine ⟨.nil,Gives.of mixed Tryz.func222 rfl rfl rfl (by kernel_rfl) ?_⟩
   simp [fPrg,cPrg]
   refine call_g hg ?_
   simp [c0,encL]
theorem mapO_imp {α β:Type} {f g:α→Option β} (h:∀ x y,f x=some y→g x=some y):∀ {l:List α} {r:List β},mapO f l=some r→mapO g l=some r
 | [],r,e=>e
 | x::l,r,e=>by
  simp only [mapO] at e ⊢
  cases hx:f x with
  | none=>simp [hx] at e
  | some y =>
   simp only [hx] at e
   cases hl:mapO f l with
   | none=>simp [hl] at e
   | some ys =>
    simp only [hl] at e
    rw [h x y hx,mapO_imp h hl]
    exact e
theorem fzH_up {n0:Nat} {h:List (List AV)}:∀ (n:Nat) {x:AV} {y:FV},fzH n0 h n x=some y→fzH n0 h (n+1) x=some y:=by
 intro n
 induction n with
 | zero =>
  intro x y e
  cases x <;> first | exact e | cases e
 | succ n ih =>
  intro x y e
  cases x with
  | agg cs =>
   simp only [fzH] at e ⊢
   cases hc:mapO (fzH n0 h n) cs with
   | none=>simp [hc] at e
   | some fs =>
    simp only [hc] at e
    rw [mapO_imp (fun a b=>ih) hc]; exact e
  | tup cs =>
   simp only [fzH] at e ⊢
   cases hc:mapO (fzH n0 h n) cs with
   | none=>simp [hc] at e
   | some fs =>
    simp only [hc] at e
    rw [mapO_imp (fun a b=>ih) hc]; exact e
  | ms b off len cap sz =>
   simp only [fzH] at e ⊢
   cases hb:ix h b with
   | none=>simp [hb] at e
   | some cs =>
    simp only [hb] at e ⊢
    split at e
    ·rename_i hcond
     rw [if_pos hcond]
     cases hc:mapO (fzH n0 h n) ((cs.drop off).take (len * sz)) with
     | none=>simp [hc] at e
     | some fs =>
      simp only [hc] at e
      rw [mapO_imp (fun a b=>ih) hc]; exact e
    ·cases e
  | _=>first | exact e | cases e
theorem fzH_le {n0:Nat} {h:List (List AV)} {n m:Nat} {x:AV} {y:FV} (hnm:n≤m) (e:fzH n0 h n x=some y):fzH n0 h m x=some y:=by
 induction hnm with
 | refl=>exact e
 | step _ ih=>exact fzH_up _ ih
theorem ret_tri {h:List (List AV)} {x0 x1 x2:AV} {a b c:FV} (h0:RetV h x0 (·=a)) (h1:RetV h x1 (·=b)) (h2:RetV h x2 (·=c)):RetV h (.tup [x0,x1,x2]) (·=.tup [a,b,c]):=by
 obtain ⟨n0,_,e0,rfl⟩:=h0
 obtain ⟨n1,_,e1,rfl⟩:=h1
 obtain ⟨n2,_,e2,rfl⟩:=h2
 refine ⟨n0+n1+n2+1,_,?_,rfl⟩
 simp only [fzH,mapO]
 rw [fzH_le (by omega) e0,fzH_le (by omega) e1,fzH_le (by omega) e2]
structure Tri where
 F:List FR
 M:List Int
 G:List Int
def triE (a:Tri) (l:List ExD):Tri:=⟨a.F ++ fldsM l,a.M ++ hdrsM l,a.G⟩
def triH (a:Tri) (h:Int):Tri:=⟨a.F,a.M ++ [h],a.G⟩
def triR (a:Tri) (r:Int):Tri:=⟨a.F,a.M,a.G ++ [r]⟩
def triF (a:Tri) (l:List FR):Tri:=⟨a.F ++ l,a.M,a.G⟩
def triC (a:Tri):Tri:=⟨canR a.F,canZ a.M,canZ a.G⟩
abbrev fTri (a:Tri):FV:=.tup [ownF (encL fRp a.F),ownF (encL intF a.M),ownF (encL intF a.G)]
def rdStep (a:Tri) (s:StD):Tri :=
 if s.kind=1 then (if s.dh=-1 then triE a s.value.l else triH (triE a s.value.l) s.dh)
 else if s.kind=2 then triH a s.hdr
 else if s.kind=4 then (if s.dh=-1 then triR (triE a s.index.l) s.reg else triH (triR (triE a s.index.l) s.reg) s.dh)
 else if s.kind=5 then triE (triE a s.index.l) s.value.l
 else a
def rdTo (l:List StD):Tri:=l.foldl rdStep ⟨[],[],[]⟩
def actRdM (d:PrgD) (i:Int):Tri:=triC (rdTo (bodyM d i))
theorem rdTo_next {l:List StD} {i:Nat} {s:StD} (h:l[i]?=some s):rdTo (l.take (i+1))=rdStep (rdTo (l.take i)) s:=by
 unfold rdTo
 rw [← take_one h,List.foldl_append]; rfl
def StOk (d:PrgD) (s:StD):Prop:=(s.kind=1∨s.kind=2∨s.kind=3∨s.kind=4∨s.kind=5)∧((s.kind=2∨s.kind=3)→0≤s.hdr∧s.hdr < d.headers.l.length) ∧
  ((s.kind=1∨s.kind=5)→s.value.l.length≤24)∧((s.kind=4∨s.kind=5)→s.index.l.length≤24)
theorem bodyM_ok (d:PrgD) (i:Int):(bodyM d i).length≤12∧∀ s ∈ bodyM d i,StOk d s:=by
 unfold bodyM
 split
 ·exact ⟨Nat.zero_le _,fun s hs=>by cases hs⟩
 ·rename_i a _
  split
  ·rename_i h
   obtain ⟨_,h2,h3⟩:=actC_of h
   exact ⟨h2,fun s hs=>stC_of (h3 s hs)⟩
  ·exact ⟨Nat.zero_le _,fun s hs=>by cases hs⟩
def triB (a:Tri) (n:Nat):Prop:=a.F.length≤n∧a.M.length≤n∧a.G.length≤n
theorem triB.e {a:Tri} {n m:Nat} {l:List ExD} (h:triB a n) (hl:l.length≤m):triB (triE a l) (n+m):=by
 have h1:=fldsM_len l
 have h2:=hdrsM_len l
 obtain ⟨a1,a2,a3⟩:=h
 refine ⟨?_,?_,?_⟩ <;> simp [triE] <;> omega
theorem triB.h {a:Tri} {n:Nat} {x:Int} (h:triB a n):triB (triH a x) (n+1):=by
 obtain ⟨a1,a2,a3⟩:=h
 refine ⟨?_,?_,?_⟩ <;> simp [triH] <;> omega
theorem triB.r {a:Tri} {n:Nat} {x:Int} (h:triB a n):triB (triR a x) (n+1):=by
 obtain ⟨a1,a2,a3⟩:=h
 refine ⟨?_,?_,?_⟩ <;> simp [triR] <;> omega
theorem triB.mono {a:Tri} {n m:Nat} (h:triB a n) (hn:n≤m):triB a m:=⟨Nat.le_trans h.1 hn,Nat.le_trans h.2.1 hn,Nat.le_trans h.2.2 hn⟩
theorem rdStep_b {d:PrgD} {a:Tri} {s:StD} {n:Nat} (h:triB a n) (hs:StOk d s):triB (rdStep a s) (n+50):=by
 obtain ⟨_,_,hv,hi⟩:=hs
 unfold rdStep
 split
 ·rename_i h1
  split
  ·exact (h.e (hv (.inl h1))).mono (by omega)
  ·exact (h.e (hv (.inl h1))).h.mono (by omega)
 split
 ·exact h.h.mono (by omega)
 split
 ·rename_i h1
  split
  ·exact (h.e (hi (.inl h1))).r.mono (by omega)
  ·exact (h.e (hi (.inl h1))).r.h.mono (by omega)
 split
 ·rename_i h1
  exact ((h.e (hi (.inr h1))).e (hv (.inr h1))).mono (by omega)
 ·exact h.mono (by omega)
theorem rdTo_b {d:PrgD} {l:List StD} (h:∀ s ∈ l,StOk d s) (i:Nat):triB (rdTo (l.take i)) (50 * i):=by
 induction i with
 | zero=>exact ⟨Nat.zero_le _,Nat.zero_le _,Nat.zero_le _⟩
 | succ i ih =>
  by_cases hi:i < l.length
  ·rw [rdTo_next (List.getElem?_eq_getElem hi)]
   exact rdStep_b ih (h _ (List.getElem_mem hi))
  ·rw [List.take_of_length_le (by omega)] at ih ⊢
   exact ih.mono (by omega)
def rdI (d:PrgD) (l:List StD) (c:Cap) (i:Nat) (s:St):Prop:=∃ g k x0 x1 x2 t0 t1 t2,Acc3 (rdTo (l.take i)).F (rdTo (l.take i)).M (rdTo (l.take i)).G k x0 x1 x2 t0 t1 t2 ∧
 Vf.Sl [(2,.ref 0 0),(7,.ref 1 0),(12,.f (.sl (encL fSt l) c)),(13,.f (intF l.length)),(14,.f (intF i))] 81 (aPrg d::[x0,x1,x2]::g) k s
theorem actReads_g (d:PrgD) (hn:NmOk d) (i:Int):Gives Tryz.prog 164 [fPrg d,intF i] (fTri (actRdM d i)):=by
 obtain ⟨c,hbody⟩:=body_g d hn i
 obtain ⟨hlen,hok⟩:=bodyM_ok d i
 generalize hl:bodyM d i=l at *
 have hv:actRdM d i=triC (rdTo l):=by unfold actRdM; rw [hl]
 rw [hv]
 clear hv hl
 refine Gives.of_Wd Tryz.func164 rfl rfl rfl (by decide) ?_
 refine Wd.two (W.x mixed (by kernel_rfl) ?_)
 simp [fPrg,cPrg]
 refine Wd.two (W.x mixed (by kernel_rfl) ?_)
 simp
 refine Wd.two (W.two (W.x mixed (by kernel_rfl) ?_))
 simp
 refine call_g hbody ?_
 simp
 refine W.blk (forW l.length (rdI d l c) ⟨[],[],.f (.sl [] .nil),.f (.sl [] .nil),.f (.sl [] .nil),0,0,0,Acc3.start,Sl.of rfl rfl rfl⟩ ?_)
 rintro j ⟨ts,hh,kk⟩ hj ⟨g,k,x0,x1,x2,t0,t1,t2,A,rfl,rfl,f,rfl⟩
 by_cases hlt:j < l.length
 case neg =>
  obtain rfl:j=l.length:=by omega
  rw [List.take_length] at A
  refine W.x mixed (by kernel_rfl) ?_
  simp
  refine Wd.two' (Wd.callD (L1:=[]) (L2:=[_,_,_,_,_,_]) rfl rfl rfl ?_)
  simp
  obtain ⟨b1,b2,b3⟩:=rdTo_b hok l.length
  rw [List.take_length] at b1 b2 b3
  refine ⟨_,_,rfl,_,sorted3_d (rdTo l).F (rdTo l).M (rdTo l).G (by omega) (by omega) (by omega) A.h0 A.h1 A.h2 (fun p q=>A.n01 (by simpa [encL] using p) (by simpa [encL] using q)) (fun p q=>A.n02 (by simpa [encL] using p) (by simpa [encL] using q)) (fun p q=>A.n12 (by simpa [encL] using p) (by simpa [encL] using q)) rfl,?_⟩
  rintro _ h' k' ⟨ts,h2,k2⟩ ⟨z0,z1,z2,rfl,r0,r1,r2⟩ ⟨rfl,rfl,ff,rfl⟩
  simp
  refine Wd.x mixed (by kernel_rfl) ?_
  simp [-retV_tup]
  exact ret_tri r0 r1 r2
 obtain ⟨y,hy,hy'⟩:=nth_of hlt
 have hw:=wrap64 (x:=(j:Int)+1) (by omega) (by omega)
 obtain ⟨b1,b2,b3⟩:=rdTo_b hok j
 have hs:=hok y (List.mem_of_getElem? hy')
 have hnx:=rdTo_next hy'
 generalize rdTo (l.take j)=T at *
 refine W.two (W.x mixed (by kernel_rfl) ?_)
 simp [hlt]
 refine W.two (W.x mixed (by kernel_rfl) ?_)
 simp
 refine W.two (W.blk (W.two (W.x mixed (by kernel_rfl) ?_)))
 simp [hy,hlt]
 refine W.x mixed (by kernel_rfl) ?_
 obtain ⟨hkind,_,hval,hidx⟩:=hs
 rcases hkind with h1 | h1 | h1 | h1 | h1
 ·have hvl:=hval (.inl h1)
  simp [h1]
  refine call_x (expr_x T.F T.M T.G y.value.l .un A rfl (by omega) (by omega) (by omega)) ?_
  rintro _ _ _ ⟨rfl,y0,y1,u0,u1,rfl,A1⟩
  by_cases hd:y.dh=-1
  ·have hr:rdStep T y=triE T y.value.l:=by rw [rdStep,if_pos h1,if_pos hd]
   rw [hr] at hnx
   simp [hd]
   refine W.x mixed (by kernel_rfl) ?_
   simp [hw]
   exact ⟨_,_,_,_,_,_,_,_,by rw [hnx]; exact A1,Sl.of rfl rfl rfl⟩
  ·have hr:rdStep T y=triH (triE T y.value.l) y.dh:=by rw [rdStep,if_pos h1,if_neg hd]
   rw [hr] at hnx
   have q2:=hdrsM_len y.value.l
   simp [hd,-opAppend,-opStore]
   obtain ⟨z1,v1,k2,e2,A2,hk2⟩:=A1.app1 (M2:=[y.dh]) (y:=.f (.sl [intF y.dh] .full)) rfl (by simp; omega)
   rw [e2]
   simp [-opStore]
   rw [store_own ty29 rfl (cs:=[y0,y1,x2]) rfl (by simp) A2.h1]
   simp
   refine W.x mixed (by kernel_rfl) ?_
   simp [hw]
   exact ⟨_,_,_,_,_,_,_,_,by rw [hnx]; exact A2,Sl.of rfl rfl rfl⟩
 ·have hr:rdStep T y=triH T y.hdr:=by rw [rdStep,if_neg (by omega),if_pos h1]
  rw [hr] at hnx
  simp [h1,-opAppend,-opStore]
  obtain ⟨z1,v1,k2,e2,A2,hk2⟩:=A.app1 (M2:=[y.hdr]) (y:=.f (.sl [intF y.hdr] .full)) rfl (by simp; omega)
  rw [e2]
  simp [-opStore]
  rw [store_own ty29 rfl (cs:=[x0,x1,x2]) rfl (by simp) A2.h1]
  simp [h1]
  refine W.x mixed (by kernel_rfl) ?_
  simp [hw]
  exact ⟨_,_,_,_,_,_,_,_,by rw [hnx]; exact A2,Sl.of rfl rfl rfl⟩
 ·have hr:rdStep T y=T:=by rw [rdStep,if_neg (by omega),if_neg (by omega),if_neg (by omega),if_neg (by omega)]
  rw [hr] at hnx
  simp [h1]
  refine W.x mixed (by kernel_rfl) ?_
  simp [hw]
  exact ⟨_,_,_,_,_,_,_,_,by rw [hnx]; exact A,Sl.of rfl rfl rfl⟩
 ·have hvl:=hidx (.inl h1)
  simp [h1]
  refine call_x (expr_x T.F T.M T.G y.index.l .un A rfl (by omega) (by omega) (by omega)) ?_
  rintro _ _ _ ⟨rfl,y0,y1,u0,u1,rfl,A1⟩
  simp [-opAppend,-opStore]
  obtain ⟨z2,v2,k2,e2,A2,hk2⟩:=A1.app2 (G2:=[y.reg]) (y:=.f (.sl [intF y.reg] .full)) rfl (by simp; omega)
  rw [e2]
  simp [-opStore]
  rw [store_own ty29 rfl (cs:=[y0,y1,x2]) rfl (by simp) A2.h2]
  by_cases hd:y.dh=-1
  ·have hr:rdStep T y=triR (triE T y.index.l) y.reg:=by rw [rdStep,if_neg (by omega),if_neg (by omega),if_pos h1,if_pos hd]
   rw [hr] at hnx
   simp [h1,hd]
   refine W.x mixed (by kernel_rfl) ?_
   simp [hw]
   exact ⟨_,_,_,_,_,_,_,_,by rw [hnx]; exact A2,Sl.of rfl rfl rfl⟩
  ·have hr:rdStep T y=triH (triR (triE T y.index.l) y.reg) y.dh:=by rw [rdStep,if_neg (by omega),if_neg (by omega),if_pos h1,if_neg hd]
   rw [hr] at hnx
   have q2:=hdrsM_len y.index.l
   simp [h1,hd,-opAppend,-opStore]
   obtain ⟨z1,v1,k3,e3,A3,hk3⟩:=A2.app1 (M2:=[y.dh]) (y:=.f (.sl [intF y.dh] .full)) rfl (by simp; omega)
   rw [e3]
   simp [-opStore]
   rw [store_own ty29 rfl (cs:=[y0,y1,z2]) rfl (by simp) A3.h1]
   simp
   refine W.x mixed (by kernel_rfl) ?_
   simp [hw]
   exact ⟨_,_,_,_,_,_,_,_,by rw [hnx]; exact A3,Sl.of rfl rfl rfl⟩
 ·have hr:rdStep T y=triE (triE T y.index.l) y.value.l:=by rw [rdStep,if_neg (by omega),if_neg (by omega),if_neg (by omega),if_pos h1]
  rw [hr] at hnx
  have hvl:=hval (.inr h1)
  have hvi:=hidx (.inr h1)
  have q1:=fldsM_len y.index.l
  have q2:=hdrsM_len y.index.l
  simp [h1]
  refine call_x (expr_x T.F T.M T.G y.index.l .un A rfl (by omega) (by omega) (by omega)) ?_
  rintro _ _ _ ⟨rfl,y0,y1,u0,u1,rfl,A1⟩
  simp
  refine call_x (expr_x _ _ _ y.value.l .un A1 rfl (by omega) (by simp; omega) (by simp; omega)) ?_
  rintro _ _ _ ⟨rfl,z0,z1,v0,v1,rfl,A2⟩
  simp [h1]
  refine W.x mixed (by kernel_rfl) ?_
  simp [hw]
  exact ⟨_,_,_,_,_,_,_,_,by rw [hnx]; exact A2,Sl.of rfl rfl rfl⟩
def nFld (d:PrgD) (h:Int):Nat:=match d.headers.l[h.toNat]? with
 | some x=>x.fields.l.length
 | none=>0
def hdrRefs (h:Int) (n:Nat):List FR:=(List.range n).map fun (i:Nat)=>((h,(i:Int)):Int × Int)
def wrStep (d:PrgD) (a:Tri) (s:StD):Tri :=
 if s.kind=1∨s.kind=4 then triF a [(s.dh,s.df)]
 else if s.kind=2∨s.kind=3 then triF (triH a s.hdr) (hdrRefs s.hdr (nFld d s.hdr))
 else if s.kind=5 then triR a s.reg
 else a
def wrTo (d:PrgD) (l:List StD):Tri:=l.foldl (wrStep d) ⟨[],[],[]⟩
def actWrM (d:PrgD) (i:Int):Tri:=triC (wrTo d (bodyM d i))
theorem wrTo_next {d:PrgD} {l:List StD} {i:Nat} {s:StD} (h:l[i]?=some s):wrTo d (l.take (i+1))=wrStep d (wrTo d (l.take i)) s:=by
 unfold wrTo
 rw [← take_one h,List.foldl_append]; rfl
theorem triB.f {a:Tri} {n m:Nat} {l:List FR} (h:triB a n) (hl:l.length≤m):triB (triF a l) (n+m):=by
 obtain ⟨a1,a2,a3⟩:=h
 refine ⟨?_,?_,?_⟩ <;> simp [triF] <;> omega
theorem nFld_le {d:PrgD} (hF:∀ x ∈ d.headers.l,x.fields.l.length≤1000) (h:Int):nFld d h≤1000:=by
 unfold nFld
 split
 ·rename_i x hx
  exact hF x (List.mem_of_getElem? hx)
 ·omega
theorem hdrRefs_len (h:Int) (n:Nat):(hdrRefs h n).length=n:=by simp [hdrRefs]
theorem hdrRefs_next (h:Int) (n:Nat):hdrRefs h (n+1)=hdrRefs h n ++ [(h,(n:Int))]:=by simp [hdrRefs,List.range_succ]
theorem wrStep_b {d:PrgD} (hF:∀ x ∈ d.headers.l,x.fields.l.length≤1000) {a:Tri} {s:StD} {n:Nat} (h:triB a n):triB (wrStep d a s) (n+1001):=by
 unfold wrStep
 split
 ·exact (h.f (m:=1) (Nat.le_refl _)).mono (by omega)
 split
 ·exact (h.h.f (m:=1000) (by rw [hdrRefs_len]; exact nFld_le hF _)).mono (by omega)
 split
 ·exact h.r.mono (by omega)
 ·exact h.mono (by omega)
theorem wrTo_b {d:PrgD} (hF:∀ x ∈ d.headers.l,x.fields.l.length≤1000) (l:List StD) (i:Nat):triB (wrTo d (l.take i)) (1001 * i):=by
 induction i with
 | zero=>exact ⟨Nat.zero_le _,Nat.zero_le _,Nat.zero_le _⟩
 | succ i ih =>
  by_cases hi:i < l.length
  ·rw [wrTo_next (List.getElem?_eq_getElem hi)]
   exact wrStep_b hF ih
  ·rw [List.take_of_length_le (by omega)] at ih ⊢
   exact ih.mono (by omega)
def wrI (d:PrgD) (l:List StD) (c:Cap) (i:Nat) (s:St):Prop:=∃ g k x0 x1 x2 t0 t1 t2,Acc3 (wrTo d (l.take i)).F (wrTo d (l.take i)).M (wrTo d (l.take i)).G k x0 x1 x2 t0 t1 t2 ∧
 Vf.Sl [(2,.ref 0 0),(7,.ref 1 0),(13,.f (.sl (encL fSt l) c)),(14,.f (intF l.length)),(15,.f (intF i))] 76 (aPrg d::[x0,x1,x2]::g) k s
def wrJ (d:PrgD) (l:List StD) (c:Cap) (i:Nat) (T:Tri) (y:StD) (K:Int) (n:Nat) (g:List (List AV)) (q:Nat) (s:St):Prop:=∃ k x0 x1 x2 t0 t1 t2,Acc3 (T.F ++ hdrRefs y.hdr q) T.M T.G k x0 x1 x2 t0 t1 t2 ∧
 Vf.Sl [(2,.ref 0 0),(7,.ref 1 0),(9,.ref (g.length+1+1) 0),(13,.f (.sl (encL fSt l) c)),(14,.f (intF l.length)),(15,.f (intF i)),(48,.f (intF n)),(49,.f (intF q))] 76 (aPrg d::[x0,x1,x2]::(g ++ [[.f (intF K),.f (intF y.dh),.f (intF y.df),.f (intF y.reg),.f (intF y.hdr),.f (sl (encL fEx y.index.l)),.f (sl (encL fEx y.value.l))]])) k s
theorem actWrites_g (d:PrgD) (hn:NmOk d) (hF:∀ x ∈ d.headers.l,x.fields.l.length≤1000) (i:Int):Gives Tryz.prog 165 [fPrg d,intF i] (fTri (actWrM d i)):=by
 obtain ⟨c,hbody⟩:=body_g d hn i
 obtain ⟨hlen,hok⟩:=bodyM_ok d i
 generalize hl:bodyM d i=l at *
 have hv:actWrM d i=triC (wrTo d l):=by unfold actWrM; rw [hl]
 rw [hv]
 clear hv hl
 refine Gives.of_Wd Tryz.func165 rfl rfl rfl (by decide) ?_
 refine Wd.two (W.x mixed (by kernel_rfl) ?_)
 simp [fPrg,cPrg]
 refine Wd.two (W.x mixed (by kernel_rfl) ?_)
 simp
 refine Wd.two (W.two (W.x mixed (by kernel_rfl) ?_))
 simp
 refine call_g hbody ?_
 simp
 refine W.blk (forW l.length (wrI d l c) ⟨[],[],.f (.sl [] .nil),.f (.sl [] .nil),.f (.sl [] .nil),0,0,0,Acc3.start,Sl.of rfl rfl rfl⟩ ?_)
 rintro j ⟨ts,hh,kk⟩ hj ⟨g,k,x0,x1,x2,t0,t1,t2,A,rfl,rfl,f,rfl⟩
 by_cases hlt:j < l.length
 case neg =>
  obtain rfl:j=l.length:=by omega
  rw [List.take_length] at A
  refine W.x mixed (by kernel_rfl) ?_
  simp
  refine Wd.two' (Wd.callD (L1:=[]) (L2:=[_,_,_,_,_,_]) rfl rfl rfl ?_)
  simp
  obtain ⟨b1,b2,b3⟩:=wrTo_b hF l l.length
  rw [List.take_length] at b1 b2 b3
  refine ⟨_,_,rfl,_,sorted3_d (wrTo d l).F (wrTo d l).M (wrTo d l).G (by omega) (by omega) (by omega) A.h0 A.h1 A.h2 (fun p q=>A.n01 (by simpa [encL] using p) (by simpa [encL] using q)) (fun p q=>A.n02 (by simpa [encL] using p) (by simpa [encL] using q)) (fun p q=>A.n12 (by simpa [encL] using p) (by simpa [encL] using q)) rfl,?_⟩
  rintro _ h' k' ⟨ts,h2,k2⟩ ⟨z0,z1,z2,rfl,r0,r1,r2⟩ ⟨rfl,rfl,ff,rfl⟩
  simp
  refine Wd.x mixed (by kernel_rfl) ?_
  simp [-retV_tup]
  exact ret_tri r0 r1 r2
 obtain ⟨y,hy,hy'⟩:=nth_of hlt
 have hw:=wrap64 (x:=(j:Int)+1) (by omega) (by omega)
 obtain ⟨b1,b2,b3⟩:=wrTo_b hF l j
 have hs:=hok y (List.mem_of_getElem? hy')
 have hnx:=wrTo_next (d:=d) hy'
 generalize wrTo d (l.take j)=T at *
 refine W.two (W.x mixed (by kernel_rfl) ?_)
 simp [hlt]
 refine W.two (W.x mixed (by kernel_rfl) ?_)
 simp
 refine W.two (W.blk (W.two (W.x mixed (by kernel_rfl) ?_)))
 simp [hy,hlt]
 refine W.x mixed (by kernel_rfl) ?_
 obtain ⟨hkind,hhdr,_,_⟩:=hs
 have h14:(y.kind=1∨y.kind=4)∨(y.kind=2∨y.kind=3)∨y.kind=5:=by omega
 rcases h14 with h1 | h1 | h1
 ·have hr:wrStep d T y=triF T [(y.dh,y.df)]:=by rw [wrStep,if_pos h1]
  rw [hr] at hnx
  obtain ⟨z0,v0,k2,e2,A2,hk2⟩:=A.app0 (F2:=[(y.dh,y.df)]) (y:=.f (.sl [fRef y.dh y.df] .full)) rfl (by simp; omega)
  rcases h1 with h1 | h1
  ·simp [h1,-opAppend,-opStore]
   rw [e2]
   simp [-opStore]
   rw [store_own ty187 rfl (cs:=[x0,x1,x2]) rfl (by simp) A2.h0]
   simp
   refine W.x mixed (by kernel_rfl) ?_
   simp [hw]
   exact ⟨_,_,_,_,_,_,_,_,by rw [hnx]; exact A2,Sl.of rfl rfl rfl⟩
  ·simp [h1,-opAppend,-opStore]
   rw [e2]
   simp [-opStore]
   rw [store_own ty187 rfl (cs:=[x0,x1,x2]) rfl (by simp) A2.h0]
   simp
   refine W.x mixed (by kernel_rfl) ?_
   simp [hw]
   exact ⟨_,_,_,_,_,_,_,_,by rw [hnx]; exact A2,Sl.of rfl rfl rfl⟩
 ·have hr:wrStep d T y=triF (triH T y.hdr) (hdrRefs y.hdr (nFld d y.hdr)):=by rw [wrStep,if_neg (by omega),if_pos h1]
  rw [hr] at hnx
  obtain ⟨p1,p2⟩:=hhdr h1
  have p3:y.hdr.toNat < d.headers.l.length:=by omega
  obtain ⟨hd,hhd,hhd'⟩:=nth_of p3
  have hnf:nFld d y.hdr=hd.fields.l.length:=by unfold nFld; rw [hhd']
  have hnle:=nFld_le hF y.hdr
  obtain ⟨z1,v1,k2,e2,A2,hk2⟩:=A.app1 (M2:=[y.hdr]) (y:=.f (.sl [intF y.hdr] .full)) rfl (by simp; omega)
  have hk:(y.kind=2∨y.kind=3):=h1
  rw [hnf] at hnle
  have hA2:Acc3 ((triH T y.hdr).F ++ hdrRefs y.hdr 0) (triH T y.hdr).M (triH T y.hdr).G k2 x0 z1 x2 t0 v1 t2:=by simpa [hdrRefs,triH] using A2
  rcases h1 with h1 | h1
  all_goals
   simp [h1,-opAppend,-opStore]
   rw [e2]
   simp [-opStore]
   rw [store_own ty29 rfl (cs:=[x0,x1,x2]) rfl (by simp) A2.h1]
   simp [aPrg,p1,p3,hhd]
   refine forW hd.fields.l.length (wrJ d l c j (triH T y.hdr) y _ hd.fields.l.length g) ⟨_,_,_,_,_,_,_,hA2,Sl.of rfl rfl rfl⟩ ?_
   rintro q ⟨ts2,h2,k3⟩ hq ⟨k4,w0,w1,w2,s0,s1,s2,A3,rfl,rfl,ff,rfl⟩
   by_cases hql:q < hd.fields.l.length
   ·have hwq:=wrap64 (x:=(q:Int)+1) (by omega) (by omega)
    obtain ⟨z0,v0,k5,e3,A4,hk5⟩:=A3.app0 (F2:=[(y.hdr,(q:Int))]) (y:=.f (.sl [fRef y.hdr q] .full)) rfl (by rw [List.length_append,hdrRefs_len]; simp [triH]; omega)
    rw [List.append_assoc,← hdrRefs_next] at A4
    refine W.x mixed (by kernel_rfl) ?_
    simp [hql,-opAppend,-opStore]
    rw [e3]
    simp [-opStore]
    rw [store_own ty187 rfl (cs:=[w0,w1,w2]) rfl (by simp) A4.h0]
    simp [hwq]
    exact ⟨_,_,_,_,_,_,_,A4,Sl.of rfl rfl rfl⟩
   ·obtain rfl:q=hd.fields.l.length:=by omega
    rw [← hnf] at A3
    refine W.x mixed (by kernel_rfl) ?_
    simp
    refine W.x mixed (by kernel_rfl) ?_
    simp [hw]
    exact ⟨_,_,_,_,_,_,_,_,by rw [hnx]; exact A3,Sl.of rfl rfl rfl⟩
 ·have hr:wrStep d T y=triR T y.reg:=by rw [wrStep,if_neg (by omega),if_neg (by omega),if_pos h1]
  rw [hr] at hnx
  obtain ⟨z0,v0,k2,e2,A2,hk2⟩:=A.app2 (G2:=[y.reg]) (y:=.f (.sl [intF y.reg] .full)) rfl (by simp; omega)
  simp [h1,-opAppend,-opStore]
  rw [e2]
  simp [-opStore]
  rw [store_own ty29 rfl (cs:=[x0,x1,x2]) rfl (by simp) A2.h2]
  simp
  refine W.x mixed (by kernel_rfl) ?_
  simp [hw]
  exact ⟨_,_,_,_,_,_,_,_,by rw [hnx]; exact A2,Sl.of rfl rfl rfl⟩
def putM (L:List Int) (n:Int):List Int:=if 0≤n then L ++ [n] else L
theorem putM_len (L:List Int) (n:Int):(putM L n).length≤L.length+1:=by unfold putM; split <;> simp
theorem append_z {k:List (Nat × Nat)} {L:List Int} {x:AV} {t:Nat} (n:Int) (h:OwnT k (encL intF L) 1 x t) (hb:L.length≤4000000) :
  ∃ x' t' k',opAppend (tyOf Tryz.prog) k 29 x (.f (.sl [intF n] .full))=some (x',k')∧OwnT k' (encL intF (L ++ [n])) 1 x' t'∧k.length≤k'.length:=by
 obtain ⟨x',t',k',e,ho,hl,_⟩:=append_own0 ty29 ty3 (by simp) h (y:=.f (.sl [intF n] .full)) rfl (by simp) (by simp; omega) (by simp; omega)
 exact ⟨x',t',k',e,by rw [encL,List.map_append]; exact ho,hl⟩
theorem aPrg_bel {d:PrgD} {n m:Nat} {x:AV} (hx:Bel n m x):∀ z ∈ aPrg d ++ [x],Bel n m z:=fun z hz=>by
 rcases List.mem_append.1 hz with h | h
 ·simp only [aPrg,List.mem_cons,List.not_mem_nil,or_false] at h
  rcases h with rfl | rfl | rfl | rfl | rfl | rfl | rfl | rfl | rfl <;> exact .f _
 ·obtain rfl:=List.mem_singleton.1 h; exact hx
theorem retR_drop {T:TV} {h0 h' g:List (List AV)} {k0 kk:List (Nat × Nat)} {R:AV→List (List AV)→List (Nat × Nat)→Prop} {t:List AV} {e:Exit} (he:e=.normal∨e=.ret) (hl:h'.length=h0.length) (hk:k0.length≤kk.length) (hb:BelC h0 h' kk.length) (hR:R (.tup []) h' kk):RetR T [] h0 k0 R e ⟨t,h' ++ g,kk⟩ :=
 ⟨he,h',g,kk,[],.tup [],rfl,hl,(List.append_nil _).symm,hk,hb,.inl ⟨rfl,.tup [] fun j y h=>by simp at h⟩,hR⟩
def ColR (d:PrgD) (b:Nat) (L:List Int) (h:List (List AV)) (k:List (Nat × Nat)):AV→List (List AV)→List (Nat × Nat)→Prop:=fun y h' k' =>
 y=.tup []∧∃ x' t',h'=h.set b (aPrg d ++ [x'])∧OwnT k' (encL intF L) 1 x' t'∧k.length≤k'.length
theorem put_x (d:PrgD) (n:Int) (L:List Int) {h:List (List AV)} {k:List (Nat × Nat)} {bc b t:Nat} {x:AV} (hc:ix h bc=some [.ref b 0]) (hb:ix h b=some (aPrg d ++ [x])) (ho:OwnT k (encL intF L) 1 x t) (hl:L.length≤4000000) :
  GivesX Tryz.prog 211 [.f (intF n),.ref bc 0] h k (ColR d b (putM L n) h k):=by
 have hbl:b < h.length:=(List.getElem?_eq_some_iff.1 hb).1
 refine GivesX.of_W Tryz.func211 rfl rfl rfl (by decide) ?_
 by_cases hn:0≤n
 ·obtain ⟨x',t',k',e,ho',hk'⟩:=append_z n ho hl
  have hp:putM L n=L ++ [n]:=if_pos hn
  refine W.x mixed (by kernel_rfl) ?_
  simp [hn,hc,hb,aPrg,-opAppend,-opStore]
  rw [e]
  simp [-opStore]
  rw [store_own ty29 rfl hb (by simp [aPrg]) ho']
  simp
  exact retR_none (.inl rfl) (by simp) hk' (.set (aPrg_bel (own_bel ho'))) ⟨rfl,_,t',rfl,by rw [hp]; exact ho',hk'⟩
 ·have hp:putM L n=L:=if_neg hn
  have hself:h.set b (aPrg d ++ [x])=h:=by
   apply List.ext_getElem?
   intro q
   by_cases e:b=q
   ·subst e; rw [List.getElem?_set_self hbl]; exact hb.symm
   ·rw [List.getElem?_set_ne e]
  refine W.x mixed (by kernel_rfl) ?_
  simp [hn]
  exact retR_none (.inl rfl) rfl (Nat.le_refl _) .refl ⟨rfl,x,t,hself.symm,by rw [hp]; exact ho,Nat.le_refl _⟩
def putAll {α:Type} (f:α→Int) (L:List Int) (l:List α):List Int:=(l.map f).foldl putM L
theorem putAll_next {α:Type} {f:α→Int} {L:List Int} {l:List α} {i:Nat} {x:α} (h:l[i]?=some x):putAll f L (l.take (i+1))=putM (putAll f L (l.take i)) (f x):=by
 unfold putAll
 rw [← take_one h,List.map_append,List.foldl_append]; rfl
theorem putAll_len {α:Type} (f:α→Int) (l:List α):∀ L:List Int,(putAll f L l).length≤L.length+l.length:=by
 induction l with
 | nil=>intro L; exact Nat.le_refl _
 | cons x l ih =>
  intro L
  have h1:=ih (putM L (f x))
  have h2:=putM_len L (f x)
  show (putAll f (putM L (f x)) l).length≤_
  simp only [List.length_cons]
  omega
def addM (d:PrgD) (L:List Int) (T:Tri):List Int:=putAll (cellM d 3) (putAll (cellM d 1) (putAll (fun r:FR=>fieldCell d r.1 r.2) L T.F) T.M) T.G
def caI {α:Type} (d:PrgD) (enc:α→FV) (f:α→Int) (L:List Int) (l:List α) (sl0:AV) (hs:List AV) (h:List (List AV)) (k:List (Nat × Nat)) (b s0 i:Nat) (s:St):Prop:=∃ g k' x t,OwnT k' (encL intF (putAll f L (l.take i))) 1 x t∧k.length≤k'.length ∧
 Vf.Sl [(2,hs.headD undefA),(3,(hs.drop 1).headD undefA),(4,.ref h.length 0),(8,.fnr 211 [.ref h.length 0]),(s0,sl0),(s0+1,.f (intF l.length)),(s0+2,.f (intF i))] 61 (h.set b (aPrg d ++ [x]) ++ ([.ref b 0]::g)) k' s
theorem colAdd_x (d:PrgD) (hS:PrgS d) (L:List Int) (T:Tri) (c0 c1 c2:Cap) {h:List (List AV)} {k:List (Nat × Nat)} {b t:Nat} {x:AV} (hb:ix h b=some (aPrg d ++ [x])) (ho:OwnT k (encL intF L) 1 x t) (hL:L.length≤1000000) (hT:triB T 1000000) :
  GivesX Tryz.prog 159 [.ref b 0,.f (.sl (encL fRp T.F) c0),.f (.sl (encL intF T.M) c1),.f (.sl (encL intF T.G) c2)] h k (ColR d b (addM d L T) h k):=by
 have hbl:b < h.length:=(List.getElem?_eq_some_iff.1 hb).1
 obtain ⟨lF,lM,lG⟩:=hT
 have hself:h.set b (aPrg d ++ [x])=h:=by
  apply List.ext_getElem?
  intro q
  by_cases e:b=q
  ·subst e; rw [List.getElem?_set_self hbl]; exact hb.symm
  ·rw [List.getElem?_set_ne e]
 have x0:∀ c r,ix (h.set b c ++ r) b=some c:=fun c r=>by
  show (h.set b c ++ r)[b]?=_
  rw [List.getElem?_append_left (by simpa using hbl),List.getElem?_set_self hbl]
 have x1:∀ c r n,ix (h.set b c ++ r) (h.length+n)=ix r n:=fun c r n=>by
  have:=ix_appn (l:=h.set b c) (m:=r) (n:=n)
  rwa [List.length_set] at this
 have x2:∀ c r,ix (h.set b c ++ r) h.length=ix r 0:=fun c r=>x1 c r 0
 have x3:∀ c c' r,(h.set b c ++ r).set b c'=h.set b c' ++ r:=fun c c' r=>by
  rw [List.set_append_left _ _ (by simpa using hbl),List.set_set]
 refine GivesX.of_W Tryz.func159 rfl rfl rfl (by decide) ?_
 refine W.two (W.x mixed (by kernel_rfl) ?_)
 simp
 refine W.two (W.x mixed (by kernel_rfl) ?_)
 simp
 refine W.two (W.two (W.x mixed (by kernel_rfl) ?_))
 simp
 refine W.blk (forW T.F.length (caI d fRp (fun r:FR=>fieldCell d r.1 r.2) L T.F (.f (.sl (encL fRp T.F) c0)) [.f (.sl (encL intF T.M) c1),.f (.sl (encL intF T.G) c2)] h k b 16) ⟨[],k,x,t,ho,Nat.le_refl _,by rw [hself]; exact Sl.of rfl rfl rfl⟩ ?_)
 rintro i ⟨ts,hh,kk⟩ hi ⟨g,k',x,t,ho,hk,rfl,rfl,f,rfl⟩
 by_cases hlt:i < T.F.length
 ·obtain ⟨y,hy,hy'⟩:=nth_of hlt
  have hw:=wrap64 (x:=(i:Int)+1) (by omega) (by omega)
  have hpl:=putAll_len (fun r:FR=>fieldCell d r.1 r.2) (T.F.take i) L
  rw [List.length_take] at hpl
  refine W.x mixed (by kernel_rfl) ?_
  simp [hlt,hy,aPrg,x0,x1,x2,x3]
  refine call_g (fieldCell_g d hS y.1 y.2) ?_
  simp
  refine ⟨_,put_x d (fieldCell d y.1 y.2) (putAll (fun r:FR=>fieldCell d r.1 r.2) L (T.F.take i)) (x2 _ _) (x0 _ _) ho (by omega),?_⟩
  rintro _ _ k2 ⟨rfl,x',t',rfl,ho',hk'⟩
  rw [x3]
  simp [hw]
  have hkk:k.length≤k2.length:=Nat.le_trans hk hk'
  exact ⟨_,_,_,_,by rw [putAll_next hy']; exact ho',hkk,Sl.of rfl rfl rfl⟩
 obtain rfl:i=T.F.length:=by omega
 rw [List.take_length] at ho
 have hp1:=putAll_len (fun r:FR=>fieldCell d r.1 r.2) T.F L
 have hadd:addM d L T=putAll (cellM d 3) (putAll (cellM d 1) (putAll (fun r:FR=>fieldCell d r.1 r.2) L T.F) T.M) T.G:=rfl
 generalize putAll (fun r:FR=>fieldCell d r.1 r.2) L T.F=L1 at *
 refine W.x mixed (by kernel_rfl) ?_
 simp
 refine W.two (W.two (W.x mixed (by kernel_rfl) ?_))
 simp
 refine W.blk (forW T.M.length (caI d intF (cellM d 1) L1 T.M (.f (.sl (encL intF T.M) c1)) [.f (.sl (encL intF T.M) c1),.f (.sl (encL intF T.G) c2)] h k b 31) ⟨g,_,x,t,ho,hk,Sl.of rfl rfl rfl⟩ ?_)
 clear hlt hi ho hk
 rintro i ⟨ts,hh,kk⟩ hi ⟨g,k',x,t,ho,hk,rfl,rfl,f,rfl⟩
 by_cases hlt:i < T.M.length
 ·obtain ⟨y,hy,hy'⟩:=nth_of hlt
  have hw:=wrap64 (x:=(i:Int)+1) (by omega) (by omega)
  have hpl:=putAll_len (cellM d 1) (T.M.take i) L1
  rw [List.length_take] at hpl
  refine W.x mixed (by kernel_rfl) ?_
  simp [hlt,hy,aPrg,x0,x1,x2,x3]
  refine call_g (validCell_g d hS y) ?_
  simp
  refine ⟨_,put_x d (cellM d 1 y) (putAll (cellM d 1) L1 (T.M.take i)) (x2 _ _) (x0 _ _) ho (by omega),?_⟩
  rintro _ _ k2 ⟨rfl,x',t',rfl,ho',hk'⟩
  rw [x3]
  simp [hw]
  have hkk:k.length≤k2.length:=Nat.le_trans hk hk'
  exact ⟨_,_,_,_,by rw [putAll_next hy']; exact ho',hkk,Sl.of rfl rfl rfl⟩
 obtain rfl:i=T.M.length:=by omega
 rw [List.take_length] at ho
 have hp2:=putAll_len (cellM d 1) T.M L1
 generalize putAll (cellM d 1) L1 T.M=L2 at *
 refine W.x mixed (by kernel_rfl) ?_
 simp
 refine W.two (W.x mixed (by kernel_rfl) ?_)
 simp
 refine W.blk (forW T.G.length (caI d intF (cellM d 3) L2 T.G (.f (.sl (encL intF T.G) c2)) [.f (.sl (encL intF T.M) c1),.f (.sl (encL intF T.G) c2)] h k b 46) ⟨g,_,x,t,ho,hk,Sl.of rfl rfl rfl⟩ ?_)
 clear hlt hi ho hk
 rintro i ⟨ts,hh,kk⟩ hi ⟨g,k',x,t,ho,hk,rfl,rfl,f,rfl⟩
 by_cases hlt:i < T.G.length
 ·obtain ⟨y,hy,hy'⟩:=nth_of hlt
  have hw:=wrap64 (x:=(i:Int)+1) (by omega) (by omega)
  have hpl:=putAll_len (cellM d 3) (T.G.take i) L2
  rw [List.length_take] at hpl
  refine W.x mixed (by kernel_rfl) ?_
  simp [hlt,hy,aPrg,x0,x1,x2,x3]
  refine call_g (registerCell_g d hS y) ?_
  simp
  refine ⟨_,put_x d (cellM d 3 y) (putAll (cellM d 3) L2 (T.G.take i)) (x2 _ _) (x0 _ _) ho (by omega),?_⟩
  rintro _ _ k2 ⟨rfl,x',t',rfl,ho',hk'⟩
  rw [x3]
  simp [hw]
  have hkk:k.length≤k2.length:=Nat.le_trans hk hk'
  exact ⟨_,_,_,_,by rw [putAll_next hy']; exact ho',hkk,Sl.of rfl rfl rfl⟩
 obtain rfl:i=T.G.length:=by omega
 rw [List.take_length] at ho
 refine W.x mixed (by kernel_rfl) ?_
 simp
 exact retR_drop (.inl rfl) (by simp) hk (.set (aPrg_bel (own_bel ho))) ⟨rfl,x,t,rfl,by rw [hadd]; exact ho,hk⟩
theorem prgS_of {d:PrgD} (hC:PrgC d):PrgS d:=⟨Nat.le_trans hC.h (by decide),fun x hx=>Nat.le_trans (hdrC_of (hC.hd x hx)) (by decide),Nat.le_trans hC.m (by decide),Nat.le_trans hC.r (by decide)⟩
abbrev noTbl:FV:=.agg [strF ⟨#[]⟩,.sl [] .nil,.sl [] .nil,intF 0,.sl [] .nil,intF 0]
theorem declared_no (d:PrgD) (u:UnitD) (h:tblOf d u.table=none):Gives Tryz.prog 163 [fPrg d,fUnit u] (.tup [noTbl,boolF false]):=by
 refine Gives.of mixed Tryz.func163 rfl rfl rfl (by kernel_rfl) ?_
 unfold tblOf at h
 by_cases c1:u.table < 0
 ·simp [fPrg,cPrg,c1]
  exact ⟨3,_,rfl,rfl⟩
 ·rw [if_neg c1] at h
  have c2:(d.tables.l.length:Int)≤u.table:=by
   have:=List.getElem?_eq_none_iff.1 h
   omega
  simp [fPrg,cPrg,c1,c2]
  exact ⟨3,_,rfl,rfl⟩
theorem declared_yes (d:PrgD) (u:UnitD) {t:TblD} (h:tblOf d u.table=some t):Gives Tryz.prog 163 [fPrg d,fUnit u] (.tup [fTbl t,boolF true]):=by
 refine Gives.of mixed Tryz.func163 rfl rfl rfl (by kernel_rfl) ?_
 unfold tblOf at h
 by_cases c1:u.table < 0
 ·rw [if_pos c1] at h; cases h
 ·rw [if_neg c1] at h
  have c3:=(List.getElem?_eq_some_iff.1 h).1
  have c2:¬ (d.tables.l.length:Int)≤u.table:=by omega
  obtain ⟨y,hy,hy'⟩:=nth_of c3
  obtain rfl:t=y:=by rw [h] at hy'; exact Option.some.inj hy'
  simp [fPrg,cPrg,c1,c2,(show (0:Int)≤u.table by omega),hy,c3]
  exact ⟨3,_,rfl,rfl⟩
theorem addM_len (d:PrgD) (L:List Int) (T:Tri):(addM d L T).length≤L.length+T.F.length+T.M.length+T.G.length:=by
 unfold addM
 have h1:=putAll_len (fun r:FR=>fieldCell d r.1 r.2) T.F L
 have h2:=putAll_len (cellM d 1) T.M (putAll (fun r:FR=>fieldCell d r.1 r.2) L T.F)
 have h3:=putAll_len (cellM d 3) T.G (putAll (cellM d 1) (putAll (fun r:FR=>fieldCell d r.1 r.2) L T.F) T.M)
 omega
theorem triB.can {a:Tri} {n:Nat} (h:triB a n):triB (triC a) n:=⟨Nat.le_trans (canR_len _) h.1,Nat.le_trans (canZ_len _) h.2.1,Nat.le_trans (canZ_len _) h.2.2⟩
theorem actWrM_b {d:PrgD} (hF:∀ x ∈ d.headers.l,x.fields.l.length≤1000) (i:Int):triB (actWrM d i) 12012:=by
 have h:=wrTo_b hF (bodyM d i) (bodyM d i).length
 rw [List.take_length] at h
 have hl:=(bodyM_ok d i).1
 exact (h.mono (by omega)).can
theorem actRdM_b (d:PrgD) (i:Int):triB (actRdM d i) 600:=by
 have h:=rdTo_b (bodyM_ok d i).2 (bodyM d i).length
 rw [List.take_length] at h
 have hl:=(bodyM_ok d i).1
 exact (h.mono (by omega)).can
def actsTo (d:PrgD) (f:Int→Tri) (L:List Int) (l:List Int):List Int:=l.foldl (fun L a=>addM d L (f a)) L
theorem actsTo_next {d:PrgD} {f:Int→Tri} {L l:List Int} {i:Nat} {x:Int} (h:l[i]?=some x):actsTo d f L (l.take (i+1))=addM d (actsTo d f L (l.take i)) (f x):=by
 unfold actsTo
 rw [← take_one h,List.foldl_append]; rfl
theorem actsTo_len {d:PrgD} {f:Int→Tri} (hf:∀ a,triB (f a) 12012) (l:List Int):∀ L:List Int,(actsTo d f L l).length≤L.length+36036 * l.length:=by
 induction l with
 | nil=>intro L; exact Nat.le_add_right _ _
 | cons a l ih =>
  intro L
  have h1:=ih (addM d L (f a))
  have h2:=addM_len d L (f a)
  obtain ⟨b1,b2,b3⟩:=hf a
  show (actsTo d f (addM d L (f a)) l).length≤_
  simp only [List.length_cons]
  omega
def unitWrM (d:PrgD) (u:UnitD):List Int:=match tblOf d u.table with
 | none=>[]
 | some t=>canZ (actsTo d (actWrM d) [] t.acts.l)
abbrev cUnitA (u:UnitD):List AV:=[.f (intF u.table),.f (sl (encL fEx u.cond.l)),.f (sl (encL fGd u.guards.l))]
abbrev cTblA (t:TblD):List AV:=[.f (strF t.name),.f (sl (encL fKey t.keys.l)),.f (sl (encL intF t.acts.l)),.f (intF t.dfl),.f (sl (encL u32F t.args.l)),.f (intF t.size)]
def cwrI (d:PrgD) (u:UnitD) (t:TblD) (i:Nat) (s:St):Prop:=∃ k x tk,OwnT k (encL intF (actsTo d (actWrM d) [] (t.acts.l.take i))) 1 x tk ∧
 Vf.Sl [(2,.ref 0 0),(7,.ref 3 0),(22,.f (sl (encL intF t.acts.l))),(23,.f (intF t.acts.l.length)),(24,.f (intF i))] 39 [aPrg d,cUnitA u,cTblA t,aPrg d ++ [x]] k s
theorem writes_g (d:PrgD) (hn:NmOk d) (hC:PrgC d) (u:UnitD) (ht:∀ t,tblOf d u.table=some t→t.acts.l.length≤16):Gives Tryz.prog 114 [fPrg d,fUnit u] (ownF (encL intF (unitWrM d u))):=by
 have hS:=prgS_of hC
 refine Gives.of_Wd Tryz.func114 rfl rfl rfl (by decide) ?_
 refine Wd.two (W.x mixed (by kernel_rfl) ?_)
 simp [fPrg,cPrg]
 cases h:tblOf d u.table with
 | none =>
  have hv:unitWrM d u=[]:=by unfold unitWrM; rw [h]
  refine Wd.two (W.x mixed (by kernel_rfl) ?_)
  simp
  refine call_g (declared_no d u h) ?_
  simp
  refine Wd.x mixed (by kernel_rfl) ?_
  simp [hv,encL,ownF]
 | some t =>
  have hl:=ht t h
  have hv:unitWrM d u=canZ (actsTo d (actWrM d) [] t.acts.l):=by unfold unitWrM; rw [h]
  refine Wd.two (W.x mixed (by kernel_rfl) ?_)
  simp
  refine call_g (declared_yes d u h) ?_
  simp
  refine Wd.two (W.x mixed (by kernel_rfl) ?_)
  simp
  refine Wd.two (W.x mixed (by kernel_rfl) ?_)
  simp
  refine Wd.two (W.two (W.x mixed (by kernel_rfl) ?_))
  simp
  refine W.blk (forW t.acts.l.length (cwrI d u t) ⟨[],.f (.sl [] .nil),0,.nil,Sl.of rfl rfl rfl⟩ ?_)
  rintro i ⟨ts,hh,kk⟩ hi ⟨k,x,tk,ho,rfl,rfl,f,rfl⟩
  have hln:=actsTo_len (d:=d) (actWrM_b hS.f) (t.acts.l.take i) []
  rw [List.length_take,List.length_nil] at hln
  by_cases hlt:i < t.acts.l.length
  ·obtain ⟨a,ha,ha'⟩:=nth_of hlt
   have hw:=wrap64 (x:=(i:Int)+1) (by omega) (by omega)
   have hb:=actWrM_b hS.f a
   have hg:=actWrites_g d hn hS.f a
   obtain ⟨c0,e0⟩:=ownF_is (encL fRp (actWrM d a).F)
   obtain ⟨c1,e1⟩:=ownF_is (encL intF (actWrM d a).M)
   obtain ⟨c2,e2⟩:=ownF_is (encL intF (actWrM d a).G)
   unfold fTri at hg
   rw [e0,e1,e2] at hg
   refine W.x mixed (by kernel_rfl) ?_
   simp [hlt,ha,aPrg]
   refine call_g hg ?_
   simp
   refine call_x (colAdd_x d hS (actsTo d (actWrM d) [] (t.acts.l.take i)) (actWrM d a) c0 c1 c2 (b:=3) rfl ho (by omega) (hb.mono (by omega))) ?_
   rintro _ _ k2 ⟨rfl,x',t',rfl,ho',hk'⟩
   simp [hw]
   exact ⟨_,_,_,by rw [actsTo_next ha']; exact ho',Sl.of rfl rfl rfl⟩
  ·obtain rfl:i=t.acts.l.length:=by omega
   rw [List.take_length] at ho hln
   refine W.x mixed (by kernel_rfl) ?_
   simp
   refine Wd.two' (Wd.callD (L1:=[_]) (L2:=[_]) rfl rfl rfl ?_)
   simp
   refine ⟨_,_,rfl,_,colSorted_d d (actsTo d (actWrM d) [] t.acts.l) (by omega) ho rfl,?_⟩
   rintro y h' k' ⟨ts,h2,k2⟩ hr ⟨rfl,rfl,ff,rfl⟩
   simp
   refine Wd.x mixed (by kernel_rfl) ?_
   simp
   rw [hv]
   exact hr
def keysTo (d:PrgD) (L:List Int) (l:List KeyD):List Int:=l.foldl (fun L k=>addM d L ⟨[(k.h,k.f)],[],[]⟩) L
theorem keysTo_next {d:PrgD} {L:List Int} {l:List KeyD} {i:Nat} {x:KeyD} (h:l[i]?=some x):keysTo d L (l.take (i+1))=addM d (keysTo d L (l.take i)) ⟨[(x.h,x.f)],[],[]⟩:=by
 unfold keysTo
 rw [← take_one h,List.foldl_append]; rfl
theorem keysTo_len {d:PrgD} (l:List KeyD):∀ L:List Int,(keysTo d L l).length≤L.length+l.length:=by
 induction l with
 | nil=>intro L; exact Nat.le_refl _
 | cons a l ih =>
  intro L
  have h1:=ih (addM d L ⟨[(a.h,a.f)],[],[]⟩)
  have h2:=addM_len d L ⟨[(a.h,a.f)],[],[]⟩
  show (keysTo d (addM d L ⟨[(a.h,a.f)],[],[]⟩) l).length≤_
  simp only [List.length_cons,List.length_nil] at h2 ⊢
  omega
def unitRdM (d:PrgD) (u:UnitD):List Int:=if u.table=-1 then canZ (addM d [] ⟨fldsM u.cond.l,hdrsM u.cond.l,[]⟩)
 else match tblOf d u.table with
 | none=>[]
 | some t=>canZ (actsTo d (actRdM d) (keysTo d [] t.keys.l) t.acts.l)
def rdK (d:PrgD) (u:UnitD) (t:TblD) (i:Nat) (s:St):Prop:=∃ g k x tk,OwnT k (encL intF (keysTo d [] (t.keys.l.take i))) 1 x tk ∧
 Vf.Sl [(2,.ref 0 0),(5,.ref 2 0),(6,.ref 3 0),(37,.f (sl (encL fKey t.keys.l))),(38,.f (intF t.keys.l.length)),(39,.f (intF i))] 67 (aPrg d::cUnitA u::(aPrg d ++ [x])::cTblA t::g) k s
def rdA (d:PrgD) (u:UnitD) (t:TblD) (i:Nat) (s:St):Prop:=∃ g k x tk,OwnT k (encL intF (actsTo d (actRdM d) (keysTo d [] t.keys.l) (t.acts.l.take i))) 1 x tk ∧
 Vf.Sl [(2,.ref 0 0),(5,.ref 2 0),(50,.f (sl (encL intF t.acts.l))),(51,.f (intF t.acts.l.length)),(52,.f (intF i))] 67 (aPrg d::cUnitA u::(aPrg d ++ [x])::cTblA t::g) k s
theorem reads_g (d:PrgD) (hn:NmOk d) (hC:PrgC d) (u:UnitD) (hu:u.cond.l.length≤1000000) (ht:∀ t,tblOf d u.table=some t→t.acts.l.length≤16∧t.keys.l.length≤6):Gives Tryz.prog 113 [fPrg d,fUnit u] (ownF (encL intF (unitRdM d u))):=by
 have hS:=prgS_of hC
 refine Gives.of_Wd Tryz.func113 rfl rfl rfl (by decide) ?_
 refine Wd.two (W.x mixed (by kernel_rfl) ?_)
 simp [fPrg,cPrg]
 refine Wd.two (W.x mixed (by kernel_rfl) ?_)
 simp
 by_cases h1:u.table=-1
 ·have hv:unitRdM d u=canZ (addM d [] ⟨fldsM u.cond.l,hdrsM u.cond.l,[]⟩):=if_pos h1
  have f1:=fldsM_len u.cond.l
  have f2:=hdrsM_len u.cond.l
  have hg1:=exFlds_g u.cond.l .un hu
  have hg2:=exHdrs_g u.cond.l .un hu
  obtain ⟨c0,e0⟩:=ownF_is (encL fRp (fldsM u.cond.l))
  obtain ⟨c1,e1⟩:=ownF_is (encL intF (hdrsM u.cond.l))
  rw [e0] at hg1
  rw [e1] at hg2
  refine Wd.two' (Wd.two (W.x mixed (by kernel_rfl) ?_))
  simp [h1]
  refine Wd.cond (q:=true) (by simp) ?_
  simp only [if_true]
  refine Wd.two (W.x mixed (by kernel_rfl) ?_)
  simp
  refine call_g hg1 ?_
  simp
  refine call_g hg2 ?_
  simp
  refine call_x (colAdd_x d hS [] ⟨fldsM u.cond.l,hdrsM u.cond.l,[]⟩ c0 c1 .nil (b:=2) rfl .nil (by decide) ⟨by simp; omega,by simp; omega,by simp⟩ (t:=0)) ?_
  rintro _ _ k2 ⟨rfl,x',t',rfl,ho',hk'⟩
  have hln:=addM_len d [] ⟨fldsM u.cond.l,hdrsM u.cond.l,[]⟩
  simp only [List.length_nil] at hln
  simp
  refine Wd.two' (Wd.callD (L1:=[_]) (L2:=[_]) rfl rfl rfl ?_)
  simp
  refine ⟨_,_,rfl,_,colSorted_d d _ (by omega) ho' rfl,?_⟩
  rintro y h' k' ⟨ts,h2,k2⟩ hr ⟨rfl,rfl,ff,rfl⟩
  simp
  refine Wd.x mixed (by kernel_rfl) ?_
  simp
  rw [hv]
  exact hr
 refine Wd.two' (Wd.two (W.x mixed (by kernel_rfl) ?_))
 simp [h1]
 refine Wd.cond (q:=false) (by simp) ?_
 simp only [Bool.false_eq_true,if_false]
 refine Wd.skip ?_
 simp
 cases h:tblOf d u.table with
 | none =>
  have hv:unitRdM d u=[]:=by unfold unitRdM; rw [if_neg h1,h]
  refine Wd.two (W.x mixed (by kernel_rfl) ?_)
  simp
  refine call_g (declared_no d u h) ?_
  simp
  refine Wd.x mixed (by kernel_rfl) ?_
  simp [hv,encL,ownF]
 | some t =>
  obtain ⟨hl,hlk⟩:=ht t h
  have hv:unitRdM d u=canZ (actsTo d (actRdM d) (keysTo d [] t.keys.l) t.acts.l):=by unfold unitRdM; rw [if_neg h1,h]
  have hlk2:=keysTo_len (d:=d) t.keys.l []
  rw [List.length_nil] at hlk2
  refine Wd.two (W.x mixed (by kernel_rfl) ?_)
  simp
  refine call_g (declared_yes d u h) ?_
  simp
  refine Wd.two (W.x mixed (by kernel_rfl) ?_)
  simp
  refine Wd.two (W.two (W.x mixed (by kernel_rfl) ?_))
  simp
  refine W.blk (forW t.keys.l.length (rdK d u t) ⟨[],[],.f (.sl [] .nil),0,.nil,Sl.of rfl rfl rfl⟩ ?_)
  rintro i ⟨ts,hh,kk⟩ hi ⟨g,k,x,tk,ho,rfl,rfl,f,rfl⟩
  have hln:=keysTo_len (d:=d) (t.keys.l.take i) []
  rw [List.length_take,List.length_nil] at hln
  by_cases hlt:i < t.keys.l.length
  ·obtain ⟨a,ha,ha'⟩:=nth_of hlt
   have hw:=wrap64 (x:=(i:Int)+1) (by omega) (by omega)
   refine W.x mixed (by kernel_rfl) ?_
   simp [hlt,ha]
   refine call_x (colAdd_x d hS (keysTo d [] (t.keys.l.take i)) ⟨[(a.h,a.f)],[],[]⟩ .full .nil .nil (b:=2) rfl ho (by omega) ⟨by simp,by simp,by simp⟩) ?_
   rintro _ _ k2 ⟨rfl,x',t',rfl,ho',hk'⟩
   simp [hw]
   exact ⟨_,_,_,_,by rw [keysTo_next ha']; exact ho',Sl.of rfl rfl rfl⟩
  obtain rfl:i=t.keys.l.length:=by omega
  rw [List.take_length] at ho
  refine W.x mixed (by kernel_rfl) ?_
  simp
  refine Wd.two (W.two (W.x mixed (by kernel_rfl) ?_))
  simp
  refine W.blk (forW t.acts.l.length (rdA d u t) ⟨g,_,x,tk,ho,Sl.of rfl rfl rfl⟩ ?_)
  clear hlt hi hln ho
  rintro i ⟨ts,hh,kk⟩ hi ⟨g,k,x,tk,ho,rfl,rfl,f,rfl⟩
  have hln:=actsTo_len (d:=d) (fun a=>(actRdM_b d a).mono (by decide)) (t.acts.l.take i) (keysTo d [] t.keys.l)
  rw [List.length_take] at hln
  by_cases hlt:i < t.acts.l.length
  ·obtain ⟨a,ha,ha'⟩:=nth_of hlt
   have hw:=wrap64 (x:=(i:Int)+1) (by omega) (by omega)
   have hb:=actRdM_b d a
   have hg:=actReads_g d hn a
   obtain ⟨c0,e0⟩:=ownF_is (encL fRp (actRdM d a).F)
   obtain ⟨c1,e1⟩:=ownF_is (encL intF (actRdM d a).M)
   obtain ⟨c2,e2⟩:=ownF_is (encL intF (actRdM d a).G)
   unfold fTri at hg
   rw [e0,e1,e2] at hg
   refine W.x mixed (by kernel_rfl) ?_
   simp [hlt,ha,aPrg]
   refine call_g hg ?_
   simp
   refine call_x (colAdd_x d hS (actsTo d (actRdM d) (keysTo d [] t.keys.l) (t.acts.l.take i)) (actRdM d a) c0 c1 c2 (b:=2) rfl ho (by omega) (hb.mono (by omega))) ?_
   rintro _ _ k2 ⟨rfl,x',t',rfl,ho',hk'⟩
   simp [hw]
   exact ⟨_,_,_,_,by rw [actsTo_next ha']; exact ho',Sl.of rfl rfl rfl⟩
  obtain rfl:i=t.acts.l.length:=by omega
  rw [List.take_length] at ho hln
  refine W.x mixed (by kernel_rfl) ?_
  simp
  refine Wd.two' (Wd.callD (L1:=[_]) (L2:=[_]) rfl rfl rfl ?_)
  simp
  refine ⟨_,_,rfl,_,colSorted_d d (actsTo d (actRdM d) (keysTo d [] t.keys.l) t.acts.l) (by omega) ho rfl,?_⟩
  rintro y h' k' ⟨ts,h2,k2⟩ hr ⟨rfl,rfl,ff,rfl⟩
  simp
  refine Wd.x mixed (by kernel_rfl) ?_
  simp
  rw [hv]
  exact hr
mutual
theorem bldN_all:∀ (x:NodD) (gs:List GuardD) (i:Nat),(bldN x gs i).length=(nodPre x).length∧∀ u ∈ bldN x gs i,∃ y ∈ nodPre x,∃ g,u=unitOf y g∧g.length≤gs.length+(nodPre x).length
 | .mk k t c tl el,gs,i=>by
  obtain ⟨a1,a2⟩:=bldL_all tl (gs ++ [⟨i,true⟩]) (i+1)
  obtain ⟨b1,b2⟩:=bldL_all el (gs ++ [⟨i,false⟩]) (i+1+(bldL tl (gs ++ [⟨i,true⟩]) (i+1)).length)
  rw [bldN_eq,nodPre]
  refine ⟨by simp only [List.length_cons,List.length_append]; rw [← a1,← b1]; rfl,fun u hu=>?_⟩
  rcases List.mem_cons.1 hu with rfl | hu
  ·exact ⟨_,.head _,gs,rfl,by omega⟩
  rcases List.mem_append.1 hu with hu | hu
  ·obtain ⟨y,hy,g,e,hg⟩:=a2 u hu
   refine ⟨y,.tail _ (List.mem_append_left _ hy),g,e,?_⟩
   simp only [List.length_cons,List.length_append,List.length_nil] at hg ⊢
   omega
  ·obtain ⟨y,hy,g,e,hg⟩:=b2 u hu
   refine ⟨y,.tail _ (List.mem_append_right _ hy),g,e,?_⟩
   simp only [List.length_cons,List.length_append,List.length_nil] at hg ⊢
   omega
theorem bldL_all:∀ (l:List NodD) (gs:List GuardD) (i:Nat),(bldL l gs i).length=(nodsPre l).length∧∀ u ∈ bldL l gs i,∃ y ∈ nodsPre l,∃ g,u=unitOf y g∧g.length≤gs.length+(nodsPre l).length
 | [],gs,i=>by rw [bldL,nodsPre]; exact ⟨rfl,fun u hu=>by cases hu⟩
 | x::l,gs,i=>by
  obtain ⟨a1,a2⟩:=bldN_all x gs i
  obtain ⟨b1,b2⟩:=bldL_all l gs (i+(bldN x gs i).length)
  rw [bldL,nodsPre]
  refine ⟨by simp only [List.length_append]; rw [b1,a1],fun u hu=>?_⟩
  rcases List.mem_append.1 hu with hu | hu
  ·obtain ⟨y,hy,g,e,hg⟩:=a2 u hu
   refine ⟨y,List.mem_append_left _ hy,g,e,?_⟩
   simp only [List.length_append]
   omega
  ·obtain ⟨y,hy,g,e,hg⟩:=b2 u hu
   refine ⟨y,List.mem_append_right _ hy,g,e,?_⟩
   simp only [List.length_append]
   omega
end
structure PrgU (d:PrgD):Prop where
 ok:PrgOk d
 nodes:(nodsPre d.control.l).length≤10000000
 cond:∀ y ∈ nodsPre d.control.l,y.cond.l.length≤1000000
theorem nodes_few {d:PrgD} (hU:PrgU d) (hC:PrgC d):(nodsPre d.control.l).length≤24:=by
 have h:=hC.cc
 have hn:=hU.nodes
 unfold ctlCheckW at h
 rw [wr_id (by omega) (by omega)] at h
 split at h
 ·cases h
 ·omega
theorem bldM_len {d:PrgD} (hU:PrgU d) (hC:PrgC d):(bldM d).length≤24:=by
 unfold bldM
 rw [if_pos hC.cc,(bldL_all _ _ _).1]
 exact nodes_few hU hC
theorem bldM_mem {d:PrgD} (hU:PrgU d) (hC:PrgC d) {u:UnitD} (h:u ∈ bldM d):u.cond.l.length≤1000000∧u.guards.l.length≤24:=by
 unfold bldM at h
 rw [if_pos hC.cc] at h
 obtain ⟨y,hy,g,rfl,hg⟩:=(bldL_all _ _ _).2 u h
 have:=nodes_few hU hC
 have hc:=hU.cond y hy
 refine ⟨?_,by simp only [unitOf]; simp at hg; omega⟩
 simp only [unitOf]
 split
 ·exact hc
 ·exact Nat.zero_le _
theorem tblOf_small {d:PrgD} (hC:PrgC d) {i:Int} {t:TblD} (h:tblOf d i=some t):t.acts.l.length≤16∧t.keys.l.length≤6:=by
 unfold tblOf at h
 split at h
 ·cases h
 ·obtain ⟨hlt,rfl⟩:=List.getElem?_eq_some_iff.1 h
  have h1:=hC.tc _ hlt
  rw [tblCheck_nat (List.getElem?_eq_getElem hlt)] at h1
  obtain ⟨a,b,_⟩:=tblC_of h1
  exact ⟨b,a⟩
def rdF (d:PrgD) (us:List UnitD) (a:Nat):List Int:=match us[a]? with
 | some u=>unitRdM d u
 | none=>[]
def wrF (d:PrgD) (us:List UnitD) (a:Nat):List Int:=match us[a]? with
 | some u=>unitWrM d u
 | none=>[]
theorem unitWrM_len {d:PrgD} (hC:PrgC d) (u:UnitD):(unitWrM d u).length≤maxLen:=by
 unfold unitWrM
 cases h:tblOf d u.table with
 | none=>exact Nat.zero_le _
 | some t =>
  have h1:=(tblOf_small hC h).1
  have h2:=actsTo_len (d:=d) (actWrM_b (prgS_of hC).f) t.acts.l []
  have h3:=canZ_len (actsTo d (actWrM d) [] t.acts.l)
  rw [List.length_nil] at h2
  show (canZ (actsTo d (actWrM d) [] t.acts.l)).length≤maxLen
  unfold maxLen
  omega
theorem unitRdM_len {d:PrgD} (hC:PrgC d) (u:UnitD) (hu:u.cond.l.length≤1000000):(unitRdM d u).length≤maxLen:=by
 unfold unitRdM
 split
 ·have h1:=addM_len d [] ⟨fldsM u.cond.l,hdrsM u.cond.l,[]⟩
  have h2:=fldsM_len u.cond.l
  have h3:=hdrsM_len u.cond.l
  have h4:=canZ_len (addM d [] ⟨fldsM u.cond.l,hdrsM u.cond.l,[]⟩)
  simp only [List.length_nil] at h1
  unfold maxLen
  omega
 ·cases h:tblOf d u.table with
  | none=>exact Nat.zero_le _
  | some t =>
   obtain ⟨h1,h0⟩:=tblOf_small hC h
   have h2:=actsTo_len (d:=d) (fun a=>(actRdM_b d a).mono (by decide)) t.acts.l (keysTo d [] t.keys.l)
   have h3:=canZ_len (actsTo d (actRdM d) (keysTo d [] t.keys.l) t.acts.l)
   have h4:=keysTo_len (d:=d) t.keys.l []
   rw [List.length_nil] at h4
   show (canZ (actsTo d (actRdM d) (keysTo d [] t.keys.l) t.acts.l)).length≤maxLen
   unfold maxLen
   omega
def jobM (d:PrgD) (c:ChipD):JobD:=⟨c,bldM d,(bldM d).map (unitCost d),depsM (rdF d (bldM d)) (wrF d (bldM d)) (bldM d)⟩
def njI (d:PrgD) (c:ChipD) (us:List UnitD) (c1:Cap) (D:FV) (i:Nat) (s:St):Prop:=∃ g k x tk,OwnT k (encL fRes ((us.map (unitCost d)).take i)) 2 x tk ∧
 Vf.Sl [(2,.ref 0 0),(5,.ref 2 0),(25,.f (.sl (encL fUnit us) c1)),(26,.f (intF us.length)),(27,.f (intF i))] 45 (aPrg d::(cChip c).map .f::((cChip c).map .f ++ [.f (.sl (encL fUnit us) c1),x,.f D])::g) k s
theorem weak_own {k0:List (Nat × Nat)} {l:List FV} {sz t:Nat} {x:AV} (h:OwnT k0 l sz x t) (w:World) (L:Lk) (k:List (Nat × Nat)) (v:Value) (hr:RepA w L k x v):RepA w L k (.f (ownF l)) v:=by
 rcases h with ⟨rfl,rfl⟩ | ⟨h1,rfl,_⟩
 ·exact hr
 ·unfold ownF
  rw [if_neg h1]
  cases hr with
  | own l t b o cap h=>exact .f _ _ h
theorem newJob_g (d:PrgD) (c:ChipD) (hU:PrgU d) (hC:PrgC d):∃ c1 c2 c3,Gives Tryz.prog 29 [fPrg d,fChip c] (.fp (cJob (jobM d c) c1 c2 c3)):=by
 have hl:=bldM_len hU hC
 have hb:=build_g d (Nat.le_trans hC.t (by decide)) hU.ok.nod (by rw [(bldL_all _ _ _).1]; have:=nodes_few hU hC; omega) hU.cond
 obtain ⟨c1,e1⟩:=ownF_is (encL fUnit (bldM d))
 rw [e1] at hb
 have hmem:∀ {u:UnitD},u ∈ bldM d→u.cond.l.length≤1000000∧u.guards.l.length≤24:=fun h=>bldM_mem hU hC h
 have hD:=deps_g d (bldM d) c1 (rdF d (bldM d)) (wrF d (bldM d)) (by omega) (fun a=>by
  unfold rdF
  split
  ·rename_i u hu
   exact unitRdM_len hC u (hmem (List.mem_of_getElem? hu)).1
  ·exact Nat.zero_le _) (fun a=>by
  unfold wrF
  split
  ·exact unitWrM_len hC _
  ·exact Nat.zero_le _) (fun u hu=>by have:=(hmem hu).2; omega)
  (fun a u hu=>by
   have:rdF d (bldM d) a=unitRdM d u:=by unfold rdF; rw [hu]
   rw [this]
   exact reads_g d hU.ok.nm hC u (hmem (List.mem_of_getElem? hu)).1 fun t ht=>tblOf_small hC ht)
  (fun a u hu=>by
   have:wrF d (bldM d) a=unitWrM d u:=by unfold wrF; rw [hu]
   rw [this]
   exact writes_g d hU.ok.nm hC u fun t ht=>(tblOf_small hC ht).1)
 have hj:jobM d c=⟨c,bldM d,(bldM d).map (unitCost d),depsM (rdF d (bldM d)) (wrF d (bldM d)) (bldM d)⟩:=rfl
 rw [hj]
 generalize depsM (rdF d (bldM d)) (wrF d (bldM d)) (bldM d)=D at *
 generalize bldM d=us at *
 obtain ⟨c2,e2⟩:=ownF_is (encL fRes (us.map (unitCost d)))
 refine ⟨c1,c2,.un,Gives.ofW Tryz.func29 rfl rfl rfl (by decide) ?_⟩
 refine W.two (W.x mixed (by kernel_rfl) ?_)
 simp [fPrg,cPrg]
 refine W.two (W.x mixed (by kernel_rfl) ?_)
 simp
 refine call_g hb ?_
 simp
 refine W.two (W.x mixed (by kernel_rfl) ?_)
 simp
 refine call_g hD ?_
 simp
 refine W.two (W.two (W.x mixed (by kernel_rfl) ?_))
 simp
 refine W.blk (forW us.length (njI d c us c1 (sl (encL rowF D))) ⟨[],[],.f (.sl [] .nil),0,.nil,Sl.of rfl rfl rfl⟩ ?_)
 rintro i ⟨ts,hh,kk⟩ hi ⟨g,k,x,tk,ho,rfl,rfl,f,rfl⟩
 by_cases hlt:i < us.length
 ·obtain ⟨u,hu,hu'⟩:=nth_of hlt
  have hw:=wrap64 (x:=(i:Int)+1) (by omega) (by omega)
  have hn:=take_one (l:=us.map (unitCost d)) (i:=i) (x:=unitCost d u) (by rw [List.getElem?_map,hu']; rfl)
  obtain ⟨x',t',k',e,ho',hk',_⟩:=append_own0 ty89 ty47 (by simp) ho (y:=.f (.sl [fRes (unitCost d u)] .full)) rfl (by simp) (by simp; omega) (by simp; omega)
  rw [show encL fRes ((us.map (unitCost d)).take i) ++ [fRes (unitCost d u)]=encL fRes ((us.map (unitCost d)).take (i+1)) by rw [← hn]; simp [encL]] at ho'
  refine W.x mixed (by kernel_rfl) ?_
  simp [hlt,hu,aPrg]
  refine call_g (unitCost_g d hU.ok u) ?_
  simp [-opAppend,-opStore]
  rw [e]
  simp [-opStore]
  rw [store_own ty89 rfl (cs:=(cChip c).map .f ++ [.f (.sl (encL fUnit us) c1),x,.f (sl (encL rowF D))]) rfl (by simp) ho']
  simp [hw]
  exact ⟨_,_,_,_,ho',Sl.of rfl rfl rfl⟩
 ·obtain rfl:i=us.length:=by omega
  rw [List.take_of_length_le (by simp)] at ho
  refine W.x mixed (by kernel_rfl) ?_
  simp
  refine weakH_W (b:=2) (j:=9) (x:=x) (x':=.f (ownF (encL fRes (us.map (unitCost d))))) rfl rfl (weak_own ho) ?_
  rw [e2]
  refine frz_W (d:=5) (b:=2) (fs:=cJob ⟨c,us,us.map (unitCost d),D⟩ c1 c2 .un) rfl rfl ?_
  refine W.x mixed (by kernel_rfl) ?_
  simp
theorem pre_next {l:List NodD} {i:Nat} {x:NodD} (h:l[i]?=some x):nodsPre (l.take (i+1))=nodsPre (l.take i) ++ (x::(nodsPre x.thn.l ++ nodsPre x.els.l)):=by
 have app:∀ a b:List NodD,nodsPre (a ++ b)=nodsPre a ++ nodsPre b:=by
  intro a b
  induction a with
  | nil=>rfl
  | cons y a ih=>rw [List.cons_append,nodsPre,ih,nodsPre,List.append_assoc]
 rw [take_snoc h,app]
 obtain ⟨k,t,c,tl,el⟩:=x
 simp [nodsPre,nodPre]
 rfl
theorem pre_take_le (l:List NodD) (i:Nat):(nodsPre (l.take i)).length≤(nodsPre l).length:=by
 induction l generalizing i with
 | nil=>simp
 | cons y l ih =>
  cases i with
  | zero=>simp [nodsPre]
  | succ i=>rw [List.take_succ_cons,nodsPre,nodsPre,List.length_append,List.length_append]; have:=ih i; omega
theorem pre_sub {l:List NodD} {x:NodD} (h:x ∈ l):(nodsPre x.thn.l).length+(nodsPre x.els.l).length+1≤(nodsPre l).length:=by
 obtain ⟨i,hi,rfl⟩:=List.getElem_of_mem h
 have h1:=pre_next (List.getElem?_eq_getElem hi)
 have h2:=pre_take_le l (i+1)
 rw [h1,List.length_append,List.length_cons,List.length_append] at h2
 omega
def rcnI (l:List NodD) (i:Nat) (s:St):Prop:=∃ g,Vf.Sl [(0,.f (sl (encL fNod l))),(3,.f (intF (nodsPre (l.take i)).length)),(4,.f (intF i))] 28 g [] s
theorem rcount_g (l:List NodD) (h:NodB l):(nodsPre l).length≤10000000→Gives Tryz.prog 77 [sl (encL fNod l)] (intF (nodsPre l).length):=by
 induction h with
 | mk l hl h1 h2 ih1 ih2 =>
  intro hn
  refine Gives.of mixed Tryz.func77 rfl rfl rfl (by kernel_rfl) ?_
  simp
  refine forX mixed l.length (rcnI l) (by kernel_rfl) ⟨[],Sl.of rfl rfl rfl⟩ ?_
  rintro i ⟨ts,hh,kk⟩ hi ⟨g,rfl,rfl,f,rfl⟩
  by_cases hlt:i < l.length
  ·obtain ⟨x,hx,hx'⟩:=nth_of hlt
   have hm:=List.mem_of_getElem? hx'
   have hw:=wrap64 (x:=(i:Int)+1) (by omega) (by unfold maxLen at hl; omega)
   have hs:=pre_sub hm
   have hnx:=pre_next hx'
   have hle:=pre_take_le l (i+1)
   have hnl:=congrArg List.length hnx
   rw [List.length_append,List.length_cons,List.length_append] at hnl
   have w1:=wrap64 (x:=1+((nodsPre x.thn.l).length:Int)) (by omega) (by omega)
   have w2:=wrap64 (x:=1+((nodsPre x.thn.l).length:Int)+(nodsPre x.els.l).length) (by omega) (by omega)
   have w3:=wrap64 (x:=((nodsPre (l.take i)).length:Int)+(1+((nodsPre x.thn.l).length:Int)+(nodsPre x.els.l).length)) (by omega) (by omega)
   simp [hlt,hx,fNod_eq]
   refine call_g (ih1 x hm (by omega)) ?_
   simp [hlt,hx,fNod_eq,w1]
   refine call_g (ih2 x hm (by omega)) ?_
   simp [w2,w3,hw]
   have e:((nodsPre (l.take i)).length:Int)+(1+((nodsPre x.thn.l).length:Int)+(nodsPre x.els.l).length)=((nodsPre (l.take (i+1))).length:Int):=by omega
   rw [e]
   exact ⟨_,Sl.of rfl rfl rfl⟩
  ·obtain rfl:i=l.length:=by omega
   simp
mutual
theorem deepN_bd:∀ x:NodD,(nodPre x).length≤10000000→0≤nodDeepW x∧nodDeepW x+1≤(nodPre x).length
 | .mk k t c tl el,h=>by
  rw [nodPre,List.length_cons,List.length_append] at h ⊢
  have h1:=deepL_bd tl (by omega)
  have h2:=deepL_bd el (by omega)
  rw [nodDeepW]
  omega
theorem mostL_bd:∀ l:List NodD,(nodsPre l).length≤10000000→0≤nodsMostW l∧nodsMostW l≤(nodsPre l).length
 | [],_=>by simp [nodsMostW,nodsPre]
 | x::l,h=>by
  rw [nodsPre,List.length_append] at h ⊢
  have h1:=deepN_bd x (by omega)
  have h2:=mostL_bd l (by omega)
  rw [nodsMostW]
  omega
theorem deepL_bd:∀ l:List NodD,(nodsPre l).length≤10000000→0≤nodsDeepW l∧nodsDeepW l≤(nodsPre l).length
 | [],_=>by simp [nodsDeepW,nodsPre]
 | x::l,h=>by
  rw [nodsPre,List.length_append] at h ⊢
  have h1:=deepN_bd x (by omega)
  have h2:=mostL_bd l (by omega)
  rw [nodsDeepW,wr_id (by omega) (by omega)]
  omega
end
theorem deepW_take {l:List NodD} {i:Nat} {x:NodD} (hn:(nodsPre l).length≤10000000) (h:l[i]?=some x):nodsDeepW (l.take (i+1))=max (nodsDeepW (l.take i)) (max (1+nodsDeepW x.thn.l) (1+nodsDeepW x.els.l)):=by
 have hb:=mostL_bd (l.take i) (by have:=pre_take_le l i; omega)
 have hb2:=mostL_bd (l.take (i+1)) (by have:=pre_take_le l (i+1); omega)
 have hle:=pre_take_le l (i+1)
 have hne:l.take (i+1) ≠ []:=by rw [take_snoc h]; simp
 have e:=mostW_snoc (l.take i) x
 rw [← take_snoc h] at e
 rw [deepW_eq hne,wr_id (by omega) (by omega),e,nodDeepW_eq]
 have hs:=pre_sub (List.mem_of_getElem? h)
 have h1:=deepL_bd x.thn.l (by omega)
 have h2:=deepL_bd x.els.l (by omega)
 by_cases h0:l.take i=[]
 ·rw [h0]
  simp only [nodsDeepW,nodsMostW]
  omega
 ·rw [deepW_eq h0,wr_id (by omega) (by have:=pre_take_le l i; omega)]
  omega
def rneI (l:List NodD) (i:Nat) (s:St):Prop:=∃ g,Vf.Sl [(0,.f (sl (encL fNod l))),(3,.f (intF (nodsDeepW (l.take i)))),(4,.f (intF i))] 28 g [] s
theorem rnest_g (l:List NodD) (h:NodB l):(nodsPre l).length≤10000000→Gives Tryz.prog 78 [sl (encL fNod l)] (intF (nodsDeepW l)):=by
 induction h with
 | mk l hl h1 h2 ih1 ih2 =>
  intro hn
  refine Gives.of mixed Tryz.func78 rfl rfl rfl (by kernel_rfl) ?_
  simp
  refine forX mixed l.length (rneI l) (by kernel_rfl) ⟨[],Sl.of rfl rfl rfl⟩ ?_
  rintro i ⟨ts,hh,kk⟩ hi ⟨g,rfl,rfl,f,rfl⟩
  by_cases hlt:i < l.length
  ·obtain ⟨x,hx,hx'⟩:=nth_of hlt
   have hm:=List.mem_of_getElem? hx'
   have hw:=wrap64 (x:=(i:Int)+1) (by omega) (by unfold maxLen at hl; omega)
   have hs:=pre_sub hm
   have hnx:=deepW_take hn hx'
   have d1:=deepL_bd x.thn.l (by omega)
   have d2:=deepL_bd x.els.l (by omega)
   have w1:=wrap64 (x:=1+nodsDeepW x.thn.l) (by omega) (by omega)
   have w2:=wrap64 (x:=1+nodsDeepW x.els.l) (by omega) (by omega)
   simp [hlt,hx,fNod_eq]
   refine call_g (ih1 x hm (by omega)) ?_
   simp [hlt,hx,fNod_eq,w1]
   refine call_g (ih2 x hm (by omega)) ?_
   simp [w2]
   rw [ops_max3 (q:=.i64) (a:=nodsDeepW (l.take i)) (b:=1+nodsDeepW x.thn.l) (c:=1+nodsDeepW x.els.l) rfl rfl rfl]
   simp [hw]
   have hn2:nodsDeepW (l.take (i+1))=max (nodsDeepW (l.take i)) (1+max (nodsDeepW x.thn.l) (nodsDeepW x.els.l)):=by rw [hnx]; omega
   unfold rneI
   rw [hn2]
   exact ⟨_,Sl.of rfl rfl rfl⟩
  ·obtain rfl:i=l.length:=by omega
   simp
def rprI (l:List NodD) (i:Nat) (s:St):Prop:=∃ g k x t,OwnT k (encL fNod (nodsPre (l.take i))) 5 x t∧Vf.Sl [(0,.f (sl (encL fNod l))),(3,x),(4,.f (intF i))] 35 g k s
theorem nod_len (l:List NodD):(encL fNod l).all (fun u=>u.cells.length == 5)=true:=by
 rw [List.all_eq_true]
 intro u hu
 obtain ⟨x,_,rfl⟩:=List.mem_map.1 hu
 rw [fNod_eq]; rfl
theorem rpre_g (l:List NodD) (h:NodB l):(nodsPre l).length≤10000000→Gives Tryz.prog 79 [sl (encL fNod l)] (ownF (encL fNod (nodsPre l))):=by
 induction h with
 | mk l hl h1 h2 ih1 ih2 =>
  intro hn
  refine Gives.of mixed Tryz.func79 rfl rfl rfl (by kernel_rfl) ?_
  simp
  refine forX mixed l.length (rprI l) (by kernel_rfl) ⟨[],_,_,0,.nil,Sl.of rfl rfl rfl⟩ ?_
  rintro i ⟨ts,hh,kk⟩ hi ⟨g,k,y,t,ho,rfl,rfl,f,rfl⟩
  by_cases hlt:i < l.length
  ·obtain ⟨x,hx,hx'⟩:=nth_of hlt
   have hm:=List.mem_of_getElem? hx'
   have hw:=wrap64 (x:=(i:Int)+1) (by omega) (by unfold maxLen at hl; omega)
   have hs:=pre_sub hm
   have hnx:=pre_next hx'
   have hle:=pre_take_le l (i+1)
   have hnl:=congrArg List.length hnx
   rw [List.length_append,List.length_cons,List.length_append] at hnl
   obtain ⟨y1,t1,k1,e1,ho1,_⟩:=append_own0 ty28 ty122 (by simp) ho (y:=.f (.sl (encL fNod [x]) .full)) rfl (nod_len [x]) (by simp; omega) (by simp; omega)
   obtain ⟨y2,t2,k2,e2,ho2,_⟩:=append_own0 ty28 ty122 (by simp) ho1 (y:=.f (ownF (encL fNod (nodsPre x.thn.l)))) (elems_ownF _) (nod_len _) (by simp; omega) (by simp; omega)
   obtain ⟨y3,t3,k3,e3,ho3,_⟩:=append_own0 ty28 ty122 (by simp) ho2 (y:=.f (ownF (encL fNod (nodsPre x.els.l)))) (elems_ownF _) (nod_len _) (by simp; omega) (by simp; omega)
   rw [show encL fNod (nodsPre (l.take i)) ++ encL fNod [x] ++ encL fNod (nodsPre x.thn.l) ++ encL fNod (nodsPre x.els.l)=encL fNod (nodsPre (l.take (i+1))) by rw [hnx]; simp [encL]] at ho3
   have e0:encL fNod [x]=[.agg [intF x.kind,intF x.table,sl (encL fEx x.cond.l),sl (encL fNod x.thn.l),sl (encL fNod x.els.l)]]:=by rw [← fNod_eq]; rfl
   rw [e0] at e1
   simp [hlt,hx,fNod_eq x,-opAppend]
   rw [e1]
   simp [hlt,hx,fNod_eq x,-opAppend]
   refine call_g (ih1 x hm (by omega)) ?_
   simp [-opAppend]
   rw [e2]
   simp [hlt,hx,fNod_eq x,-opAppend]
   refine call_g (ih2 x hm (by omega)) ?_
   simp [-opAppend]
   rw [e3]
   simp [hw]
   exact ⟨_,_,_,_,ho3,Sl.of rfl rfl rfl⟩
  ·obtain rfl:i=l.length:=by omega
   rw [List.take_length] at ho
   simp
   rw [ho.ret]
theorem rapplies_g (x:NodD):Gives Tryz.prog 187 [fNod x] (boolF (nodApplies x)):=by
 refine Gives.of mixed Tryz.func187 rfl rfl rfl (by kernel_rfl) ?_
 rw [fNod_eq]
 unfold nodApplies
 by_cases c1:x.kind=1
 ·simp [c1]
 ·by_cases c3:x.kind=3
  ·simp [c3]
  ·have e1:(x.kind == 1)=false:=by simpa using c1
   have e3:(x.kind == 3)=false:=by simpa using c3
   simp [c1,c3]
def apSame (x y:NodD):Bool:=nodApplies y && decide (y.table=x.table)
def rabI (l:List NodD) (c:Cap) (x:NodD) (n i:Nat) (s:St):Prop:=noneT (apSame x) (l.take n) i∧∃ g,Vf.Sl [(0,.f (.sl (encL fNod l) c)),(1,.f (intF n)),(5,.f (intF i))] 29 g [] s
theorem rbefore_g (l:List NodD) (c:Cap) (n:Nat) (x:NodD) (hx:l[n]?=some x) (hl:l.length < 2^62):Gives Tryz.prog 133 [.sl (encL fNod l) c,intF n] (boolF ((l.take n).any (apSame x))):=by
 refine Gives.of mixed Tryz.func133 rfl rfl rfl (by kernel_rfl) ?_
 obtain ⟨hn,_⟩:=List.getElem?_eq_some_iff.1 hx
 obtain ⟨z,hz,hz'⟩:=nth_of hn
 rw [hx] at hz'
 obtain rfl:=Option.some.inj hz'
 generalize hv:(l.take n).any (apSame x)=v
 simp
 refine forX mixed n (rabI l c x n) (by kernel_rfl) ⟨.zero,[],Sl.of rfl rfl rfl⟩ ?_
 rintro i ⟨ts,hh,kk⟩ hi ⟨hno,g,rfl,rfl,f,rfl⟩
 by_cases hlt:i < n
 ·obtain ⟨y,hy,hy'⟩:=nth_of (show i < l.length by omega)
  have hyt:(l.take n)[i]?=some y:=by rw [List.getElem?_take_of_lt hlt]; exact hy'
  have hw:=wrap64 (x:=(i:Int)+1) (by omega) (by omega)
  have hg:=rapplies_g y
  rw [fNod_eq] at hg
  simp [hlt,hy,(show i < l.length by omega),fNod_eq]
  refine call_g hg ?_
  cases ha:nodApplies y with
  | false =>
   simp [hw]
   exact ⟨hno.next hyt (by simp [apSame,ha]),_,Sl.of rfl rfl rfl⟩
  | true =>
   by_cases ht:y.table=x.table
   ·rw [any_hit hyt (by simp [apSame,ha,ht])] at hv
    subst hv
    simp [hlt,hy,hz,hn,(show i < l.length by omega),fNod_eq,ht]
   ·simp [hlt,hy,hz,hn,(show i < l.length by omega),fNod_eq,ht,hw]
    exact ⟨hno.next hyt (by simp [apSame,ha,ht]),_,Sl.of rfl rfl rfl⟩
 ·obtain rfl:i=n:=by omega
  rw [hno.all (by rw [List.length_take]; omega)] at hv
  subst hv
  simp
def usedTo (l:List NodD) (i:Nat):List Int:=((l.take i).filter nodApplies).map NodD.table
theorem used_any (l:List NodD) (i:Nat) (x:NodD):(usedTo l i).contains x.table=(l.take i).any (apSame x):=by
 unfold usedTo
 rw [Bool.eq_iff_iff,List.contains_iff_mem,List.mem_map,List.any_eq_true]
 constructor
 ·rintro ⟨y,hy,e⟩
  obtain ⟨h1,h2⟩:=List.mem_filter.1 hy
  exact ⟨y,h1,by simp [apSame,h2,e]⟩
 ·rintro ⟨y,hy,e⟩
  simp [apSame] at e
  exact ⟨y,List.mem_filter.2 ⟨hy,e.1⟩,e.2⟩
theorem used_next {l:List NodD} {i:Nat} {x:NodD} (h:l[i]?=some x):usedTo l (i+1)=if nodApplies x then usedTo l i ++ [x.table] else usedTo l i:=by
 unfold usedTo
 rw [take_snoc h,List.filter_append]
 cases ha:nodApplies x <;> simp [ha,List.filter_cons]
theorem rnode_g (d:PrgD) (l:List NodD) (c:Cap) (n:Nat) (x:NodD) (hx:l[n]?=some x) (hl:l.length < 2^62):Gives Tryz.prog 80 [fPrg d,.sl (encL fNod l) c,intF n] (intF (nodCheckW d x (usedTo l n))):=by
 refine Gives.of mixed Tryz.func80 rfl rfl rfl (by kernel_rfl) ?_
 obtain ⟨hn,_⟩:=List.getElem?_eq_some_iff.1 hx
 obtain ⟨z,hz,hz'⟩:=nth_of hn
 rw [hx] at hz'
 obtain rfl:=Option.some.inj hz'
 by_cases k2:x.kind=2
 ·have hv:nodCheckW d x (usedTo l n)=if (exCheck d [] x.cond.l).2 ≠ 0 then (exCheck d [] x.cond.l).2 else if (exCheck d [] x.cond.l).1 ≠ 1 then 10 else 0:=by unfold nodCheckW; rw [if_neg (by omega),if_pos k2]
  rw [hv]
  simp [hz,hn,k2,fPrg,cPrg,fNod_eq]
  refine call_g (Gives.weak (rexCheck_g d [] x.cond.l)) ?_
  by_cases h1:(exCheck d [] x.cond.l).2=0
  ·by_cases h2:(exCheck d [] x.cond.l).1=1
   ·simp [h1,h2]
   ·simp [h1,h2]
  ·simp [h1]
 by_cases k0:x.kind < 1
 ·have hv:nodCheckW d x (usedTo l n)=11:=by unfold nodCheckW; rw [if_neg (by omega),if_neg k2]
  simp [hz,hn,k0,fPrg,cPrg,fNod_eq,hv]
 by_cases k4:3 < x.kind
 ·have hv:nodCheckW d x (usedTo l n)=11:=by unfold nodCheckW; rw [if_neg (by omega),if_neg k2]
  simp [hz,hn,k0,k4,fPrg,cPrg,fNod_eq,hv]
 have k1:x.kind=1∨x.kind=3:=by omega
 have hv:nodCheckW d x (usedTo l n)=if x.table < 0∨(d.tables.l.length:Int)≤x.table then 8
  else if (usedTo l n).contains x.table then 7
  else if x.kind=1∧0 < wr ((x.thn.l.length:Int)+x.els.l.length) then 5 else 0:=by unfold nodCheckW; rw [if_pos k1]
 rw [used_any] at hv
 generalize nodCheckW d x (usedTo l n)=v at hv
 by_cases c1:x.table < 0
 ·rw [if_pos (.inl c1)] at hv
  simp [hz,hn,k0,k4,k2,fPrg,cPrg,fNod_eq,hv,c1]
 by_cases c2:(d.tables.l.length:Int)≤x.table
 ·rw [if_pos (.inr c2)] at hv
  simp [hz,hn,k0,k4,k2,fPrg,cPrg,fNod_eq,hv,c1,c2]
 rw [if_neg (by omega)] at hv
 simp [hz,hn,k0,k4,k2,fPrg,cPrg,fNod_eq,c1,c2]
 refine call_g (rbefore_g l c n x hx hl) ?_
 cases ha:(l.take n).any (apSame x) with
 | true =>
  rw [ha,if_pos rfl] at hv
  simp [hv]
 | false =>
  rw [ha,if_neg (by decide)] at hv
  by_cases e1:x.kind=1
  ·by_cases e2:0 < wr ((x.thn.l.length:Int)+x.els.l.length)
   ·rw [if_pos ⟨e1,e2⟩] at hv
    unfold wr at e2
    simp [e1,e2,hv]
   ·rw [if_neg (fun h=>e2 h.2)] at hv
    unfold wr at e2
    simp [e1,e2,hv]
  ·rw [if_neg (fun h=>e1 h.1)] at hv
   simp [e1,hv]
def rctI (d:PrgD) (L:List NodD) (c:Cap) (i:Nat) (s:St):Prop:=ctlGoW d L [] 0=ctlGoW d (L.drop i) (usedTo L i) i∧∃ g,Vf.Sl [(1,.ref 0 0),(4,.f (.sl (encL fNod L) c)),(5,.f (intF i))] 34 (aPrg d::g) [] s
theorem rctl_g (d:PrgD) (hB:NodB d.control.l) (hn:(nodsPre d.control.l).length≤10000000):Gives Tryz.prog 44 [fPrg d] (two (ctlCheckW d)):=by
 refine Gives.of mixed Tryz.func44 rfl rfl rfl (by kernel_rfl) ?_
 have hwr:wr ((nodsPre d.control.l).length:Int)=(nodsPre d.control.l).length:=wr_id (by omega) (by omega)
 have hv:ctlCheckW d=if 24 < ((nodsPre d.control.l).length:Int) then (-1,12)
  else if 6 < nodsDeepW d.control.l then (-1,14)
  else if (ctlGoW d (nodsPre d.control.l) [] 0).2 ≠ 0 then (wr (ctlGoW d (nodsPre d.control.l) [] 0).1,(ctlGoW d (nodsPre d.control.l) [] 0).2) else (0,0):=by unfold ctlCheckW; rw [hwr]
 generalize ctlCheckW d=v at hv
 simp [fPrg,cPrg]
 refine call_g (rcount_g _ hB hn) ?_
 by_cases c1:24 < ((nodsPre d.control.l).length:Int)
 ·rw [if_pos c1] at hv
  simp [c1,hv]
 rw [if_neg c1] at hv
 simp [c1]
 refine call_g (rnest_g _ hB hn) ?_
 by_cases c2:6 < nodsDeepW d.control.l
 ·rw [if_pos c2] at hv
  simp [c2,hv]
 rw [if_neg c2] at hv
 simp [c2]
 refine call_g (rpre_g _ hB hn) ?_
 generalize nodsPre d.control.l=L at *
 obtain ⟨c,hc⟩:=ownF_is (encL fNod L)
 rw [hc]
 simp
 refine forX mixed L.length (rctI d L c) (by kernel_rfl) ⟨rfl,[],Sl.of rfl rfl rfl⟩ ?_
 rintro i ⟨ts,hh,kk⟩ hi ⟨hgo,g,rfl,rfl,f,rfl⟩
 by_cases hlt:i < L.length
 ·obtain ⟨x,hx,hx'⟩:=nth_of hlt
  have hw:=wrap64 (x:=(i:Int)+1) (by omega) (by omega)
  have hdr:L.drop i=x::L.drop (i+1):=by
   rw [List.drop_eq_getElem_cons hlt]
   have:=List.getElem?_eq_getElem hlt
   rw [hx'] at this
   rw [← Option.some.inj this]
  rw [hdr,ctlGoW] at hgo
  simp [hlt,aPrg]
  refine call_g (rnode_g d L c i x hx' (by omega)) ?_
  by_cases h3:nodCheckW d x (usedTo L i)=0
  ·rw [if_neg (by simpa using h3),← used_next hx'] at hgo
   simp [h3,hw]
   exact ⟨hgo,_,Sl.of rfl rfl rfl⟩
  ·rw [if_pos h3] at hgo
   rw [hgo,if_pos h3,wr_id (by omega) (by omega)] at hv
   simp [h3,hv]
 ·obtain rfl:i=L.length:=by omega
  rw [List.drop_length,ctlGoW] at hgo
  rw [hgo,if_neg (by simp)] at hv
  simp [aPrg,hv]
abbrev fD (o:Option Diag):FV:=fDiag (o.getD (0,0,0,0))
theorem rat_g (e p i s:Int):Gives Tryz.prog 122 [intF e,intF p,intF i,intF s] (fDiag (e,p,i,s)):=by
 refine Gives.of mixed Tryz.func122 rfl rfl rfl (by kernel_rfl) ?_
 simp
theorem rwhole_g (d:PrgD) (hn:NmOk d):Gives Tryz.prog 62 [fPrg d] (fD (prgLimits d)):=by
 refine Gives.of mixed Tryz.func62 rfl rfl rfl (by kernel_rfl) ?_
 have hv:prgLimits d=firstD [req (if ident d.name then 0 else 6) 0 0 0,req (if 8 < d.headers.l.length then 12 else 0) 0 1 0,req (if 4 < d.regs.l.length then 12 else 0) 0 3 0,
  req (if 16 < d.acts.l.length then 12 else 0) 0 4 0,req (if 12 < d.tables.l.length then 12 else 0) 0 5 0]:=rfl
 rw [hv]
 simp [fPrg,cPrg]
 refine call_g (rident_g d.name hn.nm) ?_
 cases h1:ident d.name with
 | false=>simp; refine call_g (rat_g 6 0 0 0) ?_; simp [firstD,req]
 | true =>
 by_cases c1:8 < d.headers.l.length
 ·have c1':8 < (d.headers.l.length:Int):=by omega
  simp [c1']; refine call_g (rat_g 12 0 1 0) ?_; simp [firstD,req,c1]
 have c1':¬ 8 < (d.headers.l.length:Int):=by omega
 by_cases c2:4 < d.regs.l.length
 ·have c2':4 < (d.regs.l.length:Int):=by omega
  simp [c1',c2']; refine call_g (rat_g 12 0 3 0) ?_; simp [firstD,req,c1,c2]
 have c2':¬ 4 < (d.regs.l.length:Int):=by omega
 by_cases c3:16 < d.acts.l.length
 ·have c3':16 < (d.acts.l.length:Int):=by omega
  simp [c1',c2',c3']; refine call_g (rat_g 12 0 4 0) ?_; simp [firstD,req,c1,c2,c3]
 have c3':¬ 16 < (d.acts.l.length:Int):=by omega
 by_cases c4:12 < d.tables.l.length
 ·have c4':12 < (d.tables.l.length:Int):=by omega
  simp [c1',c2',c3',c4']; refine call_g (rat_g 12 0 5 0) ?_; simp [firstD,req,c1,c2,c3,c4]
 have c4':¬ 12 < (d.tables.l.length:Int):=by omega
 simp [c1',c2',c3',c4',firstD,req,c1,c2,c3,c4]
theorem dupS_any {α:Type} (nm:α→ByteArray) {l:List α} {i:Nat} {x:α} (h:l[i]?=some x):dupS (l.map nm) i=if (l.take i).any (fun y=>sEq (nm y) (nm x)) then 7 else 0:=by
 unfold dupS
 rw [List.getElem?_map,h,← List.map_take]
 simp only [Option.map_some,List.any_map]
 rfl
def e3 (a b c:Int):Int:=if a=0 then (if b=0 then c else b) else a
theorem first3 (a b c p i:Int):firstD [req a p i 0,req b p i 0,req c p i 0]=if e3 a b c=0 then none else some (e3 a b c,p,i,0):=by
 unfold e3
 by_cases ha:a=0
 ·by_cases hb:b=0
  ·by_cases hc:c=0 <;> simp [firstD,req,ha,hb,hc]
  ·simp [firstD,req,ha,hb]
 ·simp [firstD,req,ha]
def Z4:List AV:=[.f (intF 0),.f (intF 0),.f (intF 0),.f (intF 0)]
def rhI1 (d:PrgD) (i:Nat) (s:St):Prop:=noneT (fun i=>(prgHdr d i).isSome) (List.range d.headers.l.length) i∧∃ g,Vf.Sl [(1,.ref 0 0),(2,.ref 1 0),(3,.f (intF i))] 58 (aPrg d::Z4::g) [] s
def rhI2 (d:PrgD) (nm:ByteArray) (E:Int) (i k:Nat) (s:St):Prop:=∃ e:Int,(e ≠ 0→e=E)∧(e=0→E=(if (d.headers.l.take i).any (fun y=>sEq y.name nm) then (7:Int) else 0)∧noneT (fun y:HdrD=>sEq y.name nm) (d.headers.l.take i) k)∧∃ g,Vf.Sl [(1,.ref 0 0),(2,.ref 1 0),(3,.f (intF i)),(4,.f (intF e)),(5,.f (intF k))] 58 (aPrg d::Z4::g) [] s
theorem rheaders_g (d:PrgD) (hn:NmOk d) (hl:d.headers.l.length < 100000):Gives Tryz.prog 63 [fPrg d] (fDiag ((scan d.headers.l.length (prgHdr d)).getD (0,0,0,0))):=by
 refine Gives.of mixed Tryz.func63 rfl rfl rfl (by kernel_rfl) ?_
 generalize hv:(scan d.headers.l.length (prgHdr d)).getD (0,0,0,0)=v
 simp [fPrg,cPrg]
 refine forX mixed d.headers.l.length (rhI1 d) (by kernel_rfl) ⟨.zero,[],Sl.of rfl rfl rfl⟩ ?_
 rintro i ⟨ts,hh,kk⟩ hi ⟨hno,g,rfl,rfl,f,rfl⟩
 by_cases hlt:i < d.headers.l.length
 ·obtain ⟨x,hx,hx'⟩:=nth_of hlt
  have hw:=wrap64 (x:=(i:Int)+1) (by omega) (by omega)
  have hxn:=hn.headers x (List.mem_of_getElem? hx')
  generalize he0:(if hdrCheck x=0 then (if sEq x.name metaName then (6:Int) else 0) else hdrCheck x)=e0
  generalize hE:(if e0=0 then (if (d.headers.l.take i).any (fun y=>sEq y.name x.name) then (7:Int) else 0) else e0)=E
  have hP:prgHdr d i=if E=0 then none else some (E,1,(i:Int),0):=by
   have e:prgHdr d i=firstD [req (hdrCheck x) 1 i 0,req (if sEq x.name metaName then 6 else 0) 1 i 0,req (dupS (d.headers.l.map (·.name)) i) 1 i 0]:=by simp only [prgHdr,hx']
   rw [e,first3,dupS_any (·.name) hx']
   have:e3 (hdrCheck x) (if sEq x.name metaName then 6 else 0) (if (d.headers.l.take i).any (fun y=>sEq y.name x.name) then 7 else 0)=E:=by
    rw [← hE,← he0]
    unfold e3
    by_cases h0:hdrCheck x=0
    ·simp only [h0,if_true]
    ·simp only [h0,if_false]
   rw [this]
  have out:∀ e,prgHdr d i=some e→v=e:=fun e he=>by rw [← hv,scan_at hno hlt he]; rfl
  simp [hlt,hx,aPrg]
  refine call_g (rhdr_g x hxn.1 hxn.2) ?_
  rw [metaName_eq] at he0
  have hA:e0 ≠ 0→e0=E:=fun h=>by rw [← hE,if_neg h]
  have hB:e0=0→E=if (d.headers.l.take i).any (fun y=>sEq y.name x.name) then (7:Int) else 0:=fun h=>by rw [← hE,if_pos h]
  have hcs:(¬ hdrCheck x=0∧hdrCheck x=e0)∨(hdrCheck x=0∧sEq x.name ⟨#[109,101,116,97]⟩=true∧(6:Int)=e0)∨(hdrCheck x=0∧sEq x.name ⟨#[109,101,116,97]⟩=false∧(0:Int)=e0):=by
   by_cases h0:hdrCheck x=0
   ·rw [if_pos h0] at he0
    cases hme:sEq x.name ⟨#[109,101,116,97]⟩ with
    | true=>rw [hme,if_pos rfl] at he0; exact .inr (.inl ⟨h0,rfl,he0⟩)
    | false=>rw [hme,if_neg (by decide)] at he0; exact .inr (.inr ⟨h0,rfl,he0⟩)
   ·rw [if_neg h0] at he0; exact .inl ⟨h0,he0⟩
  clear he0 hE
  rcases hcs with ⟨h0,rfl⟩ | ⟨h0,hme,rfl⟩ | ⟨h0,hme,rfl⟩
  all_goals first | simp [h0,hlt,hx,hme] | simp [h0]
  all_goals
   refine forX mixed (i+1) (rhI2 d x.name E i) (by kernel_rfl) ⟨_,hA,fun h=>⟨hB h,.zero⟩,_,Sl.of rfl rfl rfl⟩ ?_
   rintro k ⟨ts,hh,kk⟩ hk ⟨e,hE1,hE2,g,rfl,rfl,f,rfl⟩
   by_cases he:e=0
   ·subst he
    obtain ⟨hB,hno2⟩:=hE2 rfl
    have hB0:=hB
    by_cases hkt:k < i
    ·obtain ⟨y,hy,hy'⟩:=nth_of (show k < d.headers.l.length by omega)
     have hyt:(d.headers.l.take i)[k]?=some y:=by rw [List.getElem?_take_of_lt hkt]; exact hy'
     have hw':=wrap64 (x:=(k:Int)+1) (by omega) (by omega)
     cases hs:sEq y.name x.name with
     | true =>
      rw [any_hit hyt hs,if_pos rfl] at hB
      simp [hkt,hlt,(show k < d.headers.l.length by omega),hx,hy,aPrg,hs,hw']
      exact ⟨by omega,7,fun _=>hB.symm,(fun h=>by cases h),_,Sl.of rfl rfl rfl⟩
     | false =>
      simp [hkt,hlt,(show k < d.headers.l.length by omega),hx,hy,aPrg,hs,hw']
      exact ⟨by omega,0,fun h=>absurd rfl h,fun _=>⟨hB0,hno2.next hyt hs⟩,_,Sl.of rfl rfl rfl⟩
    ·have hki:¬ (k:Int) < i:=by omega
     have hnone:(d.headers.l.take i).any (fun y=>sEq y.name x.name)=false:=by
      rw [List.any_eq_false]
      intro y hy
      obtain ⟨j,hj,rfl⟩:=List.getElem_of_mem hy
      have hj':j < i:=by rw [List.length_take] at hj; omega
      have:=hno2 j _ (by omega) (List.getElem?_eq_getElem hj)
      simpa using this
     rw [hnone,if_neg (by decide)] at hB
     simp [hki,aPrg,hw]
     exact ⟨hno.next (range_at hlt) (by rw [hP,if_pos hB]; rfl),_,Sl.of rfl rfl rfl⟩
   ·have hEe:=hE1 he
    have hEn:¬ E=0:=by rw [← hEe]; exact he
    have ho:=out _ (hP.trans (if_neg hEn))
    by_cases hki:(k:Int) < i
    ·simp [hki,he,aPrg]
     refine call_g (rat_g e 1 i 0) ?_
     simp [ho,hEe,Z4]
    ·simp [hki,he,aPrg]
     refine call_g (rat_g e 1 i 0) ?_
     simp [ho,hEe,Z4]
 ·obtain rfl:i=d.headers.l.length:=by omega
  rw [scan_of hno] at hv
  subst hv
  simp [aPrg,Z4]
end Go.Proofs.YtafenffmgpcjcaaGreat
