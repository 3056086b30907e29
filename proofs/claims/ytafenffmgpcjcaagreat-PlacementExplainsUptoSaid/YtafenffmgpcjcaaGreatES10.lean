/- Texts of the proof: ES10. -/
import Derived.Test.YtafenffmgpcjcaaGreatES9
import Derived.Test.YtafenffmgpcjcaaGreatES8
import Derived.Test.YtafenffmgpcjcaaGreatES7
import Derived.Test.YtafenffmgpcjcaaGreatES6
namespace Go.Proofs.YtafenffmgpcjcaaGreat
open Go.RowKit Go.Proofs.YtafenffmgpcjcaaGreat.Vf
set_option linter.unusedVariables false
set_option linter.unusedSimpArgs false
set_option maxRecDepth 100000
set_option maxHeartbeats 4000000
theorem elems_ownF (l : List FV) : elems (.f (ownF l)) = some l:=by
 unfold ownF
 split
 ·rename_i h; rw [h]; rfl
 ·rfl
theorem append_own0 {T : TV} {k : List (Nat × Nat)} {l ys : List FV} {x y : AV} {t : Nat} {ty e : TypeId} {s b : Nat} {z : List AV} {ety : Ty} (ht : T ty = some ⟨s,b,.slice e,z⟩) (he : T e = some ety) (hz : ety.size ≠ 0)
  (h : OwnT k l ety.size x t) (hy : elems y = some ys) (hall : ys.all (fun u=>u.cells.length == ety.size) = true) (hb : (l.length + ys.length) * ety.bytes ≤ 140737488355328) (hb2 : l.length + ys.length ≤ 4611686018427387904) :
  ∃ x' t' k',opAppend T k ty x y = some (x',k')∧OwnT k' (l ++ ys) ety.size x' t'∧k.length ≤ k'.length∧∀ i,i < k.length→(l ≠ []→i ≠ t)→k'[i]? = k[i]?∧t' ≠ i:=by
 by_cases hys : ys = []
 ·subst hys
  rcases h with ⟨rfl,rfl⟩ | ⟨h1,rfl,h2⟩
  ·refine ⟨.f (.sl [] .nil),k.length,k,?_,.inl ⟨rfl,rfl⟩,Nat.le_refl _,fun i hi _=>⟨rfl,by omega⟩⟩
   unfold opAppend
   simp only [ht,he,hy,if_neg hz,hall,if_true]
  ·refine ⟨.own l t,t,k,?_,by rw [List.append_nil]; exact .inr ⟨h1,rfl,h2⟩,Nat.le_refl _,fun i hi hit=>⟨rfl,fun e=>hit h1 e.symm⟩⟩
   unfold opAppend
   simp only [ht,he,hy,if_neg hz,hall,if_true]
 ·obtain ⟨t',k',a,b,c,d⟩:=append_own ht he hz h hy hys hall hb hb2
  exact ⟨_,t',k',a,b,c,d⟩
theorem store_own {T : TV} {ty : TypeId} {e : Ty} (ht : T ty = some e) (hs : e.size = 1) {h : List (List AV)} {b off : Nat} {cs : List AV} (hb : ix h b = some cs) (hj : off + 1 ≤ cs.length) {k : List (Nat × Nat)} {l : List FV} {sz t : Nat} {x : AV} (ho : OwnT k l sz x t) :
  opStore T h ty (.ref b off) x = some (h.set b (cs.set off x)):=by
 rcases ho with ⟨_,rfl⟩ | ⟨_,rfl,_⟩
 ·unfold opStore
  simp only [ht,hb,hs]
  exact if_pos ⟨rfl,hj,rfl⟩
 ·unfold opStore
  simp only [ht,hb,hs]
  exact if_pos ⟨rfl,hj,rfl⟩
structure Acc3 (F : List FR) (M G : List Int) (k : List (Nat × Nat)) (x0 x1 x2 : AV) (t0 t1 t2 : Nat) : Prop where
 h0 : OwnT k (encL fRp F) 2 x0 t0
 h1 : OwnT k (encL intF M) 1 x1 t1
 h2 : OwnT k (encL intF G) 1 x2 t2
 n01 : encL fRp F ≠ []→encL intF M ≠ []→t0 ≠ t1
 n02 : encL fRp F ≠ []→encL intF G ≠ []→t0 ≠ t2
 n12 : encL intF M ≠ []→encL intF G ≠ []→t1 ≠ t2
theorem Acc3.start {k : List (Nat × Nat)} : Acc3 [] [] [] k (.f (.sl [] .nil)) (.f (.sl [] .nil)) (.f (.sl [] .nil)) 0 0 0:=⟨.nil,.nil,.nil,fun h=>absurd rfl h,fun h=>absurd rfl h,fun h=>absurd rfl h⟩
theorem Acc3.app0 {F F2 : List FR} {M G : List Int} {k : List (Nat × Nat)} {x0 x1 x2 y : AV} {t0 t1 t2 : Nat} (A : Acc3 F M G k x0 x1 x2 t0 t1 t2) (hy : elems y = some (encL fRp F2)) (hb : F.length + F2.length ≤ 4000000) :
  ∃ x' t' k',opAppend (tyOf Tryz.prog) k 187 x0 y = some (x',k')∧Acc3 (F ++ F2) M G k' x' x1 x2 t' t1 t2∧k.length ≤ k'.length:=by
 obtain ⟨x',t',k',e,ho,hl,hk⟩:=append_own0 ty187 ty71 (by simp) A.h0 hy (by simp [encL]) (by simp; omega) (by simp; omega)
 obtain ⟨o1,p1⟩:=own_stays A.h1 (fun a b=>(A.n01 b a).symm) hk
 obtain ⟨o2,p2⟩:=own_stays A.h2 (fun a b=>(A.n02 b a).symm) hk
 exact ⟨x',t',k',e,⟨by rw [encL,List.map_append]; exact ho,o1,o2,fun _ h=>p1 h,fun _ h=>p2 h,A.n12⟩,hl⟩
theorem Acc3.app1 {F : List FR} {M M2 G : List Int} {k : List (Nat × Nat)} {x0 x1 x2 y : AV} {t0 t1 t2 : Nat} (A : Acc3 F M G k x0 x1 x2 t0 t1 t2) (hy : elems y = some (encL intF M2)) (hb : M.length + M2.length ≤ 4000000) :
  ∃ x' t' k',opAppend (tyOf Tryz.prog) k 29 x1 y = some (x',k')∧Acc3 F (M ++ M2) G k' x0 x' x2 t0 t' t2∧k.length ≤ k'.length:=by
 obtain ⟨x',t',k',e,ho,hl,hk⟩:=append_own0 ty29 ty3 (by simp) A.h1 hy (by simp [encL]) (by simp; omega) (by simp; omega)
 obtain ⟨o1,p1⟩:=own_stays A.h0 A.n01 hk
 obtain ⟨o2,p2⟩:=own_stays A.h2 (fun a b=>(A.n12 b a).symm) hk
 exact ⟨x',t',k',e,⟨o1,by rw [encL,List.map_append]; exact ho,o2,fun h _=>(p1 h).symm,A.n02,fun _ h=>p2 h⟩,hl⟩
theorem Acc3.app2 {F : List FR} {M G G2 : List Int} {k : List (Nat × Nat)} {x0 x1 x2 y : AV} {t0 t1 t2 : Nat} (A : Acc3 F M G k x0 x1 x2 t0 t1 t2) (hy : elems y = some (encL intF G2)) (hb : G.length + G2.length ≤ 4000000) :
  ∃ x' t' k',opAppend (tyOf Tryz.prog) k 29 x2 y = some (x',k')∧Acc3 F M (G ++ G2) k' x0 x1 x' t0 t1 t'∧k.length ≤ k'.length:=by
 obtain ⟨x',t',k',e,ho,hl,hk⟩:=append_own0 ty29 ty3 (by simp) A.h2 hy (by simp [encL]) (by simp; omega) (by simp; omega)
 obtain ⟨o1,p1⟩:=own_stays A.h0 A.n02 hk
 obtain ⟨o2,p2⟩:=own_stays A.h1 A.n12 hk
 exact ⟨x',t',k',e,⟨o1,o2,by rw [encL,List.map_append]; exact ho,A.n01,fun h _=>(p1 h).symm,fun h _=>(p2 h).symm⟩,hl⟩
theorem retR_none {T : TV} {h0 hh : List (List AV)} {k0 kk : List (Nat × Nat)} {R : AV→List (List AV)→List (Nat × Nat)→Prop} {t : List AV} {e : Exit} (he : e = .normal ∨ e = .ret) (hl : hh.length = h0.length) (hk : k0.length ≤ kk.length) (hb : BelC h0 hh kk.length) (hR : R (.tup []) hh kk) : RetR T [] h0 k0 R e ⟨t,hh,kk⟩ :=
 ⟨he,hh,[],kk,[],.tup [],(List.append_nil _).symm,hl,(List.append_nil _).symm,hk,hb,.inl ⟨rfl,.tup [] fun j y h=>by simp at h⟩,hR⟩
theorem own_bel {k : List (Nat × Nat)} {l : List FV} {sz t n : Nat} {x : AV} (h : OwnT k l sz x t) : Bel n k.length x:=by
 rcases h with ⟨_,rfl⟩ | ⟨_,rfl,h2⟩
 ·exact .f _
 ·exact .own _ _ (List.getElem?_eq_some_iff.1 h2).1
theorem Acc3.bel {F : List FR} {M G : List Int} {k : List (Nat × Nat)} {x0 x1 x2 : AV} {t0 t1 t2 n : Nat} (A : Acc3 F M G k x0 x1 x2 t0 t1 t2) : ∀ z ∈ [x0,x1,x2],Bel n k.length z:=fun z hz=>by
 rcases List.mem_cons.1 hz with rfl | hz
 ·exact own_bel A.h0
 rcases List.mem_cons.1 hz with rfl | hz
 ·exact own_bel A.h1
 obtain rfl:=List.mem_singleton.1 hz
 exact own_bel A.h2
theorem fldsM_len (l : List ExD) : (fldsM l).length ≤ l.length:=by
 have h1:=canR_len (fldsTo l)
 have h2:=fldsTo_len l l.length
 rw [List.take_length] at h2
 exact Nat.le_trans h1 h2
theorem hdrsM_len (l : List ExD) : (hdrsM l).length ≤ l.length:=by
 have h1:=canZ_len (hdrsTo l)
 have h2:=hdrsTo_len l l.length
 rw [List.take_length] at h2
 exact Nat.le_trans h1 h2
theorem expr_x (F : List FR) (M G : List Int) (l : List ExD) (c : Cap) {h : List (List AV)} {k : List (Nat × Nat)} {b t0 t1 t2 : Nat} {x0 x1 x2 : AV} (A : Acc3 F M G k x0 x1 x2 t0 t1 t2) (hb : ix h b = some [x0,x1,x2]) (hl : l.length ≤ 1000000) (hF : F.length ≤ 1000000) (hM : M.length ≤ 1000000) :
  GivesX Tryz.prog 223 [.ref b 0,.f (.sl (encL fEx l) c)] h k (fun y h' k'=>y = .tup []∧∃ y0 y1 u0 u1,h' = h.set b [y0,y1,x2]∧Acc3 (F ++ fldsM l) (M ++ hdrsM l) G k' y0 y1 x2 u0 u1 t2):=by
 have hbl : b < h.length:=(List.getElem?_eq_some_iff.1 hb).1
 have f1:=fldsM_len l
 have f2:=hdrsM_len l
 refine GivesX.of_W Tryz.func223 rfl rfl rfl (by decide) ?_
 refine W.two (W.x mixed (by kernel_rfl) ?_)
 simp [hb]
 refine call_g (exFlds_g l c hl) ?_
 obtain ⟨y0,u0,k1,e,A1,hk1⟩:=A.app0 (elems_ownF (encL fRp (fldsM l))) (by omega)
 simp [-opAppend]
 rw [e]
 simp [-opStore]
 rw [store_own ty187 rfl hb (by simp) A1.h0]
 simp
 have hset : ∀ c,ix (h.set b c) b = some c:=fun c=>List.getElem?_set_self hbl
 refine W.x mixed (by kernel_rfl) ?_
 simp [hset]
 refine call_g (exHdrs_g l c hl) ?_
 obtain ⟨y1,u1,k2,e2,A2,hk2⟩:=A1.app1 (elems_ownF (encL intF (hdrsM l))) (by omega)
 simp [-opAppend]
 rw [e2]
 simp [-opStore]
 rw [store_own ty29 rfl (hset _) (by simp) A2.h1]
 simp
 exact retR_none (.inl rfl) (by simp) (by omega) (.set A2.bel) ⟨rfl,_,_,rfl,_,_,A2⟩
def bodyM (d : PrgD) (i : Int) : List StD:=match (if i < 0 then none else d.acts.l[i.toNat]?) with
 | none=>[]
 | some a=>if (actCheckA d a).2 = 0 then a.body.l else []
theorem body_g (d : PrgD) (hn : NmOk d) (i : Int) : ∃ c,Gives Tryz.prog 222 [fPrg d,intF i] (.sl (encL fSt (bodyM d i)) c):=by
 have hg:=act_g d hn i
 rcases actAt (d:=d) i with ⟨c1,hr⟩ | ⟨c1,c2,hr⟩ | ⟨c1,c2,c3,a,ha,ha',hr⟩
 ·have hv : actCheck d i = (-1,8):=by unfold actCheck; rw [hr]
  have hb : bodyM d i = []:=by unfold bodyM; rw [hr]
  rw [hv] at hg
  rw [hb]
  refine ⟨.nil,Gives.of mixed Tryz.func222 rfl rfl rfl (by kernel_rfl) ?_⟩
  simp [fPrg,cPrg]
  refine call_g hg ?_
  simp [encL]
 ·have hv : actCheck d i = (-1,8):=by unfold actCheck; rw [hr]
  have hb : bodyM d i = []:=by unfold bodyM; rw [hr]
  rw [hv] at hg
  rw [hb]
  refine ⟨.nil,Gives.of mixed Tryz.func222 rfl rfl rfl (by kernel_rfl) ?_⟩
  simp [fPrg,cPrg]
  refine call_g hg ?_
  simp [encL]
 ·have hv : actCheck d i = actCheckA d a:=by unfold actCheck; rw [hr]
  have hb : bodyM d i = if (actCheckA d a).2 = 0 then a.body.l else []:=by unfold bodyM; rw [hr]
  rw [hv] at hg
  rw [hb]
  generalize actCheckA d a = r at hg ⊢
  obtain ⟨r1,r2⟩:=r
  by_cases c0 : r2 = 0
  ·refine ⟨.un,Gives.of mixed Tryz.func222 rfl rfl rfl (by kernel_rfl) ?_⟩
   simp [fPrg,cPrg]
   refine call_g hg ?_
   simp [c0,(show (0 : Int) ≤ i by omega),ha,c3]
  ·refine ⟨.nil,Gives.of mixed Tryz.func222 rfl rfl rfl (by kernel_rfl) ?_⟩
   simp [fPrg,cPrg]
   refine call_g hg ?_
   simp [c0,encL]
theorem mapO_imp {α β : Type} {f g : α→Option β} (h : ∀ x y,f x = some y→g x = some y) : ∀ {l : List α} {r : List β},mapO f l = some r→mapO g l = some r
 | [],r,e=>e
 | x :: l,r,e=>by
  simp only [mapO] at e ⊢
  cases hx : f x with
  | none=>simp [hx] at e
  | some y =>
   simp only [hx] at e
   cases hl : mapO f l with
   | none=>simp [hl] at e
   | some ys =>
    simp only [hl] at e
    rw [h x y hx,mapO_imp h hl]
    exact e
theorem fzH_up {n0 : Nat} {h : List (List AV)} : ∀ (n : Nat) {x : AV} {y : FV},fzH n0 h n x = some y→fzH n0 h (n + 1) x = some y:=by
 intro n
 induction n with
 | zero =>
  intro x y e
  cases x <;> first | exact e | cases e
 | succ n ih =>
  intro x y e
  cases x with
  | agg cs =>
   simp only [fzH] at e ⊢
   cases hc : mapO (fzH n0 h n) cs with
   | none=>simp [hc] at e
   | some fs =>
    simp only [hc] at e
    rw [mapO_imp (fun a b=>ih) hc]; exact e
  | tup cs =>
   simp only [fzH] at e ⊢
   cases hc : mapO (fzH n0 h n) cs with
   | none=>simp [hc] at e
   | some fs =>
    simp only [hc] at e
    rw [mapO_imp (fun a b=>ih) hc]; exact e
  | ms b off len cap sz =>
   simp only [fzH] at e ⊢
   cases hb : ix h b with
   | none=>simp [hb] at e
   | some cs =>
    simp only [hb] at e ⊢
    split at e
    ·rename_i hcond
     rw [if_pos hcond]
     cases hc : mapO (fzH n0 h n) ((cs.drop off).take (len * sz)) with
     | none=>simp [hc] at e
     | some fs =>
      simp only [hc] at e
      rw [mapO_imp (fun a b=>ih) hc]; exact e
    ·cases e
  | _=>first | exact e | cases e
theorem fzH_le {n0 : Nat} {h : List (List AV)} {n m : Nat} {x : AV} {y : FV} (hnm : n ≤ m) (e : fzH n0 h n x = some y) : fzH n0 h m x = some y:=by
 induction hnm with
 | refl=>exact e
 | step _ ih=>exact fzH_up _ ih
theorem ret_tri {h : List (List AV)} {x0 x1 x2 : AV} {a b c : FV} (h0 : RetV h x0 (· = a)) (h1 : RetV h x1 (· = b)) (h2 : RetV h x2 (· = c)) : RetV h (.tup [x0,x1,x2]) (· = .tup [a,b,c]):=by
 obtain ⟨n0,_,e0,rfl⟩:=h0
 obtain ⟨n1,_,e1,rfl⟩:=h1
 obtain ⟨n2,_,e2,rfl⟩:=h2
 refine ⟨n0 + n1 + n2 + 1,_,?_,rfl⟩
 simp only [fzH,mapO]
 rw [fzH_le (by omega) e0,fzH_le (by omega) e1,fzH_le (by omega) e2]
structure Tri where
 F : List FR
 M : List Int
 G : List Int
def triE (a : Tri) (l : List ExD) : Tri:=⟨a.F ++ fldsM l,a.M ++ hdrsM l,a.G⟩
def triH (a : Tri) (h : Int) : Tri:=⟨a.F,a.M ++ [h],a.G⟩
def triR (a : Tri) (r : Int) : Tri:=⟨a.F,a.M,a.G ++ [r]⟩
def triF (a : Tri) (l : List FR) : Tri:=⟨a.F ++ l,a.M,a.G⟩
def triC (a : Tri) : Tri:=⟨canR a.F,canZ a.M,canZ a.G⟩
abbrev fTri (a : Tri) : FV:=.tup [ownF (encL fRp a.F),ownF (encL intF a.M),ownF (encL intF a.G)]
def rdStep (a : Tri) (s : StD) : Tri :=
 if s.kind = 1 then (if s.dh = -1 then triE a s.value.l else triH (triE a s.value.l) s.dh)
 else if s.kind = 2 then triH a s.hdr
 else if s.kind = 4 then (if s.dh = -1 then triR (triE a s.index.l) s.reg else triH (triR (triE a s.index.l) s.reg) s.dh)
 else if s.kind = 5 then triE (triE a s.index.l) s.value.l
 else a
def rdTo (l : List StD) : Tri:=l.foldl rdStep ⟨[],[],[]⟩
def actRdM (d : PrgD) (i : Int) : Tri:=triC (rdTo (bodyM d i))
theorem rdTo_next {l : List StD} {i : Nat} {s : StD} (h : l[i]? = some s) : rdTo (l.take (i + 1)) = rdStep (rdTo (l.take i)) s:=by
 unfold rdTo
 rw [← take_one h,List.foldl_append]; rfl
def StOk (d : PrgD) (s : StD) : Prop:=(s.kind = 1 ∨ s.kind = 2 ∨ s.kind = 3 ∨ s.kind = 4 ∨ s.kind = 5)∧((s.kind = 2 ∨ s.kind = 3)→0 ≤ s.hdr∧s.hdr < d.headers.l.length) ∧
  ((s.kind = 1 ∨ s.kind = 5)→s.value.l.length ≤ 24)∧((s.kind = 4 ∨ s.kind = 5)→s.index.l.length ≤ 24)
theorem bodyM_ok (d : PrgD) (i : Int) : (bodyM d i).length ≤ 12∧∀ s ∈ bodyM d i,StOk d s:=by
 unfold bodyM
 split
 ·exact ⟨Nat.zero_le _,fun s hs=>by cases hs⟩
 ·rename_i a _
  split
  ·rename_i h
   obtain ⟨_,h2,h3⟩:=actC_of h
   exact ⟨h2,fun s hs=>stC_of (h3 s hs)⟩
  ·exact ⟨Nat.zero_le _,fun s hs=>by cases hs⟩
def triB (a : Tri) (n : Nat) : Prop:=a.F.length ≤ n∧a.M.length ≤ n∧a.G.length ≤ n
theorem triB.e {a : Tri} {n m : Nat} {l : List ExD} (h : triB a n) (hl : l.length ≤ m) : triB (triE a l) (n + m):=by
 have h1:=fldsM_len l
 have h2:=hdrsM_len l
 obtain ⟨a1,a2,a3⟩:=h
 refine ⟨?_,?_,?_⟩ <;> simp [triE] <;> omega
theorem triB.h {a : Tri} {n : Nat} {x : Int} (h : triB a n) : triB (triH a x) (n + 1):=by
 obtain ⟨a1,a2,a3⟩:=h
 refine ⟨?_,?_,?_⟩ <;> simp [triH] <;> omega
theorem triB.r {a : Tri} {n : Nat} {x : Int} (h : triB a n) : triB (triR a x) (n + 1):=by
 obtain ⟨a1,a2,a3⟩:=h
 refine ⟨?_,?_,?_⟩ <;> simp [triR] <;> omega
theorem triB.mono {a : Tri} {n m : Nat} (h : triB a n) (hn : n ≤ m) : triB a m:=⟨Nat.le_trans h.1 hn,Nat.le_trans h.2.1 hn,Nat.le_trans h.2.2 hn⟩
theorem rdStep_b {d : PrgD} {a : Tri} {s : StD} {n : Nat} (h : triB a n) (hs : StOk d s) : triB (rdStep a s) (n + 50):=by
 obtain ⟨_,_,hv,hi⟩:=hs
 unfold rdStep
 split
 ·rename_i h1
  split
  ·exact (h.e (hv (.inl h1))).mono (by omega)
  ·exact (h.e (hv (.inl h1))).h.mono (by omega)
 split
 ·exact h.h.mono (by omega)
 split
 ·rename_i h1
  split
  ·exact (h.e (hi (.inl h1))).r.mono (by omega)
  ·exact (h.e (hi (.inl h1))).r.h.mono (by omega)
 split
 ·rename_i h1
  exact ((h.e (hi (.inr h1))).e (hv (.inr h1))).mono (by omega)
 ·exact h.mono (by omega)
theorem rdTo_b {d : PrgD} {l : List StD} (h : ∀ s ∈ l,StOk d s) (i : Nat) : triB (rdTo (l.take i)) (50 * i):=by
 induction i with
 | zero=>exact ⟨Nat.zero_le _,Nat.zero_le _,Nat.zero_le _⟩
 | succ i ih =>
  by_cases hi : i < l.length
  ·rw [rdTo_next (List.getElem?_eq_getElem hi)]
   exact rdStep_b ih (h _ (List.getElem_mem hi))
  ·rw [List.take_of_length_le (by omega)] at ih ⊢
   exact ih.mono (by omega)
def rdI (d : PrgD) (l : List StD) (c : Cap) (i : Nat) (s : St) : Prop:=∃ g k x0 x1 x2 t0 t1 t2,Acc3 (rdTo (l.take i)).F (rdTo (l.take i)).M (rdTo (l.take i)).G k x0 x1 x2 t0 t1 t2 ∧
 Vf.Sl [(2,.ref 0 0),(7,.ref 1 0),(12,.f (.sl (encL fSt l) c)),(13,.f (intF l.length)),(14,.f (intF i))] 81 (aPrg d :: [x0,x1,x2] :: g) k s
theorem actReads_g (d : PrgD) (hn : NmOk d) (i : Int) : Gives Tryz.prog 164 [fPrg d,intF i] (fTri (actRdM d i)):=by
 obtain ⟨c,hbody⟩:=body_g d hn i
 obtain ⟨hlen,hok⟩:=bodyM_ok d i
 generalize hl : bodyM d i = l at *
 have hv : actRdM d i = triC (rdTo l):=by unfold actRdM; rw [hl]
 rw [hv]
 clear hv hl
 refine Gives.of_Wd Tryz.func164 rfl rfl rfl (by decide) ?_
 refine Wd.two (W.x mixed (by kernel_rfl) ?_)
 simp [fPrg,cPrg]
 refine Wd.two (W.x mixed (by kernel_rfl) ?_)
 simp
 refine Wd.two (W.two (W.x mixed (by kernel_rfl) ?_))
 simp
 refine call_g hbody ?_
 simp
 refine W.blk (forW l.length (rdI d l c) ⟨[],[],.f (.sl [] .nil),.f (.sl [] .nil),.f (.sl [] .nil),0,0,0,Acc3.start,Sl.of rfl rfl rfl⟩ ?_)
 rintro j ⟨ts,hh,kk⟩ hj ⟨g,k,x0,x1,x2,t0,t1,t2,A,rfl,rfl,f,rfl⟩
 by_cases hlt : j < l.length
 case neg =>
  obtain rfl : j = l.length:=by omega
  rw [List.take_length] at A
  refine W.x mixed (by kernel_rfl) ?_
  simp
  refine Wd.two' (Wd.callD (L1:=[]) (L2:=[_,_,_,_,_,_]) rfl rfl rfl ?_)
  simp
  obtain ⟨b1,b2,b3⟩:=rdTo_b hok l.length
  rw [List.take_length] at b1 b2 b3
  refine ⟨_,_,rfl,_,sorted3_d (rdTo l).F (rdTo l).M (rdTo l).G (by omega) (by omega) (by omega) A.h0 A.h1 A.h2 (fun p q=>A.n01 (by simpa [encL] using p) (by simpa [encL] using q)) (fun p q=>A.n02 (by simpa [encL] using p) (by simpa [encL] using q)) (fun p q=>A.n12 (by simpa [encL] using p) (by simpa [encL] using q)) rfl,?_⟩
  rintro _ h' k' ⟨ts,h2,k2⟩ ⟨z0,z1,z2,rfl,r0,r1,r2⟩ ⟨rfl,rfl,ff,rfl⟩
  simp
  refine Wd.x mixed (by kernel_rfl) ?_
  simp [-retV_tup]
  exact ret_tri r0 r1 r2
 obtain ⟨y,hy,hy'⟩:=nth_of hlt
 have hw:=wrap64 (x:=(j : Int) + 1) (by omega) (by omega)
 obtain ⟨b1,b2,b3⟩:=rdTo_b hok j
 have hs:=hok y (List.mem_of_getElem? hy')
 have hnx:=rdTo_next hy'
 generalize rdTo (l.take j) = T at *
 refine W.two (W.x mixed (by kernel_rfl) ?_)
 simp [hlt]
 refine W.two (W.x mixed (by kernel_rfl) ?_)
 simp
 refine W.two (W.blk (W.two (W.x mixed (by kernel_rfl) ?_)))
 simp [hy,hlt]
 refine W.x mixed (by kernel_rfl) ?_
 obtain ⟨hkind,_,hval,hidx⟩:=hs
 rcases hkind with h1 | h1 | h1 | h1 | h1
 ·have hvl:=hval (.inl h1)
  simp [h1]
  refine call_x (expr_x T.F T.M T.G y.value.l .un A rfl (by omega) (by omega) (by omega)) ?_
  rintro _ _ _ ⟨rfl,y0,y1,u0,u1,rfl,A1⟩
  by_cases hd : y.dh = -1
  ·have hr : rdStep T y = triE T y.value.l:=by rw [rdStep,if_pos h1,if_pos hd]
   rw [hr] at hnx
   simp [hd]
   refine W.x mixed (by kernel_rfl) ?_
   simp [hw]
   exact ⟨_,_,_,_,_,_,_,_,by rw [hnx]; exact A1,Sl.of rfl rfl rfl⟩
  ·have hr : rdStep T y = triH (triE T y.value.l) y.dh:=by rw [rdStep,if_pos h1,if_neg hd]
   rw [hr] at hnx
   have q2:=hdrsM_len y.value.l
   simp [hd,-opAppend,-opStore]
   obtain ⟨z1,v1,k2,e2,A2,hk2⟩:=A1.app1 (M2:=[y.dh]) (y:=.f (.sl [intF y.dh] .full)) rfl (by simp; omega)
   rw [e2]
   simp [-opStore]
   rw [store_own ty29 rfl (cs:=[y0,y1,x2]) rfl (by simp) A2.h1]
   simp
   refine W.x mixed (by kernel_rfl) ?_
   simp [hw]
   exact ⟨_,_,_,_,_,_,_,_,by rw [hnx]; exact A2,Sl.of rfl rfl rfl⟩
 ·have hr : rdStep T y = triH T y.hdr:=by rw [rdStep,if_neg (by omega),if_pos h1]
  rw [hr] at hnx
  simp [h1,-opAppend,-opStore]
  obtain ⟨z1,v1,k2,e2,A2,hk2⟩:=A.app1 (M2:=[y.hdr]) (y:=.f (.sl [intF y.hdr] .full)) rfl (by simp; omega)
  rw [e2]
  simp [-opStore]
  rw [store_own ty29 rfl (cs:=[x0,x1,x2]) rfl (by simp) A2.h1]
  simp [h1]
  refine W.x mixed (by kernel_rfl) ?_
  simp [hw]
  exact ⟨_,_,_,_,_,_,_,_,by rw [hnx]; exact A2,Sl.of rfl rfl rfl⟩
 ·have hr : rdStep T y = T:=by rw [rdStep,if_neg (by omega),if_neg (by omega),if_neg (by omega),if_neg (by omega)]
  rw [hr] at hnx
  simp [h1]
  refine W.x mixed (by kernel_rfl) ?_
  simp [hw]
  exact ⟨_,_,_,_,_,_,_,_,by rw [hnx]; exact A,Sl.of rfl rfl rfl⟩
 ·have hvl:=hidx (.inl h1)
  simp [h1]
  refine call_x (expr_x T.F T.M T.G y.index.l .un A rfl (by omega) (by omega) (by omega)) ?_
  rintro _ _ _ ⟨rfl,y0,y1,u0,u1,rfl,A1⟩
  simp [-opAppend,-opStore]
  obtain ⟨z2,v2,k2,e2,A2,hk2⟩:=A1.app2 (G2:=[y.reg]) (y:=.f (.sl [intF y.reg] .full)) rfl (by simp; omega)
  rw [e2]
  simp [-opStore]
  rw [store_own ty29 rfl (cs:=[y0,y1,x2]) rfl (by simp) A2.h2]
  by_cases hd : y.dh = -1
  ·have hr : rdStep T y = triR (triE T y.index.l) y.reg:=by rw [rdStep,if_neg (by omega),if_neg (by omega),if_pos h1,if_pos hd]
   rw [hr] at hnx
   simp [h1,hd]
   refine W.x mixed (by kernel_rfl) ?_
   simp [hw]
   exact ⟨_,_,_,_,_,_,_,_,by rw [hnx]; exact A2,Sl.of rfl rfl rfl⟩
  ·have hr : rdStep T y = triH (triR (triE T y.index.l) y.reg) y.dh:=by rw [rdStep,if_neg (by omega),if_neg (by omega),if_pos h1,if_neg hd]
   rw [hr] at hnx
   have q2:=hdrsM_len y.index.l
   simp [h1,hd,-opAppend,-opStore]
   obtain ⟨z1,v1,k3,e3,A3,hk3⟩:=A2.app1 (M2:=[y.dh]) (y:=.f (.sl [intF y.dh] .full)) rfl (by simp; omega)
   rw [e3]
   simp [-opStore]
   rw [store_own ty29 rfl (cs:=[y0,y1,z2]) rfl (by simp) A3.h1]
   simp
   refine W.x mixed (by kernel_rfl) ?_
   simp [hw]
   exact ⟨_,_,_,_,_,_,_,_,by rw [hnx]; exact A3,Sl.of rfl rfl rfl⟩
 ·have hr : rdStep T y = triE (triE T y.index.l) y.value.l:=by rw [rdStep,if_neg (by omega),if_neg (by omega),if_neg (by omega),if_pos h1]
  rw [hr] at hnx
  have hvl:=hval (.inr h1)
  have hvi:=hidx (.inr h1)
  have q1:=fldsM_len y.index.l
  have q2:=hdrsM_len y.index.l
  simp [h1]
  refine call_x (expr_x T.F T.M T.G y.index.l .un A rfl (by omega) (by omega) (by omega)) ?_
  rintro _ _ _ ⟨rfl,y0,y1,u0,u1,rfl,A1⟩
  simp
  refine call_x (expr_x _ _ _ y.value.l .un A1 rfl (by omega) (by simp; omega) (by simp; omega)) ?_
  rintro _ _ _ ⟨rfl,z0,z1,v0,v1,rfl,A2⟩
  simp [h1]
  refine W.x mixed (by kernel_rfl) ?_
  simp [hw]
  exact ⟨_,_,_,_,_,_,_,_,by rw [hnx]; exact A2,Sl.of rfl rfl rfl⟩
def nFld (d : PrgD) (h : Int) : Nat:=match d.headers.l[h.toNat]? with
 | some x=>x.fields.l.length
 | none=>0
def hdrRefs (h : Int) (n : Nat) : List FR:=(List.range n).map fun (i : Nat)=>((h,(i : Int)) : Int × Int)
def wrStep (d : PrgD) (a : Tri) (s : StD) : Tri :=
 if s.kind = 1 ∨ s.kind = 4 then triF a [(s.dh,s.df)]
 else if s.kind = 2 ∨ s.kind = 3 then triF (triH a s.hdr) (hdrRefs s.hdr (nFld d s.hdr))
 else if s.kind = 5 then triR a s.reg
 else a
def wrTo (d : PrgD) (l : List StD) : Tri:=l.foldl (wrStep d) ⟨[],[],[]⟩
def actWrM (d : PrgD) (i : Int) : Tri:=triC (wrTo d (bodyM d i))
theorem wrTo_next {d : PrgD} {l : List StD} {i : Nat} {s : StD} (h : l[i]? = some s) : wrTo d (l.take (i + 1)) = wrStep d (wrTo d (l.take i)) s:=by
 unfold wrTo
 rw [← take_one h,List.foldl_append]; rfl
theorem triB.f {a : Tri} {n m : Nat} {l : List FR} (h : triB a n) (hl : l.length ≤ m) : triB (triF a l) (n + m):=by
 obtain ⟨a1,a2,a3⟩:=h
 refine ⟨?_,?_,?_⟩ <;> simp [triF] <;> omega
theorem nFld_le {d : PrgD} (hF : ∀ x ∈ d.headers.l,x.fields.l.length ≤ 1000) (h : Int) : nFld d h ≤ 1000:=by
 unfold nFld
 split
 ·rename_i x hx
  exact hF x (List.mem_of_getElem? hx)
 ·omega
theorem hdrRefs_len (h : Int) (n : Nat) : (hdrRefs h n).length = n:=by simp [hdrRefs]
theorem hdrRefs_next (h : Int) (n : Nat) : hdrRefs h (n + 1) = hdrRefs h n ++ [(h,(n : Int))]:=by simp [hdrRefs,List.range_succ]
theorem wrStep_b {d : PrgD} (hF : ∀ x ∈ d.headers.l,x.fields.l.length ≤ 1000) {a : Tri} {s : StD} {n : Nat} (h : triB a n) : triB (wrStep d a s) (n + 1001):=by
 unfold wrStep
 split
 ·exact (h.f (m:=1) (Nat.le_refl _)).mono (by omega)
 split
 ·exact (h.h.f (m:=1000) (by rw [hdrRefs_len]; exact nFld_le hF _)).mono (by omega)
 split
 ·exact h.r.mono (by omega)
 ·exact h.mono (by omega)
theorem wrTo_b {d : PrgD} (hF : ∀ x ∈ d.headers.l,x.fields.l.length ≤ 1000) (l : List StD) (i : Nat) : triB (wrTo d (l.take i)) (1001 * i):=by
 induction i with
 | zero=>exact ⟨Nat.zero_le _,Nat.zero_le _,Nat.zero_le _⟩
 | succ i ih =>
  by_cases hi : i < l.length
  ·rw [wrTo_next (List.getElem?_eq_getElem hi)]
   exact wrStep_b hF ih
  ·rw [List.take_of_length_le (by omega)] at ih ⊢
   exact ih.mono (by omega)
def wrI (d : PrgD) (l : List StD) (c : Cap) (i : Nat) (s : St) : Prop:=∃ g k x0 x1 x2 t0 t1 t2,Acc3 (wrTo d (l.take i)).F (wrTo d (l.take i)).M (wrTo d (l.take i)).G k x0 x1 x2 t0 t1 t2 ∧
 Vf.Sl [(2,.ref 0 0),(7,.ref 1 0),(13,.f (.sl (encL fSt l) c)),(14,.f (intF l.length)),(15,.f (intF i))] 76 (aPrg d :: [x0,x1,x2] :: g) k s
def wrJ (d : PrgD) (l : List StD) (c : Cap) (i : Nat) (T : Tri) (y : StD) (K : Int) (n : Nat) (g : List (List AV)) (q : Nat) (s : St) : Prop:=∃ k x0 x1 x2 t0 t1 t2,Acc3 (T.F ++ hdrRefs y.hdr q) T.M T.G k x0 x1 x2 t0 t1 t2 ∧
 Vf.Sl [(2,.ref 0 0),(7,.ref 1 0),(9,.ref (g.length + 1 + 1) 0),(13,.f (.sl (encL fSt l) c)),(14,.f (intF l.length)),(15,.f (intF i)),(48,.f (intF n)),(49,.f (intF q))] 76 (aPrg d :: [x0,x1,x2] :: (g ++ [[.f (intF K),.f (intF y.dh),.f (intF y.df),.f (intF y.reg),.f (intF y.hdr),.f (sl (encL fEx y.index.l)),.f (sl (encL fEx y.value.l))]])) k s
theorem actWrites_g (d : PrgD) (hn : NmOk d) (hF : ∀ x ∈ d.headers.l,x.fields.l.length ≤ 1000) (i : Int) : Gives Tryz.prog 165 [fPrg d,intF i] (fTri (actWrM d i)):=by
 obtain ⟨c,hbody⟩:=body_g d hn i
 obtain ⟨hlen,hok⟩:=bodyM_ok d i
 generalize hl : bodyM d i = l at *
 have hv : actWrM d i = triC (wrTo d l):=by unfold actWrM; rw [hl]
 rw [hv]
 clear hv hl
 refine Gives.of_Wd Tryz.func165 rfl rfl rfl (by decide) ?_
 refine Wd.two (W.x mixed (by kernel_rfl) ?_)
 simp [fPrg,cPrg]
 refine Wd.two (W.x mixed (by kernel_rfl) ?_)
 simp
 refine Wd.two (W.two (W.x mixed (by kernel_rfl) ?_))
 simp
 refine call_g hbody ?_
 simp
 refine W.blk (forW l.length (wrI d l c) ⟨[],[],.f (.sl [] .nil),.f (.sl [] .nil),.f (.sl [] .nil),0,0,0,Acc3.start,Sl.of rfl rfl rfl⟩ ?_)
 rintro j ⟨ts,hh,kk⟩ hj ⟨g,k,x0,x1,x2,t0,t1,t2,A,rfl,rfl,f,rfl⟩
 by_cases hlt : j < l.length
 case neg =>
  obtain rfl : j = l.length:=by omega
  rw [List.take_length] at A
  refine W.x mixed (by kernel_rfl) ?_
  simp
  refine Wd.two' (Wd.callD (L1:=[]) (L2:=[_,_,_,_,_,_]) rfl rfl rfl ?_)
  simp
  obtain ⟨b1,b2,b3⟩:=wrTo_b hF l l.length
  rw [List.take_length] at b1 b2 b3
  refine ⟨_,_,rfl,_,sorted3_d (wrTo d l).F (wrTo d l).M (wrTo d l).G (by omega) (by omega) (by omega) A.h0 A.h1 A.h2 (fun p q=>A.n01 (by simpa [encL] using p) (by simpa [encL] using q)) (fun p q=>A.n02 (by simpa [encL] using p) (by simpa [encL] using q)) (fun p q=>A.n12 (by simpa [encL] using p) (by simpa [encL] using q)) rfl,?_⟩
  rintro _ h' k' ⟨ts,h2,k2⟩ ⟨z0,z1,z2,rfl,r0,r1,r2⟩ ⟨rfl,rfl,ff,rfl⟩
  simp
  refine Wd.x mixed (by kernel_rfl) ?_
  simp [-retV_tup]
  exact ret_tri r0 r1 r2
 obtain ⟨y,hy,hy'⟩:=nth_of hlt
 have hw:=wrap64 (x:=(j : Int) + 1) (by omega) (by omega)
 obtain ⟨b1,b2,b3⟩:=wrTo_b hF l j
 have hs:=hok y (List.mem_of_getElem? hy')
 have hnx:=wrTo_next (d:=d) hy'
 generalize wrTo d (l.take j) = T at *
 refine W.two (W.x mixed (by kernel_rfl) ?_)
 simp [hlt]
 refine W.two (W.x mixed (by kernel_rfl) ?_)
 simp
 refine W.two (W.blk (W.two (W.x mixed (by kernel_rfl) ?_)))
 simp [hy,hlt]
 refine W.x mixed (by kernel_rfl) ?_
 obtain ⟨hkind,hhdr,_,_⟩:=hs
 have h14 : (y.kind = 1 ∨ y.kind = 4) ∨ (y.kind = 2 ∨ y.kind = 3) ∨ y.kind = 5:=by omega
 rcases h14 with h1 | h1 | h1
 ·have hr : wrStep d T y = triF T [(y.dh,y.df)]:=by rw [wrStep,if_pos h1]
  rw [hr] at hnx
  obtain ⟨z0,v0,k2,e2,A2,hk2⟩:=A.app0 (F2:=[(y.dh,y.df)]) (y:=.f (.sl [fRef y.dh y.df] .full)) rfl (by simp; omega)
  rcases h1 with h1 | h1
  ·simp [h1,-opAppend,-opStore]
   rw [e2]
   simp [-opStore]
   rw [store_own ty187 rfl (cs:=[x0,x1,x2]) rfl (by simp) A2.h0]
   simp
   refine W.x mixed (by kernel_rfl) ?_
   simp [hw]
   exact ⟨_,_,_,_,_,_,_,_,by rw [hnx]; exact A2,Sl.of rfl rfl rfl⟩
  ·simp [h1,-opAppend,-opStore]
   rw [e2]
   simp [-opStore]
   rw [store_own ty187 rfl (cs:=[x0,x1,x2]) rfl (by simp) A2.h0]
   simp
   refine W.x mixed (by kernel_rfl) ?_
   simp [hw]
   exact ⟨_,_,_,_,_,_,_,_,by rw [hnx]; exact A2,Sl.of rfl rfl rfl⟩
 ·have hr : wrStep d T y = triF (triH T y.hdr) (hdrRefs y.hdr (nFld d y.hdr)):=by rw [wrStep,if_neg (by omega),if_pos h1]
  rw [hr] at hnx
  obtain ⟨p1,p2⟩:=hhdr h1
  have p3 : y.hdr.toNat < d.headers.l.length:=by omega
  obtain ⟨hd,hhd,hhd'⟩:=nth_of p3
  have hnf : nFld d y.hdr = hd.fields.l.length:=by unfold nFld; rw [hhd']
  have hnle:=nFld_le hF y.hdr
  obtain ⟨z1,v1,k2,e2,A2,hk2⟩:=A.app1 (M2:=[y.hdr]) (y:=.f (.sl [intF y.hdr] .full)) rfl (by simp; omega)
  have hk : (y.kind = 2 ∨ y.kind = 3):=h1
  rw [hnf] at hnle
  have hA2 : Acc3 ((triH T y.hdr).F ++ hdrRefs y.hdr 0) (triH T y.hdr).M (triH T y.hdr).G k2 x0 z1 x2 t0 v1 t2:=by simpa [hdrRefs,triH] using A2
  rcases h1 with h1 | h1
  all_goals
   simp [h1,-opAppend,-opStore]
   rw [e2]
   simp [-opStore]
   rw [store_own ty29 rfl (cs:=[x0,x1,x2]) rfl (by simp) A2.h1]
   simp [aPrg,p1,p3,hhd]
   refine forW hd.fields.l.length (wrJ d l c j (triH T y.hdr) y _ hd.fields.l.length g) ⟨_,_,_,_,_,_,_,hA2,Sl.of rfl rfl rfl⟩ ?_
   rintro q ⟨ts2,h2,k3⟩ hq ⟨k4,w0,w1,w2,s0,s1,s2,A3,rfl,rfl,ff,rfl⟩
   by_cases hql : q < hd.fields.l.length
   ·have hwq:=wrap64 (x:=(q : Int) + 1) (by omega) (by omega)
    obtain ⟨z0,v0,k5,e3,A4,hk5⟩:=A3.app0 (F2:=[(y.hdr,(q : Int))]) (y:=.f (.sl [fRef y.hdr q] .full)) rfl (by rw [List.length_append,hdrRefs_len]; simp [triH]; omega)
    rw [List.append_assoc,← hdrRefs_next] at A4
    refine W.x mixed (by kernel_rfl) ?_
    simp [hql,-opAppend,-opStore]
    rw [e3]
    simp [-opStore]
    rw [store_own ty187 rfl (cs:=[w0,w1,w2]) rfl (by simp) A4.h0]
    simp [hwq]
    exact ⟨_,_,_,_,_,_,_,A4,Sl.of rfl rfl rfl⟩
   ·obtain rfl : q = hd.fields.l.length:=by omega
    rw [← hnf] at A3
    refine W.x mixed (by kernel_rfl) ?_
    simp
    refine W.x mixed (by kernel_rfl) ?_
    simp [hw]
    exact ⟨_,_,_,_,_,_,_,_,by rw [hnx]; exact A3,Sl.of rfl rfl rfl⟩
 ·have hr : wrStep d T y = triR T y.reg:=by rw [wrStep,if_neg (by omega),if_neg (by omega),if_pos h1]
  rw [hr] at hnx
  obtain ⟨z0,v0,k2,e2,A2,hk2⟩:=A.app2 (G2:=[y.reg]) (y:=.f (.sl [intF y.reg] .full)) rfl (by simp; omega)
  simp [h1,-opAppend,-opStore]
  rw [e2]
  simp [-opStore]
  rw [store_own ty29 rfl (cs:=[x0,x1,x2]) rfl (by simp) A2.h2]
  simp
  refine W.x mixed (by kernel_rfl) ?_
  simp [hw]
  exact ⟨_,_,_,_,_,_,_,_,by rw [hnx]; exact A2,Sl.of rfl rfl rfl⟩
def putM (L : List Int) (n : Int) : List Int:=if 0 ≤ n then L ++ [n] else L
theorem putM_len (L : List Int) (n : Int) : (putM L n).length ≤ L.length + 1:=by unfold putM; split <;> simp
theorem append_z {k : List (Nat × Nat)} {L : List Int} {x : AV} {t : Nat} (n : Int) (h : OwnT k (encL intF L) 1 x t) (hb : L.length ≤ 4000000) :
  ∃ x' t' k',opAppend (tyOf Tryz.prog) k 29 x (.f (.sl [intF n] .full)) = some (x',k')∧OwnT k' (encL intF (L ++ [n])) 1 x' t'∧k.length ≤ k'.length:=by
 obtain ⟨x',t',k',e,ho,hl,_⟩:=append_own0 ty29 ty3 (by simp) h (y:=.f (.sl [intF n] .full)) rfl (by simp) (by simp; omega) (by simp; omega)
 exact ⟨x',t',k',e,by rw [encL,List.map_append]; exact ho,hl⟩
theorem aPrg_bel {d : PrgD} {n m : Nat} {x : AV} (hx : Bel n m x) : ∀ z ∈ aPrg d ++ [x],Bel n m z:=fun z hz=>by
 rcases List.mem_append.1 hz with h | h
 ·simp only [aPrg,List.mem_cons,List.not_mem_nil,or_false] at h
  rcases h with rfl | rfl | rfl | rfl | rfl | rfl | rfl | rfl | rfl <;> exact .f _
 ·obtain rfl:=List.mem_singleton.1 h; exact hx
theorem retR_drop {T : TV} {h0 h' g : List (List AV)} {k0 kk : List (Nat × Nat)} {R : AV→List (List AV)→List (Nat × Nat)→Prop} {t : List AV} {e : Exit} (he : e = .normal ∨ e = .ret) (hl : h'.length = h0.length) (hk : k0.length ≤ kk.length) (hb : BelC h0 h' kk.length) (hR : R (.tup []) h' kk) : RetR T [] h0 k0 R e ⟨t,h' ++ g,kk⟩ :=
 ⟨he,h',g,kk,[],.tup [],rfl,hl,(List.append_nil _).symm,hk,hb,.inl ⟨rfl,.tup [] fun j y h=>by simp at h⟩,hR⟩
def ColR (d : PrgD) (b : Nat) (L : List Int) (h : List (List AV)) (k : List (Nat × Nat)) : AV→List (List AV)→List (Nat × Nat)→Prop:=fun y h' k' =>
 y = .tup []∧∃ x' t',h' = h.set b (aPrg d ++ [x'])∧OwnT k' (encL intF L) 1 x' t'∧k.length ≤ k'.length
theorem put_x (d : PrgD) (n : Int) (L : List Int) {h : List (List AV)} {k : List (Nat × Nat)} {bc b t : Nat} {x : AV} (hc : ix h bc = some [.ref b 0]) (hb : ix h b = some (aPrg d ++ [x])) (ho : OwnT k (encL intF L) 1 x t) (hl : L.length ≤ 4000000) :
  GivesX Tryz.prog 211 [.f (intF n),.ref bc 0] h k (ColR d b (putM L n) h k):=by
 have hbl : b < h.length:=(List.getElem?_eq_some_iff.1 hb).1
 refine GivesX.of_W Tryz.func211 rfl rfl rfl (by decide) ?_
 by_cases hn : 0 ≤ n
 ·obtain ⟨x',t',k',e,ho',hk'⟩:=append_z n ho hl
  have hp : putM L n = L ++ [n]:=if_pos hn
  refine W.x mixed (by kernel_rfl) ?_
  simp [hn,hc,hb,aPrg,-opAppend,-opStore]
  rw [e]
  simp [-opStore]
  rw [store_own ty29 rfl hb (by simp [aPrg]) ho']
  simp
  exact retR_none (.inl rfl) (by simp) hk' (.set (aPrg_bel (own_bel ho'))) ⟨rfl,_,t',rfl,by rw [hp]; exact ho',hk'⟩
 ·have hp : putM L n = L:=if_neg hn
  have hself : h.set b (aPrg d ++ [x]) = h:=by
   apply List.ext_getElem?
   intro q
   by_cases e : b = q
   ·subst e; rw [List.getElem?_set_self hbl]; exact hb.symm
   ·rw [List.getElem?_set_ne e]
  refine W.x mixed (by kernel_rfl) ?_
  simp [hn]
  exact retR_none (.inl rfl) rfl (Nat.le_refl _) .refl ⟨rfl,x,t,hself.symm,by rw [hp]; exact ho,Nat.le_refl _⟩
def putAll {α : Type} (f : α→Int) (L : List Int) (l : List α) : List Int:=(l.map f).foldl putM L
theorem putAll_next {α : Type} {f : α→Int} {L : List Int} {l : List α} {i : Nat} {x : α} (h : l[i]? = some x) : putAll f L (l.take (i + 1)) = putM (putAll f L (l.take i)) (f x):=by
 unfold putAll
 rw [← take_one h,List.map_append,List.foldl_append]; rfl
theorem putAll_len {α : Type} (f : α→Int) (l : List α) : ∀ L : List Int,(putAll f L l).length ≤ L.length + l.length:=by
 induction l with
 | nil=>intro L; exact Nat.le_refl _
 | cons x l ih =>
  intro L
  have h1:=ih (putM L (f x))
  have h2:=putM_len L (f x)
  show (putAll f (putM L (f x)) l).length ≤ _
  simp only [List.length_cons]
  omega
def addM (d : PrgD) (L : List Int) (T : Tri) : List Int:=putAll (cellM d 3) (putAll (cellM d 1) (putAll (fun r : FR=>fieldCell d r.1 r.2) L T.F) T.M) T.G
def caI {α : Type} (d : PrgD) (enc : α→FV) (f : α→Int) (L : List Int) (l : List α) (sl0 : AV) (hs : List AV) (h : List (List AV)) (k : List (Nat × Nat)) (b s0 i : Nat) (s : St) : Prop:=∃ g k' x t,OwnT k' (encL intF (putAll f L (l.take i))) 1 x t∧k.length ≤ k'.length ∧
 Vf.Sl [(2,hs.headD undefA),(3,(hs.drop 1).headD undefA),(4,.ref h.length 0),(8,.fnr 211 [.ref h.length 0]),(s0,sl0),(s0 + 1,.f (intF l.length)),(s0 + 2,.f (intF i))] 61 (h.set b (aPrg d ++ [x]) ++ ([.ref b 0] :: g)) k' s
theorem colAdd_x (d : PrgD) (hS : PrgS d) (L : List Int) (T : Tri) (c0 c1 c2 : Cap) {h : List (List AV)} {k : List (Nat × Nat)} {b t : Nat} {x : AV} (hb : ix h b = some (aPrg d ++ [x])) (ho : OwnT k (encL intF L) 1 x t) (hL : L.length ≤ 1000000) (hT : triB T 1000000) :
  GivesX Tryz.prog 159 [.ref b 0,.f (.sl (encL fRp T.F) c0),.f (.sl (encL intF T.M) c1),.f (.sl (encL intF T.G) c2)] h k (ColR d b (addM d L T) h k):=by
 have hbl : b < h.length:=(List.getElem?_eq_some_iff.1 hb).1
 obtain ⟨lF,lM,lG⟩:=hT
 have hself : h.set b (aPrg d ++ [x]) = h:=by
  apply List.ext_getElem?
  intro q
  by_cases e : b = q
  ·subst e; rw [List.getElem?_set_self hbl]; exact hb.symm
  ·rw [List.getElem?_set_ne e]
 have x0 : ∀ c r,ix (h.set b c ++ r) b = some c:=fun c r=>by
  show (h.set b c ++ r)[b]? = _
  rw [List.getElem?_append_left (by simpa using hbl),List.getElem?_set_self hbl]
 have x1 : ∀ c r n,ix (h.set b c ++ r) (h.length + n) = ix r n:=fun c r n=>by
  have:=ix_appn (l:=h.set b c) (m:=r) (n:=n)
  rwa [List.length_set] at this
 have x2 : ∀ c r,ix (h.set b c ++ r) h.length = ix r 0:=fun c r=>x1 c r 0
 have x3 : ∀ c c' r,(h.set b c ++ r).set b c' = h.set b c' ++ r:=fun c c' r=>by
  rw [List.set_append_left _ _ (by simpa using hbl),List.set_set]
 refine GivesX.of_W Tryz.func159 rfl rfl rfl (by decide) ?_
 refine W.two (W.x mixed (by kernel_rfl) ?_)
 simp
 refine W.two (W.x mixed (by kernel_rfl) ?_)
 simp
 refine W.two (W.two (W.x mixed (by kernel_rfl) ?_))
 simp
 refine W.blk (forW T.F.length (caI d fRp (fun r : FR=>fieldCell d r.1 r.2) L T.F (.f (.sl (encL fRp T.F) c0)) [.f (.sl (encL intF T.M) c1),.f (.sl (encL intF T.G) c2)] h k b 16) ⟨[],k,x,t,ho,Nat.le_refl _,by rw [hself]; exact Sl.of rfl rfl rfl⟩ ?_)
 rintro i ⟨ts,hh,kk⟩ hi ⟨g,k',x,t,ho,hk,rfl,rfl,f,rfl⟩
 by_cases hlt : i < T.F.length
 ·obtain ⟨y,hy,hy'⟩:=nth_of hlt
  have hw:=wrap64 (x:=(i : Int) + 1) (by omega) (by omega)
  have hpl:=putAll_len (fun r : FR=>fieldCell d r.1 r.2) (T.F.take i) L
  rw [List.length_take] at hpl
  refine W.x mixed (by kernel_rfl) ?_
  simp [hlt,hy,aPrg,x0,x1,x2,x3]
  refine call_g (fieldCell_g d hS y.1 y.2) ?_
  simp
  refine ⟨_,put_x d (fieldCell d y.1 y.2) (putAll (fun r : FR=>fieldCell d r.1 r.2) L (T.F.take i)) (x2 _ _) (x0 _ _) ho (by omega),?_⟩
  rintro _ _ k2 ⟨rfl,x',t',rfl,ho',hk'⟩
  rw [x3]
  simp [hw]
  have hkk : k.length ≤ k2.length:=Nat.le_trans hk hk'
  exact ⟨_,_,_,_,by rw [putAll_next hy']; exact ho',hkk,Sl.of rfl rfl rfl⟩
 obtain rfl : i = T.F.length:=by omega
 rw [List.take_length] at ho
 have hp1:=putAll_len (fun r : FR=>fieldCell d r.1 r.2) T.F L
 have hadd : addM d L T = putAll (cellM d 3) (putAll (cellM d 1) (putAll (fun r : FR=>fieldCell d r.1 r.2) L T.F) T.M) T.G:=rfl
 generalize putAll (fun r : FR=>fieldCell d r.1 r.2) L T.F = L1 at *
 refine W.x mixed (by kernel_rfl) ?_
 simp
 refine W.two (W.two (W.x mixed (by kernel_rfl) ?_))
 simp
 refine W.blk (forW T.M.length (caI d intF (cellM d 1) L1 T.M (.f (.sl (encL intF T.M) c1)) [.f (.sl (encL intF T.M) c1),.f (.sl (encL intF T.G) c2)] h k b 31) ⟨g,_,x,t,ho,hk,Sl.of rfl rfl rfl⟩ ?_)
 clear hlt hi ho hk
 rintro i ⟨ts,hh,kk⟩ hi ⟨g,k',x,t,ho,hk,rfl,rfl,f,rfl⟩
 by_cases hlt : i < T.M.length
 ·obtain ⟨y,hy,hy'⟩:=nth_of hlt
  have hw:=wrap64 (x:=(i : Int) + 1) (by omega) (by omega)
  have hpl:=putAll_len (cellM d 1) (T.M.take i) L1
  rw [List.length_take] at hpl
  refine W.x mixed (by kernel_rfl) ?_
  simp [hlt,hy,aPrg,x0,x1,x2,x3]
  refine call_g (validCell_g d hS y) ?_
  simp
  refine ⟨_,put_x d (cellM d 1 y) (putAll (cellM d 1) L1 (T.M.take i)) (x2 _ _) (x0 _ _) ho (by omega),?_⟩
  rintro _ _ k2 ⟨rfl,x',t',rfl,ho',hk'⟩
  rw [x3]
  simp [hw]
  have hkk : k.length ≤ k2.length:=Nat.le_trans hk hk'
  exact ⟨_,_,_,_,by rw [putAll_next hy']; exact ho',hkk,Sl.of rfl rfl rfl⟩
 obtain rfl : i = T.M.length:=by omega
 rw [List.take_length] at ho
 have hp2:=putAll_len (cellM d 1) T.M L1
 generalize putAll (cellM d 1) L1 T.M = L2 at *
 refine W.x mixed (by kernel_rfl) ?_
 simp
 refine W.two (W.x mixed (by kernel_rfl) ?_)
 simp
 refine W.blk (forW T.G.length (caI d intF (cellM d 3) L2 T.G (.f (.sl (encL intF T.G) c2)) [.f (.sl (encL intF T.M) c1),.f (.sl (encL intF T.G) c2)] h k b 46) ⟨g,_,x,t,ho,hk,Sl.of rfl rfl rfl⟩ ?_)
 clear hlt hi ho hk
 rintro i ⟨ts,hh,kk⟩ hi ⟨g,k',x,t,ho,hk,rfl,rfl,f,rfl⟩
 by_cases hlt : i < T.G.length
 ·obtain ⟨y,hy,hy'⟩:=nth_of hlt
  have hw:=wrap64 (x:=(i : Int) + 1) (by omega) (by omega)
  have hpl:=putAll_len (cellM d 3) (T.G.take i) L2
  rw [List.length_take] at hpl
  refine W.x mixed (by kernel_rfl) ?_
  simp [hlt,hy,aPrg,x0,x1,x2,x3]
  refine call_g (registerCell_g d hS y) ?_
  simp
  refine ⟨_,put_x d (cellM d 3 y) (putAll (cellM d 3) L2 (T.G.take i)) (x2 _ _) (x0 _ _) ho (by omega),?_⟩
  rintro _ _ k2 ⟨rfl,x',t',rfl,ho',hk'⟩
  rw [x3]
  simp [hw]
  have hkk : k.length ≤ k2.length:=Nat.le_trans hk hk'
  exact ⟨_,_,_,_,by rw [putAll_next hy']; exact ho',hkk,Sl.of rfl rfl rfl⟩
 obtain rfl : i = T.G.length:=by omega
 rw [List.take_length] at ho
 refine W.x mixed (by kernel_rfl) ?_
 simp
 exact retR_drop (.inl rfl) (by simp) hk (.set (aPrg_bel (own_bel ho))) ⟨rfl,x,t,rfl,by rw [hadd]; exact ho,hk⟩
theorem prgS_of {d : PrgD} (hC : PrgC d) : PrgS d:=⟨Nat.le_trans hC.h (by decide),fun x hx=>Nat.le_trans (hdrC_of (hC.hd x hx)) (by decide),Nat.le_trans hC.m (by decide),Nat.le_trans hC.r (by decide)⟩
abbrev noTbl : FV:=.agg [strF ⟨#[]⟩,.sl [] .nil,.sl [] .nil,intF 0,.sl [] .nil,intF 0]
theorem declared_no (d : PrgD) (u : UnitD) (h : tblOf d u.table = none) : Gives Tryz.prog 163 [fPrg d,fUnit u] (.tup [noTbl,boolF false]):=by
 refine Gives.of mixed Tryz.func163 rfl rfl rfl (by kernel_rfl) ?_
 unfold tblOf at h
 by_cases c1 : u.table < 0
 ·simp [fPrg,cPrg,c1]
  exact ⟨3,_,rfl,rfl⟩
 ·rw [if_neg c1] at h
  have c2 : (d.tables.l.length : Int) ≤ u.table:=by
   have:=List.getElem?_eq_none_iff.1 h
   omega
  simp [fPrg,cPrg,c1,c2]
  exact ⟨3,_,rfl,rfl⟩
theorem declared_yes (d : PrgD) (u : UnitD) {t : TblD} (h : tblOf d u.table = some t) : Gives Tryz.prog 163 [fPrg d,fUnit u] (.tup [fTbl t,boolF true]):=by
 refine Gives.of mixed Tryz.func163 rfl rfl rfl (by kernel_rfl) ?_
 unfold tblOf at h
 by_cases c1 : u.table < 0
 ·rw [if_pos c1] at h; cases h
 ·rw [if_neg c1] at h
  have c3:=(List.getElem?_eq_some_iff.1 h).1
  have c2 : ¬ (d.tables.l.length : Int) ≤ u.table:=by omega
  obtain ⟨y,hy,hy'⟩:=nth_of c3
  obtain rfl : t = y:=by rw [h] at hy'; exact Option.some.inj hy'
  simp [fPrg,cPrg,c1,c2,(show (0 : Int) ≤ u.table by omega),hy,c3]
  exact ⟨3,_,rfl,rfl⟩
theorem addM_len (d : PrgD) (L : List Int) (T : Tri) : (addM d L T).length ≤ L.length + T.F.length + T.M.length + T.G.length:=by
 unfold addM
 have h1:=putAll_len (fun r : FR=>fieldCell d r.1 r.2) T.F L
 have h2:=putAll_len (cellM d 1) T.M (putAll (fun r : FR=>fieldCell d r.1 r.2) L T.F)
 have h3:=putAll_len (cellM d 3) T.G (putAll (cellM d 1) (putAll (fun r : FR=>fieldCell d r.1 r.2) L T.F) T.M)
 omega
theorem triB.can {a : Tri} {n : Nat} (h : triB a n) : triB (triC a) n:=⟨Nat.le_trans (canR_len _) h.1,Nat.le_trans (canZ_len _) h.2.1,Nat.le_trans (canZ_len _) h.2.2⟩
theorem actWrM_b {d : PrgD} (hF : ∀ x ∈ d.headers.l,x.fields.l.length ≤ 1000) (i : Int) : triB (actWrM d i) 12012:=by
 have h:=wrTo_b hF (bodyM d i) (bodyM d i).length
 rw [List.take_length] at h
 have hl:=(bodyM_ok d i).1
 exact (h.mono (by omega)).can
theorem actRdM_b (d : PrgD) (i : Int) : triB (actRdM d i) 600:=by
 have h:=rdTo_b (bodyM_ok d i).2 (bodyM d i).length
 rw [List.take_length] at h
 have hl:=(bodyM_ok d i).1
 exact (h.mono (by omega)).can
def actsTo (d : PrgD) (f : Int→Tri) (L : List Int) (l : List Int) : List Int:=l.foldl (fun L a=>addM d L (f a)) L
theorem actsTo_next {d : PrgD} {f : Int→Tri} {L l : List Int} {i : Nat} {x : Int} (h : l[i]? = some x) : actsTo d f L (l.take (i + 1)) = addM d (actsTo d f L (l.take i)) (f x):=by
 unfold actsTo
 rw [← take_one h,List.foldl_append]; rfl
theorem actsTo_len {d : PrgD} {f : Int→Tri} (hf : ∀ a,triB (f a) 12012) (l : List Int) : ∀ L : List Int,(actsTo d f L l).length ≤ L.length + 36036 * l.length:=by
 induction l with
 | nil=>intro L; exact Nat.le_add_right _ _
 | cons a l ih =>
  intro L
  have h1:=ih (addM d L (f a))
  have h2:=addM_len d L (f a)
  obtain ⟨b1,b2,b3⟩:=hf a
  show (actsTo d f (addM d L (f a)) l).length ≤ _
  simp only [List.length_cons]
  omega
def unitWrM (d : PrgD) (u : UnitD) : List Int:=match tblOf d u.table with
 | none=>[]
 | some t=>canZ (actsTo d (actWrM d) [] t.acts.l)
abbrev cUnitA (u : UnitD) : List AV:=[.f (intF u.table),.f (sl (encL fEx u.cond.l)),.f (sl (encL fGd u.guards.l))]
abbrev cTblA (t : TblD) : List AV:=[.f (strF t.name),.f (sl (encL fKey t.keys.l)),.f (sl (encL intF t.acts.l)),.f (intF t.dfl),.f (sl (encL u32F t.args.l)),.f (intF t.size)]
def cwrI (d : PrgD) (u : UnitD) (t : TblD) (i : Nat) (s : St) : Prop:=∃ k x tk,OwnT k (encL intF (actsTo d (actWrM d) [] (t.acts.l.take i))) 1 x tk ∧
 Vf.Sl [(2,.ref 0 0),(7,.ref 3 0),(22,.f (sl (encL intF t.acts.l))),(23,.f (intF t.acts.l.length)),(24,.f (intF i))] 39 [aPrg d,cUnitA u,cTblA t,aPrg d ++ [x]] k s
theorem writes_g (d : PrgD) (hn : NmOk d) (hC : PrgC d) (u : UnitD) (ht : ∀ t,tblOf d u.table = some t→t.acts.l.length ≤ 16) : Gives Tryz.prog 114 [fPrg d,fUnit u] (ownF (encL intF (unitWrM d u))):=by
 have hS:=prgS_of hC
 refine Gives.of_Wd Tryz.func114 rfl rfl rfl (by decide) ?_
 refine Wd.two (W.x mixed (by kernel_rfl) ?_)
 simp [fPrg,cPrg]
 cases h : tblOf d u.table with
 | none =>
  have hv : unitWrM d u = []:=by unfold unitWrM; rw [h]
  refine Wd.two (W.x mixed (by kernel_rfl) ?_)
  simp
  refine call_g (declared_no d u h) ?_
  simp
  refine Wd.x mixed (by kernel_rfl) ?_
  simp [hv,encL,ownF]
 | some t =>
  have hl:=ht t h
  have hv : unitWrM d u = canZ (actsTo d (actWrM d) [] t.acts.l):=by unfold unitWrM; rw [h]
  refine Wd.two (W.x mixed (by kernel_rfl) ?_)
  simp
  refine call_g (declared_yes d u h) ?_
  simp
  refine Wd.two (W.x mixed (by kernel_rfl) ?_)
  simp
  refine Wd.two (W.x mixed (by kernel_rfl) ?_)
  simp
  refine Wd.two (W.two (W.x mixed (by kernel_rfl) ?_))
  simp
  refine W.blk (forW t.acts.l.length (cwrI d u t) ⟨[],.f (.sl [] .nil),0,.nil,Sl.of rfl rfl rfl⟩ ?_)
  rintro i ⟨ts,hh,kk⟩ hi ⟨k,x,tk,ho,rfl,rfl,f,rfl⟩
  have hln:=actsTo_len (d:=d) (actWrM_b hS.f) (t.acts.l.take i) []
  rw [List.length_take,List.length_nil] at hln
  by_cases hlt : i < t.acts.l.length
  ·obtain ⟨a,ha,ha'⟩:=nth_of hlt
   have hw:=wrap64 (x:=(i : Int) + 1) (by omega) (by omega)
   have hb:=actWrM_b hS.f a
   have hg:=actWrites_g d hn hS.f a
   obtain ⟨c0,e0⟩:=ownF_is (encL fRp (actWrM d a).F)
   obtain ⟨c1,e1⟩:=ownF_is (encL intF (actWrM d a).M)
   obtain ⟨c2,e2⟩:=ownF_is (encL intF (actWrM d a).G)
   unfold fTri at hg
   rw [e0,e1,e2] at hg
   refine W.x mixed (by kernel_rfl) ?_
   simp [hlt,ha,aPrg]
   refine call_g hg ?_
   simp
   refine call_x (colAdd_x d hS (actsTo d (actWrM d) [] (t.acts.l.take i)) (actWrM d a) c0 c1 c2 (b:=3) rfl ho (by omega) (hb.mono (by omega))) ?_
   rintro _ _ k2 ⟨rfl,x',t',rfl,ho',hk'⟩
   simp [hw]
   exact ⟨_,_,_,by rw [actsTo_next ha']; exact ho',Sl.of rfl rfl rfl⟩
  ·obtain rfl : i = t.acts.l.length:=by omega
   rw [List.take_length] at ho hln
   refine W.x mixed (by kernel_rfl) ?_
   simp
   refine Wd.two' (Wd.callD (L1:=[_]) (L2:=[_]) rfl rfl rfl ?_)
   simp
   refine ⟨_,_,rfl,_,colSorted_d d (actsTo d (actWrM d) [] t.acts.l) (by omega) ho rfl,?_⟩
   rintro y h' k' ⟨ts,h2,k2⟩ hr ⟨rfl,rfl,ff,rfl⟩
   simp
   refine Wd.x mixed (by kernel_rfl) ?_
   simp
   rw [hv]
   exact hr
def keysTo (d : PrgD) (L : List Int) (l : List KeyD) : List Int:=l.foldl (fun L k=>addM d L ⟨[(k.h,k.f)],[],[]⟩) L
theorem keysTo_next {d : PrgD} {L : List Int} {l : List KeyD} {i : Nat} {x : KeyD} (h : l[i]? = some x) : keysTo d L (l.take (i + 1)) = addM d (keysTo d L (l.take i)) ⟨[(x.h,x.f)],[],[]⟩:=by
 unfold keysTo
 rw [← take_one h,List.foldl_append]; rfl
theorem keysTo_len {d : PrgD} (l : List KeyD) : ∀ L : List Int,(keysTo d L l).length ≤ L.length + l.length:=by
 induction l with
 | nil=>intro L; exact Nat.le_refl _
 | cons a l ih =>
  intro L
  have h1:=ih (addM d L ⟨[(a.h,a.f)],[],[]⟩)
  have h2:=addM_len d L ⟨[(a.h,a.f)],[],[]⟩
  show (keysTo d (addM d L ⟨[(a.h,a.f)],[],[]⟩) l).length ≤ _
  simp only [List.length_cons,List.length_nil] at h2 ⊢
  omega
def unitRdM (d : PrgD) (u : UnitD) : List Int:=if u.table = -1 then canZ (addM d [] ⟨fldsM u.cond.l,hdrsM u.cond.l,[]⟩)
 else match tblOf d u.table with
 | none=>[]
 | some t=>canZ (actsTo d (actRdM d) (keysTo d [] t.keys.l) t.acts.l)
def rdK (d : PrgD) (u : UnitD) (t : TblD) (i : Nat) (s : St) : Prop:=∃ g k x tk,OwnT k (encL intF (keysTo d [] (t.keys.l.take i))) 1 x tk ∧
 Vf.Sl [(2,.ref 0 0),(5,.ref 2 0),(6,.ref 3 0),(37,.f (sl (encL fKey t.keys.l))),(38,.f (intF t.keys.l.length)),(39,.f (intF i))] 67 (aPrg d :: cUnitA u :: (aPrg d ++ [x]) :: cTblA t :: g) k s
def rdA (d : PrgD) (u : UnitD) (t : TblD) (i : Nat) (s : St) : Prop:=∃ g k x tk,OwnT k (encL intF (actsTo d (actRdM d) (keysTo d [] t.keys.l) (t.acts.l.take i))) 1 x tk ∧
 Vf.Sl [(2,.ref 0 0),(5,.ref 2 0),(50,.f (sl (encL intF t.acts.l))),(51,.f (intF t.acts.l.length)),(52,.f (intF i))] 67 (aPrg d :: cUnitA u :: (aPrg d ++ [x]) :: cTblA t :: g) k s
theorem reads_g (d : PrgD) (hn : NmOk d) (hC : PrgC d) (u : UnitD) (hu : u.cond.l.length ≤ 1000000) (ht : ∀ t,tblOf d u.table = some t→t.acts.l.length ≤ 16∧t.keys.l.length ≤ 6) : Gives Tryz.prog 113 [fPrg d,fUnit u] (ownF (encL intF (unitRdM d u))):=by
 have hS:=prgS_of hC
 refine Gives.of_Wd Tryz.func113 rfl rfl rfl (by decide) ?_
 refine Wd.two (W.x mixed (by kernel_rfl) ?_)
 simp [fPrg,cPrg]
 refine Wd.two (W.x mixed (by kernel_rfl) ?_)
 simp
 by_cases h1 : u.table = -1
 ·have hv : unitRdM d u = canZ (addM d [] ⟨fldsM u.cond.l,hdrsM u.cond.l,[]⟩):=if_pos h1
  have f1:=fldsM_len u.cond.l
  have f2:=hdrsM_len u.cond.l
  have hg1:=exFlds_g u.cond.l .un hu
  have hg2:=exHdrs_g u.cond.l .un hu
  obtain ⟨c0,e0⟩:=ownF_is (encL fRp (fldsM u.cond.l))
  obtain ⟨c1,e1⟩:=ownF_is (encL intF (hdrsM u.cond.l))
  rw [e0] at hg1
  rw [e1] at hg2
  refine Wd.two' (Wd.two (W.x mixed (by kernel_rfl) ?_))
  simp [h1]
  refine Wd.cond (q:=true) (by simp) ?_
  simp only [if_true]
  refine Wd.two (W.x mixed (by kernel_rfl) ?_)
  simp
  refine call_g hg1 ?_
  simp
  refine call_g hg2 ?_
  simp
  refine call_x (colAdd_x d hS [] ⟨fldsM u.cond.l,hdrsM u.cond.l,[]⟩ c0 c1 .nil (b:=2) rfl .nil (by decide) ⟨by simp; omega,by simp; omega,by simp⟩ (t:=0)) ?_
  rintro _ _ k2 ⟨rfl,x',t',rfl,ho',hk'⟩
  have hln:=addM_len d [] ⟨fldsM u.cond.l,hdrsM u.cond.l,[]⟩
  simp only [List.length_nil] at hln
  simp
  refine Wd.two' (Wd.callD (L1:=[_]) (L2:=[_]) rfl rfl rfl ?_)
  simp
  refine ⟨_,_,rfl,_,colSorted_d d _ (by omega) ho' rfl,?_⟩
  rintro y h' k' ⟨ts,h2,k2⟩ hr ⟨rfl,rfl,ff,rfl⟩
  simp
  refine Wd.x mixed (by kernel_rfl) ?_
  simp
  rw [hv]
  exact hr
 refine Wd.two' (Wd.two (W.x mixed (by kernel_rfl) ?_))
 simp [h1]
 refine Wd.cond (q:=false) (by simp) ?_
 simp only [Bool.false_eq_true,if_false]
 refine Wd.skip ?_
 simp
 cases h : tblOf d u.table with
 | none =>
  have hv : unitRdM d u = []:=by unfold unitRdM; rw [if_neg h1,h]
  refine Wd.two (W.x mixed (by kernel_rfl) ?_)
  simp
  refine call_g (declared_no d u h) ?_
  simp
  refine Wd.x mixed (by kernel_rfl) ?_
  simp [hv,encL,ownF]
 | some t =>
  obtain ⟨hl,hlk⟩:=ht t h
  have hv : unitRdM d u = canZ (actsTo d (actRdM d) (keysTo d [] t.keys.l) t.acts.l):=by unfold unitRdM; rw [if_neg h1,h]
  have hlk2:=keysTo_len (d:=d) t.keys.l []
  rw [List.length_nil] at hlk2
  refine Wd.two (W.x mixed (by kernel_rfl) ?_)
  simp
  refine call_g (declared_yes d u h) ?_
  simp
  refine Wd.two (W.x mixed (by kernel_rfl) ?_)
  simp
  refine Wd.two (W.two (W.x mixed (by kernel_rfl) ?_))
  simp
  refine W.blk (forW t.keys.l.length (rdK d u t) ⟨[],[],.f (.sl [] .nil),0,.nil,Sl.of rfl rfl rfl⟩ ?_)
  rintro i ⟨ts,hh,kk⟩ hi ⟨g,k,x,tk,ho,rfl,rfl,f,rfl⟩
  have hln:=keysTo_len (d:=d) (t.keys.l.take i) []
  rw [List.length_take,List.length_nil] at hln
  by_cases hlt : i < t.keys.l.length
  ·obtain ⟨a,ha,ha'⟩:=nth_of hlt
   have hw:=wrap64 (x:=(i : Int) + 1) (by omega) (by omega)
   refine W.x mixed (by kernel_rfl) ?_
   simp [hlt,ha]
   refine call_x (colAdd_x d hS (keysTo d [] (t.keys.l.take i)) ⟨[(a.h,a.f)],[],[]⟩ .full .nil .nil (b:=2) rfl ho (by omega) ⟨by simp,by simp,by simp⟩) ?_
   rintro _ _ k2 ⟨rfl,x',t',rfl,ho',hk'⟩
   simp [hw]
   exact ⟨_,_,_,_,by rw [keysTo_next ha']; exact ho',Sl.of rfl rfl rfl⟩
  obtain rfl : i = t.keys.l.length:=by omega
  rw [List.take_length] at ho
  refine W.x mixed (by kernel_rfl) ?_
  simp
  refine Wd.two (W.two (W.x mixed (by kernel_rfl) ?_))
  simp
  refine W.blk (forW t.acts.l.length (rdA d u t) ⟨g,_,x,tk,ho,Sl.of rfl rfl rfl⟩ ?_)
  clear hlt hi hln ho
  rintro i ⟨ts,hh,kk⟩ hi ⟨g,k,x,tk,ho,rfl,rfl,f,rfl⟩
  have hln:=actsTo_len (d:=d) (fun a=>(actRdM_b d a).mono (by decide)) (t.acts.l.take i) (keysTo d [] t.keys.l)
  rw [List.length_take] at hln
  by_cases hlt : i < t.acts.l.length
  ·obtain ⟨a,ha,ha'⟩:=nth_of hlt
   have hw:=wrap64 (x:=(i : Int) + 1) (by omega) (by omega)
   have hb:=actRdM_b d a
   have hg:=actReads_g d hn a
   obtain ⟨c0,e0⟩:=ownF_is (encL fRp (actRdM d a).F)
   obtain ⟨c1,e1⟩:=ownF_is (encL intF (actRdM d a).M)
   obtain ⟨c2,e2⟩:=ownF_is (encL intF (actRdM d a).G)
   unfold fTri at hg
   rw [e0,e1,e2] at hg
   refine W.x mixed (by kernel_rfl) ?_
   simp [hlt,ha,aPrg]
   refine call_g hg ?_
   simp
   refine call_x (colAdd_x d hS (actsTo d (actRdM d) (keysTo d [] t.keys.l) (t.acts.l.take i)) (actRdM d a) c0 c1 c2 (b:=2) rfl ho (by omega) (hb.mono (by omega))) ?_
   rintro _ _ k2 ⟨rfl,x',t',rfl,ho',hk'⟩
   simp [hw]
   exact ⟨_,_,_,_,by rw [actsTo_next ha']; exact ho',Sl.of rfl rfl rfl⟩
  obtain rfl : i = t.acts.l.length:=by omega
  rw [List.take_length] at ho hln
  refine W.x mixed (by kernel_rfl) ?_
  simp
  refine Wd.two' (Wd.callD (L1:=[_]) (L2:=[_]) rfl rfl rfl ?_)
  simp
  refine ⟨_,_,rfl,_,colSorted_d d (actsTo d (actRdM d) (keysTo d [] t.keys.l) t.acts.l) (by omega) ho rfl,?_⟩
  rintro y h' k' ⟨ts,h2,k2⟩ hr ⟨rfl,rfl,ff,rfl⟩
  simp
  refine Wd.x mixed (by kernel_rfl) ?_
  simp
  rw [hv]
  exact hr
mutual
theorem bldN_all : ∀ (x : NodD) (gs : List GuardD) (i : Nat),(bldN x gs i).length = (nodPre x).length∧∀ u ∈ bldN x gs i,∃ y ∈ nodPre x,∃ g,u = unitOf y g∧g.length ≤ gs.length + (nodPre x).length
 | .mk k t c tl el,gs,i=>by
  obtain ⟨a1,a2⟩:=bldL_all tl (gs ++ [⟨i,true⟩]) (i + 1)
  obtain ⟨b1,b2⟩:=bldL_all el (gs ++ [⟨i,false⟩]) (i + 1 + (bldL tl (gs ++ [⟨i,true⟩]) (i + 1)).length)
  rw [bldN_eq,nodPre]
  refine ⟨by simp only [List.length_cons,List.length_append]; rw [← a1,← b1]; rfl,fun u hu=>?_⟩
  rcases List.mem_cons.1 hu with rfl | hu
  ·exact ⟨_,.head _,gs,rfl,by omega⟩
  rcases List.mem_append.1 hu with hu | hu
  ·obtain ⟨y,hy,g,e,hg⟩:=a2 u hu
   refine ⟨y,.tail _ (List.mem_append_left _ hy),g,e,?_⟩
   simp only [List.length_cons,List.length_append,List.length_nil] at hg ⊢
   omega
  ·obtain ⟨y,hy,g,e,hg⟩:=b2 u hu
   refine ⟨y,.tail _ (List.mem_append_right _ hy),g,e,?_⟩
   simp only [List.length_cons,List.length_append,List.length_nil] at hg ⊢
   omega
theorem bldL_all : ∀ (l : List NodD) (gs : List GuardD) (i : Nat),(bldL l gs i).length = (nodsPre l).length∧∀ u ∈ bldL l gs i,∃ y ∈ nodsPre l,∃ g,u = unitOf y g∧g.length ≤ gs.length + (nodsPre l).length
 | [],gs,i=>by rw [bldL,nodsPre]; exact ⟨rfl,fun u hu=>by cases hu⟩
 | x :: l,gs,i=>by
  obtain ⟨a1,a2⟩:=bldN_all x gs i
  obtain ⟨b1,b2⟩:=bldL_all l gs (i + (bldN x gs i).length)
  rw [bldL,nodsPre]
  refine ⟨by simp only [List.length_append]; rw [b1,a1],fun u hu=>?_⟩
  rcases List.mem_append.1 hu with hu | hu
  ·obtain ⟨y,hy,g,e,hg⟩:=a2 u hu
   refine ⟨y,List.mem_append_left _ hy,g,e,?_⟩
   simp only [List.length_append]
   omega
  ·obtain ⟨y,hy,g,e,hg⟩:=b2 u hu
   refine ⟨y,List.mem_append_right _ hy,g,e,?_⟩
   simp only [List.length_append]
   omega
end
structure PrgU (d : PrgD) : Prop where
 ok : PrgOk d
 nodes : (nodsPre d.control.l).length ≤ 10000000
 cond : ∀ y ∈ nodsPre d.control.l,y.cond.l.length ≤ 1000000
theorem nodes_few {d : PrgD} (hU : PrgU d) (hC : PrgC d) : (nodsPre d.control.l).length ≤ 24:=by
 have h:=hC.cc
 have hn:=hU.nodes
 unfold ctlCheckW at h
 rw [wr_id (by omega) (by omega)] at h
 split at h
 ·cases h
 ·omega
theorem bldM_len {d : PrgD} (hU : PrgU d) (hC : PrgC d) : (bldM d).length ≤ 24:=by
 unfold bldM
 rw [if_pos hC.cc,(bldL_all _ _ _).1]
 exact nodes_few hU hC
theorem bldM_mem {d : PrgD} (hU : PrgU d) (hC : PrgC d) {u : UnitD} (h : u ∈ bldM d) : u.cond.l.length ≤ 1000000∧u.guards.l.length ≤ 24:=by
 unfold bldM at h
 rw [if_pos hC.cc] at h
 obtain ⟨y,hy,g,rfl,hg⟩:=(bldL_all _ _ _).2 u h
 have:=nodes_few hU hC
 have hc:=hU.cond y hy
 refine ⟨?_,by simp only [unitOf]; simp at hg; omega⟩
 simp only [unitOf]
 split
 ·exact hc
 ·exact Nat.zero_le _
theorem tblOf_small {d : PrgD} (hC : PrgC d) {i : Int} {t : TblD} (h : tblOf d i = some t) : t.acts.l.length ≤ 16∧t.keys.l.length ≤ 6:=by
 unfold tblOf at h
 split at h
 ·cases h
 ·obtain ⟨hlt,rfl⟩:=List.getElem?_eq_some_iff.1 h
  have h1:=hC.tc _ hlt
  rw [tblCheck_nat (List.getElem?_eq_getElem hlt)] at h1
  obtain ⟨a,b,_⟩:=tblC_of h1
  exact ⟨b,a⟩
def rdF (d : PrgD) (us : List UnitD) (a : Nat) : List Int:=match us[a]? with
 | some u=>unitRdM d u
 | none=>[]
def wrF (d : PrgD) (us : List UnitD) (a : Nat) : List Int:=match us[a]? with
 | some u=>unitWrM d u
 | none=>[]
theorem unitWrM_len {d : PrgD} (hC : PrgC d) (u : UnitD) : (unitWrM d u).length ≤ maxLen:=by
 unfold unitWrM
 cases h : tblOf d u.table with
 | none=>exact Nat.zero_le _
 | some t =>
  have h1:=(tblOf_small hC h).1
  have h2:=actsTo_len (d:=d) (actWrM_b (prgS_of hC).f) t.acts.l []
  have h3:=canZ_len (actsTo d (actWrM d) [] t.acts.l)
  rw [List.length_nil] at h2
  show (canZ (actsTo d (actWrM d) [] t.acts.l)).length ≤ maxLen
  unfold maxLen
  omega
theorem unitRdM_len {d : PrgD} (hC : PrgC d) (u : UnitD) (hu : u.cond.l.length ≤ 1000000) : (unitRdM d u).length ≤ maxLen:=by
 unfold unitRdM
 split
 ·have h1:=addM_len d [] ⟨fldsM u.cond.l,hdrsM u.cond.l,[]⟩
  have h2:=fldsM_len u.cond.l
  have h3:=hdrsM_len u.cond.l
  have h4:=canZ_len (addM d [] ⟨fldsM u.cond.l,hdrsM u.cond.l,[]⟩)
  simp only [List.length_nil] at h1
  unfold maxLen
  omega
 ·cases h : tblOf d u.table with
  | none=>exact Nat.zero_le _
  | some t =>
   obtain ⟨h1,h0⟩:=tblOf_small hC h
   have h2:=actsTo_len (d:=d) (fun a=>(actRdM_b d a).mono (by decide)) t.acts.l (keysTo d [] t.keys.l)
   have h3:=canZ_len (actsTo d (actRdM d) (keysTo d [] t.keys.l) t.acts.l)
   have h4:=keysTo_len (d:=d) t.keys.l []
   rw [List.length_nil] at h4
   show (canZ (actsTo d (actRdM d) (keysTo d [] t.keys.l) t.acts.l)).length ≤ maxLen
   unfold maxLen
   omega
def jobM (d : PrgD) (c : ChipD) : JobD:=⟨c,bldM d,(bldM d).map (unitCost d),depsM (rdF d (bldM d)) (wrF d (bldM d)) (bldM d)⟩
def njI (d : PrgD) (c : ChipD) (us : List UnitD) (c1 : Cap) (D : FV) (i : Nat) (s : St) : Prop:=∃ g k x tk,OwnT k (encL fRes ((us.map (unitCost d)).take i)) 2 x tk ∧
 Vf.Sl [(2,.ref 0 0),(5,.ref 2 0),(25,.f (.sl (encL fUnit us) c1)),(26,.f (intF us.length)),(27,.f (intF i))] 45 (aPrg d :: (cChip c).map .f :: ((cChip c).map .f ++ [.f (.sl (encL fUnit us) c1),x,.f D]) :: g) k s
theorem weak_own {k0 : List (Nat × Nat)} {l : List FV} {sz t : Nat} {x : AV} (h : OwnT k0 l sz x t) (w : World) (L : Lk) (k : List (Nat × Nat)) (v : Value) (hr : RepA w L k x v) : RepA w L k (.f (ownF l)) v:=by
 rcases h with ⟨rfl,rfl⟩ | ⟨h1,rfl,_⟩
 ·exact hr
 ·unfold ownF
  rw [if_neg h1]
  cases hr with
  | own l t b o cap h=>exact .f _ _ h
theorem newJob_g (d : PrgD) (c : ChipD) (hU : PrgU d) (hC : PrgC d) : ∃ c1 c2 c3,Gives Tryz.prog 29 [fPrg d,fChip c] (.fp (cJob (jobM d c) c1 c2 c3)):=by
 have hl:=bldM_len hU hC
 have hb:=build_g d (Nat.le_trans hC.t (by decide)) hU.ok.nod (by rw [(bldL_all _ _ _).1]; have:=nodes_few hU hC; omega) hU.cond
 obtain ⟨c1,e1⟩:=ownF_is (encL fUnit (bldM d))
 rw [e1] at hb
 have hmem : ∀ {u : UnitD},u ∈ bldM d→u.cond.l.length ≤ 1000000∧u.guards.l.length ≤ 24:=fun h=>bldM_mem hU hC h
 have hD:=deps_g d (bldM d) c1 (rdF d (bldM d)) (wrF d (bldM d)) (by omega) (fun a=>by
  unfold rdF
  split
  ·rename_i u hu
   exact unitRdM_len hC u (hmem (List.mem_of_getElem? hu)).1
  ·exact Nat.zero_le _) (fun a=>by
  unfold wrF
  split
  ·exact unitWrM_len hC _
  ·exact Nat.zero_le _) (fun u hu=>by have:=(hmem hu).2; omega)
  (fun a u hu=>by
   have : rdF d (bldM d) a = unitRdM d u:=by unfold rdF; rw [hu]
   rw [this]
   exact reads_g d hU.ok.nm hC u (hmem (List.mem_of_getElem? hu)).1 fun t ht=>tblOf_small hC ht)
  (fun a u hu=>by
   have : wrF d (bldM d) a = unitWrM d u:=by unfold wrF; rw [hu]
   rw [this]
   exact writes_g d hU.ok.nm hC u fun t ht=>(tblOf_small hC ht).1)
 have hj : jobM d c = ⟨c,bldM d,(bldM d).map (unitCost d),depsM (rdF d (bldM d)) (wrF d (bldM d)) (bldM d)⟩:=rfl
 rw [hj]
 generalize depsM (rdF d (bldM d)) (wrF d (bldM d)) (bldM d) = D at *
 generalize bldM d = us at *
 obtain ⟨c2,e2⟩:=ownF_is (encL fRes (us.map (unitCost d)))
 refine ⟨c1,c2,.un,Gives.ofW Tryz.func29 rfl rfl rfl (by decide) ?_⟩
 refine W.two (W.x mixed (by kernel_rfl) ?_)
 simp [fPrg,cPrg]
 refine W.two (W.x mixed (by kernel_rfl) ?_)
 simp
 refine call_g hb ?_
 simp
 refine W.two (W.x mixed (by kernel_rfl) ?_)
 simp
 refine call_g hD ?_
 simp
 refine W.two (W.two (W.x mixed (by kernel_rfl) ?_))
 simp
 refine W.blk (forW us.length (njI d c us c1 (sl (encL rowF D))) ⟨[],[],.f (.sl [] .nil),0,.nil,Sl.of rfl rfl rfl⟩ ?_)
 rintro i ⟨ts,hh,kk⟩ hi ⟨g,k,x,tk,ho,rfl,rfl,f,rfl⟩
 by_cases hlt : i < us.length
 ·obtain ⟨u,hu,hu'⟩:=nth_of hlt
  have hw:=wrap64 (x:=(i : Int) + 1) (by omega) (by omega)
  have hn:=take_one (l:=us.map (unitCost d)) (i:=i) (x:=unitCost d u) (by rw [List.getElem?_map,hu']; rfl)
  obtain ⟨x',t',k',e,ho',hk',_⟩:=append_own0 ty89 ty47 (by simp) ho (y:=.f (.sl [fRes (unitCost d u)] .full)) rfl (by simp) (by simp; omega) (by simp; omega)
  rw [show encL fRes ((us.map (unitCost d)).take i) ++ [fRes (unitCost d u)] = encL fRes ((us.map (unitCost d)).take (i + 1)) by rw [← hn]; simp [encL]] at ho'
  refine W.x mixed (by kernel_rfl) ?_
  simp [hlt,hu,aPrg]
  refine call_g (unitCost_g d hU.ok u) ?_
  simp [-opAppend,-opStore]
  rw [e]
  simp [-opStore]
  rw [store_own ty89 rfl (cs:=(cChip c).map .f ++ [.f (.sl (encL fUnit us) c1),x,.f (sl (encL rowF D))]) rfl (by simp) ho']
  simp [hw]
  exact ⟨_,_,_,_,ho',Sl.of rfl rfl rfl⟩
 ·obtain rfl : i = us.length:=by omega
  rw [List.take_of_length_le (by simp)] at ho
  refine W.x mixed (by kernel_rfl) ?_
  simp
  refine weakH_W (b:=2) (j:=9) (x:=x) (x':=.f (ownF (encL fRes (us.map (unitCost d))))) rfl rfl (weak_own ho) ?_
  rw [e2]
  refine frz_W (d:=5) (b:=2) (fs:=cJob ⟨c,us,us.map (unitCost d),D⟩ c1 c2 .un) rfl rfl ?_
  refine W.x mixed (by kernel_rfl) ?_
  simp
def stIn (c : ChipD) (s : Int) : Bool:=decide (0 ≤ s) && decide (s < c.stages)
def fitsAt (j : JobD) (c : ChipD) (S : List Int) (s : Nat) : Bool:=withinM (usTo j S s S.length) c
def validM (d : PrgD) (c : ChipD) (S : List Int) : Bool:=decide ((prgCheckW d).1 = 0) && decide (chipCheck c = 0) && satM (jobM d c).deps S && !(S.any fun s=>!stIn c s) && !((List.range c.stages.toNat).any fun s=>!fitsAt (jobM d c) c S s)
theorem chip_few {c : ChipD} (h : chipCheck c = 0) : 1 ≤ c.stages∧c.stages ≤ 16:=by
 unfold chipCheck at h
 split at h
 ·cases h
 ·omega
def vlI (d : PrgD) (c : ChipD) (S : List Int) (J : FV) (cs : Cap) (i : Nat) (s : St) : Prop:=noneT (fun s=>!stIn c s) S i∧∃ g,Vf.Sl [(2,.f (.sl (encL intF S) cs)),(4,.ref 1 0),(7,.f J),(30,.f (.sl (encL intF S) cs)),(31,.f (intF S.length)),(32,.f (intF i))] 58 (aPrg d :: (cChip c).map .f :: g) [] s
def vlJ (d : PrgD) (c : ChipD) (S : List Int) (J : FV) (j : JobD) (cs : Cap) (i : Nat) (s : St) : Prop:=noneT (fun s=>!fitsAt j c S s) (List.range c.stages.toNat) i∧∃ g,Vf.Sl [(2,.f (.sl (encL intF S) cs)),(4,.ref 1 0),(7,.f J),(46,.f (intF c.stages)),(47,.f (intF i))] 58 (aPrg d :: (cChip c).map .f :: g) [] s
theorem valid_g (d : PrgD) (c : ChipD) (S : List Int) (cs : Cap) (hU : PrgU d) (hS : S.length ≤ maxLen) : Gives Tryz.prog 16 [fPrg d,fChip c,.sl (encL intF S) cs] (boolF (validM d c S)):=by
 refine Gives.of mixed Tryz.func16 rfl rfl rfl (by kernel_rfl) ?_
 simp [fPrg,cPrg]
 refine call_g (prg_g d hU.ok) ?_
 by_cases h1 : (prgCheckW d).1 = 0
 case neg =>
  have hv : validM d c S = false:=by unfold validM; rw [decide_eq_false h1]; rfl
  rw [hv]
  simp [h1]
 have hC:=prgC_of h1
 simp [h1]
 refine call_g (chip_g c) ?_
 by_cases h2 : chipCheck c = 0
 case neg =>
  have hv : validM d c S = false:=by unfold validM; rw [decide_eq_false h2]; simp
  rw [hv]
  simp [h2]
 obtain ⟨k1,k2⟩:=chip_few h2
 obtain ⟨c1,c2,c3,hJ⟩:=newJob_g d c hU hC
 have hv : validM d c S = (satM (jobM d c).deps S && !(S.any fun s=>!stIn c s) && !((List.range c.stages.toNat).any fun s=>!fitsAt (jobM d c) c S s)):=by unfold validM; rw [decide_eq_true h1,decide_eq_true h2]; rfl
 have hl:=bldM_len hU hC
 have hju : (jobM d c).units.length = (bldM d).length:=rfl
 have hjc : (jobM d c).costs.length = (bldM d).length:=by simp [jobM]
 have hjd : (jobM d c).deps.length = (bldM d).length:=by simp [jobM,depsM]
 have hjchip : (jobM d c).chip = c:=rfl
 rw [hv]
 clear hv
 simp [h2]
 refine call_g hJ ?_
 generalize jobM d c = j at *
 simp
 refine call_g (sat_g j.deps S c3 cs (by unfold maxLen; omega)) ?_
 cases h3 : satM j.deps S with
 | false=>simp
 | true =>
 have hlen : S.length = j.deps.length:=by
  unfold satM at h3
  simp only [Bool.and_eq_true,decide_eq_true_eq] at h3
  first | exact h3.1 | omega
 simp
 refine forX mixed S.length (vlI d c S (.fp (cJob j c1 c2 c3)) cs) (by kernel_rfl) ⟨noneT.zero,[],Sl.of rfl rfl rfl⟩ ?_
 rintro i ⟨ts,hh,kk⟩ hi ⟨hno,g,rfl,rfl,f,rfl⟩
 by_cases hlt : i < S.length
 ·obtain ⟨x,hx,hx'⟩:=nth_of hlt
  have hw:=wrap64 (x:=(i : Int) + 1) (by omega) (by unfold maxLen at hS; omega)
  by_cases h4 : x < 0
  ·have ha : (S.any fun s=>!stIn c s) = true:=any_hit hx' (by simp [stIn]; omega)
   rw [ha]
   simp [hlt,hx,h4]
  by_cases h5 : x < c.stages
  ·have h6 : ¬ c.stages ≤ x:=by omega
   simp [hlt,hx,h4,h6,hw]
   exact ⟨hno.next hx' (by simp [stIn]; omega),_,Sl.of rfl rfl rfl⟩
  ·have ha : (S.any fun s=>!stIn c s) = true:=any_hit hx' (by simp [stIn]; omega)
   rw [ha]
   simp [hlt,hx,h4,(show c.stages ≤ x by omega)]
 rw [hno.all hlt]
 obtain rfl : i = S.length:=by omega
 simp
 refine forX mixed c.stages.toNat (vlJ d c S (.fp (cJob j c1 c2 c3)) j cs) (by kernel_rfl) ⟨noneT.zero,g,Sl.of rfl rfl rfl⟩ ?_
 clear hlt hi hno
 rintro i ⟨ts,hh,kk⟩ hi ⟨hno,g,rfl,rfl,f,rfl⟩
 by_cases hlt : i < c.stages.toNat
 ·have hw:=wrap64 (x:=(i : Int) + 1) (by omega) (by omega)
  have hlt' : (i : Int) < c.stages:=by omega
  have hr : (List.range c.stages.toNat)[i]? = some i:=by simp [hlt]
  simp [hlt']
  refine call_g (usage_g j c1 c2 c3 S cs i (by omega) (by omega) hS) ?_
  simp
  refine call_g (within_g (usTo j S i S.length) c) ?_
  cases h6 : withinM (usTo j S i S.length) c with
  | false =>
   have ha : ((List.range c.stages.toNat).any fun s=>!fitsAt j c S s) = true:=any_hit hr (by simp [fitsAt,h6])
   rw [ha]
   simp
  | true =>
   simp [hw]
   exact ⟨hno.next hr (by simp [fitsAt,h6]),_,Sl.of rfl rfl rfl⟩
 have hlt2 : ¬ i < (List.range c.stages.toNat).length:=by simpa using hlt
 rw [hno.all hlt2]
 have hlt' : ¬ (i : Int) < c.stages:=by omega
 simp [hlt']
end Go.Proofs.YtafenffmgpcjcaaGreat
