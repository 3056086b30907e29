/- Texts of the proof: S11. -/
import Derived.Test.YtejkhflkeoihlaaGreatS10
import Derived.Test.YtejkhflkeoihlaaGreatS6
import Derived.Test.YtejkhflkeoihlaaGreatS5
import Derived.Test.YtejkhflkeoihlaaGreatS9
namespace Go.Proofs.YtejkhflkeoihlaaGreat
open Go.RowKit Go.Proofs.YtejkhflkeoihlaaGreat.Vf
set_option linter.unusedVariables false
set_option linter.unusedSimpArgs false
set_option maxRecDepth 100000
set_option maxHeartbeats 4000000
def putM (L : List Int) (n : Int) : List Int:=if 0 ≤ n then L ++ [n] else L
theorem putM_len (L : List Int) (n : Int) : (putM L n).length ≤ L.length + 1:=by unfold putM; split <;> simp
theorem append_z {k : List (Nat × Nat)} {L : List Int} {x : AV} {t : Nat} (n : Int) (h : OwnT k (encL intF L) 1 x t) (hb : L.length ≤ 4000000) :
  ∃ x' t' k',opAppend (tyOf Tryz.prog) k 29 x (.f (.sl [intF n] .full)) = some (x',k')∧OwnT k' (encL intF (L ++ [n])) 1 x' t'∧k.length ≤ k'.length:=by
 obtain ⟨x',t',k',e,ho,hl,_⟩:=append_own0 ty29 ty3 (by simp) h (y:=.f (.sl [intF n] .full)) rfl (by simp) (by simp; omega) (by simp; omega)
 exact ⟨x',t',k',e,by rw [encL,List.map_append]; exact ho,hl⟩
theorem aPrg_bel {d : PrgD} {n m : Nat} {x : AV} (hx : Bel n m x) : ∀ z ∈ aPrg d ++ [x],Bel n m z:=fun z hz=>by
 rcases List.mem_append.1 hz with h | h
 ·simp only [aPrg,List.mem_cons,List.not_mem_nil,or_false] at h
  rcases h with rfl | rfl | rfl | rfl | rfl | rfl | rfl | rfl | rfl <;> exact .f _
 ·obtain rfl:=List.mem_singleton.1 h; exact hx
theorem retR_drop {T : TV} {h0 h' g : List (List AV)} {k0 kk : List (Nat × Nat)} {R : AV→List (List AV)→List (Nat × Nat)→Prop} {t : List AV} {e : Exit} (he : e = .normal ∨ e = .ret) (hl : h'.length = h0.length) (hk : k0.length ≤ kk.length) (hb : BelC h0 h' kk.length) (hR : R (.tup []) h' kk) : RetR T [] h0 k0 R e ⟨t,h' ++ g,kk⟩ :=
 ⟨he,h',g,kk,[],.tup [],rfl,hl,(List.append_nil _).symm,hk,hb,.inl ⟨rfl,.tup [] fun j y h=>by simp at h⟩,hR⟩
def ColR (d : PrgD) (b : Nat) (L : List Int) (h : List (List AV)) (k : List (Nat × Nat)) : AV→List (List AV)→List (Nat × Nat)→Prop:=fun y h' k' =>
 y = .tup []∧∃ x' t',h' = h.set b (aPrg d ++ [x'])∧OwnT k' (encL intF L) 1 x' t'∧k.length ≤ k'.length
theorem put_x (d : PrgD) (n : Int) (L : List Int) {h : List (List AV)} {k : List (Nat × Nat)} {bc b t : Nat} {x : AV} (hc : ix h bc = some [.ref b 0]) (hb : ix h b = some (aPrg d ++ [x])) (ho : OwnT k (encL intF L) 1 x t) (hl : L.length ≤ 4000000) :
  GivesX Tryz.prog 248 [.f (intF n),.ref bc 0] h k (ColR d b (putM L n) h k):=by
 have hbl : b < h.length:=(List.getElem?_eq_some_iff.1 hb).1
 refine GivesX.of_W Tryz.func248 rfl rfl rfl (by decide) ?_
 by_cases hn : 0 ≤ n
 ·obtain ⟨x',t',k',e,ho',hk'⟩:=append_z n ho hl
  have hp : putM L n = L ++ [n]:=if_pos hn
  refine W.x mixed (by kernel_rfl) ?_
  simp [hn,hc,hb,aPrg,-opAppend,-opStore]
  rw [e]
  simp [-opStore]
  rw [store_own ty29 rfl hb (by simp [aPrg]) ho']
  simp
  exact retR_none (.inl rfl) (by simp) hk' (.set (aPrg_bel (own_bel ho'))) ⟨rfl,_,t',rfl,by rw [hp]; exact ho',hk'⟩
 ·have hp : putM L n = L:=if_neg hn
  have hself : h.set b (aPrg d ++ [x]) = h:=by
   apply List.ext_getElem?
   intro q
   by_cases e : b = q
   ·subst e; rw [List.getElem?_set_self hbl]; exact hb.symm
   ·rw [List.getElem?_set_ne e]
  refine W.x mixed (by kernel_rfl) ?_
  simp [hn]
  exact retR_none (.inl rfl) rfl (Nat.le_refl _) .refl ⟨rfl,x,t,hself.symm,by rw [hp]; exact ho,Nat.le_refl _⟩
def putAll {α : Type} (f : α→Int) (L : List Int) (l : List α) : List Int:=(l.map f).foldl putM L
theorem putAll_next {α : Type} {f : α→Int} {L : List Int} {l : List α} {i : Nat} {x : α} (h : l[i]? = some x) : putAll f L (l.take (i + 1)) = putM (putAll f L (l.take i)) (f x):=by
 unfold putAll
 rw [← take_one h,List.map_append,List.foldl_append]; rfl
theorem putAll_len {α : Type} (f : α→Int) (l : List α) : ∀ L : List Int,(putAll f L l).length ≤ L.length + l.length:=by
 induction l with
 | nil=>intro L; exact Nat.le_refl _
 | cons x l ih =>
  intro L
  have h1:=ih (putM L (f x))
  have h2:=putM_len L (f x)
  show (putAll f (putM L (f x)) l).length ≤ _
  simp only [List.length_cons]
  omega
def addM (d : PrgD) (L : List Int) (T : Tri) : List Int:=putAll (cellM d 3) (putAll (cellM d 1) (putAll (fun r : FR=>fieldCell d r.1 r.2) L T.F) T.M) T.G
def caI {α : Type} (d : PrgD) (enc : α→FV) (f : α→Int) (L : List Int) (l : List α) (sl0 : AV) (hs : List AV) (h : List (List AV)) (k : List (Nat × Nat)) (b s0 i : Nat) (s : St) : Prop:=∃ g k' x t,OwnT k' (encL intF (putAll f L (l.take i))) 1 x t∧k.length ≤ k'.length ∧
 Vf.Sl [(2,hs.headD undefA),(3,(hs.drop 1).headD undefA),(4,.ref h.length 0),(8,.fnr 248 [.ref h.length 0]),(s0,sl0),(s0 + 1,.f (intF l.length)),(s0 + 2,.f (intF i))] 61 (h.set b (aPrg d ++ [x]) ++ ([.ref b 0] :: g)) k' s
theorem colAdd_x (d : PrgD) (hS : PrgS d) (L : List Int) (T : Tri) (c0 c1 c2 : Cap) {h : List (List AV)} {k : List (Nat × Nat)} {b t : Nat} {x : AV} (hb : ix h b = some (aPrg d ++ [x])) (ho : OwnT k (encL intF L) 1 x t) (hL : L.length ≤ 1000000) (hT : triB T 1000000) :
  GivesX Tryz.prog 179 [.ref b 0,.f (.sl (encL fRp T.F) c0),.f (.sl (encL intF T.M) c1),.f (.sl (encL intF T.G) c2)] h k (ColR d b (addM d L T) h k):=by
 have hbl : b < h.length:=(List.getElem?_eq_some_iff.1 hb).1
 obtain ⟨lF,lM,lG⟩:=hT
 have hself : h.set b (aPrg d ++ [x]) = h:=by
  apply List.ext_getElem?
  intro q
  by_cases e : b = q
  ·subst e; rw [List.getElem?_set_self hbl]; exact hb.symm
  ·rw [List.getElem?_set_ne e]
 have x0 : ∀ c r,ix (h.set b c ++ r) b = some c:=fun c r=>by
  show (h.set b c ++ r)[b]? = _
  rw [List.getElem?_append_left (by simpa using hbl),List.getElem?_set_self hbl]
 have x1 : ∀ c r n,ix (h.set b c ++ r) (h.length + n) = ix r n:=fun c r n=>by
  have:=ix_appn (l:=h.set b c) (m:=r) (n:=n)
  rwa [List.length_set] at this
 have x2 : ∀ c r,ix (h.set b c ++ r) h.length = ix r 0:=fun c r=>x1 c r 0
 have x3 : ∀ c c' r,(h.set b c ++ r).set b c' = h.set b c' ++ r:=fun c c' r=>by
  rw [List.set_append_left _ _ (by simpa using hbl),List.set_set]
 refine GivesX.of_W Tryz.func179 rfl rfl rfl (by decide) ?_
 refine W.two (W.x mixed (by kernel_rfl) ?_)
 simp
 refine W.two (W.x mixed (by kernel_rfl) ?_)
 simp
 refine W.two (W.two (W.x mixed (by kernel_rfl) ?_))
 simp
 refine W.blk (forW T.F.length (caI d fRp (fun r : FR=>fieldCell d r.1 r.2) L T.F (.f (.sl (encL fRp T.F) c0)) [.f (.sl (encL intF T.M) c1),.f (.sl (encL intF T.G) c2)] h k b 16) ⟨[],k,x,t,ho,Nat.le_refl _,by rw [hself]; exact Sl.of rfl rfl rfl⟩ ?_)
 rintro i ⟨ts,hh,kk⟩ hi ⟨g,k',x,t,ho,hk,rfl,rfl,f,rfl⟩
 by_cases hlt : i < T.F.length
 ·obtain ⟨y,hy,hy'⟩:=nth_of hlt
  have hw:=wrap64 (x:=(i : Int) + 1) (by omega) (by omega)
  have hpl:=putAll_len (fun r : FR=>fieldCell d r.1 r.2) (T.F.take i) L
  rw [List.length_take] at hpl
  refine W.x mixed (by kernel_rfl) ?_
  simp [hlt,hy,aPrg,x0,x1,x2,x3]
  refine call_g (fieldCell_g d hS y.1 y.2) ?_
  simp
  refine ⟨_,put_x d (fieldCell d y.1 y.2) (putAll (fun r : FR=>fieldCell d r.1 r.2) L (T.F.take i)) (x2 _ _) (x0 _ _) ho (by omega),?_⟩
  rintro _ _ k2 ⟨rfl,x',t',rfl,ho',hk'⟩
  rw [x3]
  simp [hw]
  have hkk : k.length ≤ k2.length:=Nat.le_trans hk hk'
  exact ⟨_,_,_,_,by rw [putAll_next hy']; exact ho',hkk,Sl.of rfl rfl rfl⟩
 obtain rfl : i = T.F.length:=by omega
 rw [List.take_length] at ho
 have hp1:=putAll_len (fun r : FR=>fieldCell d r.1 r.2) T.F L
 have hadd : addM d L T = putAll (cellM d 3) (putAll (cellM d 1) (putAll (fun r : FR=>fieldCell d r.1 r.2) L T.F) T.M) T.G:=rfl
 generalize putAll (fun r : FR=>fieldCell d r.1 r.2) L T.F = L1 at *
 refine W.x mixed (by kernel_rfl) ?_
 simp
 refine W.two (W.two (W.x mixed (by kernel_rfl) ?_))
 simp
 refine W.blk (forW T.M.length (caI d intF (cellM d 1) L1 T.M (.f (.sl (encL intF T.M) c1)) [.f (.sl (encL intF T.M) c1),.f (.sl (encL intF T.G) c2)] h k b 31) ⟨g,_,x,t,ho,hk,Sl.of rfl rfl rfl⟩ ?_)
 clear hlt hi ho hk
 rintro i ⟨ts,hh,kk⟩ hi ⟨g,k',x,t,ho,hk,rfl,rfl,f,rfl⟩
 by_cases hlt : i < T.M.length
 ·obtain ⟨y,hy,hy'⟩:=nth_of hlt
  have hw:=wrap64 (x:=(i : Int) + 1) (by omega) (by omega)
  have hpl:=putAll_len (cellM d 1) (T.M.take i) L1
  rw [List.length_take] at hpl
  refine W.x mixed (by kernel_rfl) ?_
  simp [hlt,hy,aPrg,x0,x1,x2,x3]
  refine call_g (validCell_g d hS y) ?_
  simp
  refine ⟨_,put_x d (cellM d 1 y) (putAll (cellM d 1) L1 (T.M.take i)) (x2 _ _) (x0 _ _) ho (by omega),?_⟩
  rintro _ _ k2 ⟨rfl,x',t',rfl,ho',hk'⟩
  rw [x3]
  simp [hw]
  have hkk : k.length ≤ k2.length:=Nat.le_trans hk hk'
  exact ⟨_,_,_,_,by rw [putAll_next hy']; exact ho',hkk,Sl.of rfl rfl rfl⟩
 obtain rfl : i = T.M.length:=by omega
 rw [List.take_length] at ho
 have hp2:=putAll_len (cellM d 1) T.M L1
 generalize putAll (cellM d 1) L1 T.M = L2 at *
 refine W.x mixed (by kernel_rfl) ?_
 simp
 refine W.two (W.x mixed (by kernel_rfl) ?_)
 simp
 refine W.blk (forW T.G.length (caI d intF (cellM d 3) L2 T.G (.f (.sl (encL intF T.G) c2)) [.f (.sl (encL intF T.M) c1),.f (.sl (encL intF T.G) c2)] h k b 46) ⟨g,_,x,t,ho,hk,Sl.of rfl rfl rfl⟩ ?_)
 clear hlt hi ho hk
 rintro i ⟨ts,hh,kk⟩ hi ⟨g,k',x,t,ho,hk,rfl,rfl,f,rfl⟩
 by_cases hlt : i < T.G.length
 ·obtain ⟨y,hy,hy'⟩:=nth_of hlt
  have hw:=wrap64 (x:=(i : Int) + 1) (by omega) (by omega)
  have hpl:=putAll_len (cellM d 3) (T.G.take i) L2
  rw [List.length_take] at hpl
  refine W.x mixed (by kernel_rfl) ?_
  simp [hlt,hy,aPrg,x0,x1,x2,x3]
  refine call_g (registerCell_g d hS y) ?_
  simp
  refine ⟨_,put_x d (cellM d 3 y) (putAll (cellM d 3) L2 (T.G.take i)) (x2 _ _) (x0 _ _) ho (by omega),?_⟩
  rintro _ _ k2 ⟨rfl,x',t',rfl,ho',hk'⟩
  rw [x3]
  simp [hw]
  have hkk : k.length ≤ k2.length:=Nat.le_trans hk hk'
  exact ⟨_,_,_,_,by rw [putAll_next hy']; exact ho',hkk,Sl.of rfl rfl rfl⟩
 obtain rfl : i = T.G.length:=by omega
 rw [List.take_length] at ho
 refine W.x mixed (by kernel_rfl) ?_
 simp
 exact retR_drop (.inl rfl) (by simp) hk (.set (aPrg_bel (own_bel ho))) ⟨rfl,x,t,rfl,by rw [hadd]; exact ho,hk⟩
end Go.Proofs.YtejkhflkeoihlaaGreat
namespace Go.Proofs.YtejkhflkeoihlaaGreat
open Go.RowKit Go.Proofs.YtejkhflkeoihlaaGreat.Vf
set_option linter.unusedVariables false
set_option linter.unusedSimpArgs false
set_option maxRecDepth 100000
set_option maxHeartbeats 4000000
theorem prgS_of {d : PrgD} (hC : PrgC d) : PrgS d:=⟨Nat.le_trans hC.h (by decide),fun x hx=>Nat.le_trans (hdrC_of (hC.hd x hx)) (by decide),Nat.le_trans hC.m (by decide),Nat.le_trans hC.r (by decide)⟩
abbrev noTbl : FV:=.agg [strF ⟨#[]⟩,.sl [] .nil,.sl [] .nil,intF 0,.sl [] .nil,intF 0]
theorem declared_no (d : PrgD) (u : UnitD) (h : tblOf d u.table = none) : Gives Tryz.prog 178 [fPrg d,fUnit u] (.tup [noTbl,boolF false]):=by
 refine Gives.of mixed Tryz.func178 rfl rfl rfl (by kernel_rfl) ?_
 unfold tblOf at h
 by_cases c1 : u.table < 0
 ·simp [fPrg,cPrg,c1]
  exact ⟨3,_,rfl,rfl⟩
 ·rw [if_neg c1] at h
  have c2 : (d.tables.l.length : Int) ≤ u.table:=by
   have:=List.getElem?_eq_none_iff.1 h
   omega
  simp [fPrg,cPrg,c1,c2]
  exact ⟨3,_,rfl,rfl⟩
theorem declared_yes (d : PrgD) (u : UnitD) {t : TblD} (h : tblOf d u.table = some t) : Gives Tryz.prog 178 [fPrg d,fUnit u] (.tup [fTbl t,boolF true]):=by
 refine Gives.of mixed Tryz.func178 rfl rfl rfl (by kernel_rfl) ?_
 unfold tblOf at h
 by_cases c1 : u.table < 0
 ·rw [if_pos c1] at h; cases h
 ·rw [if_neg c1] at h
  have c3:=(List.getElem?_eq_some_iff.1 h).1
  have c2 : ¬ (d.tables.l.length : Int) ≤ u.table:=by omega
  obtain ⟨y,hy,hy'⟩:=nth_of c3
  obtain rfl : t = y:=by rw [h] at hy'; exact Option.some.inj hy'
  simp [fPrg,cPrg,c1,c2,(show (0 : Int) ≤ u.table by omega),hy,c3]
  exact ⟨3,_,rfl,rfl⟩
theorem addM_len (d : PrgD) (L : List Int) (T : Tri) : (addM d L T).length ≤ L.length + T.F.length + T.M.length + T.G.length:=by
 unfold addM
 have h1:=putAll_len (fun r : FR=>fieldCell d r.1 r.2) T.F L
 have h2:=putAll_len (cellM d 1) T.M (putAll (fun r : FR=>fieldCell d r.1 r.2) L T.F)
 have h3:=putAll_len (cellM d 3) T.G (putAll (cellM d 1) (putAll (fun r : FR=>fieldCell d r.1 r.2) L T.F) T.M)
 omega
theorem triB.can {a : Tri} {n : Nat} (h : triB a n) : triB (triC a) n:=⟨Nat.le_trans (canR_len _) h.1,Nat.le_trans (canZ_len _) h.2.1,Nat.le_trans (canZ_len _) h.2.2⟩
theorem actWrM_b {d : PrgD} (hF : ∀ x ∈ d.headers.l,x.fields.l.length ≤ 1000) (i : Int) : triB (actWrM d i) 12012:=by
 have h:=wrTo_b hF (bodyM d i) (bodyM d i).length
 rw [List.take_length] at h
 have hl:=(bodyM_ok d i).1
 exact (h.mono (by omega)).can
theorem actRdM_b (d : PrgD) (i : Int) : triB (actRdM d i) 600:=by
 have h:=rdTo_b (bodyM_ok d i).2 (bodyM d i).length
 rw [List.take_length] at h
 have hl:=(bodyM_ok d i).1
 exact (h.mono (by omega)).can
def actsTo (d : PrgD) (f : Int→Tri) (L : List Int) (l : List Int) : List Int:=l.foldl (fun L a=>addM d L (f a)) L
theorem actsTo_next {d : PrgD} {f : Int→Tri} {L l : List Int} {i : Nat} {x : Int} (h : l[i]? = some x) : actsTo d f L (l.take (i + 1)) = addM d (actsTo d f L (l.take i)) (f x):=by
 unfold actsTo
 rw [← take_one h,List.foldl_append]; rfl
theorem actsTo_len {d : PrgD} {f : Int→Tri} (hf : ∀ a,triB (f a) 12012) (l : List Int) : ∀ L : List Int,(actsTo d f L l).length ≤ L.length + 36036 * l.length:=by
 induction l with
 | nil=>intro L; exact Nat.le_add_right _ _
 | cons a l ih =>
  intro L
  have h1:=ih (addM d L (f a))
  have h2:=addM_len d L (f a)
  obtain ⟨b1,b2,b3⟩:=hf a
  show (actsTo d f (addM d L (f a)) l).length ≤ _
  simp only [List.length_cons]
  omega
def unitWrM (d : PrgD) (u : UnitD) : List Int:=match tblOf d u.table with
 | none=>[]
 | some t=>canZ (actsTo d (actWrM d) [] t.acts.l)
abbrev cUnitA (u : UnitD) : List AV:=[.f (intF u.table),.f (sl (encL fEx u.cond.l)),.f (sl (encL fGd u.guards.l))]
abbrev cTblA (t : TblD) : List AV:=[.f (strF t.name),.f (sl (encL fKey t.keys.l)),.f (sl (encL intF t.acts.l)),.f (intF t.dfl),.f (sl (encL u32F t.args.l)),.f (intF t.size)]
def cwrI (d : PrgD) (u : UnitD) (t : TblD) (i : Nat) (s : St) : Prop:=∃ k x tk,OwnT k (encL intF (actsTo d (actWrM d) [] (t.acts.l.take i))) 1 x tk ∧
 Vf.Sl [(2,.ref 0 0),(7,.ref 3 0),(22,.f (sl (encL intF t.acts.l))),(23,.f (intF t.acts.l.length)),(24,.f (intF i))] 39 [aPrg d,cUnitA u,cTblA t,aPrg d ++ [x]] k s
theorem writes_g (d : PrgD) (hn : NmOk d) (hC : PrgC d) (u : UnitD) (ht : ∀ t,tblOf d u.table = some t→t.acts.l.length ≤ 16) : Gives Tryz.prog 85 [fPrg d,fUnit u] (ownF (encL intF (unitWrM d u))):=by
 have hS:=prgS_of hC
 refine Gives.of_Wd Tryz.func85 rfl rfl rfl (by decide) ?_
 refine Wd.two (W.x mixed (by kernel_rfl) ?_)
 simp [fPrg,cPrg]
 cases h : tblOf d u.table with
 | none =>
  have hv : unitWrM d u = []:=by unfold unitWrM; rw [h]
  refine Wd.two (W.x mixed (by kernel_rfl) ?_)
  simp
  refine call_g (declared_no d u h) ?_
  simp
  refine Wd.x mixed (by kernel_rfl) ?_
  simp [hv,encL,ownF]
 | some t =>
  have hl:=ht t h
  have hv : unitWrM d u = canZ (actsTo d (actWrM d) [] t.acts.l):=by unfold unitWrM; rw [h]
  refine Wd.two (W.x mixed (by kernel_rfl) ?_)
  simp
  refine call_g (declared_yes d u h) ?_
  simp
  refine Wd.two (W.x mixed (by kernel_rfl) ?_)
  simp
  refine Wd.two (W.x mixed (by kernel_rfl) ?_)
  simp
  refine Wd.two (W.two (W.x mixed (by kernel_rfl) ?_))
  simp
  refine W.blk (forW t.acts.l.length (cwrI d u t) ⟨[],.f (.sl [] .nil),0,.nil,Sl.of rfl rfl rfl⟩ ?_)
  rintro i ⟨ts,hh,kk⟩ hi ⟨k,x,tk,ho,rfl,rfl,f,rfl⟩
  have hln:=actsTo_len (d:=d) (actWrM_b hS.f) (t.acts.l.take i) []
  rw [List.length_take,List.length_nil] at hln
  by_cases hlt : i < t.acts.l.length
  ·obtain ⟨a,ha,ha'⟩:=nth_of hlt
   have hw:=wrap64 (x:=(i : Int) + 1) (by omega) (by omega)
   have hb:=actWrM_b hS.f a
   have hg:=actWrites_g d hn hS.f a
   obtain ⟨c0,e0⟩:=ownF_is (encL fRp (actWrM d a).F)
   obtain ⟨c1,e1⟩:=ownF_is (encL intF (actWrM d a).M)
   obtain ⟨c2,e2⟩:=ownF_is (encL intF (actWrM d a).G)
   unfold fTri at hg
   rw [e0,e1,e2] at hg
   refine W.x mixed (by kernel_rfl) ?_
   simp [hlt,ha,aPrg]
   refine call_g hg ?_
   simp
   refine call_x (colAdd_x d hS (actsTo d (actWrM d) [] (t.acts.l.take i)) (actWrM d a) c0 c1 c2 (b:=3) rfl ho (by omega) (hb.mono (by omega))) ?_
   rintro _ _ k2 ⟨rfl,x',t',rfl,ho',hk'⟩
   simp [hw]
   exact ⟨_,_,_,by rw [actsTo_next ha']; exact ho',Sl.of rfl rfl rfl⟩
  ·obtain rfl : i = t.acts.l.length:=by omega
   rw [List.take_length] at ho hln
   refine W.x mixed (by kernel_rfl) ?_
   simp
   refine Wd.two' (Wd.callD (L1:=[_]) (L2:=[_]) rfl rfl rfl ?_)
   simp
   refine ⟨_,_,rfl,_,colSorted_d d (actsTo d (actWrM d) [] t.acts.l) (by omega) ho rfl,?_⟩
   rintro y h' k' ⟨ts,h2,k2⟩ hr ⟨rfl,rfl,ff,rfl⟩
   simp
   refine Wd.x mixed (by kernel_rfl) ?_
   simp
   rw [hv]
   exact hr
def keysTo (d : PrgD) (L : List Int) (l : List KeyD) : List Int:=l.foldl (fun L k=>addM d L ⟨[(k.h,k.f)],[],[]⟩) L
theorem keysTo_next {d : PrgD} {L : List Int} {l : List KeyD} {i : Nat} {x : KeyD} (h : l[i]? = some x) : keysTo d L (l.take (i + 1)) = addM d (keysTo d L (l.take i)) ⟨[(x.h,x.f)],[],[]⟩:=by
 unfold keysTo
 rw [← take_one h,List.foldl_append]; rfl
theorem keysTo_len {d : PrgD} (l : List KeyD) : ∀ L : List Int,(keysTo d L l).length ≤ L.length + l.length:=by
 induction l with
 | nil=>intro L; exact Nat.le_refl _
 | cons a l ih =>
  intro L
  have h1:=ih (addM d L ⟨[(a.h,a.f)],[],[]⟩)
  have h2:=addM_len d L ⟨[(a.h,a.f)],[],[]⟩
  show (keysTo d (addM d L ⟨[(a.h,a.f)],[],[]⟩) l).length ≤ _
  simp only [List.length_cons,List.length_nil] at h2 ⊢
  omega
def unitRdM (d : PrgD) (u : UnitD) : List Int:=if u.table = -1 then canZ (addM d [] ⟨fldsM u.cond.l,hdrsM u.cond.l,[]⟩)
 else match tblOf d u.table with
 | none=>[]
 | some t=>canZ (actsTo d (actRdM d) (keysTo d [] t.keys.l) t.acts.l)
def rdK (d : PrgD) (u : UnitD) (t : TblD) (i : Nat) (s : St) : Prop:=∃ g k x tk,OwnT k (encL intF (keysTo d [] (t.keys.l.take i))) 1 x tk ∧
 Vf.Sl [(2,.ref 0 0),(5,.ref 2 0),(6,.ref 3 0),(37,.f (sl (encL fKey t.keys.l))),(38,.f (intF t.keys.l.length)),(39,.f (intF i))] 67 (aPrg d :: cUnitA u :: (aPrg d ++ [x]) :: cTblA t :: g) k s
def rdA (d : PrgD) (u : UnitD) (t : TblD) (i : Nat) (s : St) : Prop:=∃ g k x tk,OwnT k (encL intF (actsTo d (actRdM d) (keysTo d [] t.keys.l) (t.acts.l.take i))) 1 x tk ∧
 Vf.Sl [(2,.ref 0 0),(5,.ref 2 0),(50,.f (sl (encL intF t.acts.l))),(51,.f (intF t.acts.l.length)),(52,.f (intF i))] 67 (aPrg d :: cUnitA u :: (aPrg d ++ [x]) :: cTblA t :: g) k s
theorem reads_g (d : PrgD) (hn : NmOk d) (hC : PrgC d) (u : UnitD) (hu : u.cond.l.length ≤ 1000000) (ht : ∀ t,tblOf d u.table = some t→t.acts.l.length ≤ 16∧t.keys.l.length ≤ 6) : Gives Tryz.prog 200 [fPrg d,fUnit u] (ownF (encL intF (unitRdM d u))):=by
 have hS:=prgS_of hC
 refine Gives.of_Wd Tryz.func200 rfl rfl rfl (by decide) ?_
 refine Wd.two (W.x mixed (by kernel_rfl) ?_)
 simp [fPrg,cPrg]
 refine Wd.two (W.x mixed (by kernel_rfl) ?_)
 simp
 by_cases h1 : u.table = -1
 ·have hv : unitRdM d u = canZ (addM d [] ⟨fldsM u.cond.l,hdrsM u.cond.l,[]⟩):=if_pos h1
  have f1:=fldsM_len u.cond.l
  have f2:=hdrsM_len u.cond.l
  have hg1:=exFlds_g u.cond.l .un hu
  have hg2:=exHdrs_g u.cond.l .un hu
  obtain ⟨c0,e0⟩:=ownF_is (encL fRp (fldsM u.cond.l))
  obtain ⟨c1,e1⟩:=ownF_is (encL intF (hdrsM u.cond.l))
  rw [e0] at hg1
  rw [e1] at hg2
  refine Wd.two' (Wd.two (W.x mixed (by kernel_rfl) ?_))
  simp [h1]
  refine Wd.cond (q:=true) (by simp) ?_
  simp only [if_true]
  refine Wd.two (W.x mixed (by kernel_rfl) ?_)
  simp
  refine call_g hg1 ?_
  simp
  refine call_g hg2 ?_
  simp
  refine call_x (colAdd_x d hS [] ⟨fldsM u.cond.l,hdrsM u.cond.l,[]⟩ c0 c1 .nil (b:=2) rfl .nil (by decide) ⟨by simp; omega,by simp; omega,by simp⟩ (t:=0)) ?_
  rintro _ _ k2 ⟨rfl,x',t',rfl,ho',hk'⟩
  have hln:=addM_len d [] ⟨fldsM u.cond.l,hdrsM u.cond.l,[]⟩
  simp only [List.length_nil] at hln
  simp
  refine Wd.two' (Wd.callD (L1:=[_]) (L2:=[_]) rfl rfl rfl ?_)
  simp
  refine ⟨_,_,rfl,_,colSorted_d d _ (by omega) ho' rfl,?_⟩
  rintro y h' k' ⟨ts,h2,k2⟩ hr ⟨rfl,rfl,ff,rfl⟩
  simp
  refine Wd.x mixed (by kernel_rfl) ?_
  simp
  rw [hv]
  exact hr
 refine Wd.two' (Wd.two (W.x mixed (by kernel_rfl) ?_))
 simp [h1]
 refine Wd.cond (q:=false) (by simp) ?_
 simp only [Bool.false_eq_true,if_false]
 refine Wd.skip ?_
 simp
 cases h : tblOf d u.table with
 | none =>
  have hv : unitRdM d u = []:=by unfold unitRdM; rw [if_neg h1,h]
  refine Wd.two (W.x mixed (by kernel_rfl) ?_)
  simp
  refine call_g (declared_no d u h) ?_
  simp
  refine Wd.x mixed (by kernel_rfl) ?_
  simp [hv,encL,ownF]
 | some t =>
  obtain ⟨hl,hlk⟩:=ht t h
  have hv : unitRdM d u = canZ (actsTo d (actRdM d) (keysTo d [] t.keys.l) t.acts.l):=by unfold unitRdM; rw [if_neg h1,h]
  have hlk2:=keysTo_len (d:=d) t.keys.l []
  rw [List.length_nil] at hlk2
  refine Wd.two (W.x mixed (by kernel_rfl) ?_)
  simp
  refine call_g (declared_yes d u h) ?_
  simp
  refine Wd.two (W.x mixed (by kernel_rfl) ?_)
  simp
  refine Wd.two (W.two (W.x mixed (by kernel_rfl) ?_))
  simp
  refine W.blk (forW t.keys.l.length (rdK d u t) ⟨[],[],.f (.sl [] .nil),0,.nil,Sl.of rfl rfl rfl⟩ ?_)
  rintro i ⟨ts,hh,kk⟩ hi ⟨g,k,x,tk,ho,rfl,rfl,f,rfl⟩
  have hln:=keysTo_len (d:=d) (t.keys.l.take i) []
  rw [List.length_take,List.length_nil] at hln
  by_cases hlt : i < t.keys.l.length
  ·obtain ⟨a,ha,ha'⟩:=nth_of hlt
   have hw:=wrap64 (x:=(i : Int) + 1) (by omega) (by omega)
   refine W.x mixed (by kernel_rfl) ?_
   simp [hlt,ha]
   refine call_x (colAdd_x d hS (keysTo d [] (t.keys.l.take i)) ⟨[(a.h,a.f)],[],[]⟩ .full .nil .nil (b:=2) rfl ho (by omega) ⟨by simp,by simp,by simp⟩) ?_
   rintro _ _ k2 ⟨rfl,x',t',rfl,ho',hk'⟩
   simp [hw]
   exact ⟨_,_,_,_,by rw [keysTo_next ha']; exact ho',Sl.of rfl rfl rfl⟩
  obtain rfl : i = t.keys.l.length:=by omega
  rw [List.take_length] at ho
  refine W.x mixed (by kernel_rfl) ?_
  simp
  refine Wd.two (W.two (W.x mixed (by kernel_rfl) ?_))
  simp
  refine W.blk (forW t.acts.l.length (rdA d u t) ⟨g,_,x,tk,ho,Sl.of rfl rfl rfl⟩ ?_)
  clear hlt hi hln ho
  rintro i ⟨ts,hh,kk⟩ hi ⟨g,k,x,tk,ho,rfl,rfl,f,rfl⟩
  have hln:=actsTo_len (d:=d) (fun a=>(actRdM_b d a).mono (by decide)) (t.acts.l.take i) (keysTo d [] t.keys.l)
  rw [List.length_take] at hln
  by_cases hlt : i < t.acts.l.length
  ·obtain ⟨a,ha,ha'⟩:=nth_of hlt
   have hw:=wrap64 (x:=(i : Int) + 1) (by omega) (by omega)
   have hb:=actRdM_b d a
   have hg:=actReads_g d hn a
   obtain ⟨c0,e0⟩:=ownF_is (encL fRp (actRdM d a).F)
   obtain ⟨c1,e1⟩:=ownF_is (encL intF (actRdM d a).M)
   obtain ⟨c2,e2⟩:=ownF_is (encL intF (actRdM d a).G)
   unfold fTri at hg
   rw [e0,e1,e2] at hg
   refine W.x mixed (by kernel_rfl) ?_
   simp [hlt,ha,aPrg]
   refine call_g hg ?_
   simp
   refine call_x (colAdd_x d hS (actsTo d (actRdM d) (keysTo d [] t.keys.l) (t.acts.l.take i)) (actRdM d a) c0 c1 c2 (b:=2) rfl ho (by omega) (hb.mono (by omega))) ?_
   rintro _ _ k2 ⟨rfl,x',t',rfl,ho',hk'⟩
   simp [hw]
   exact ⟨_,_,_,_,by rw [actsTo_next ha']; exact ho',Sl.of rfl rfl rfl⟩
  obtain rfl : i = t.acts.l.length:=by omega
  rw [List.take_length] at ho hln
  refine W.x mixed (by kernel_rfl) ?_
  simp
  refine Wd.two' (Wd.callD (L1:=[_]) (L2:=[_]) rfl rfl rfl ?_)
  simp
  refine ⟨_,_,rfl,_,colSorted_d d (actsTo d (actRdM d) (keysTo d [] t.keys.l) t.acts.l) (by omega) ho rfl,?_⟩
  rintro y h' k' ⟨ts,h2,k2⟩ hr ⟨rfl,rfl,ff,rfl⟩
  simp
  refine Wd.x mixed (by kernel_rfl) ?_
  simp
  rw [hv]
  exact hr
end Go.Proofs.YtejkhflkeoihlaaGreat
namespace Go.Proofs.YtejkhflkeoihlaaGreat
open Go.RowKit Go.Proofs.YtejkhflkeoihlaaGreat.Vf
set_option linter.unusedVariables false
set_option linter.unusedSimpArgs false
set_option maxRecDepth 100000
set_option maxHeartbeats 4000000
mutual
theorem bldN_all : ∀ (x : NodD) (gs : List GuardD) (i : Nat),(bldN x gs i).length = (nodPre x).length∧∀ u ∈ bldN x gs i,∃ y ∈ nodPre x,∃ g,u = unitOf y g∧g.length ≤ gs.length + (nodPre x).length
 | .mk k t c tl el,gs,i=>by
  obtain ⟨a1,a2⟩:=bldL_all tl (gs ++ [⟨i,true⟩]) (i + 1)
  obtain ⟨b1,b2⟩:=bldL_all el (gs ++ [⟨i,false⟩]) (i + 1 + (bldL tl (gs ++ [⟨i,true⟩]) (i + 1)).length)
  rw [bldN_eq,nodPre]
  refine ⟨by simp only [List.length_cons,List.length_append]; rw [← a1,← b1]; rfl,fun u hu=>?_⟩
  rcases List.mem_cons.1 hu with rfl | hu
  ·exact ⟨_,.head _,gs,rfl,by omega⟩
  rcases List.mem_append.1 hu with hu | hu
  ·obtain ⟨y,hy,g,e,hg⟩:=a2 u hu
   refine ⟨y,.tail _ (List.mem_append_left _ hy),g,e,?_⟩
   simp only [List.length_cons,List.length_append,List.length_nil] at hg ⊢
   omega
  ·obtain ⟨y,hy,g,e,hg⟩:=b2 u hu
   refine ⟨y,.tail _ (List.mem_append_right _ hy),g,e,?_⟩
   simp only [List.length_cons,List.length_append,List.length_nil] at hg ⊢
   omega
theorem bldL_all : ∀ (l : List NodD) (gs : List GuardD) (i : Nat),(bldL l gs i).length = (nodsPre l).length∧∀ u ∈ bldL l gs i,∃ y ∈ nodsPre l,∃ g,u = unitOf y g∧g.length ≤ gs.length + (nodsPre l).length
 | [],gs,i=>by rw [bldL,nodsPre]; exact ⟨rfl,fun u hu=>by cases hu⟩
 | x :: l,gs,i=>by
  obtain ⟨a1,a2⟩:=bldN_all x gs i
  obtain ⟨b1,b2⟩:=bldL_all l gs (i + (bldN x gs i).length)
  rw [bldL,nodsPre]
  refine ⟨by simp only [List.length_append]; rw [b1,a1],fun u hu=>?_⟩
  rcases List.mem_append.1 hu with hu | hu
  ·obtain ⟨y,hy,g,e,hg⟩:=a2 u hu
   refine ⟨y,List.mem_append_left _ hy,g,e,?_⟩
   simp only [List.length_append]
   omega
  ·obtain ⟨y,hy,g,e,hg⟩:=b2 u hu
   refine ⟨y,List.mem_append_right _ hy,g,e,?_⟩
   simp only [List.length_append]
   omega
end
structure PrgU (d : PrgD) : Prop where
 ok : PrgOk d
 nodes : (nodsPre d.control.l).length ≤ 10000000
 cond : ∀ y ∈ nodsPre d.control.l,y.cond.l.length ≤ 1000000
theorem nodes_few {d : PrgD} (hU : PrgU d) (hC : PrgC d) : (nodsPre d.control.l).length ≤ 24:=by
 have h:=hC.cc
 have hn:=hU.nodes
 unfold ctlCheckW at h
 rw [wr_id (by omega) (by omega)] at h
 split at h
 ·cases h
 ·omega
theorem bldM_len {d : PrgD} (hU : PrgU d) (hC : PrgC d) : (bldM d).length ≤ 24:=by
 unfold bldM
 rw [if_pos hC.cc,(bldL_all _ _ _).1]
 exact nodes_few hU hC
theorem bldM_mem {d : PrgD} (hU : PrgU d) (hC : PrgC d) {u : UnitD} (h : u ∈ bldM d) : u.cond.l.length ≤ 1000000∧u.guards.l.length ≤ 24:=by
 unfold bldM at h
 rw [if_pos hC.cc] at h
 obtain ⟨y,hy,g,rfl,hg⟩:=(bldL_all _ _ _).2 u h
 have:=nodes_few hU hC
 have hc:=hU.cond y hy
 refine ⟨?_,by simp only [unitOf]; simp at hg; omega⟩
 simp only [unitOf]
 split
 ·exact hc
 ·exact Nat.zero_le _
theorem tblOf_small {d : PrgD} (hC : PrgC d) {i : Int} {t : TblD} (h : tblOf d i = some t) : t.acts.l.length ≤ 16∧t.keys.l.length ≤ 6:=by
 unfold tblOf at h
 split at h
 ·cases h
 ·obtain ⟨hlt,rfl⟩:=List.getElem?_eq_some_iff.1 h
  have h1:=hC.tc _ hlt
  rw [tblCheck_nat (List.getElem?_eq_getElem hlt)] at h1
  obtain ⟨a,b,_⟩:=tblC_of h1
  exact ⟨b,a⟩
def rdF (d : PrgD) (us : List UnitD) (a : Nat) : List Int:=match us[a]? with
 | some u=>unitRdM d u
 | none=>[]
def wrF (d : PrgD) (us : List UnitD) (a : Nat) : List Int:=match us[a]? with
 | some u=>unitWrM d u
 | none=>[]
theorem unitWrM_len {d : PrgD} (hC : PrgC d) (u : UnitD) : (unitWrM d u).length ≤ maxLen:=by
 unfold unitWrM
 cases h : tblOf d u.table with
 | none=>exact Nat.zero_le _
 | some t =>
  have h1:=(tblOf_small hC h).1
  have h2:=actsTo_len (d:=d) (actWrM_b (prgS_of hC).f) t.acts.l []
  have h3:=canZ_len (actsTo d (actWrM d) [] t.acts.l)
  rw [List.length_nil] at h2
  show (canZ (actsTo d (actWrM d) [] t.acts.l)).length ≤ maxLen
  unfold maxLen
  omega
theorem unitRdM_len {d : PrgD} (hC : PrgC d) (u : UnitD) (hu : u.cond.l.length ≤ 1000000) : (unitRdM d u).length ≤ maxLen:=by
 unfold unitRdM
 split
 ·have h1:=addM_len d [] ⟨fldsM u.cond.l,hdrsM u.cond.l,[]⟩
  have h2:=fldsM_len u.cond.l
  have h3:=hdrsM_len u.cond.l
  have h4:=canZ_len (addM d [] ⟨fldsM u.cond.l,hdrsM u.cond.l,[]⟩)
  simp only [List.length_nil] at h1
  unfold maxLen
  omega
 ·cases h : tblOf d u.table with
  | none=>exact Nat.zero_le _
  | some t =>
   obtain ⟨h1,h0⟩:=tblOf_small hC h
   have h2:=actsTo_len (d:=d) (fun a=>(actRdM_b d a).mono (by decide)) t.acts.l (keysTo d [] t.keys.l)
   have h3:=canZ_len (actsTo d (actRdM d) (keysTo d [] t.keys.l) t.acts.l)
   have h4:=keysTo_len (d:=d) t.keys.l []
   rw [List.length_nil] at h4
   show (canZ (actsTo d (actRdM d) (keysTo d [] t.keys.l) t.acts.l)).length ≤ maxLen
   unfold maxLen
   omega
def jobM (d : PrgD) (c : ChipD) : JobD:=⟨c,bldM d,(bldM d).map (unitCost d),depsM (rdF d (bldM d)) (wrF d (bldM d)) (bldM d)⟩
def njI (d : PrgD) (c : ChipD) (us : List UnitD) (c1 : Cap) (D : FV) (i : Nat) (s : St) : Prop:=∃ g k x tk,OwnT k (encL fRes ((us.map (unitCost d)).take i)) 2 x tk ∧
 Vf.Sl [(2,.ref 0 0),(5,.ref 2 0),(25,.f (.sl (encL fUnit us) c1)),(26,.f (intF us.length)),(27,.f (intF i))] 45 (aPrg d :: (cChip c).map .f :: ((cChip c).map .f ++ [.f (.sl (encL fUnit us) c1),x,.f D]) :: g) k s
theorem weak_own {k0 : List (Nat × Nat)} {l : List FV} {sz t : Nat} {x : AV} (h : OwnT k0 l sz x t) (w : World) (L : Lk) (k : List (Nat × Nat)) (v : Value) (hr : RepA w L k x v) : RepA w L k (.f (ownF l)) v:=by
 rcases h with ⟨rfl,rfl⟩ | ⟨h1,rfl,_⟩
 ·exact hr
 ·unfold ownF
  rw [if_neg h1]
  cases hr with
  | own l t b o cap h=>exact .f _ _ h
theorem newJob_g (d : PrgD) (c : ChipD) (hU : PrgU d) (hC : PrgC d) : ∃ c1 c2 c3,Gives Tryz.prog 57 [fPrg d,fChip c] (.fp (cJob (jobM d c) c1 c2 c3)):=by
 have hl:=bldM_len hU hC
 have hb:=build_g d (Nat.le_trans hC.t (by decide)) hU.ok.nod (by rw [(bldL_all _ _ _).1]; have:=nodes_few hU hC; omega) hU.cond
 obtain ⟨c1,e1⟩:=ownF_is (encL fUnit (bldM d))
 rw [e1] at hb
 have hmem : ∀ {u : UnitD},u ∈ bldM d→u.cond.l.length ≤ 1000000∧u.guards.l.length ≤ 24:=fun h=>bldM_mem hU hC h
 have hD:=deps_g d (bldM d) c1 (rdF d (bldM d)) (wrF d (bldM d)) (by omega) (fun a=>by
  unfold rdF
  split
  ·rename_i u hu
   exact unitRdM_len hC u (hmem (List.mem_of_getElem? hu)).1
  ·exact Nat.zero_le _) (fun a=>by
  unfold wrF
  split
  ·exact unitWrM_len hC _
  ·exact Nat.zero_le _) (fun u hu=>by have:=(hmem hu).2; omega)
  (fun a u hu=>by
   have : rdF d (bldM d) a = unitRdM d u:=by unfold rdF; rw [hu]
   rw [this]
   exact reads_g d hU.ok.nm hC u (hmem (List.mem_of_getElem? hu)).1 fun t ht=>tblOf_small hC ht)
  (fun a u hu=>by
   have : wrF d (bldM d) a = unitWrM d u:=by unfold wrF; rw [hu]
   rw [this]
   exact writes_g d hU.ok.nm hC u fun t ht=>(tblOf_small hC ht).1)
 have hj : jobM d c = ⟨c,bldM d,(bldM d).map (unitCost d),depsM (rdF d (bldM d)) (wrF d (bldM d)) (bldM d)⟩:=rfl
 rw [hj]
 generalize depsM (rdF d (bldM d)) (wrF d (bldM d)) (bldM d) = D at *
 generalize bldM d = us at *
 obtain ⟨c2,e2⟩:=ownF_is (encL fRes (us.map (unitCost d)))
 refine ⟨c1,c2,.un,Gives.ofW Tryz.func57 rfl rfl rfl (by decide) ?_⟩
 refine W.two (W.x mixed (by kernel_rfl) ?_)
 simp [fPrg,cPrg]
 refine W.two (W.x mixed (by kernel_rfl) ?_)
 simp
 refine call_g hb ?_
 simp
 refine W.two (W.x mixed (by kernel_rfl) ?_)
 simp
 refine call_g hD ?_
 simp
 refine W.two (W.two (W.x mixed (by kernel_rfl) ?_))
 simp
 refine W.blk (forW us.length (njI d c us c1 (sl (encL rowF D))) ⟨[],[],.f (.sl [] .nil),0,.nil,Sl.of rfl rfl rfl⟩ ?_)
 rintro i ⟨ts,hh,kk⟩ hi ⟨g,k,x,tk,ho,rfl,rfl,f,rfl⟩
 by_cases hlt : i < us.length
 ·obtain ⟨u,hu,hu'⟩:=nth_of hlt
  have hw:=wrap64 (x:=(i : Int) + 1) (by omega) (by omega)
  have hn:=take_one (l:=us.map (unitCost d)) (i:=i) (x:=unitCost d u) (by rw [List.getElem?_map,hu']; rfl)
  obtain ⟨x',t',k',e,ho',hk',_⟩:=append_own0 ty146 ty151 (by simp) ho (y:=.f (.sl [fRes (unitCost d u)] .full)) rfl (by simp) (by simp; omega) (by simp; omega)
  rw [show encL fRes ((us.map (unitCost d)).take i) ++ [fRes (unitCost d u)] = encL fRes ((us.map (unitCost d)).take (i + 1)) by rw [← hn]; simp [encL]] at ho'
  refine W.x mixed (by kernel_rfl) ?_
  simp [hlt,hu,aPrg]
  refine call_g (unitCost_g d hU.ok u) ?_
  simp [-opAppend,-opStore]
  rw [e]
  simp [-opStore]
  rw [store_own ty146 rfl (cs:=(cChip c).map .f ++ [.f (.sl (encL fUnit us) c1),x,.f (sl (encL rowF D))]) rfl (by simp) ho']
  simp [hw]
  exact ⟨_,_,_,_,ho',Sl.of rfl rfl rfl⟩
 ·obtain rfl : i = us.length:=by omega
  rw [List.take_of_length_le (by simp)] at ho
  refine W.x mixed (by kernel_rfl) ?_
  simp
  refine weakH_W (b:=2) (j:=9) (x:=x) (x':=.f (ownF (encL fRes (us.map (unitCost d))))) rfl rfl (weak_own ho) ?_
  rw [e2]
  refine frz_W (d:=5) (b:=2) (fs:=cJob ⟨c,us,us.map (unitCost d),D⟩ c1 c2 .un) rfl rfl ?_
  refine W.x mixed (by kernel_rfl) ?_
  simp
end Go.Proofs.YtejkhflkeoihlaaGreat
namespace Go.Proofs.YtejkhflkeoihlaaGreat
open Go.RowKit Go.Proofs.YtejkhflkeoihlaaGreat.Vf
set_option linter.unusedVariables false
set_option linter.unusedSimpArgs false
set_option maxRecDepth 100000
set_option maxHeartbeats 4000000
def stIn (c : ChipD) (s : Int) : Bool:=decide (0 ≤ s) && decide (s < c.stages)
def fitsAt (j : JobD) (c : ChipD) (S : List Int) (s : Nat) : Bool:=withinM (usTo j S s S.length) c
def validM (d : PrgD) (c : ChipD) (S : List Int) : Bool:=decide ((prgCheckW d).1 = 0) && decide (chipCheck c = 0) && satM (jobM d c).deps S && !(S.any fun s=>!stIn c s) && !((List.range c.stages.toNat).any fun s=>!fitsAt (jobM d c) c S s)
theorem chip_few {c : ChipD} (h : chipCheck c = 0) : 1 ≤ c.stages∧c.stages ≤ 16:=by
 unfold chipCheck at h
 split at h
 ·cases h
 ·omega
def vlI (d : PrgD) (c : ChipD) (S : List Int) (J : FV) (cs : Cap) (i : Nat) (s : St) : Prop:=noneT (fun s=>!stIn c s) S i∧∃ g,Vf.Sl [(2,.f (.sl (encL intF S) cs)),(4,.ref 1 0),(7,.f J),(30,.f (.sl (encL intF S) cs)),(31,.f (intF S.length)),(32,.f (intF i))] 58 (aPrg d :: (cChip c).map .f :: g) [] s
def vlJ (d : PrgD) (c : ChipD) (S : List Int) (J : FV) (j : JobD) (cs : Cap) (i : Nat) (s : St) : Prop:=noneT (fun s=>!fitsAt j c S s) (List.range c.stages.toNat) i∧∃ g,Vf.Sl [(2,.f (.sl (encL intF S) cs)),(4,.ref 1 0),(7,.f J),(46,.f (intF c.stages)),(47,.f (intF i))] 58 (aPrg d :: (cChip c).map .f :: g) [] s
theorem valid_g (d : PrgD) (c : ChipD) (S : List Int) (cs : Cap) (hU : PrgU d) (hS : S.length ≤ maxLen) : Gives Tryz.prog 19 [fPrg d,fChip c,.sl (encL intF S) cs] (boolF (validM d c S)):=by
 refine Gives.of mixed Tryz.func19 rfl rfl rfl (by kernel_rfl) ?_
 simp [fPrg,cPrg]
 refine call_g (prg_g d hU.ok) ?_
 by_cases h1 : (prgCheckW d).1 = 0
 case neg =>
  have hv : validM d c S = false:=by unfold validM; rw [decide_eq_false h1]; rfl
  rw [hv]
  simp [h1]
 have hC:=prgC_of h1
 simp [h1]
 refine call_g (chip_g c) ?_
 by_cases h2 : chipCheck c = 0
 case neg =>
  have hv : validM d c S = false:=by unfold validM; rw [decide_eq_false h2]; simp
  rw [hv]
  simp [h2]
 obtain ⟨k1,k2⟩:=chip_few h2
 obtain ⟨c1,c2,c3,hJ⟩:=newJob_g d c hU hC
 have hv : validM d c S = (satM (jobM d c).deps S && !(S.any fun s=>!stIn c s) && !((List.range c.stages.toNat).any fun s=>!fitsAt (jobM d c) c S s)):=by unfold validM; rw [decide_eq_true h1,decide_eq_true h2]; rfl
 have hl:=bldM_len hU hC
 have hju : (jobM d c).units.length = (bldM d).length:=rfl
 have hjc : (jobM d c).costs.length = (bldM d).length:=by simp [jobM]
 have hjd : (jobM d c).deps.length = (bldM d).length:=by simp [jobM,depsM]
 have hjchip : (jobM d c).chip = c:=rfl
 rw [hv]
 clear hv
 simp [h2]
 refine call_g hJ ?_
 generalize jobM d c = j at *
 simp
 refine call_g (sat_g j.deps S c3 cs (by unfold maxLen; omega)) ?_
 cases h3 : satM j.deps S with
 | false=>simp
 | true =>
 have hlen : S.length = j.deps.length:=by
  unfold satM at h3
  simp only [Bool.and_eq_true,decide_eq_true_eq] at h3
  first | exact h3.1 | omega
 simp
 refine forX mixed S.length (vlI d c S (.fp (cJob j c1 c2 c3)) cs) (by kernel_rfl) ⟨noneT.zero,[],Sl.of rfl rfl rfl⟩ ?_
 rintro i ⟨ts,hh,kk⟩ hi ⟨hno,g,rfl,rfl,f,rfl⟩
 by_cases hlt : i < S.length
 ·obtain ⟨x,hx,hx'⟩:=nth_of hlt
  have hw:=wrap64 (x:=(i : Int) + 1) (by omega) (by unfold maxLen at hS; omega)
  by_cases h4 : x < 0
  ·have ha : (S.any fun s=>!stIn c s) = true:=any_hit hx' (by simp [stIn]; omega)
   rw [ha]
   simp [hlt,hx,h4]
  by_cases h5 : x < c.stages
  ·have h6 : ¬ c.stages ≤ x:=by omega
   simp [hlt,hx,h4,h6,hw]
   exact ⟨hno.next hx' (by simp [stIn]; omega),_,Sl.of rfl rfl rfl⟩
  ·have ha : (S.any fun s=>!stIn c s) = true:=any_hit hx' (by simp [stIn]; omega)
   rw [ha]
   simp [hlt,hx,h4,(show c.stages ≤ x by omega)]
 rw [hno.all hlt]
 obtain rfl : i = S.length:=by omega
 simp
 refine forX mixed c.stages.toNat (vlJ d c S (.fp (cJob j c1 c2 c3)) j cs) (by kernel_rfl) ⟨noneT.zero,g,Sl.of rfl rfl rfl⟩ ?_
 clear hlt hi hno
 rintro i ⟨ts,hh,kk⟩ hi ⟨hno,g,rfl,rfl,f,rfl⟩
 by_cases hlt : i < c.stages.toNat
 ·have hw:=wrap64 (x:=(i : Int) + 1) (by omega) (by omega)
  have hlt' : (i : Int) < c.stages:=by omega
  have hr : (List.range c.stages.toNat)[i]? = some i:=by simp [hlt]
  simp [hlt']
  refine call_g (usage_g j c1 c2 c3 S cs i (by omega) (by omega) hS) ?_
  simp
  refine call_g (within_g (usTo j S i S.length) c) ?_
  cases h6 : withinM (usTo j S i S.length) c with
  | false =>
   have ha : ((List.range c.stages.toNat).any fun s=>!fitsAt j c S s) = true:=any_hit hr (by simp [fitsAt,h6])
   rw [ha]
   simp
  | true =>
   simp [hw]
   exact ⟨hno.next hr (by simp [fitsAt,h6]),_,Sl.of rfl rfl rfl⟩
 have hlt2 : ¬ i < (List.range c.stages.toNat).length:=by simpa using hlt
 rw [hno.all hlt2]
 have hlt' : ¬ (i : Int) < c.stages:=by omega
 simp [hlt']
end Go.Proofs.YtejkhflkeoihlaaGreat
namespace Go.Proofs.YtejkhflkeoihlaaGreat
open Go.RowKit Go.Proofs.YtejkhflkeoihlaaGreat.Vf
set_option linter.unusedVariables false
set_option linter.unusedSimpArgs false
set_option maxRecDepth 100000
set_option maxHeartbeats 4000000
def pchkM (x : PlD) : Int:=if (prgCheckW x.prg).1 ≠ 0 then (prgCheckW x.prg).1 else if chipCheck x.chip ≠ 0 then chipCheck x.chip else if eqLs unEq x.units (bldM x.prg) = false then 5 else if validM x.prg x.chip x.stage = false then 14 else if allocM x = false then 10 else 0
structure PlU (x : PlD) : Prop where
 prg : PrgU x.prg
 units : x.units.length ≤ 1000000∧∀ u ∈ x.units,UnS u
 stage : x.stage.length ≤ maxLen
theorem pchk_g (x : PlD) (hU : PlU x) : Gives Tryz.prog 5 [fPl x] (intF (pchkM x)):=by
 refine Gives.of mixed Tryz.func5 rfl rfl rfl (by kernel_rfl) ?_
 simp [fPl,cPl,cPrg]
 refine call_g (prg_g x.prg hU.prg.ok) ?_
 generalize hv : pchkM x = v
 unfold pchkM at hv
 by_cases h1 : (prgCheckW x.prg).1 = 0
 case neg =>
  rw [if_pos h1] at hv
  subst hv
  simp [h1]
 have hC:=prgC_of h1
 rw [if_neg (by simpa using h1)] at hv
 simp [h1]
 refine call_g (chip_g x.chip) ?_
 by_cases h2 : chipCheck x.chip = 0
 case neg =>
  rw [if_pos h2] at hv
  subst hv
  simp [h2]
 rw [if_neg (by simpa using h2)] at hv
 have hl:=bldM_len hU.prg hC
 have hb:=build_g x.prg (Nat.le_trans hC.t (by decide)) hU.prg.ok.nod (by rw [(bldL_all _ _ _).1]; have:=nodes_few hU.prg hC; omega) hU.prg.cond
 obtain ⟨c1,e1⟩:=ownF_is (encL fUnit (bldM x.prg))
 rw [e1] at hb
 simp [h2]
 refine call_g hb ?_
 simp
 refine call_g (Gives.weak (eqUnits_g x.units (bldM x.prg) (Nat.le_trans hU.units.1 (by decide)) (by unfold maxLen; omega) hU.units.2 fun u hu=>by
  obtain ⟨q1,q2⟩:=bldM_mem hU.prg hC hu
  exact ⟨Nat.le_trans q1 (by decide),Nat.le_trans q2 (by decide)⟩)) ?_
 cases h3 : eqLs unEq x.units (bldM x.prg) with
 | false =>
  rw [if_pos h3] at hv
  subst hv
  simp
 | true =>
 rw [if_neg (by rw [h3]; decide)] at hv
 simp
 refine call_g (valid_g x.prg x.chip x.stage .un hU.prg hU.stage) ?_
 cases h4 : validM x.prg x.chip x.stage with
 | false =>
  rw [if_pos h4] at hv
  subst hv
  simp
 | true =>
 rw [if_neg (by rw [h4]; decide)] at hv
 simp
 have ha:=allocated_g x (prgS_of hC) hU.units.1
 simp only [fPl,cPl,cPrg,List.cons_append,List.nil_append] at ha
 refine call_g ha ?_
 cases h5 : allocM x with
 | false =>
  rw [if_pos h5] at hv
  subst hv
  simp
 | true =>
  rw [if_neg (by rw [h5]; decide)] at hv
  subst hv
  simp
end Go.Proofs.YtejkhflkeoihlaaGreat
namespace Go.Proofs.YtejkhflkeoihlaaGreat
open Go.RowKit Go.Proofs.YtejkhflkeoihlaaGreat.Vf
set_option linter.unusedVariables false
set_option linter.unusedSimpArgs false
set_option maxRecDepth 100000
set_option maxHeartbeats 4000000
theorem eqInts_t (a : List Int) (c c' : Cap) (ha : a.length < 2^62) : Gives Tryz.prog 39 [.sl (encL intF a) c,.sl (encL intF a) c'] (boolF true):=by
 refine Gives.of mixed Tryz.func39 rfl rfl rfl (by kernel_rfl) ?_
 simp
 refine forX mixed a.length (fun k s=>Vf.Sl [(0,.f (.sl (encL intF a) c)),(1,.f (.sl (encL intF a) c')),(5,.f (intF k))] 26 [] [] s) (by kernel_rfl) (Sl.of rfl rfl rfl) ?_
 rintro k ⟨t,h,kk⟩ hk ⟨rfl,rfl,f,rfl⟩
 by_cases hlt : k < a.length
 ·obtain ⟨x,hx,hx'⟩:=nth_of hlt
  have hw:=wrap64 (x:=(k : Int) + 1) (by omega) (by omega)
  simp [hlt,hx,hw]
  exact Sl.of rfl rfl rfl
 ·simp [hlt]
theorem eqWords_t (a : List Int) (c c' : Cap) (ha : a.length < 2^62) : Gives Tryz.prog 11 [.sl (encL u32F a) c,.sl (encL u32F a) c'] (boolF true):=by
 refine Gives.of mixed Tryz.func11 rfl rfl rfl (by kernel_rfl) ?_
 simp
 refine forX mixed a.length (fun k s=>Vf.Sl [(0,.f (.sl (encL u32F a) c)),(1,.f (.sl (encL u32F a) c')),(5,.f (intF k))] 26 [] [] s) (by kernel_rfl) (Sl.of rfl rfl rfl) ?_
 rintro k ⟨t,h,kk⟩ hk ⟨rfl,rfl,f,rfl⟩
 by_cases hlt : k < a.length
 ·obtain ⟨x,hx,hx'⟩:=nth_of hlt
  have hw:=wrap64 (x:=(k : Int) + 1) (by omega) (by omega)
  simp [hlt,hx,hw]
  exact Sl.of rfl rfl rfl
 ·simp [hlt]
theorem eqVals_t (a : List Int) (c c' : Cap) (ha : a.length < 2^62) : Gives Tryz.prog 90 [.sl (encL u32F a) c,.sl (encL u32F a) c'] (boolF true):=by
 refine Gives.of mixed Tryz.func90 rfl rfl rfl (by kernel_rfl) ?_
 simp
 refine forX mixed a.length (fun k s=>Vf.Sl [(0,.f (.sl (encL u32F a) c)),(1,.f (.sl (encL u32F a) c')),(5,.f (intF k))] 26 [] [] s) (by kernel_rfl) (Sl.of rfl rfl rfl) ?_
 rintro k ⟨t,h,kk⟩ hk ⟨rfl,rfl,f,rfl⟩
 by_cases hlt : k < a.length
 ·obtain ⟨x,hx,hx'⟩:=nth_of hlt
  have hw:=wrap64 (x:=(k : Int) + 1) (by omega) (by omega)
  simp [hlt,hx,hw]
  exact Sl.of rfl rfl rfl
 ·simp [hlt]
theorem eqRegs_t (a : List (List Int)) (c c' : Cap) (ha : a.length < 2^62) (hb : ∀ x ∈ a,x.length < 2^62) : Gives Tryz.prog 40 [.sl (encL fU32 a) c,.sl (encL fU32 a) c'] (boolF true):=by
 refine Gives.of mixed Tryz.func40 rfl rfl rfl (by kernel_rfl) ?_
 simp
 refine forX mixed a.length (fun k s=>Vf.Sl [(0,.f (.sl (encL fU32 a) c)),(1,.f (.sl (encL fU32 a) c')),(5,.f (intF k))] 27 [] [] s) (by kernel_rfl) (Sl.of rfl rfl rfl) ?_
 rintro k ⟨t,h,kk⟩ hk ⟨rfl,rfl,f,rfl⟩
 by_cases hlt : k < a.length
 ·obtain ⟨x,hx,hx'⟩:=nth_of hlt
  have hw:=wrap64 (x:=(k : Int) + 1) (by omega) (by omega)
  simp [hlt,hx]
  refine call_g (eqVals_t x .un .un (hb x (List.mem_of_getElem? hx'))) ?_
  simp [hw]
  exact Sl.of rfl rfl rfl
 ·simp [hlt]
theorem eqRegs38_t (a : List (List Int)) (c c' : Cap) (ha : a.length < 2^62) (hb : ∀ x ∈ a,x.length < 2^62) : Gives Tryz.prog 12 [.sl (encL fU32 a) c,.sl (encL fU32 a) c'] (boolF true):=by
 refine Gives.of mixed Tryz.func12 rfl rfl rfl (by kernel_rfl) ?_
 simp
 refine forX mixed a.length (fun k s=>Vf.Sl [(0,.f (.sl (encL fU32 a) c)),(1,.f (.sl (encL fU32 a) c')),(5,.f (intF k))] 27 [] [] s) (by kernel_rfl) (Sl.of rfl rfl rfl) ?_
 rintro k ⟨t,h,kk⟩ hk ⟨rfl,rfl,f,rfl⟩
 by_cases hlt : k < a.length
 ·obtain ⟨x,hx,hx'⟩:=nth_of hlt
  have hw:=wrap64 (x:=(k : Int) + 1) (by omega) (by omega)
  simp [hlt,hx]
  refine call_g (eqWords_t x .un .un (hb x (List.mem_of_getElem? hx'))) ?_
  simp [hw]
  exact Sl.of rfl rfl rfl
 ·simp [hlt]
theorem uKm : runPure Tryz.prog (underlying 277) = some (.struct #[⟨ "Value", 62, 0, false, "", "", 0⟩, ⟨ "Mask", 62, 1, false, "", "", 4⟩]) := by kernel_rfl
@[simp] theorem neqKm {T : TV} {x y : Operand} {a a' b b' : Int} : opBin Tryz.prog T .neq 277 x y (.agg [.f (u32F a),.f (u32F b)]) (.agg [.f (u32F a'),.f (u32F b')]) = some (.f (.sc (.bool (!(decide (a = a') && decide (b = b')))))) :=
 (opBin_eq (by kernel_rfl) rfl rfl (pureEq2 9999 uKm (by kernel_rfl) (by decide) (by decide) (by kernel_rfl) (by kernel_rfl) (by kernel_rfl) (by kernel_rfl) (pureEqInt (k':=.u32) 9998 (by kernel_rfl)) (pureEqInt (k':=.u32) 9998 (by kernel_rfl)))).2
theorem eqCalls_t (x : CallD) (ha : x.args.length < 2^62) : Gives Tryz.prog 42 [fCallD x,fCallD x] (boolF true):=by
 refine Gives.of mixed Tryz.func42 rfl rfl rfl (by kernel_rfl) ?_
 simp
 refine forX mixed x.args.length (fun k s=>Vf.Sl [(2,.ref 0 0),(3,.ref 1 0),(5,.f (intF k))] 38 [[.f (intF x.act),.f (sl (encL u32F x.args))],[.f (intF x.act),.f (sl (encL u32F x.args))]] [] s) (by kernel_rfl) (Sl.of rfl rfl rfl) ?_
 rintro k ⟨t,h,kk⟩ hk ⟨rfl,rfl,f,rfl⟩
 by_cases hlt : k < x.args.length
 ·obtain ⟨y,hy,hy'⟩:=nth_of hlt
  have hw:=wrap64 (x:=(k : Int) + 1) (by omega) (by omega)
  simp [hlt,hy,hw]
  exact Sl.of rfl rfl rfl
 ·simp [hlt]
abbrev fEnt (x : RowD) : FV:=.agg [sl (encL fKm x.keys),intF x.prio,intF x.call.act,sl (encL u32F x.call.args)]
abbrev aEnt (x : RowD) : List AV:=[.f (sl (encL fKm x.keys)),.f (intF x.prio),.f (intF x.call.act),.f (sl (encL u32F x.call.args))]
theorem sameKey_t (x : RowD) (ha : x.keys.length < 2^62) : Gives Tryz.prog 187 [fEnt x,fEnt x] (boolF true):=by
 refine Gives.of mixed Tryz.func187 rfl rfl rfl (by kernel_rfl) ?_
 simp
 refine forX mixed x.keys.length (fun k s=>Vf.Sl [(2,.ref 0 0),(3,.ref 1 0),(5,.f (intF k))] 38 [aEnt x,aEnt x] [] s) (by kernel_rfl) (Sl.of rfl rfl rfl) ?_
 rintro k ⟨t,h,kk⟩ hk ⟨rfl,rfl,f,rfl⟩
 by_cases hlt : k < x.keys.length
 ·obtain ⟨y,hy,hy'⟩:=nth_of hlt
  have hw:=wrap64 (x:=(k : Int) + 1) (by omega) (by omega)
  simp [hlt,hy,hw]
  exact Sl.of rfl rfl rfl
 ·simp [hlt]
theorem eqEnt_t (x : RowD) (hk : x.keys.length < 2^62) (ha : x.call.args.length < 2^62) : Gives Tryz.prog 91 [fEnt x,fEnt x] (boolF true):=by
 refine Gives.of mixed Tryz.func91 rfl rfl rfl (by kernel_rfl) ?_
 simp
 refine call_g (sameKey_t x hk) ?_
 simp
 refine call_g (eqCalls_t x.call ha) ?_
 simp
theorem eqRows_t (l : List RowD) (c c' : Cap) (hl : l.length < 2^62) (hb : ∀ x ∈ l,x.keys.length < 2^62∧x.call.args.length < 2^62) : Gives Tryz.prog 41 [.sl (encL fRow l) c,.sl (encL fRow l) c'] (boolF true):=by
 refine Gives.of mixed Tryz.func41 rfl rfl rfl (by kernel_rfl) ?_
 simp
 refine forX mixed l.length (fun k s=>Vf.Sl [(0,.f (.sl (encL fRow l) c)),(1,.f (.sl (encL fRow l) c')),(5,.f (intF k))] 57 [] [] s) (by kernel_rfl) (Sl.of rfl rfl rfl) ?_
 rintro k ⟨t,h,kk⟩ hk ⟨rfl,rfl,f,rfl⟩
 by_cases hlt : k < l.length
 ·obtain ⟨y,hy,hy'⟩:=nth_of hlt
  have hw:=wrap64 (x:=(k : Int) + 1) (by omega) (by omega)
  obtain ⟨b1,b2⟩:=hb y (List.mem_of_getElem? hy')
  simp [hlt,hy]
  refine call_g (eqEnt_t y b1 b2) ?_
  simp [hw]
  exact Sl.of rfl rfl rfl
 ·simp [hlt]
theorem eqCfg_t (c : CfgD) (hB : CfgB c) : Gives Tryz.prog 10 [fCfgO c,fCfg c] (boolF true):=by
 obtain ⟨b1,b2,b3,⟨b4,b5⟩,⟨b6,b7⟩⟩:=hB
 obtain ⟨c0,e0⟩:=ownF_is (encL fRowsO c.rows)
 obtain ⟨c2,e2⟩:=ownF_is (encL fCallD c.dfl)
 obtain ⟨c3,e3⟩:=ownF_is (encL fU32 c.regs)
 unfold fCfgO cCfgO
 rw [e0,e2,e3]
 refine Gives.of mixed Tryz.func10 rfl rfl rfl (by kernel_rfl) ?_
 simp
 refine call_g (eqInts_t c.next .un .un (by omega)) ?_
 simp
 refine call_g (eqRegs_t c.regs c3 .un (by omega) fun x hx=>by have:=b7 x hx; omega) ?_
 simp
 refine forX mixed c.rows.length (fun k s=>Vf.Sl [(2,.ref 0 0),(3,.ref 1 0),(5,.f (intF k))] 77 [[.f (.sl (encL fRowsO c.rows) c0),.f (sl (encL intF c.next)),.f (.sl (encL fCallD c.dfl) c2),.f (.sl (encL fU32 c.regs) c3)],(cCfg c).map .f] [] s) (by kernel_rfl) (Sl.of rfl rfl rfl) ?_
 rintro k ⟨t,h,kk⟩ hk ⟨rfl,rfl,f,rfl⟩
 by_cases hlt : k < c.rows.length
 ·obtain ⟨y,hy,hy'⟩:=nth_of hlt
  have hw:=wrap64 (x:=(k : Int) + 1) (by omega) (by omega)
  obtain ⟨q1,q2⟩:=b2 y (List.mem_of_getElem? hy')
  obtain ⟨cy,ey⟩:=ownF_is (encL fRow y)
  have ey : fRowsO y = .sl (encL fRow y) cy:=ey
  simp [hlt,hy,ey]
  refine call_g (eqRows_t y cy .un (by omega) fun x hx=>by obtain ⟨z1,z2⟩:=q2 x hx; omega) ?_
  simp [hw]
  exact Sl.of rfl rfl rfl
 obtain rfl : k = c.rows.length:=by omega
 simp
 refine forX mixed c.dfl.length (fun k s=>Vf.Sl [(2,.ref 0 0),(3,.ref 1 0),(6,.f (intF k))] 77 [[.f (.sl (encL fRowsO c.rows) c0),.f (sl (encL intF c.next)),.f (.sl (encL fCallD c.dfl) c2),.f (.sl (encL fU32 c.regs) c3)],(cCfg c).map .f] [] s) (by kernel_rfl) (Sl.of rfl rfl rfl) ?_
 rintro k ⟨t,h,kk⟩ hk ⟨rfl,rfl,f,rfl⟩
 by_cases hlt2 : k < c.dfl.length
 ·obtain ⟨y,hy,hy'⟩:=nth_of hlt2
  have hw:=wrap64 (x:=(k : Int) + 1) (by omega) (by omega)
  simp [hlt2,hy]
  refine call_g (eqCalls_t y (by have:=b5 y (List.mem_of_getElem? hy'); omega)) ?_
  simp [hw]
  exact Sl.of rfl rfl rfl
 ·simp [hlt2]
end Go.Proofs.YtejkhflkeoihlaaGreat
namespace Go.Proofs.YtejkhflkeoihlaaGreat
open Go.RowKit Go.Proofs.YtejkhflkeoihlaaGreat.Vf
set_option linter.unusedVariables false
set_option linter.unusedSimpArgs false
set_option maxRecDepth 100000
set_option maxHeartbeats 4000000
abbrev u8F (x : Int) : FV:=.sc (.int .u8 x)
abbrev fPkt (p : Int) (l : List Int) : FV:=.agg [intF p,sl (encL u8F l)]
abbrev fDrop : FV:=.agg [boolF true,intF 0,.sl [] .nil,.sl [] .nil]
def raI (x : PlD) (c : CfgD) (p : Int) (l : List Int) (c0 c2 c3 : Cap) (i : Nat) (s : St) : Prop:=∃ g k y tk,OwnT k (List.replicate i fDrop) 4 y tk ∧
 Vf.Sl [(3,.ref 0 0),(4,.ref 1 0),(7,.ref 2 0),(8,.ref 3 0),(9,.f (boolF false)),(10,y),(29,.f (.sl [fPkt p l] .full)),(30,.f (intF 1)),(31,.f (intF i))] 56
  (aPl x :: (cCfg c).map .f :: [.f (.sl [] .nil),.f (.sl [] .nil),.f (.sl [] .nil),.f (.sl [] .nil)] :: [.f (.sl (encL fRowsO c.rows) c0),.f (sl (encL intF c.next)),.f (.sl (encL fCallD c.dfl) c2),.f (.sl (encL fU32 c.regs) c3)] :: g) k s
theorem runAll_g (x : PlD) (c : CfgD) (p : Int) (l : List Int) (hU : PlU x) (hB : CfgB c) (hi : pchkM x ≠ 0) : Gives Tryz.prog 25 [fPl x,fCfg c,.sl [fPkt p l] .full] (.tup [.sl [fDrop] .un,fCfgO c]):=by
 obtain ⟨c0,e0⟩:=ownF_is (encL fRowsO c.rows)
 obtain ⟨c2,e2⟩:=ownF_is (encL fCallD c.dfl)
 obtain ⟨c3,e3⟩:=ownF_is (encL fU32 c.regs)
 have hcl:=cloneCfg_g c hB
 have hpc:=pchk_g x hU
 unfold fCfgO cCfgO at hcl ⊢
 rw [e0,e2,e3] at hcl ⊢
 simp only [fPl,cPl,cPrg,List.cons_append,List.nil_append] at hpc
 refine Gives.of mixed Tryz.func25 rfl rfl rfl (by kernel_rfl) ?_
 simp [fPl,cPl,cPrg]
 refine call_g hcl ?_
 simp
 refine call_g hpc ?_
 simp [hi]
 refine forX mixed 1 (raI x c p l c0 c2 c3) (by kernel_rfl) ⟨[],[],.f (.sl [] .nil),0,.nil,Sl.of rfl rfl rfl⟩ ?_
 rintro i ⟨ts,hh,kk⟩ hi1 ⟨g,k,y,tk,ho,rfl,rfl,f,rfl⟩
 by_cases h0 : i = 0
 ·subst h0
  obtain ⟨y',t',k',e,ho',hk',_⟩:=append_own0 ty89 ty54 (by simp) ho (y:=.f (.sl [fDrop] .full)) rfl (by simp) (by simp) (by simp)
  simp [getF,-opAppend]
  rw [e]
  simp
  exact ⟨_,_,_,_,ho',Sl.of rfl rfl rfl⟩
 ·obtain rfl : i = 1:=by omega
  rcases ho with ⟨h1,_⟩ | ⟨h1,rfl,h2⟩
  ·cases h1
  simp
  exact ⟨3,_,rfl,rfl⟩
theorem run_g (x : PlD) (c : CfgD) (p : Int) (l : List Int) (hU : PlU x) (hB : CfgB c) (hi : pchkM x ≠ 0) : Gives Tryz.prog 7 [fPl x,fCfg c,fPkt p l] (.tup [fDrop,fCfgO c]):=by
 obtain ⟨c0,e0⟩:=ownF_is (encL fRowsO c.rows)
 obtain ⟨c2,e2⟩:=ownF_is (encL fCallD c.dfl)
 obtain ⟨c3,e3⟩:=ownF_is (encL fU32 c.regs)
 have hra:=runAll_g x c p l hU hB hi
 unfold fCfgO cCfgO at hra ⊢
 rw [e0,e2,e3] at hra ⊢
 simp only [fPl,cPl,cPrg,List.cons_append,List.nil_append] at hra
 refine Gives.ofW Tryz.func7 rfl rfl rfl (by decide) ?_
 refine W.two (W.x mixed (by kernel_rfl) ?_)
 simp [fPl,cPl,cPrg]
 refine W.two (W.x mixed (by kernel_rfl) ?_)
 simp
 refine call_g hra ?_
 simp
 refine W.two (W.two_orders mixed (x:=3) (y:=4) (l1:=[0,1,2,3,4,5]) (l2:=[0,1,2,4,3,5]) (by kernel_rfl) rfl rfl ?_ ?_)
 all_goals
  simp [getF]
  refine W.x mixed (by kernel_rfl) ?_
  simp
  exact ⟨3,_,rfl,rfl⟩
abbrev fCon (a b e : FV) : FV:=.agg [a,b,e]
theorem runStage_g (x : PlD) (c : CfgD) (i : Int) (hU : PlU x) (hB : CfgB c) (hi : pchkM x ≠ 0) : Gives Tryz.prog 8 [fPl x,fCfg c,intF i,fCon (.sl [u32F 1] .full) (.sl [] .nil) (.sl [] .nil)] (.tup [fCon (sl [u32F 1]) (sl []) (sl []),ownF (encL fU32 c.regs),.sl [] .nil]):=by
 obtain ⟨c3,e3⟩:=ownF_is (encL fU32 c.regs)
 have hcr:=cloneRegs_g c.regs .un hB.regs.1 hB.regs.2
 rw [e3] at hcr ⊢
 have hpc:=pchk_g x hU
 simp only [fPl,cPl,cPrg,List.cons_append,List.nil_append] at hpc
 have q1 : Gives Tryz.prog 26 [.sl [u32F 1] .full] (sl [u32F 1]):=Gives.weak (cloneU_g [1] (by decide))
 have q2 : Gives Tryz.prog 26 [.sl [] .nil] (sl []):=Gives.weak (cloneU_g [] (by decide))
 refine Gives.ofW Tryz.func8 rfl rfl rfl (by decide) ?_
 refine W.two (W.x mixed (by kernel_rfl) ?_)
 simp [fPl,cPl,cPrg]
 refine W.two (W.x mixed (by kernel_rfl) ?_)
 simp
 refine call_g q1 ?_
 simp
 refine call_g q2 ?_
 simp
 refine call_g q2 ?_
 simp
 refine W.two (W.two (W.x mixed (by kernel_rfl) ?_))
 simp
 refine call_g hpc ?_
 simp [hi]
 refine W.x mixed (by kernel_rfl) ?_
 simp
 refine call_g hcr ?_
 simp
 exact ⟨3,_,rfl,rfl⟩
theorem eqBytes_w (w : World) : Calls Tryz.prog 37 #[.slice none 0 0,.slice none 0 0] w fun e w'=>e = .returned (.bool true)∧Below w.heap.size w w':=by
 go_enter Tryz.func37,Tryz.ntmps37
 have q : ∀ w,(convert 43 9 (.slice none 0 0)).run Tryz.prog w = .ok (.string ⟨#[]⟩) w:=fun w=>by kernel_rfl
 go_wp2_with fail
 go_returns
 exact ⟨rfl,Below.refl _ _⟩
theorem eqBytes_nil : Gives Tryz.prog 37 [.sl [] .nil,.sl [] .nil] (boolF true):=by
 refine ⟨⟨_,Tryz.func37,rfl,by decide⟩,fun w F vals hF hs hv=>?_⟩
 obtain ⟨u,h1,h2⟩:=hv 0 _ rfl
 obtain ⟨u2,h3,h4⟩:=hv 1 _ rfl
 have e1 : ∀ {v : Value},Rep w F (.sl [] .nil) v→v = .slice none 0 0:=fun h=>by
  cases h with
  | nil=>rfl
  | sl l c b o cap sz vs hc=>exact absurd rfl hc
 obtain rfl:=e1 h2
 obtain rfl:=e1 h4
 have hvals : vals = #[.slice none 0 0,.slice none 0 0]:=by
  apply Array.ext_getElem?
  intro i
  match i with
  | 0=>rw [h1]; rfl
  | 1=>rw [h3]; rfl
  | i + 2=>rw [Array.getElem?_eq_none (by simp at hs; omega)]; simp
 rw [hvals]
 refine (eqBytes_w w).mono ?_
 rintro e w' ⟨rfl,hb⟩
 exact ⟨_,F,rfl,.sc _,hb,fun _ _ h=>h,fun _ _ h=>.inl h,fun b o h=>Nat.lt_of_lt_of_le (hF b o h) hb.size⟩
theorem eqHits_nil : Gives Tryz.prog 38 [.sl [] .nil,.sl [] .nil] (boolF true):=by
 refine Gives.of mixed Tryz.func38 rfl rfl rfl (by kernel_rfl) ?_
 simp
 refine forX mixed 0 (fun k s=>Vf.Sl [(0,.f (.sl [] .nil)),(1,.f (.sl [] .nil)),(5,.f (intF k))] 26 [] [] s) (by kernel_rfl) (Sl.of rfl rfl rfl) ?_
 rintro k ⟨t,h,kk⟩ hk ⟨rfl,rfl,f,rfl⟩
 obtain rfl : k = 0:=by omega
 simp
theorem eqRes_drop : Gives Tryz.prog 9 [fDrop,fDrop] (boolF true):=by
 refine Gives.of mixed Tryz.func9 rfl rfl rfl (by kernel_rfl) ?_
 have hb : opBin Tryz.prog (tyOf Tryz.prog) .eql 4 (.tmp 6) (.tmp 8) (.f (boolF true)) (.f (boolF true)) = some (.f (boolF true)):=by kernel_rfl
 simp [hb]
 refine call_g eqBytes_nil ?_
 simp
 refine call_g eqHits_nil ?_
 simp
end Go.Proofs.YtejkhflkeoihlaaGreat
