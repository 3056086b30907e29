/- Texts of the proof: S10. -/
import Derived.Test.YtejkhflkeoihlaaGreatS9
import Derived.Test.YtejkhflkeoihlaaGreatS8
namespace Go.Proofs.YtejkhflkeoihlaaGreat
open Go.RowKit Go.Proofs.YtejkhflkeoihlaaGreat.Vf
set_option linter.unusedVariables false
set_option linter.unusedSimpArgs false
set_option maxRecDepth 100000
set_option maxHeartbeats 4000000
def bx : AV→Option Nat
 | .ms b _ _ _ _=>some b
 | _=>none
def Apart (x y : AV) : Prop:=∀ b,bx x = some b→bx y ≠ some b
def flatA (l : List FV) : List AV:=(l.flatMap FV.cells).map AV.f
theorem Wd.thaw3 {c : Code} {s : St} {Q : Pst} {d b : Nat} {L0 L1 L2 : List FV} {z0 z1 z2 t0 t1 t2 : Nat} {x0 x1 x2 : AV} (hd : s.t[d]? = some (.ref b 0)) (hb : s.h[b]? = some [x0,x1,x2])
  (h0 : OwnT s.k L0 z0 x0 t0) (p0 : 0 < z0) (s0 : Scs L0) (h1 : OwnT s.k L1 z1 x1 t1) (p1 : 0 < z1) (s1 : Scs L1) (h2 : OwnT s.k L2 z2 x2 t2) (p2 : 0 < z2) (s2 : Scs L2)
  (n01 : L0 ≠ []→L1 ≠ []→t0 ≠ t1) (n02 : L0 ≠ []→L2 ≠ []→t0 ≠ t2) (n12 : L1 ≠ []→L2 ≠ []→t1 ≠ t2)
  (h : ∀ y0 y1 y2 R s',RowB ([y0,y1,y2] :: R) y0 L0.length (flatA L0) z0→RowB ([y0,y1,y2] :: R) y1 L1.length (flatA L1) z1→RowB ([y0,y1,y2] :: R) y2 L2.length (flatA L2) z2 →
   (L0 = []→y0 = .f (.sl [] .nil))→(L1 = []→y1 = .f (.sl [] .nil))→(L2 = []→y2 = .f (.sl [] .nil))→Apart y0 y1→Apart y0 y2→Apart y1 y2→bx y0 ≠ some 0→bx y1 ≠ some 0→bx y2 ≠ some 0→Vf.Sl [(d,.ref 0 0)] s.t.length ([y0,y1,y2] :: R) [] s'→Wd Tryz.prog c s' Q) : Wd Tryz.prog c s Q:=by
 obtain ⟨i0,a0,b0,c0⟩:=own_tc h0 p0 s0
 obtain ⟨i1,a1,b1,c1⟩:=own_tc h1 p1 s1
 obtain ⟨i2,a2,b2,c2⟩:=own_tc h2 p2 s2
 refine Wd.thawB (items:=[i0,i1,i2]) hd (by rw [hb,← a0,← a1,← a2]; rfl) (fun z hz=>by
  rcases List.mem_cons.1 hz with rfl | hz
  ·exact b0
  rcases List.mem_cons.1 hz with rfl | hz
  ·exact b1
  obtain rfl:=List.mem_singleton.1 hz; exact b2) ?_ fun cs s' hcap hs=>?_
 ·rcases c0 with ⟨e0,rfl⟩ | ⟨e0,rfl⟩ <;> rcases c1 with ⟨e1,rfl⟩ | ⟨e1,rfl⟩ <;> rcases c2 with ⟨e2,rfl⟩ | ⟨e2,rfl⟩ <;> simp [tcTok]
  ·exact n12 e1 e2
  ·exact n02 e0 e2
  ·exact n01 e0 e1
  ·exact ⟨⟨n01 e0 e1,n02 e0 e2⟩,n12 e1 e2⟩
 ·rcases c0 with ⟨e0,rfl⟩ | ⟨e0,rfl⟩ <;> rcases c1 with ⟨e1,rfl⟩ | ⟨e1,rfl⟩ <;> rcases c2 with ⟨e2,rfl⟩ | ⟨e2,rfl⟩ <;> rcases cs with _ | ⟨k0,_ | ⟨k1,_ | ⟨k2,cs⟩⟩⟩ <;> simp only [tcNew,tcBox,tcCap,and_true,and_false,false_and] at hcap hs
  all_goals refine h _ _ _ _ s' ?_ ?_ ?_ ?_ ?_ ?_ ?_ ?_ ?_ ?_ ?_ ?_ hs
  all_goals first
   | exact fun _=>rfl
   | exact fun h=>absurd h (by assumption)
   | exact .inl ⟨by simp [*],rfl⟩
   | exact .inr ⟨_,_,rfl,rfl,by simp [*]⟩
   | exact .inr ⟨_,_,rfl,rfl,by omega⟩
   | (intro b hb; simp [bx] at hb ⊢; try omega)
   | simp [bx]
theorem flatA_fr (l : List FR) : flatA (encL fRp l) = rowR l:=fRp_cells l
theorem flatA_z (l : List Int) : flatA (encL intF l) = rowA l:=intF_cells l
theorem RowB.put {h : List (List AV)} {x : AV} {n sz : Nat} {cs cs' : List AV} (hr : RowB h x n cs sz) : RowB (rPut h x cs') x n cs' sz:=by
 rcases hr with ⟨h0,rfl⟩ | ⟨b,cap,rfl,hb,hc⟩
 ·exact .inl ⟨h0,rfl⟩
 ·exact .inr ⟨b,cap,rfl,List.getElem?_set_self (List.getElem?_eq_some_iff.1 hb).1,hc⟩
theorem RowB.other {h : List (List AV)} {x y : AV} {n sz : Nat} {cs cs' : List AV} (hr : RowB h y n cs sz) (ha : Apart x y) : RowB (rPut h x cs') y n cs sz:=by
 rcases hr with ⟨h0,rfl⟩ | ⟨b,cap,rfl,hb,hc⟩
 ·exact .inl ⟨h0,rfl⟩
 ·refine .inr ⟨b,cap,rfl,?_,hc⟩
  unfold rPut
  split
  ·rename_i b' _ _ _ _
   exact (List.getElem?_set_ne (fun e=>ha b' rfl (by rw [e]; rfl))).trans hb
  ·exact hb
theorem put_zero {h : List (List AV)} {x : AV} {cs cs' : List AV} (h0 : ix h 0 = some cs) (hx : bx x ≠ some 0) : ix (rPut h x cs') 0 = some cs:=by
 unfold rPut
 split
 ·rename_i b _ _ _ _
  exact (List.getElem?_set_ne (fun e=>hx (by rw [e]; rfl))).trans h0
 ·exact h0
theorem Apart.symm {x y : AV} (h : Apart x y) : Apart y x:=fun b h1 h2=>h b h2 h1
theorem RowB.retR {h : List (List AV)} {x : AV} {l m : List FR} (hr : RowB h x l.length (rowR (padR l)) 2) (hm : compFM l = m) (hn : l = []→x = .f (.sl [] .nil)) (h0 : l ≠ []→m ≠ []) : RetV h (rCut x m.length) (· = ownF (encL fRp m)):=by
 by_cases e : l = []
 ·rw [hn e]
  subst e
  have : m = []:=by rw [← hm]; rfl
  subst this
  exact ⟨0,_,rfl,rfl⟩
 rcases hr with ⟨h1,rfl⟩ | ⟨b,cap,rfl,hb,hc⟩
 ·exact absurd (List.eq_nil_of_length_eq_zero h1) e
 ·subst hm
  exact ret_cutR hb hc (by unfold ownF; rw [if_neg (fun e'=>h0 e (by simpa [encL] using e'))])
theorem RowB.retZ {h : List (List AV)} {x : AV} {l m : List Int} (hr : RowB h x l.length (rowA (padZ l)) 1) (hm : compZM l = m) (hn : l = []→x = .f (.sl [] .nil)) (h0 : l ≠ []→m ≠ []) : RetV h (rCut x m.length) (· = ownF (encL intF m)):=by
 by_cases e : l = []
 ·rw [hn e]
  subst e
  have : m = []:=by rw [← hm]; exact List.eq_nil_of_length_eq_zero (Nat.le_zero.1 (compZM_len []))
  subst this
  exact ⟨0,_,rfl,rfl⟩
 rcases hr with ⟨h1,rfl⟩ | ⟨b,cap,rfl,hb,hc⟩
 ·exact absurd (List.eq_nil_of_length_eq_zero h1) e
 ·subst hm
  exact ret_cut hb hc (by unfold ownF; rw [if_neg (fun e'=>h0 e (by simpa [encL] using e'))])
theorem noGuard_of {ops : Array Oper} (h : ops.toList.all (fun o=>o.guard.isNone) = true) (i : Nat) (o : Oper) (ho : ops[i]? = some o) : o.guard = none:=by
 have:=List.all_eq_true.1 h o (List.mem_of_getElem? (i:=i) (by simpa using ho))
 simpa using this
theorem told_put {T : List (Nat × Nat × AV)} {t : List AV} {D : Nat→Bool} {i d : Nat} {v : AV} (hT : ∀ p ∈ T,D p.1 = true→ix t p.2.1 = some p.2.2) (hlt : d < t.length) (hu : ∀ p ∈ T,p.1 = i ∨ p.2.1 = d→p = (i,d,v)) :
  ∀ p ∈ T,(D p.1 || p.1 == i) = true→ix (stT t d v) p.2.1 = some p.2.2:=fun p hp hD=>by
 by_cases h : p.1 = i ∨ p.2.1 = d
 ·rw [hu p hp h]
  exact List.getElem?_set_self hlt
 ·have h1 : D p.1 = true:=by
   rcases Bool.or_eq_true_iff.1 hD with h1 | h1
   ·exact h1
   ·exact absurd (.inl (by simpa using h1)) h
  exact (List.getElem?_set_ne fun e=>h (.inr e.symm)).trans (hT p hp h1)
def s3T (y0 y1 y2 : AV) (m0 m1 m2 : Nat) : List (Nat × Nat × AV):=[(0,20,.ref 0 0),(1,21,.ref 0 0),(2,22,.ref 0 0),(3,23,y0),(4,24,rCut y0 m0),(5,25,.ref 0 0),(6,26,.ref 0 0),(7,27,.ref 0 1),(8,28,y1),(9,29,rCut y1 m1),
 (10,30,.ref 0 0),(11,31,.ref 0 0),(12,32,.ref 0 2),(13,33,y2),(14,34,rCut y2 m2),(15,2,rCut y0 m0),(16,3,rCut y1 m1),(17,4,rCut y2 m2)]
structure S3 (F : List FR) (M G : List Int) (y0 y1 y2 : AV) (D : Nat→Bool) (s : St) : Prop where
 k : s.k = []
 len : s.t.length = 35
 zero : ix s.t 0 = some (.ref 0 0)
 box : ix s.h 0 = some [y0,y1,y2]
 r0 : RowB s.h y0 F.length (if D 4 = true then rowR (padR F) else rowR F) 2
 r1 : RowB s.h y1 M.length (if D 9 = true then rowA (padZ M) else rowA M) 1
 r2 : RowB s.h y2 G.length (if D 14 = true then rowA (padZ G) else rowA G) 1
 told : ∀ p ∈ s3T y0 y1 y2 (compFM F).length (compZM M).length (compZM G).length,D p.1 = true→ix s.t p.2.1 = some p.2.2
theorem S3.put {F : List FR} {M G : List Int} {y0 y1 y2 : AV} {D : Nat→Bool} {t : List AV} {h : List (List AV)} {k : List (Nat × Nat)} (S : S3 F M G y0 y1 y2 D ⟨t,h,k⟩) {i d : Nat} {v : AV} (h4 : i ≠ 4) (h9 : i ≠ 9) (h14 : i ≠ 14) (hd : d < 35) (hd0 : d ≠ 0)
  (hu : ∀ p ∈ s3T y0 y1 y2 (compFM F).length (compZM M).length (compZM G).length,p.1 = i ∨ p.2.1 = d→p = (i,d,v)) : S3 F M G y0 y1 y2 (fun j=>D j || j == i) ⟨stT t d v,h,k⟩ where
 k:=S.k
 len:=by simp only [stT,List.length_set]; exact S.len
 zero:=(List.getElem?_set_ne hd0).trans S.zero
 box:=S.box
 r0:=by have:=S.r0; simpa [beq_iff_eq,Ne.symm h4] using this
 r1:=by have:=S.r1; simpa [beq_iff_eq,Ne.symm h9] using this
 r2:=by have:=S.r2; simpa [beq_iff_eq,Ne.symm h14] using this
 told:=told_put S.told (by rw [S.len]; exact hd) hu
theorem S3.c0 {F : List FR} {M G : List Int} {y0 y1 y2 : AV} {D : Nat→Bool} {t : List AV} {h : List (List AV)} {k : List (Nat × Nat)} (S : S3 F M G y0 y1 y2 D ⟨t,h,k⟩) (a01 : Apart y0 y1) (a02 : Apart y0 y2) (a12 : Apart y1 y2) (b : bx y0 ≠ some 0) :
  S3 F M G y0 y1 y2 (fun j=>D j || j == 4) ⟨stT t 24 (rCut y0 (compFM F).length),rPut h y0 (rowR (padR F)),k⟩ where
 k:=S.k
 len:=by simp only [stT,List.length_set]; exact S.len
 zero:=(List.getElem?_set_ne (by decide)).trans S.zero
 box:=put_zero S.box b
 r0:=by simpa using S.r0.put
 r1:=by have:=S.r1.other (cs':=rowR (padR F)) (a01); simpa using this
 r2:=by have:=S.r2.other (cs':=rowR (padR F)) (a02); simpa using this
 told:=told_put S.told (by rw [S.len]; decide) (by simp [s3T])
theorem S3.c1 {F : List FR} {M G : List Int} {y0 y1 y2 : AV} {D : Nat→Bool} {t : List AV} {h : List (List AV)} {k : List (Nat × Nat)} (S : S3 F M G y0 y1 y2 D ⟨t,h,k⟩) (a01 : Apart y0 y1) (a02 : Apart y0 y2) (a12 : Apart y1 y2) (b : bx y1 ≠ some 0) :
  S3 F M G y0 y1 y2 (fun j=>D j || j == 9) ⟨stT t 29 (rCut y1 (compZM M).length),rPut h y1 (rowA (padZ M)),k⟩ where
 k:=S.k
 len:=by simp only [stT,List.length_set]; exact S.len
 zero:=(List.getElem?_set_ne (by decide)).trans S.zero
 box:=put_zero S.box b
 r0:=by have:=S.r0.other (cs':=rowA (padZ M)) (a01.symm); simpa using this
 r1:=by simpa using S.r1.put
 r2:=by have:=S.r2.other (cs':=rowA (padZ M)) (a12); simpa using this
 told:=told_put S.told (by rw [S.len]; decide) (by simp [s3T])
theorem S3.c2 {F : List FR} {M G : List Int} {y0 y1 y2 : AV} {D : Nat→Bool} {t : List AV} {h : List (List AV)} {k : List (Nat × Nat)} (S : S3 F M G y0 y1 y2 D ⟨t,h,k⟩) (a01 : Apart y0 y1) (a02 : Apart y0 y2) (a12 : Apart y1 y2) (b : bx y2 ≠ some 0) :
  S3 F M G y0 y1 y2 (fun j=>D j || j == 14) ⟨stT t 34 (rCut y2 (compZM G).length),rPut h y2 (rowA (padZ G)),k⟩ where
 k:=S.k
 len:=by simp only [stT,List.length_set]; exact S.len
 zero:=(List.getElem?_set_ne (by decide)).trans S.zero
 box:=put_zero S.box b
 r0:=by have:=S.r0.other (cs':=rowA (padZ G)) (a02.symm); simpa using this
 r1:=by have:=S.r1.other (cs':=rowA (padZ G)) (a12.symm); simpa using this
 r2:=by simpa using S.r2.put
 told:=told_put S.told (by rw [S.len]; decide) (by simp [s3T])
theorem sorted3_d (F : List FR) (M G : List Int) {h : List (List AV)} {k : List (Nat × Nat)} {b t0 t1 t2 : Nat} {x0 x1 x2 : AV} (lF : F.length < 2^62) (lM : M.length < 2^62) (lG : G.length < 2^62)
  (h0 : OwnT k (encL fRp F) 2 x0 t0) (h1 : OwnT k (encL intF M) 1 x1 t1) (h2 : OwnT k (encL intF G) 1 x2 t2) (n01 : F ≠ []→M ≠ []→t0 ≠ t1) (n02 : F ≠ []→G ≠ []→t0 ≠ t2) (n12 : M ≠ []→G ≠ []→t1 ≠ t2) (hb : ix h b = some [x0,x1,x2]) :
  GivesD Tryz.prog 251 [.ref b 0] h k (fun y h' k'=>∃ z0 z1 z2,y = .tup [z0,z1,z2]∧RetV h' z0 (· = ownF (encL fRp (canR F)))∧RetV h' z1 (· = ownF (encL intF (canZ M)))∧RetV h' z2 (· = ownF (encL intF (canZ G)))):=by
 refine GivesD.of_Wd Tryz.func251 rfl rfl rfl (by decide) ?_
 refine Wd.two (W.x mixed (by kernel_rfl) ?_)
 simp
 have eZ : ∀ l : List Int,encL intF l ≠ []→l ≠ []:=fun l h e=>h (by rw [e]; rfl)
 have eR : encL fRp F ≠ []→F ≠ []:=fun h e=>h (by rw [e]; rfl)
 refine Wd.thaw3 (d:=0) (b:=b) rfl hb h0 (by decide) (fRp_scs _) h1 (by decide) (intF_scs _) h2 (by decide) (intF_scs _) (fun p q=>n01 (eR p) (eZ _ q)) (fun p q=>n02 (eR p) (eZ _ q)) (fun p q=>n12 (eZ _ p) (eZ _ q)) ?_
 rintro y0 y1 y2 R ⟨ts,hh,kk⟩ r0 r1 r2 m0 m1 m2 a01 a02 a12 b0 b1 b2 ⟨rfl,rfl,ff,rfl⟩
 have m0 : F = []→y0 = .f (.sl [] .nil):=fun e=>m0 (by rw [e]; rfl)
 have m1 : M = []→y1 = .f (.sl [] .nil):=fun e=>m1 (by rw [e]; rfl)
 have m2 : G = []→y2 = .f (.sl [] .nil):=fun e=>m2 (by rw [e]; rfl)
 rw [flatA_fr,encL_length] at r0
 rw [flatA_z,encL_length] at r1 r2
 refine Wd.two (W.x mixed (by kernel_rfl) ?_)
 simp
 refine call_x (sortR_x sortedC_enters sortedC_any r0 lF) ?_
 rintro _ H1 _ ⟨rfl,e1,rfl⟩
 have box1 : ix H1 0 = some [y0,y1,y2]:=by rw [e1]; exact put_zero rfl b0
 have p0 : RowB H1 y0 F.length (rowR (sortRM F)) 2:=by rw [e1]; exact r0.put
 have p1 : RowB H1 y1 M.length (rowA M) 1:=by rw [e1]; exact r1.other a01
 have p2 : RowB H1 y2 G.length (rowA G) 1:=by rw [e1]; exact r2.other a02
 clear e1 r0 r1 r2
 simp
 refine Wd.two (W.x mixed (by kernel_rfl) ?_)
 simp [box1]
 refine call_x (sortZ_x p1 lM) ?_
 rintro _ H2 _ ⟨rfl,e1,rfl⟩
 have box2 : ix H2 0 = some [y0,y1,y2]:=by rw [e1]; exact put_zero box1 b1
 have r0 : RowB H2 y0 F.length (rowR (sortRM F)) 2:=by rw [e1]; exact p0.other a01.symm
 have r1 : RowB H2 y1 M.length (rowA (sortZM M)) 1:=by rw [e1]; exact p1.put
 have r2 : RowB H2 y2 G.length (rowA G) 1:=by rw [e1]; exact p2.other a12
 clear e1 p0 p1 p2 box1
 simp
 refine Wd.two (W.x mixed (by kernel_rfl) ?_)
 simp [box2]
 refine call_x (sortZ_x r2 lG) ?_
 rintro _ H3 _ ⟨rfl,e1,rfl⟩
 have box3 : ix H3 0 = some [y0,y1,y2]:=by rw [e1]; exact put_zero box2 b2
 have p0 : RowB H3 y0 (sortRM F).length (rowR (sortRM F)) 2:=by rw [e1,sortRM_len]; exact r0.other a02.symm
 have p1 : RowB H3 y1 (sortZM M).length (rowA (sortZM M)) 1:=by rw [e1,sortZM_len]; exact r1.other a12.symm
 have p2 : RowB H3 y2 (sortZM G).length (rowA (sortZM G)) 1:=by rw [e1,sortZM_len]; exact r2.put
 clear e1 r0 r1 r2 box2
 simp
 have qF:=sortRM_len F
 have qM:=sortZM_len M
 have qG:=sortZM_len G
 refine Wd.two (W.draw_sem mixed (S3 (sortRM F) (sortZM M) (sortZM G) y0 y1 y2) (noGuard_of (by kernel_rfl)) ⟨rfl,rfl,rfl,box3,by simpa using p0,by simpa using p1,by simpa using p2,fun p _ h=>by cases h⟩ ?_ ?_ (by kernel_rfl))
 ·rintro D ⟨t,h,k⟩ i o ho hD hdep S
  have hT:=S.told
  have hz:=S.zero
  have hbx:=S.box
  match i,ho with
  | 0,ho =>
   obtain rfl:=Option.some.inj ho
   simp [hz]
   exact S.put (by decide) (by decide) (by decide) (by decide) (by decide) (by simp [s3T])
  | 1,ho =>
   obtain rfl:=Option.some.inj ho
   have d0 : D 0 = true:=hdep ⟨0,.data⟩ (by simp) rfl
   have f0 : ix t 20 = some (.ref 0 0):=hT (0,20,.ref 0 0) (by simp [s3T]) d0
   simp [f0]
   exact S.put (by decide) (by decide) (by decide) (by decide) (by decide) (by simp [s3T])
  | 2,ho =>
   obtain rfl:=Option.some.inj ho
   have d1 : D 1 = true:=hdep ⟨1,.data⟩ (by simp) rfl
   have f1 : ix t 21 = some (.ref 0 0):=hT (1,21,.ref 0 0) (by simp [s3T]) d1
   simp [f1]
   exact S.put (by decide) (by decide) (by decide) (by decide) (by decide) (by simp [s3T])
  | 3,ho =>
   obtain rfl:=Option.some.inj ho
   have d2 : D 2 = true:=hdep ⟨2,.data⟩ (by simp) rfl
   have f2 : ix t 22 = some (.ref 0 0):=hT (2,22,.ref 0 0) (by simp [s3T]) d2
   simp [f2,hbx]
   exact S.put (by decide) (by decide) (by decide) (by decide) (by decide) (by simp [s3T])
  | 4,ho =>
   obtain rfl:=Option.some.inj ho
   have d3 : D 3 = true:=hdep ⟨3,.data⟩ (by simp) rfl
   have f3 : ix t 23 = some (y0):=hT (3,23,y0) (by simp [s3T]) d3
   simp [f3]
   refine call_x (compR_x (l:=sortRM F) (by have:=S.r0; rw [hD] at this; simpa using this) (by omega)) ?_
   rintro _ _ _ ⟨rfl,rfl,rfl⟩
   simp
   exact S.c0 a01 a02 a12 b0
  | 5,ho =>
   obtain rfl:=Option.some.inj ho
   simp [hz]
   exact S.put (by decide) (by decide) (by decide) (by decide) (by decide) (by simp [s3T])
  | 6,ho =>
   obtain rfl:=Option.some.inj ho
   have d5 : D 5 = true:=hdep ⟨5,.data⟩ (by simp) rfl
   have f5 : ix t 25 = some (.ref 0 0):=hT (5,25,.ref 0 0) (by simp [s3T]) d5
   simp [f5]
   exact S.put (by decide) (by decide) (by decide) (by decide) (by decide) (by simp [s3T])
  | 7,ho =>
   obtain rfl:=Option.some.inj ho
   have d6 : D 6 = true:=hdep ⟨6,.data⟩ (by simp) rfl
   have f6 : ix t 26 = some (.ref 0 0):=hT (6,26,.ref 0 0) (by simp [s3T]) d6
   simp [f6]
   exact S.put (by decide) (by decide) (by decide) (by decide) (by decide) (by simp [s3T])
  | 8,ho =>
   obtain rfl:=Option.some.inj ho
   have d7 : D 7 = true:=hdep ⟨7,.data⟩ (by simp) rfl
   have f7 : ix t 27 = some (.ref 0 1):=hT (7,27,.ref 0 1) (by simp [s3T]) d7
   simp [f7,hbx]
   exact S.put (by decide) (by decide) (by decide) (by decide) (by decide) (by simp [s3T])
  | 9,ho =>
   obtain rfl:=Option.some.inj ho
   have d8 : D 8 = true:=hdep ⟨8,.data⟩ (by simp) rfl
   have f8 : ix t 28 = some (y1):=hT (8,28,y1) (by simp [s3T]) d8
   simp [f8]
   refine call_x (compZ_x (l:=sortZM M) (by have:=S.r1; rw [hD] at this; simpa using this) (by omega)) ?_
   rintro _ _ _ ⟨rfl,rfl,rfl⟩
   simp
   exact S.c1 a01 a02 a12 b1
  | 10,ho =>
   obtain rfl:=Option.some.inj ho
   simp [hz]
   exact S.put (by decide) (by decide) (by decide) (by decide) (by decide) (by simp [s3T])
  | 11,ho =>
   obtain rfl:=Option.some.inj ho
   have d10 : D 10 = true:=hdep ⟨10,.data⟩ (by simp) rfl
   have f10 : ix t 30 = some (.ref 0 0):=hT (10,30,.ref 0 0) (by simp [s3T]) d10
   simp [f10]
   exact S.put (by decide) (by decide) (by decide) (by decide) (by decide) (by simp [s3T])
  | 12,ho =>
   obtain rfl:=Option.some.inj ho
   have d11 : D 11 = true:=hdep ⟨11,.data⟩ (by simp) rfl
   have f11 : ix t 31 = some (.ref 0 0):=hT (11,31,.ref 0 0) (by simp [s3T]) d11
   simp [f11]
   exact S.put (by decide) (by decide) (by decide) (by decide) (by decide) (by simp [s3T])
  | 13,ho =>
   obtain rfl:=Option.some.inj ho
   have d12 : D 12 = true:=hdep ⟨12,.data⟩ (by simp) rfl
   have f12 : ix t 32 = some (.ref 0 2):=hT (12,32,.ref 0 2) (by simp [s3T]) d12
   simp [f12,hbx]
   exact S.put (by decide) (by decide) (by decide) (by decide) (by decide) (by simp [s3T])
  | 14,ho =>
   obtain rfl:=Option.some.inj ho
   have d13 : D 13 = true:=hdep ⟨13,.data⟩ (by simp) rfl
   have f13 : ix t 33 = some (y2):=hT (13,33,y2) (by simp [s3T]) d13
   simp [f13]
   refine call_x (compZ_x (l:=sortZM G) (by have:=S.r2; rw [hD] at this; simpa using this) (by omega)) ?_
   rintro _ _ _ ⟨rfl,rfl,rfl⟩
   simp
   exact S.c2 a01 a02 a12 b2
  | 15,ho =>
   obtain rfl:=Option.some.inj ho
   have d4 : D 4 = true:=hdep ⟨4,.data⟩ (by simp) rfl
   have f4 : ix t 24 = some (rCut y0 (compFM (sortRM F)).length):=hT (4,24,rCut y0 (compFM (sortRM F)).length) (by simp [s3T]) d4
   simp [f4]
   exact S.put (by decide) (by decide) (by decide) (by decide) (by decide) (by simp [s3T])
  | 16,ho =>
   obtain rfl:=Option.some.inj ho
   have d9 : D 9 = true:=hdep ⟨9,.data⟩ (by simp) rfl
   have f9 : ix t 29 = some (rCut y1 (compZM (sortZM M)).length):=hT (9,29,rCut y1 (compZM (sortZM M)).length) (by simp [s3T]) d9
   simp [f9]
   exact S.put (by decide) (by decide) (by decide) (by decide) (by decide) (by simp [s3T])
  | 17,ho =>
   obtain rfl:=Option.some.inj ho
   have d14 : D 14 = true:=hdep ⟨14,.data⟩ (by simp) rfl
   have f14 : ix t 34 = some (rCut y2 (compZM (sortZM G)).length):=hT (14,34,rCut y2 (compZM (sortZM G)).length) (by simp [s3T]) d14
   simp [f14]
   exact S.put (by decide) (by decide) (by decide) (by decide) (by decide) (by simp [s3T])
  | n + 18,ho=>exact absurd ho (by simp)
 ·rintro D ⟨t,h,k⟩ hD S
  have e2 : ix t 2 = some (rCut y0 (compFM (sortRM F)).length):=S.told (15,2,rCut y0 (compFM (sortRM F)).length) (by simp [s3T]) (hD 15 (by decide))
  have e3 : ix t 3 = some (rCut y1 (compZM (sortZM M)).length):=S.told (16,3,rCut y1 (compZM (sortZM M)).length) (by simp [s3T]) (hD 16 (by decide))
  have e4 : ix t 4 = some (rCut y2 (compZM (sortZM G)).length):=S.told (17,4,rCut y2 (compZM (sortZM G)).length) (by simp [s3T]) (hD 17 (by decide))
  have r0:=S.r0
  have r1:=S.r1
  have r2:=S.r2
  rw [hD 4 (by decide),if_pos rfl] at r0
  rw [hD 9 (by decide),if_pos rfl] at r1
  rw [hD 14 (by decide),if_pos rfl] at r2
  have nF : sortRM F = []→y0 = .f (.sl [] .nil):=fun e=>m0 (List.eq_nil_of_length_eq_zero (by rw [← qF,e]; rfl))
  have nM : sortZM M = []→y1 = .f (.sl [] .nil):=fun e=>m1 (List.eq_nil_of_length_eq_zero (by rw [← qM,e]; rfl))
  have nG : sortZM G = []→y2 = .f (.sl [] .nil):=fun e=>m2 (List.eq_nil_of_length_eq_zero (by rw [← qG,e]; rfl))
  simp
  refine Wd.x mixed (by kernel_rfl) ?_
  simp [e2,e3,e4,resA]
  exact ⟨_,_,_,⟨rfl,rfl,rfl⟩,r0.retR rfl nF (fun e=>compTo_ne (List.length_pos_iff.2 e) (Nat.le_refl _)),r1.retZ rfl nM compZM_ne,r2.retZ rfl nG compZM_ne⟩
end Go.Proofs.YtejkhflkeoihlaaGreat
namespace Go.Proofs.YtejkhflkeoihlaaGreat
open Go.RowKit Go.Proofs.YtejkhflkeoihlaaGreat.Vf
set_option linter.unusedVariables false
set_option linter.unusedSimpArgs false
set_option maxRecDepth 100000
set_option maxHeartbeats 4000000
theorem elems_ownF (l : List FV) : elems (.f (ownF l)) = some l:=by
 unfold ownF
 split
 ·rename_i h; rw [h]; rfl
 ·rfl
theorem append_own0 {T : TV} {k : List (Nat × Nat)} {l ys : List FV} {x y : AV} {t : Nat} {ty e : TypeId} {s b : Nat} {z : List AV} {ety : Ty} (ht : T ty = some ⟨s,b,.slice e,z⟩) (he : T e = some ety) (hz : ety.size ≠ 0)
  (h : OwnT k l ety.size x t) (hy : elems y = some ys) (hall : ys.all (fun u=>u.cells.length == ety.size) = true) (hb : (l.length + ys.length) * ety.bytes ≤ 140737488355328) (hb2 : l.length + ys.length ≤ 4611686018427387904) :
  ∃ x' t' k',opAppend T k ty x y = some (x',k')∧OwnT k' (l ++ ys) ety.size x' t'∧k.length ≤ k'.length∧∀ i,i < k.length→(l ≠ []→i ≠ t)→k'[i]? = k[i]?∧t' ≠ i:=by
 by_cases hys : ys = []
 ·subst hys
  rcases h with ⟨rfl,rfl⟩ | ⟨h1,rfl,h2⟩
  ·refine ⟨.f (.sl [] .nil),k.length,k,?_,.inl ⟨rfl,rfl⟩,Nat.le_refl _,fun i hi _=>⟨rfl,by omega⟩⟩
   unfold opAppend
   simp only [ht,he,hy,if_neg hz,hall,if_true]
  ·refine ⟨.own l t,t,k,?_,by rw [List.append_nil]; exact .inr ⟨h1,rfl,h2⟩,Nat.le_refl _,fun i hi hit=>⟨rfl,fun e=>hit h1 e.symm⟩⟩
   unfold opAppend
   simp only [ht,he,hy,if_neg hz,hall,if_true]
 ·obtain ⟨t',k',a,b,c,d⟩:=append_own ht he hz h hy hys hall hb hb2
  exact ⟨_,t',k',a,b,c,d⟩
theorem store_own {T : TV} {ty : TypeId} {e : Ty} (ht : T ty = some e) (hs : e.size = 1) {h : List (List AV)} {b off : Nat} {cs : List AV} (hb : ix h b = some cs) (hj : off + 1 ≤ cs.length) {k : List (Nat × Nat)} {l : List FV} {sz t : Nat} {x : AV} (ho : OwnT k l sz x t) :
  opStore T h ty (.ref b off) x = some (h.set b (cs.set off x)):=by
 rcases ho with ⟨_,rfl⟩ | ⟨_,rfl,_⟩
 ·unfold opStore
  simp only [ht,hb,hs]
  exact if_pos ⟨rfl,hj,rfl⟩
 ·unfold opStore
  simp only [ht,hb,hs]
  exact if_pos ⟨rfl,hj,rfl⟩
structure Acc3 (F : List FR) (M G : List Int) (k : List (Nat × Nat)) (x0 x1 x2 : AV) (t0 t1 t2 : Nat) : Prop where
 h0 : OwnT k (encL fRp F) 2 x0 t0
 h1 : OwnT k (encL intF M) 1 x1 t1
 h2 : OwnT k (encL intF G) 1 x2 t2
 n01 : encL fRp F ≠ []→encL intF M ≠ []→t0 ≠ t1
 n02 : encL fRp F ≠ []→encL intF G ≠ []→t0 ≠ t2
 n12 : encL intF M ≠ []→encL intF G ≠ []→t1 ≠ t2
theorem Acc3.start {k : List (Nat × Nat)} : Acc3 [] [] [] k (.f (.sl [] .nil)) (.f (.sl [] .nil)) (.f (.sl [] .nil)) 0 0 0:=⟨.nil,.nil,.nil,fun h=>absurd rfl h,fun h=>absurd rfl h,fun h=>absurd rfl h⟩
theorem Acc3.app0 {F F2 : List FR} {M G : List Int} {k : List (Nat × Nat)} {x0 x1 x2 y : AV} {t0 t1 t2 : Nat} (A : Acc3 F M G k x0 x1 x2 t0 t1 t2) (hy : elems y = some (encL fRp F2)) (hb : F.length + F2.length ≤ 4000000) :
  ∃ x' t' k',opAppend (tyOf Tryz.prog) k 318 x0 y = some (x',k')∧Acc3 (F ++ F2) M G k' x' x1 x2 t' t1 t2∧k.length ≤ k'.length:=by
 obtain ⟨x',t',k',e,ho,hl,hk⟩:=append_own0 ty318 ty170 (by simp) A.h0 hy (by simp [encL]) (by simp; omega) (by simp; omega)
 obtain ⟨o1,p1⟩:=own_stays A.h1 (fun a b=>(A.n01 b a).symm) hk
 obtain ⟨o2,p2⟩:=own_stays A.h2 (fun a b=>(A.n02 b a).symm) hk
 exact ⟨x',t',k',e,⟨by rw [encL,List.map_append]; exact ho,o1,o2,fun _ h=>p1 h,fun _ h=>p2 h,A.n12⟩,hl⟩
theorem Acc3.app1 {F : List FR} {M M2 G : List Int} {k : List (Nat × Nat)} {x0 x1 x2 y : AV} {t0 t1 t2 : Nat} (A : Acc3 F M G k x0 x1 x2 t0 t1 t2) (hy : elems y = some (encL intF M2)) (hb : M.length + M2.length ≤ 4000000) :
  ∃ x' t' k',opAppend (tyOf Tryz.prog) k 29 x1 y = some (x',k')∧Acc3 F (M ++ M2) G k' x0 x' x2 t0 t' t2∧k.length ≤ k'.length:=by
 obtain ⟨x',t',k',e,ho,hl,hk⟩:=append_own0 ty29 ty3 (by simp) A.h1 hy (by simp [encL]) (by simp; omega) (by simp; omega)
 obtain ⟨o1,p1⟩:=own_stays A.h0 A.n01 hk
 obtain ⟨o2,p2⟩:=own_stays A.h2 (fun a b=>(A.n12 b a).symm) hk
 exact ⟨x',t',k',e,⟨o1,by rw [encL,List.map_append]; exact ho,o2,fun h _=>(p1 h).symm,A.n02,fun _ h=>p2 h⟩,hl⟩
theorem Acc3.app2 {F : List FR} {M G G2 : List Int} {k : List (Nat × Nat)} {x0 x1 x2 y : AV} {t0 t1 t2 : Nat} (A : Acc3 F M G k x0 x1 x2 t0 t1 t2) (hy : elems y = some (encL intF G2)) (hb : G.length + G2.length ≤ 4000000) :
  ∃ x' t' k',opAppend (tyOf Tryz.prog) k 29 x2 y = some (x',k')∧Acc3 F M (G ++ G2) k' x0 x1 x' t0 t1 t'∧k.length ≤ k'.length:=by
 obtain ⟨x',t',k',e,ho,hl,hk⟩:=append_own0 ty29 ty3 (by simp) A.h2 hy (by simp [encL]) (by simp; omega) (by simp; omega)
 obtain ⟨o1,p1⟩:=own_stays A.h0 A.n02 hk
 obtain ⟨o2,p2⟩:=own_stays A.h1 A.n12 hk
 exact ⟨x',t',k',e,⟨o1,o2,by rw [encL,List.map_append]; exact ho,A.n01,fun h _=>(p1 h).symm,fun h _=>(p2 h).symm⟩,hl⟩
theorem retR_none {T : TV} {h0 hh : List (List AV)} {k0 kk : List (Nat × Nat)} {R : AV→List (List AV)→List (Nat × Nat)→Prop} {t : List AV} {e : Exit} (he : e = .normal ∨ e = .ret) (hl : hh.length = h0.length) (hk : k0.length ≤ kk.length) (hb : BelC h0 hh kk.length) (hR : R (.tup []) hh kk) : RetR T [] h0 k0 R e ⟨t,hh,kk⟩ :=
 ⟨he,hh,[],kk,[],.tup [],(List.append_nil _).symm,hl,(List.append_nil _).symm,hk,hb,.inl ⟨rfl,.tup [] fun j y h=>by simp at h⟩,hR⟩
theorem own_bel {k : List (Nat × Nat)} {l : List FV} {sz t n : Nat} {x : AV} (h : OwnT k l sz x t) : Bel n k.length x:=by
 rcases h with ⟨_,rfl⟩ | ⟨_,rfl,h2⟩
 ·exact .f _
 ·exact .own _ _ (List.getElem?_eq_some_iff.1 h2).1
theorem Acc3.bel {F : List FR} {M G : List Int} {k : List (Nat × Nat)} {x0 x1 x2 : AV} {t0 t1 t2 n : Nat} (A : Acc3 F M G k x0 x1 x2 t0 t1 t2) : ∀ z ∈ [x0,x1,x2],Bel n k.length z:=fun z hz=>by
 rcases List.mem_cons.1 hz with rfl | hz
 ·exact own_bel A.h0
 rcases List.mem_cons.1 hz with rfl | hz
 ·exact own_bel A.h1
 obtain rfl:=List.mem_singleton.1 hz
 exact own_bel A.h2
theorem fldsM_len (l : List ExD) : (fldsM l).length ≤ l.length:=by
 have h1:=canR_len (fldsTo l)
 have h2:=fldsTo_len l l.length
 rw [List.take_length] at h2
 exact Nat.le_trans h1 h2
theorem hdrsM_len (l : List ExD) : (hdrsM l).length ≤ l.length:=by
 have h1:=canZ_len (hdrsTo l)
 have h2:=hdrsTo_len l l.length
 rw [List.take_length] at h2
 exact Nat.le_trans h1 h2
theorem expr_x (F : List FR) (M G : List Int) (l : List ExD) (c : Cap) {h : List (List AV)} {k : List (Nat × Nat)} {b t0 t1 t2 : Nat} {x0 x1 x2 : AV} (A : Acc3 F M G k x0 x1 x2 t0 t1 t2) (hb : ix h b = some [x0,x1,x2]) (hl : l.length ≤ 1000000) (hF : F.length ≤ 1000000) (hM : M.length ≤ 1000000) :
  GivesX Tryz.prog 316 [.ref b 0,.f (.sl (encL fEx l) c)] h k (fun y h' k'=>y = .tup []∧∃ y0 y1 u0 u1,h' = h.set b [y0,y1,x2]∧Acc3 (F ++ fldsM l) (M ++ hdrsM l) G k' y0 y1 x2 u0 u1 t2):=by
 have hbl : b < h.length:=(List.getElem?_eq_some_iff.1 hb).1
 have f1:=fldsM_len l
 have f2:=hdrsM_len l
 refine GivesX.of_W Tryz.func316 rfl rfl rfl (by decide) ?_
 refine W.two (W.x mixed (by kernel_rfl) ?_)
 simp [hb]
 refine call_g (exFlds_g l c hl) ?_
 obtain ⟨y0,u0,k1,e,A1,hk1⟩:=A.app0 (elems_ownF (encL fRp (fldsM l))) (by omega)
 simp [-opAppend]
 rw [e]
 simp [-opStore]
 rw [store_own ty318 rfl hb (by simp) A1.h0]
 simp
 have hset : ∀ c,ix (h.set b c) b = some c:=fun c=>List.getElem?_set_self hbl
 refine W.x mixed (by kernel_rfl) ?_
 simp [hset]
 refine call_g (exHdrs_g l c hl) ?_
 obtain ⟨y1,u1,k2,e2,A2,hk2⟩:=A1.app1 (elems_ownF (encL intF (hdrsM l))) (by omega)
 simp [-opAppend]
 rw [e2]
 simp [-opStore]
 rw [store_own ty29 rfl (hset _) (by simp) A2.h1]
 simp
 exact retR_none (.inl rfl) (by simp) (by omega) (.set A2.bel) ⟨rfl,_,_,rfl,_,_,A2⟩
end Go.Proofs.YtejkhflkeoihlaaGreat
namespace Go.Proofs.YtejkhflkeoihlaaGreat
open Go.RowKit Go.Proofs.YtejkhflkeoihlaaGreat.Vf
set_option linter.unusedVariables false
set_option linter.unusedSimpArgs false
set_option maxRecDepth 100000
set_option maxHeartbeats 4000000
def bodyM (d : PrgD) (i : Int) : List StD:=match (if i < 0 then none else d.acts.l[i.toNat]?) with
 | none=>[]
 | some a=>if (actCheckA d a).2 = 0 then a.body.l else []
theorem body_g (d : PrgD) (hn : NmOk d) (i : Int) : ∃ c,Gives Tryz.prog 250 [fPrg d,intF i] (.sl (encL fSt (bodyM d i)) c):=by
 have hg:=act_g d hn i
 rcases actAt (d:=d) i with ⟨c1,hr⟩ | ⟨c1,c2,hr⟩ | ⟨c1,c2,c3,a,ha,ha',hr⟩
 ·have hv : actCheck d i = (-1,8):=by unfold actCheck; rw [hr]
  have hb : bodyM d i = []:=by unfold bodyM; rw [hr]
  rw [hv] at hg
  rw [hb]
  refine ⟨.nil,Gives.of mixed Tryz.func250 rfl rfl rfl (by kernel_rfl) ?_⟩
  simp [fPrg,cPrg]
  refine call_g hg ?_
  simp [encL]
 ·have hv : actCheck d i = (-1,8):=by unfold actCheck; rw [hr]
  have hb : bodyM d i = []:=by unfold bodyM; rw [hr]
  rw [hv] at hg
  rw [hb]
  refine ⟨.nil,Gives.of mixed Tryz.func250 rfl rfl rfl (by kernel_rfl) ?_⟩
  simp [fPrg,cPrg]
  refine call_g hg ?_
  simp [encL]
 ·have hv : actCheck d i = actCheckA d a:=by unfold actCheck; rw [hr]
  have hb : bodyM d i = if (actCheckA d a).2 = 0 then a.body.l else []:=by unfold bodyM; rw [hr]
  rw [hv] at hg
  rw [hb]
  generalize actCheckA d a = r at hg ⊢
  obtain ⟨r1,r2⟩:=r
  by_cases c0 : r2 = 0
  ·refine ⟨.un,Gives.of mixed Tryz.func250 rfl rfl rfl (by kernel_rfl) ?_⟩
   simp [fPrg,cPrg]
   refine call_g hg ?_
   simp [c0,(show (0 : Int) ≤ i by omega),ha,c3]
  ·refine ⟨.nil,Gives.of mixed Tryz.func250 rfl rfl rfl (by kernel_rfl) ?_⟩
   simp [fPrg,cPrg]
   refine call_g hg ?_
   simp [c0,encL]
theorem mapO_imp {α β : Type} {f g : α→Option β} (h : ∀ x y,f x = some y→g x = some y) : ∀ {l : List α} {r : List β},mapO f l = some r→mapO g l = some r
 | [],r,e=>e
 | x :: l,r,e=>by
  simp only [mapO] at e ⊢
  cases hx : f x with
  | none=>simp [hx] at e
  | some y =>
   simp only [hx] at e
   cases hl : mapO f l with
   | none=>simp [hl] at e
   | some ys =>
    simp only [hl] at e
    rw [h x y hx,mapO_imp h hl]
    exact e
theorem fzH_up {n0 : Nat} {h : List (List AV)} : ∀ (n : Nat) {x : AV} {y : FV},fzH n0 h n x = some y→fzH n0 h (n + 1) x = some y:=by
 intro n
 induction n with
 | zero =>
  intro x y e
  cases x <;> first | exact e | cases e
 | succ n ih =>
  intro x y e
  cases x with
  | agg cs =>
   simp only [fzH] at e ⊢
   cases hc : mapO (fzH n0 h n) cs with
   | none=>simp [hc] at e
   | some fs =>
    simp only [hc] at e
    rw [mapO_imp (fun a b=>ih) hc]; exact e
  | tup cs =>
   simp only [fzH] at e ⊢
   cases hc : mapO (fzH n0 h n) cs with
   | none=>simp [hc] at e
   | some fs =>
    simp only [hc] at e
    rw [mapO_imp (fun a b=>ih) hc]; exact e
  | ms b off len cap sz =>
   simp only [fzH] at e ⊢
   cases hb : ix h b with
   | none=>simp [hb] at e
   | some cs =>
    simp only [hb] at e ⊢
    split at e
    ·rename_i hcond
     rw [if_pos hcond]
     cases hc : mapO (fzH n0 h n) ((cs.drop off).take (len * sz)) with
     | none=>simp [hc] at e
     | some fs =>
      simp only [hc] at e
      rw [mapO_imp (fun a b=>ih) hc]; exact e
    ·cases e
  | _=>first | exact e | cases e
theorem fzH_le {n0 : Nat} {h : List (List AV)} {n m : Nat} {x : AV} {y : FV} (hnm : n ≤ m) (e : fzH n0 h n x = some y) : fzH n0 h m x = some y:=by
 induction hnm with
 | refl=>exact e
 | step _ ih=>exact fzH_up _ ih
theorem ret_tri {h : List (List AV)} {x0 x1 x2 : AV} {a b c : FV} (h0 : RetV h x0 (· = a)) (h1 : RetV h x1 (· = b)) (h2 : RetV h x2 (· = c)) : RetV h (.tup [x0,x1,x2]) (· = .tup [a,b,c]):=by
 obtain ⟨n0,_,e0,rfl⟩:=h0
 obtain ⟨n1,_,e1,rfl⟩:=h1
 obtain ⟨n2,_,e2,rfl⟩:=h2
 refine ⟨n0 + n1 + n2 + 1,_,?_,rfl⟩
 simp only [fzH,mapO]
 rw [fzH_le (by omega) e0,fzH_le (by omega) e1,fzH_le (by omega) e2]
structure Tri where
 F : List FR
 M : List Int
 G : List Int
def triE (a : Tri) (l : List ExD) : Tri:=⟨a.F ++ fldsM l,a.M ++ hdrsM l,a.G⟩
def triH (a : Tri) (h : Int) : Tri:=⟨a.F,a.M ++ [h],a.G⟩
def triR (a : Tri) (r : Int) : Tri:=⟨a.F,a.M,a.G ++ [r]⟩
def triF (a : Tri) (l : List FR) : Tri:=⟨a.F ++ l,a.M,a.G⟩
def triC (a : Tri) : Tri:=⟨canR a.F,canZ a.M,canZ a.G⟩
abbrev fTri (a : Tri) : FV:=.tup [ownF (encL fRp a.F),ownF (encL intF a.M),ownF (encL intF a.G)]
def rdStep (a : Tri) (s : StD) : Tri :=
 if s.kind = 1 then (if s.dh = -1 then triE a s.value.l else triH (triE a s.value.l) s.dh)
 else if s.kind = 2 then triH a s.hdr
 else if s.kind = 4 then (if s.dh = -1 then triR (triE a s.index.l) s.reg else triH (triR (triE a s.index.l) s.reg) s.dh)
 else if s.kind = 5 then triE (triE a s.index.l) s.value.l
 else a
def rdTo (l : List StD) : Tri:=l.foldl rdStep ⟨[],[],[]⟩
def actRdM (d : PrgD) (i : Int) : Tri:=triC (rdTo (bodyM d i))
theorem rdTo_next {l : List StD} {i : Nat} {s : StD} (h : l[i]? = some s) : rdTo (l.take (i + 1)) = rdStep (rdTo (l.take i)) s:=by
 unfold rdTo
 rw [← take_one h,List.foldl_append]; rfl
def StOk (d : PrgD) (s : StD) : Prop:=(s.kind = 1 ∨ s.kind = 2 ∨ s.kind = 3 ∨ s.kind = 4 ∨ s.kind = 5)∧((s.kind = 2 ∨ s.kind = 3)→0 ≤ s.hdr∧s.hdr < d.headers.l.length) ∧
  ((s.kind = 1 ∨ s.kind = 5)→s.value.l.length ≤ 24)∧((s.kind = 4 ∨ s.kind = 5)→s.index.l.length ≤ 24)
theorem bodyM_ok (d : PrgD) (i : Int) : (bodyM d i).length ≤ 12∧∀ s ∈ bodyM d i,StOk d s:=by
 unfold bodyM
 split
 ·exact ⟨Nat.zero_le _,fun s hs=>by cases hs⟩
 ·rename_i a _
  split
  ·rename_i h
   obtain ⟨_,h2,h3⟩:=actC_of h
   exact ⟨h2,fun s hs=>stC_of (h3 s hs)⟩
  ·exact ⟨Nat.zero_le _,fun s hs=>by cases hs⟩
def triB (a : Tri) (n : Nat) : Prop:=a.F.length ≤ n∧a.M.length ≤ n∧a.G.length ≤ n
theorem triB.e {a : Tri} {n m : Nat} {l : List ExD} (h : triB a n) (hl : l.length ≤ m) : triB (triE a l) (n + m):=by
 have h1:=fldsM_len l
 have h2:=hdrsM_len l
 obtain ⟨a1,a2,a3⟩:=h
 refine ⟨?_,?_,?_⟩ <;> simp [triE] <;> omega
theorem triB.h {a : Tri} {n : Nat} {x : Int} (h : triB a n) : triB (triH a x) (n + 1):=by
 obtain ⟨a1,a2,a3⟩:=h
 refine ⟨?_,?_,?_⟩ <;> simp [triH] <;> omega
theorem triB.r {a : Tri} {n : Nat} {x : Int} (h : triB a n) : triB (triR a x) (n + 1):=by
 obtain ⟨a1,a2,a3⟩:=h
 refine ⟨?_,?_,?_⟩ <;> simp [triR] <;> omega
theorem triB.mono {a : Tri} {n m : Nat} (h : triB a n) (hn : n ≤ m) : triB a m:=⟨Nat.le_trans h.1 hn,Nat.le_trans h.2.1 hn,Nat.le_trans h.2.2 hn⟩
theorem rdStep_b {d : PrgD} {a : Tri} {s : StD} {n : Nat} (h : triB a n) (hs : StOk d s) : triB (rdStep a s) (n + 50):=by
 obtain ⟨_,_,hv,hi⟩:=hs
 unfold rdStep
 split
 ·rename_i h1
  split
  ·exact (h.e (hv (.inl h1))).mono (by omega)
  ·exact (h.e (hv (.inl h1))).h.mono (by omega)
 split
 ·exact h.h.mono (by omega)
 split
 ·rename_i h1
  split
  ·exact (h.e (hi (.inl h1))).r.mono (by omega)
  ·exact (h.e (hi (.inl h1))).r.h.mono (by omega)
 split
 ·rename_i h1
  exact ((h.e (hi (.inr h1))).e (hv (.inr h1))).mono (by omega)
 ·exact h.mono (by omega)
theorem rdTo_b {d : PrgD} {l : List StD} (h : ∀ s ∈ l,StOk d s) (i : Nat) : triB (rdTo (l.take i)) (50 * i):=by
 induction i with
 | zero=>exact ⟨Nat.zero_le _,Nat.zero_le _,Nat.zero_le _⟩
 | succ i ih =>
  by_cases hi : i < l.length
  ·rw [rdTo_next (List.getElem?_eq_getElem hi)]
   exact rdStep_b ih (h _ (List.getElem_mem hi))
  ·rw [List.take_of_length_le (by omega)] at ih ⊢
   exact ih.mono (by omega)
def rdI (d : PrgD) (l : List StD) (c : Cap) (i : Nat) (s : St) : Prop:=∃ g k x0 x1 x2 t0 t1 t2,Acc3 (rdTo (l.take i)).F (rdTo (l.take i)).M (rdTo (l.take i)).G k x0 x1 x2 t0 t1 t2 ∧
 Vf.Sl [(2,.ref 0 0),(7,.ref 1 0),(12,.f (.sl (encL fSt l) c)),(13,.f (intF l.length)),(14,.f (intF i))] 81 (aPrg d :: [x0,x1,x2] :: g) k s
theorem actReads_g (d : PrgD) (hn : NmOk d) (i : Int) : Gives Tryz.prog 270 [fPrg d,intF i] (fTri (actRdM d i)):=by
 obtain ⟨c,hbody⟩:=body_g d hn i
 obtain ⟨hlen,hok⟩:=bodyM_ok d i
 generalize hl : bodyM d i = l at *
 have hv : actRdM d i = triC (rdTo l):=by unfold actRdM; rw [hl]
 rw [hv]
 clear hv hl
 refine Gives.of_Wd Tryz.func270 rfl rfl rfl (by decide) ?_
 refine Wd.two (W.x mixed (by kernel_rfl) ?_)
 simp [fPrg,cPrg]
 refine Wd.two (W.x mixed (by kernel_rfl) ?_)
 simp
 refine Wd.two (W.two (W.x mixed (by kernel_rfl) ?_))
 simp
 refine call_g hbody ?_
 simp
 refine W.blk (forW l.length (rdI d l c) ⟨[],[],.f (.sl [] .nil),.f (.sl [] .nil),.f (.sl [] .nil),0,0,0,Acc3.start,Sl.of rfl rfl rfl⟩ ?_)
 rintro j ⟨ts,hh,kk⟩ hj ⟨g,k,x0,x1,x2,t0,t1,t2,A,rfl,rfl,f,rfl⟩
 by_cases hlt : j < l.length
 case neg =>
  obtain rfl : j = l.length:=by omega
  rw [List.take_length] at A
  refine W.x mixed (by kernel_rfl) ?_
  simp
  refine Wd.two' (Wd.callD (L1:=[]) (L2:=[_,_,_,_,_,_]) rfl rfl rfl ?_)
  simp
  obtain ⟨b1,b2,b3⟩:=rdTo_b hok l.length
  rw [List.take_length] at b1 b2 b3
  refine ⟨_,_,rfl,_,sorted3_d (rdTo l).F (rdTo l).M (rdTo l).G (by omega) (by omega) (by omega) A.h0 A.h1 A.h2 (fun p q=>A.n01 (by simpa [encL] using p) (by simpa [encL] using q)) (fun p q=>A.n02 (by simpa [encL] using p) (by simpa [encL] using q)) (fun p q=>A.n12 (by simpa [encL] using p) (by simpa [encL] using q)) rfl,?_⟩
  rintro _ h' k' ⟨ts,h2,k2⟩ ⟨z0,z1,z2,rfl,r0,r1,r2⟩ ⟨rfl,rfl,ff,rfl⟩
  simp
  refine Wd.x mixed (by kernel_rfl) ?_
  simp [-retV_tup]
  exact ret_tri r0 r1 r2
 obtain ⟨y,hy,hy'⟩:=nth_of hlt
 have hw:=wrap64 (x:=(j : Int) + 1) (by omega) (by omega)
 obtain ⟨b1,b2,b3⟩:=rdTo_b hok j
 have hs:=hok y (List.mem_of_getElem? hy')
 have hnx:=rdTo_next hy'
 generalize rdTo (l.take j) = T at *
 refine W.two (W.x mixed (by kernel_rfl) ?_)
 simp [hlt]
 refine W.two (W.x mixed (by kernel_rfl) ?_)
 simp
 refine W.two (W.blk (W.two (W.x mixed (by kernel_rfl) ?_)))
 simp [hy,hlt]
 refine W.x mixed (by kernel_rfl) ?_
 obtain ⟨hkind,_,hval,hidx⟩:=hs
 rcases hkind with h1 | h1 | h1 | h1 | h1
 ·have hvl:=hval (.inl h1)
  simp [h1]
  refine call_x (expr_x T.F T.M T.G y.value.l .un A rfl (by omega) (by omega) (by omega)) ?_
  rintro _ _ _ ⟨rfl,y0,y1,u0,u1,rfl,A1⟩
  by_cases hd : y.dh = -1
  ·have hr : rdStep T y = triE T y.value.l:=by rw [rdStep,if_pos h1,if_pos hd]
   rw [hr] at hnx
   simp [hd]
   refine W.x mixed (by kernel_rfl) ?_
   simp [hw]
   exact ⟨_,_,_,_,_,_,_,_,by rw [hnx]; exact A1,Sl.of rfl rfl rfl⟩
  ·have hr : rdStep T y = triH (triE T y.value.l) y.dh:=by rw [rdStep,if_pos h1,if_neg hd]
   rw [hr] at hnx
   have q2:=hdrsM_len y.value.l
   simp [hd,-opAppend,-opStore]
   obtain ⟨z1,v1,k2,e2,A2,hk2⟩:=A1.app1 (M2:=[y.dh]) (y:=.f (.sl [intF y.dh] .full)) rfl (by simp; omega)
   rw [e2]
   simp [-opStore]
   rw [store_own ty29 rfl (cs:=[y0,y1,x2]) rfl (by simp) A2.h1]
   simp
   refine W.x mixed (by kernel_rfl) ?_
   simp [hw]
   exact ⟨_,_,_,_,_,_,_,_,by rw [hnx]; exact A2,Sl.of rfl rfl rfl⟩
 ·have hr : rdStep T y = triH T y.hdr:=by rw [rdStep,if_neg (by omega),if_pos h1]
  rw [hr] at hnx
  simp [h1,-opAppend,-opStore]
  obtain ⟨z1,v1,k2,e2,A2,hk2⟩:=A.app1 (M2:=[y.hdr]) (y:=.f (.sl [intF y.hdr] .full)) rfl (by simp; omega)
  rw [e2]
  simp [-opStore]
  rw [store_own ty29 rfl (cs:=[x0,x1,x2]) rfl (by simp) A2.h1]
  simp [h1]
  refine W.x mixed (by kernel_rfl) ?_
  simp [hw]
  exact ⟨_,_,_,_,_,_,_,_,by rw [hnx]; exact A2,Sl.of rfl rfl rfl⟩
 ·have hr : rdStep T y = T:=by rw [rdStep,if_neg (by omega),if_neg (by omega),if_neg (by omega),if_neg (by omega)]
  rw [hr] at hnx
  simp [h1]
  refine W.x mixed (by kernel_rfl) ?_
  simp [hw]
  exact ⟨_,_,_,_,_,_,_,_,by rw [hnx]; exact A,Sl.of rfl rfl rfl⟩
 ·have hvl:=hidx (.inl h1)
  simp [h1]
  refine call_x (expr_x T.F T.M T.G y.index.l .un A rfl (by omega) (by omega) (by omega)) ?_
  rintro _ _ _ ⟨rfl,y0,y1,u0,u1,rfl,A1⟩
  simp [-opAppend,-opStore]
  obtain ⟨z2,v2,k2,e2,A2,hk2⟩:=A1.app2 (G2:=[y.reg]) (y:=.f (.sl [intF y.reg] .full)) rfl (by simp; omega)
  rw [e2]
  simp [-opStore]
  rw [store_own ty29 rfl (cs:=[y0,y1,x2]) rfl (by simp) A2.h2]
  by_cases hd : y.dh = -1
  ·have hr : rdStep T y = triR (triE T y.index.l) y.reg:=by rw [rdStep,if_neg (by omega),if_neg (by omega),if_pos h1,if_pos hd]
   rw [hr] at hnx
   simp [h1,hd]
   refine W.x mixed (by kernel_rfl) ?_
   simp [hw]
   exact ⟨_,_,_,_,_,_,_,_,by rw [hnx]; exact A2,Sl.of rfl rfl rfl⟩
  ·have hr : rdStep T y = triH (triR (triE T y.index.l) y.reg) y.dh:=by rw [rdStep,if_neg (by omega),if_neg (by omega),if_pos h1,if_neg hd]
   rw [hr] at hnx
   have q2:=hdrsM_len y.index.l
   simp [h1,hd,-opAppend,-opStore]
   obtain ⟨z1,v1,k3,e3,A3,hk3⟩:=A2.app1 (M2:=[y.dh]) (y:=.f (.sl [intF y.dh] .full)) rfl (by simp; omega)
   rw [e3]
   simp [-opStore]
   rw [store_own ty29 rfl (cs:=[y0,y1,z2]) rfl (by simp) A3.h1]
   simp
   refine W.x mixed (by kernel_rfl) ?_
   simp [hw]
   exact ⟨_,_,_,_,_,_,_,_,by rw [hnx]; exact A3,Sl.of rfl rfl rfl⟩
 ·have hr : rdStep T y = triE (triE T y.index.l) y.value.l:=by rw [rdStep,if_neg (by omega),if_neg (by omega),if_neg (by omega),if_pos h1]
  rw [hr] at hnx
  have hvl:=hval (.inr h1)
  have hvi:=hidx (.inr h1)
  have q1:=fldsM_len y.index.l
  have q2:=hdrsM_len y.index.l
  simp [h1]
  refine call_x (expr_x T.F T.M T.G y.index.l .un A rfl (by omega) (by omega) (by omega)) ?_
  rintro _ _ _ ⟨rfl,y0,y1,u0,u1,rfl,A1⟩
  simp
  refine call_x (expr_x _ _ _ y.value.l .un A1 rfl (by omega) (by simp; omega) (by simp; omega)) ?_
  rintro _ _ _ ⟨rfl,z0,z1,v0,v1,rfl,A2⟩
  simp [h1]
  refine W.x mixed (by kernel_rfl) ?_
  simp [hw]
  exact ⟨_,_,_,_,_,_,_,_,by rw [hnx]; exact A2,Sl.of rfl rfl rfl⟩
end Go.Proofs.YtejkhflkeoihlaaGreat
namespace Go.Proofs.YtejkhflkeoihlaaGreat
open Go.RowKit Go.Proofs.YtejkhflkeoihlaaGreat.Vf
set_option linter.unusedVariables false
set_option linter.unusedSimpArgs false
set_option maxRecDepth 100000
set_option maxHeartbeats 4000000
def nFld (d : PrgD) (h : Int) : Nat:=match d.headers.l[h.toNat]? with
 | some x=>x.fields.l.length
 | none=>0
def hdrRefs (h : Int) (n : Nat) : List FR:=(List.range n).map fun (i : Nat)=>((h,(i : Int)) : Int × Int)
def wrStep (d : PrgD) (a : Tri) (s : StD) : Tri :=
 if s.kind = 1 ∨ s.kind = 4 then triF a [(s.dh,s.df)]
 else if s.kind = 2 ∨ s.kind = 3 then triF (triH a s.hdr) (hdrRefs s.hdr (nFld d s.hdr))
 else if s.kind = 5 then triR a s.reg
 else a
def wrTo (d : PrgD) (l : List StD) : Tri:=l.foldl (wrStep d) ⟨[],[],[]⟩
def actWrM (d : PrgD) (i : Int) : Tri:=triC (wrTo d (bodyM d i))
theorem wrTo_next {d : PrgD} {l : List StD} {i : Nat} {s : StD} (h : l[i]? = some s) : wrTo d (l.take (i + 1)) = wrStep d (wrTo d (l.take i)) s:=by
 unfold wrTo
 rw [← take_one h,List.foldl_append]; rfl
theorem triB.f {a : Tri} {n m : Nat} {l : List FR} (h : triB a n) (hl : l.length ≤ m) : triB (triF a l) (n + m):=by
 obtain ⟨a1,a2,a3⟩:=h
 refine ⟨?_,?_,?_⟩ <;> simp [triF] <;> omega
theorem nFld_le {d : PrgD} (hF : ∀ x ∈ d.headers.l,x.fields.l.length ≤ 1000) (h : Int) : nFld d h ≤ 1000:=by
 unfold nFld
 split
 ·rename_i x hx
  exact hF x (List.mem_of_getElem? hx)
 ·omega
theorem hdrRefs_len (h : Int) (n : Nat) : (hdrRefs h n).length = n:=by simp [hdrRefs]
theorem hdrRefs_next (h : Int) (n : Nat) : hdrRefs h (n + 1) = hdrRefs h n ++ [(h,(n : Int))]:=by simp [hdrRefs,List.range_succ]
theorem wrStep_b {d : PrgD} (hF : ∀ x ∈ d.headers.l,x.fields.l.length ≤ 1000) {a : Tri} {s : StD} {n : Nat} (h : triB a n) : triB (wrStep d a s) (n + 1001):=by
 unfold wrStep
 split
 ·exact (h.f (m:=1) (Nat.le_refl _)).mono (by omega)
 split
 ·exact (h.h.f (m:=1000) (by rw [hdrRefs_len]; exact nFld_le hF _)).mono (by omega)
 split
 ·exact h.r.mono (by omega)
 ·exact h.mono (by omega)
theorem wrTo_b {d : PrgD} (hF : ∀ x ∈ d.headers.l,x.fields.l.length ≤ 1000) (l : List StD) (i : Nat) : triB (wrTo d (l.take i)) (1001 * i):=by
 induction i with
 | zero=>exact ⟨Nat.zero_le _,Nat.zero_le _,Nat.zero_le _⟩
 | succ i ih =>
  by_cases hi : i < l.length
  ·rw [wrTo_next (List.getElem?_eq_getElem hi)]
   exact wrStep_b hF ih
  ·rw [List.take_of_length_le (by omega)] at ih ⊢
   exact ih.mono (by omega)
def wrI (d : PrgD) (l : List StD) (c : Cap) (i : Nat) (s : St) : Prop:=∃ g k x0 x1 x2 t0 t1 t2,Acc3 (wrTo d (l.take i)).F (wrTo d (l.take i)).M (wrTo d (l.take i)).G k x0 x1 x2 t0 t1 t2 ∧
 Vf.Sl [(2,.ref 0 0),(7,.ref 1 0),(13,.f (.sl (encL fSt l) c)),(14,.f (intF l.length)),(15,.f (intF i))] 76 (aPrg d :: [x0,x1,x2] :: g) k s
def wrJ (d : PrgD) (l : List StD) (c : Cap) (i : Nat) (T : Tri) (y : StD) (K : Int) (n : Nat) (g : List (List AV)) (q : Nat) (s : St) : Prop:=∃ k x0 x1 x2 t0 t1 t2,Acc3 (T.F ++ hdrRefs y.hdr q) T.M T.G k x0 x1 x2 t0 t1 t2 ∧
 Vf.Sl [(2,.ref 0 0),(7,.ref 1 0),(9,.ref (g.length + 1 + 1) 0),(13,.f (.sl (encL fSt l) c)),(14,.f (intF l.length)),(15,.f (intF i)),(48,.f (intF n)),(49,.f (intF q))] 76 (aPrg d :: [x0,x1,x2] :: (g ++ [[.f (intF K),.f (intF y.dh),.f (intF y.df),.f (intF y.reg),.f (intF y.hdr),.f (sl (encL fEx y.index.l)),.f (sl (encL fEx y.value.l))]])) k s
theorem actWrites_g (d : PrgD) (hn : NmOk d) (hF : ∀ x ∈ d.headers.l,x.fields.l.length ≤ 1000) (i : Int) : Gives Tryz.prog 180 [fPrg d,intF i] (fTri (actWrM d i)):=by
 obtain ⟨c,hbody⟩:=body_g d hn i
 obtain ⟨hlen,hok⟩:=bodyM_ok d i
 generalize hl : bodyM d i = l at *
 have hv : actWrM d i = triC (wrTo d l):=by unfold actWrM; rw [hl]
 rw [hv]
 clear hv hl
 refine Gives.of_Wd Tryz.func180 rfl rfl rfl (by decide) ?_
 refine Wd.two (W.x mixed (by kernel_rfl) ?_)
 simp [fPrg,cPrg]
 refine Wd.two (W.x mixed (by kernel_rfl) ?_)
 simp
 refine Wd.two (W.two (W.x mixed (by kernel_rfl) ?_))
 simp
 refine call_g hbody ?_
 simp
 refine W.blk (forW l.length (wrI d l c) ⟨[],[],.f (.sl [] .nil),.f (.sl [] .nil),.f (.sl [] .nil),0,0,0,Acc3.start,Sl.of rfl rfl rfl⟩ ?_)
 rintro j ⟨ts,hh,kk⟩ hj ⟨g,k,x0,x1,x2,t0,t1,t2,A,rfl,rfl,f,rfl⟩
 by_cases hlt : j < l.length
 case neg =>
  obtain rfl : j = l.length:=by omega
  rw [List.take_length] at A
  refine W.x mixed (by kernel_rfl) ?_
  simp
  refine Wd.two' (Wd.callD (L1:=[]) (L2:=[_,_,_,_,_,_]) rfl rfl rfl ?_)
  simp
  obtain ⟨b1,b2,b3⟩:=wrTo_b hF l l.length
  rw [List.take_length] at b1 b2 b3
  refine ⟨_,_,rfl,_,sorted3_d (wrTo d l).F (wrTo d l).M (wrTo d l).G (by omega) (by omega) (by omega) A.h0 A.h1 A.h2 (fun p q=>A.n01 (by simpa [encL] using p) (by simpa [encL] using q)) (fun p q=>A.n02 (by simpa [encL] using p) (by simpa [encL] using q)) (fun p q=>A.n12 (by simpa [encL] using p) (by simpa [encL] using q)) rfl,?_⟩
  rintro _ h' k' ⟨ts,h2,k2⟩ ⟨z0,z1,z2,rfl,r0,r1,r2⟩ ⟨rfl,rfl,ff,rfl⟩
  simp
  refine Wd.x mixed (by kernel_rfl) ?_
  simp [-retV_tup]
  exact ret_tri r0 r1 r2
 obtain ⟨y,hy,hy'⟩:=nth_of hlt
 have hw:=wrap64 (x:=(j : Int) + 1) (by omega) (by omega)
 obtain ⟨b1,b2,b3⟩:=wrTo_b hF l j
 have hs:=hok y (List.mem_of_getElem? hy')
 have hnx:=wrTo_next (d:=d) hy'
 generalize wrTo d (l.take j) = T at *
 refine W.two (W.x mixed (by kernel_rfl) ?_)
 simp [hlt]
 refine W.two (W.x mixed (by kernel_rfl) ?_)
 simp
 refine W.two (W.blk (W.two (W.x mixed (by kernel_rfl) ?_)))
 simp [hy,hlt]
 refine W.x mixed (by kernel_rfl) ?_
 obtain ⟨hkind,hhdr,_,_⟩:=hs
 have h14 : (y.kind = 1 ∨ y.kind = 4) ∨ (y.kind = 2 ∨ y.kind = 3) ∨ y.kind = 5:=by omega
 rcases h14 with h1 | h1 | h1
 ·have hr : wrStep d T y = triF T [(y.dh,y.df)]:=by rw [wrStep,if_pos h1]
  rw [hr] at hnx
  obtain ⟨z0,v0,k2,e2,A2,hk2⟩:=A.app0 (F2:=[(y.dh,y.df)]) (y:=.f (.sl [fRef y.dh y.df] .full)) rfl (by simp; omega)
  rcases h1 with h1 | h1
  ·simp [h1,-opAppend,-opStore]
   rw [e2]
   simp [-opStore]
   rw [store_own ty318 rfl (cs:=[x0,x1,x2]) rfl (by simp) A2.h0]
   simp
   refine W.x mixed (by kernel_rfl) ?_
   simp [hw]
   exact ⟨_,_,_,_,_,_,_,_,by rw [hnx]; exact A2,Sl.of rfl rfl rfl⟩
  ·simp [h1,-opAppend,-opStore]
   rw [e2]
   simp [-opStore]
   rw [store_own ty318 rfl (cs:=[x0,x1,x2]) rfl (by simp) A2.h0]
   simp
   refine W.x mixed (by kernel_rfl) ?_
   simp [hw]
   exact ⟨_,_,_,_,_,_,_,_,by rw [hnx]; exact A2,Sl.of rfl rfl rfl⟩
 ·have hr : wrStep d T y = triF (triH T y.hdr) (hdrRefs y.hdr (nFld d y.hdr)):=by rw [wrStep,if_neg (by omega),if_pos h1]
  rw [hr] at hnx
  obtain ⟨p1,p2⟩:=hhdr h1
  have p3 : y.hdr.toNat < d.headers.l.length:=by omega
  obtain ⟨hd,hhd,hhd'⟩:=nth_of p3
  have hnf : nFld d y.hdr = hd.fields.l.length:=by unfold nFld; rw [hhd']
  have hnle:=nFld_le hF y.hdr
  obtain ⟨z1,v1,k2,e2,A2,hk2⟩:=A.app1 (M2:=[y.hdr]) (y:=.f (.sl [intF y.hdr] .full)) rfl (by simp; omega)
  have hk : (y.kind = 2 ∨ y.kind = 3):=h1
  rw [hnf] at hnle
  have hA2 : Acc3 ((triH T y.hdr).F ++ hdrRefs y.hdr 0) (triH T y.hdr).M (triH T y.hdr).G k2 x0 z1 x2 t0 v1 t2:=by simpa [hdrRefs,triH] using A2
  rcases h1 with h1 | h1
  all_goals
   simp [h1,-opAppend,-opStore]
   rw [e2]
   simp [-opStore]
   rw [store_own ty29 rfl (cs:=[x0,x1,x2]) rfl (by simp) A2.h1]
   simp [aPrg,p1,p3,hhd]
   refine forW hd.fields.l.length (wrJ d l c j (triH T y.hdr) y _ hd.fields.l.length g) ⟨_,_,_,_,_,_,_,hA2,Sl.of rfl rfl rfl⟩ ?_
   rintro q ⟨ts2,h2,k3⟩ hq ⟨k4,w0,w1,w2,s0,s1,s2,A3,rfl,rfl,ff,rfl⟩
   by_cases hql : q < hd.fields.l.length
   ·have hwq:=wrap64 (x:=(q : Int) + 1) (by omega) (by omega)
    obtain ⟨z0,v0,k5,e3,A4,hk5⟩:=A3.app0 (F2:=[(y.hdr,(q : Int))]) (y:=.f (.sl [fRef y.hdr q] .full)) rfl (by rw [List.length_append,hdrRefs_len]; simp [triH]; omega)
    rw [List.append_assoc,← hdrRefs_next] at A4
    refine W.x mixed (by kernel_rfl) ?_
    simp [hql,-opAppend,-opStore]
    rw [e3]
    simp [-opStore]
    rw [store_own ty318 rfl (cs:=[w0,w1,w2]) rfl (by simp) A4.h0]
    simp [hwq]
    exact ⟨_,_,_,_,_,_,_,A4,Sl.of rfl rfl rfl⟩
   ·obtain rfl : q = hd.fields.l.length:=by omega
    rw [← hnf] at A3
    refine W.x mixed (by kernel_rfl) ?_
    simp
    refine W.x mixed (by kernel_rfl) ?_
    simp [hw]
    exact ⟨_,_,_,_,_,_,_,_,by rw [hnx]; exact A3,Sl.of rfl rfl rfl⟩
 ·have hr : wrStep d T y = triR T y.reg:=by rw [wrStep,if_neg (by omega),if_neg (by omega),if_pos h1]
  rw [hr] at hnx
  obtain ⟨z0,v0,k2,e2,A2,hk2⟩:=A.app2 (G2:=[y.reg]) (y:=.f (.sl [intF y.reg] .full)) rfl (by simp; omega)
  simp [h1,-opAppend,-opStore]
  rw [e2]
  simp [-opStore]
  rw [store_own ty29 rfl (cs:=[x0,x1,x2]) rfl (by simp) A2.h2]
  simp
  refine W.x mixed (by kernel_rfl) ?_
  simp [hw]
  exact ⟨_,_,_,_,_,_,_,_,by rw [hnx]; exact A2,Sl.of rfl rfl rfl⟩
end Go.Proofs.YtejkhflkeoihlaaGreat
