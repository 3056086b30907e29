/- Texts of the proof: ES4. -/
import Derived.Test.YtafenffmgpcjcaaGreatES3
import Derived.WalkKit
import Derived.Below
import Derived.Maps.OwnSet
import Derived.Lib.Hide
namespace Go.Proofs.YtafenffmgpcjcaaGreat
open Go.RowKit Go.Proofs.YtafenffmgpcjcaaGreat.Vf
set_option linter.unusedVariables false
set_option linter.unusedSimpArgs false
set_option maxRecDepth 100000
set_option maxHeartbeats 4000000
theorem nodup_snoc {l : List Int} {t : Int} (h : l.Nodup) (ht : t ∉ l) : (l ++ [t]).Nodup:=by
 rw [List.nodup_append]
 exact ⟨h,by simp,fun x hx y hy=>by
  obtain rfl : y = t:=by simpa using hy
  exact fun e=>ht (e ▸ hx)⟩
theorem nodup_range : ∀ (n : Nat) (l : List Int),l.Nodup→(∀ x ∈ l,0 ≤ x∧x < n)→l.length ≤ n:=by
 intro n
 induction n with
 | zero =>
  intro l _ h
  cases l with
  | nil=>simp
  | cons x l=>have:=h x (List.mem_cons_self ..); omega
 | succ n ih =>
  intro l hd h
  have h1:=ih (l.filter (fun x=>!decide (x = (n : Int)))) (hd.filter _) (fun x hx=>by
   have hx2:=List.mem_filter.1 hx
   have:=h x hx2.1
   have hne : ¬ x = (n : Int):=by simpa using hx2.2
   omega)
  have h2 : ∀ (l : List Int),l.Nodup→l.length ≤ (l.filter (fun x=>!decide (x = (n : Int)))).length + 1:=by
   intro l
   induction l with
   | nil=>intro _; simp
   | cons y l ihl =>
    intro hd
    rw [List.nodup_cons] at hd
    rw [List.filter_cons]
    split
    ·simp only [List.length_cons]; have:=ihl hd.2; omega
    ·rename_i q
     have hy : y = n:=by simpa using q
     have : l.filter (fun x=>!decide (x = (n : Int))) = l:=List.filter_eq_self.2 fun x hx=>by
      simp only [Bool.not_eq_true',decide_eq_false_iff_not]
      intro e
      exact hd.1 (by rw [hy,← e]; exact hx)
     rw [this]
     simp
  have:=h2 l hd
  omega
theorem nodeW (d : PrgD) (x : NodD) (used : List Int) (hu : used.length < 2^62) {c : Cap} : Gives Tryz.prog 156 ([fPrg d,fNod x,.sl (encL intF used) c].map unc) (intF (nodCheckW d x used)):=by
 have:=node_g d x used hu
 rw [fNod_eq] at this ⊢
 exact this
structure CtlS where
 used : List Int
 e : Int
 n : Int
def ctlV (d : PrgD) (s : CtlS) (x : NodD) : Bool × CtlS :=
 if nodCheckW d x s.used ≠ 0 then (false,⟨s.used,nodCheckW d x s.used,s.n⟩) else (true,⟨if nodApplies x then s.used ++ [x.table] else s.used,0,wr (s.n + 1)⟩)
structure CtlI (d : PrgD) (s : CtlS) (h : List (List AV)) (k : List (Nat × Nat)) : Prop where
 nd : s.used.Nodup
 rg : ∀ u ∈ s.used,0 ≤ u∧u < d.tables.l.length
 mem : ∃ u tk,OwnT k (encL intF s.used) 1 u tk∧h = [aPrg d,[.f (intF s.e)],[.f (intF s.n)],[u]]
theorem two_sets {a b c u : List AV} {x y : FV} (r : List (List AV)) (n : Nat) (_ : True:=trivial) : BelC (a :: b :: c :: u :: r) (a :: [.f x] :: [.f y] :: u :: r) n :=
 (BelC.set (h:=a :: b :: c :: u :: r) (b:=1) (cs:=[.f x]) fun z hz=>by simp at hz; subst hz; exact .f _).trans (BelC.set (h:=a :: [.f x] :: c :: u :: r) (b:=2) (cs:=[.f y]) fun z hz=>by simp at hz; subst hz; exact .f _) rfl (Nat.le_refl _)
theorem three_sets {a b c u : List AV} {x y : FV} {l : List FV} {t : Nat} (r : List (List AV)) (n : Nat) (ht : t < n) : BelC (a :: b :: c :: u :: r) (a :: [.f x] :: [.f y] :: [.own l t] :: r) n :=
 (two_sets r n).trans (BelC.set (h:=a :: [.f x] :: [.f y] :: u :: r) (b:=3) (cs:=[.own l t]) fun z hz=>by simp at hz; subst hz; exact .own _ _ ht) rfl (Nat.le_refl _)
theorem ctl_vis (d : PrgD) (hd : d.tables.l.length ≤ 100000) (s : CtlS) (x : NodD) : Vis (CtlI d) 155 [.f (fNod x),.ref 0 0,.ref 3 0,.ref 1 0,.ref 2 0] s (ctlV d s x).2 (ctlV d s x).1:=by
 obtain ⟨used,e,n⟩:=s
 rintro h k ⟨hnd,hrg,u,tk,ho,rfl⟩ ext
 simp only at hnd hrg ho
 have hul : used.length ≤ 100000:=Nat.le_trans (nodup_range _ _ hnd hrg) hd
 by_cases hc : nodCheckW d x used = 0
 case neg =>
  have hV : ctlV d ⟨used,e,n⟩ x = (false,⟨used,nodCheckW d x used,n⟩):=by unfold ctlV; rw [if_pos hc]
  rw [hV]
  refine ⟨[aPrg d,[.f (intF (nodCheckW d x used))],[.f (intF n)],[u]],k,?_,⟨hnd,hrg,u,tk,ho,rfl⟩,rfl,Nat.le_refl _,?_⟩
  ·refine GivesR.of mixed Tryz.func155 rfl rfl rfl (by kernel_rfl) ?_
   rw [fNod_eq]
   obtain ⟨c,hcc⟩:=ownF_is (encL intF used)
   have hfz:=ho.fzA
   rw [hcc] at hfz
   unfold Vf.fzA at hfz
   simp [aPrg,hfz]
   refine call_g (@Gives.weak _ _ [fPrg d,.agg [intF x.kind,intF x.table,sl (encL fEx x.cond.l),sl (encL fNod x.thn.l),sl (encL fNod x.els.l)],.sl (encL intF used) c] _ (by rw [← fNod_eq]; exact nodeW d x used (by omega))) ?_
   simp [hc]
   exact retR_eq rfl (by simp; rfl) (List.append_nil k).symm (by simp) (Nat.le_refl _) (BelC.set (b:=1) fun z hz=>by simp at hz; subst hz; exact .f _)
  ·exact BelC.set (b:=1) fun z hz=>by simp at hz; subst hz; exact .f _
 have hV : ctlV d ⟨used,e,n⟩ x = (true,⟨if nodApplies x then used ++ [x.table] else used,0,wr (n + 1)⟩):=by unfold ctlV; rw [if_neg (by simpa using hc)]
 rw [hV]
 cases ha : nodApplies x with
 | false =>
  refine ⟨[aPrg d,[.f (intF 0)],[.f (intF (wr (n + 1)))],[u]],k,?_,⟨hnd,hrg,u,tk,ho,rfl⟩,rfl,Nat.le_refl _,?_⟩
  ·refine GivesR.of mixed Tryz.func155 rfl rfl rfl (by kernel_rfl) ?_
   rw [fNod_eq]
   obtain ⟨c,hcc⟩:=ownF_is (encL intF used)
   have hfz:=ho.fzA
   rw [hcc] at hfz
   unfold Vf.fzA at hfz
   simp [aPrg,hfz]
   refine call_g (@Gives.weak _ _ [fPrg d,.agg [intF x.kind,intF x.table,sl (encL fEx x.cond.l),sl (encL fNod x.thn.l),sl (encL fNod x.els.l)],.sl (encL intF used) c] _ (by rw [← fNod_eq]; exact nodeW d x used (by omega))) ?_
   simp [hc]
   refine call_g (by rw [← fNod_eq]; exact applies_g x) ?_
   simp [ha]
   exact retR_eq rfl (by simp [wr]; rfl) (List.append_nil k).symm (by simp) (Nat.le_refl _) (two_sets _ _)
  ·exact two_sets _ _
 | true =>
  have hnot : x.table ∉ used∧0 ≤ x.table∧x.table < d.tables.l.length:=by
   have hk : x.kind = 1 ∨ x.kind = 3:=by simpa [nodApplies] using ha
   unfold nodCheckW at hc
   rw [if_pos hk] at hc
   split at hc
   ·cases hc
   ·rename_i h1
    split at hc
    ·cases hc
    ·rename_i h2
     exact ⟨fun hm=>h2 (by simpa using hm),by omega,by omega⟩
  obtain ⟨t',k',e1,ho',hkl,-⟩:=append_own ty29 ty3 (by simp) ho (y:=.f (.sl [intF x.table] .full)) rfl (by simp) (by simp) (by simp; omega) (by simp; omega)
  have htl : t' < k'.length:=ho'.lt (List.append_ne_nil_of_right_ne_nil _ (List.cons_ne_nil _ _))
  refine ⟨[aPrg d,[.f (intF 0)],[.f (intF (wr (n + 1)))],[.own (encL intF used ++ [intF x.table]) t']],k',?_,⟨nodup_snoc hnd hnot.1,?_,_,t',by rw [if_pos rfl,← encL_snoc]; exact ho',rfl⟩,rfl,hkl,?_⟩
  ·refine GivesR.of mixed Tryz.func155 rfl rfl rfl (by kernel_rfl) ?_
   rw [fNod_eq]
   obtain ⟨c,hcc⟩:=ownF_is (encL intF used)
   have hfz:=ho.fzA
   rw [hcc] at hfz
   unfold Vf.fzA at hfz
   simp [aPrg,hfz]
   refine call_g (@Gives.weak _ _ [fPrg d,.agg [intF x.kind,intF x.table,sl (encL fEx x.cond.l),sl (encL fNod x.thn.l),sl (encL fNod x.els.l)],.sl (encL intF used) c] _ (by rw [← fNod_eq]; exact nodeW d x used (by omega))) ?_
   simp [hc]
   refine call_g (by rw [← fNod_eq]; exact applies_g x) ?_
   simp [ha,-opAppend]
   rw [e1]
   simp
   exact retR_eq rfl (by simp [wr]; rfl) (List.append_nil k').symm (by simp) hkl (three_sets _ _ htl)
  ·intro u hu
   simp at hu
   rcases hu with hu | rfl
   ·exact hrg u hu
   ·exact hnot.2
  ·exact three_sets _ _ htl
theorem ctl_run (d : PrgD) (l : List NodD) : ∀ (used : List Int) (n : Nat),(runV (ctlV d) ⟨used,0,wr n⟩ l).2.e = (ctlGoW d l used n).2∧((ctlGoW d l used n).2 ≠ 0→(runV (ctlV d) ⟨used,0,wr n⟩ l).2.n = wr (ctlGoW d l used n).1):=by
 induction l with
 | nil=>intro used n; exact ⟨rfl,fun h=>absurd rfl h⟩
 | cons x l ih =>
  intro used n
  rw [runV,ctlGoW]
  by_cases hc : nodCheckW d x used = 0
  ·have hV : ctlV d ⟨used,0,wr n⟩ x = (true,⟨if nodApplies x then used ++ [x.table] else used,0,wr (wr n + 1)⟩):=by unfold ctlV; rw [if_neg (by simpa using hc)]
   have e1 : ∀ a b : Nat × Int,(if nodCheckW d x used ≠ 0 then a else b) = b:=fun a b=>if_neg (fun h=>h hc)
   rw [hV,if_pos (by rfl),e1]
   have:=ih (if nodApplies x then used ++ [x.table] else used) (n + 1)
   rw [show ((n + 1 : Nat) : Int) = (n : Int) + 1 by omega,← wr_add] at this
   exact this
  ·have hV : ctlV d ⟨used,0,wr n⟩ x = (false,⟨used,nodCheckW d x used,wr n⟩):=by unfold ctlV; rw [if_pos hc]
   rw [hV,if_neg (fun h=>by cases h),if_pos hc]
   exact ⟨rfl,fun _=>rfl⟩
theorem ctl_g (d : PrgD) (hd : d.tables.l.length ≤ 100000) (hB : NodB d.control.l) : Gives Tryz.prog 107 [fPrg d] (two (ctlCheckW d)):=by
 refine Gives.of mixed Tryz.func107 rfl rfl rfl (by kernel_rfl) ?_
 simp [fPrg,cPrg]
 refine call_g (count_g d.control.l hB) ?_
 by_cases c1 : 24 < wr (nodsPre d.control.l).length
 ·have hv : ctlCheckW d = (-1,12):=by unfold ctlCheckW; rw [if_pos c1]
  simp [c1,hv]
 simp [c1]
 refine call_g (nest_g d.control.l hB) ?_
 by_cases c2 : 6 < nodsDeepW d.control.l
 ·have hv : ctlCheckW d = (-1,14):=by unfold ctlCheckW; rw [if_neg c1,if_pos c2]
  simp [c2,hv]
 have hv : ctlCheckW d = if (ctlGoW d (nodsPre d.control.l) [] 0).2 ≠ 0 then (wr (ctlGoW d (nodsPre d.control.l) [] 0).1,(ctlGoW d (nodsPre d.control.l) [] 0).2) else (0,0):=by unfold ctlCheckW; rw [if_neg c1,if_neg c2]
 rw [hv]
 simp [c2]
 obtain ⟨h',k',hg,⟨hnd,hrg,u,tk,ho,rfl⟩,-⟩:=pre_r (ctlV d) (CtlI d) 155 [.ref 0 0,.ref 3 0,.ref 1 0,.ref 2 0] (ctl_vis d hd) d.control.l hB ⟨[],0,wr 0⟩ [aPrg d,[.f (intF 0)],[.f (intF (wr 0))],[.f (.sl [] .nil)]] [] ⟨List.nodup_nil,by simp,_,0,.nil,rfl⟩ []
 have hr:=ctl_run d (nodsPre d.control.l) [] 0
 generalize runV (ctlV d) ⟨[],0,wr 0⟩ (nodsPre d.control.l) = r at *
 generalize ctlGoW d (nodsPre d.control.l) [] 0 = q at *
 have hr1 : r.2.e = q.2:=hr.1
 have hr2 : q.2 ≠ 0→r.2.n = wr q.1:=hr.2
 rw [hr1] at hg
 refine call_r hg ?_
 by_cases h0 : q.2 = 0
 ·simp [h0]
 ·rw [hr2 h0]
  simp [h0]
end Go.Proofs.YtafenffmgpcjcaaGreat
namespace Go.Proofs.YtafenffmgpcjcaaGreat
open Go.RowKit Go.Proofs.YtafenffmgpcjcaaGreat.Vf
open Go.Maps (Keyed)
set_option linter.unusedVariables false
abbrev I64 (x : Int) : Prop:=-9223372036854775808 ≤ x∧x ≤ 9223372036854775807
def Blk (w : World) (g : Nat) (t : TypeId) (cs : Array Value) : Prop:=w.heap[g]? = some (.cells cs t (0,0))
section
variable {w w' : World} {g : Nat} {t : TypeId} {cs : Array Value}
theorem Blk.lt (h : Blk w g t cs) : g < w.heap.size:=(Array.getElem?_eq_some_iff.1 h).1
theorem Blk.cell (h : Blk w g t cs) (i : Nat) : w.cell? ⟨g,i,none⟩ = cs[i]?:=cell_of_row w g i cs t (0,0) h
theorem Blk.frozen (h : Blk w g t cs) (i : Nat) : w.frozen? ⟨g,i,none⟩ = false:=by
 unfold Blk at h
 simp [World.frozen?,h]
theorem Blk.new (w : World) (t : TypeId) (cs : Array Value) : Blk (w.alloc (.cells cs t)) w.heap.size t cs:=heap_alloc_new w _
theorem Blk.set_ (h : Blk w g t cs) (i : Nat) (u : Value) : Blk (w.setCell ⟨g,i,none⟩ u) g t (cs.setIfInBounds i u):=by
 unfold Blk at h ⊢
 simp [World.setCell,Array.getElem?_modify,h]
theorem Blk.below {B : Nat} (h : Blk w g t cs) (hb : Below B w w') (hg : g < B) : Blk w' g t cs:=(hb.block g hg).trans h
end
structure Fr (N : Nat) (w W : World) (l : List (Nat × TypeId × Array Value)) : Prop where
 base : N ≤ w.heap.size
 below : Below N w W
 blk : ∀ x ∈ l,N ≤ x.1∧Blk W x.1 x.2.1 x.2.2
section
variable {N : Nat} {w W W' : World} {l : List (Nat × TypeId × Array Value)}
theorem Fr.start (w : World) : Fr w.heap.size w w []:=⟨Nat.le_refl _,Below.refl _ _,fun x hx=>absurd hx (by simp)⟩
theorem Fr.le (h : Fr N w W l) : N ≤ W.heap.size:=Nat.le_trans h.base h.below.size
theorem Fr.call (h : Fr N w W l) (hb : Below W.heap.size W W') : Fr N w W' l :=
 ⟨h.base,h.below.trans (hb.mono h.le),fun x hx=>⟨(h.blk x hx).1,(h.blk x hx).2.below hb (h.blk x hx).2.lt⟩⟩
theorem Fr.alloc (h : Fr N w W l) (cs : Array Value) (t : TypeId) : Fr N w (W.alloc (.cells cs t)) ((W.heap.size,t,cs) :: l):=by
 have h2:=h.call ((Below.refl _ W).alloc (Nat.le_refl _) (.cells cs t))
 refine ⟨h.base,h2.below,fun x hx=>?_⟩
 rcases List.mem_cons.1 hx with rfl | hx
 ·exact ⟨h.le,Blk.new _ _ _⟩
 ·exact h2.blk x hx
theorem Fr.of_eq (h : Fr N w W l) (e : W' = W) : Fr N w W' l:=e ▸ h
theorem Fr.skip {x : Nat × TypeId × Array Value} (h : Fr N w W (x :: l)) : Fr N w W l:=⟨h.base,h.below,fun y hy=>h.blk y (List.mem_cons_of_mem _ hy)⟩
theorem Fr.cell {g : Nat} {t : TypeId} {cs : Array Value} (h : Fr N w W l) (hm : (g,t,cs) ∈ l) (i : Nat) : W.cell? ⟨g,i,none⟩ = cs[i]?:=(h.blk _ hm).2.cell i
theorem Fr.frozen {g : Nat} {t : TypeId} {cs : Array Value} (h : Fr N w W l) (hm : (g,t,cs) ∈ l) (i : Nat) : W.frozen? ⟨g,i,none⟩ = false:=(h.blk _ hm).2.frozen i
theorem Fr.lt {g : Nat} {t : TypeId} {cs : Array Value} (h : Fr N w W l) (hm : (g,t,cs) ∈ l) : g < W.heap.size:=(h.blk _ hm).2.lt
end
theorem Calls.named {P : Program} {f : FuncId} {args : Array Value} {w : World} {Q : Ending→World→Prop} (h : ∀ W,W = w→Calls P f args W Q) : Calls P f args w Q:=h w rfl
def Sett (P : Program) (w : World) (k e : TypeId) (g n : Nat) (ks : List Lit) : Prop :=
 ∃ D : DataW Unit,w.ownsMap P k (plainElem P e) g n D∧(∀ kl,(kl ∈ ks→D.atKey kl (.lit (.bool false)) = .lit (.bool true))∧(kl ∉ ks→D.atKey kl (.lit (.bool false)) = .lit (.bool false)))
section
variable {P : Program} {w w' : World} {k e t : TypeId} {g n : Nat} {ks : List Lit}
theorem Sett.made (w : World) : Sett P (w.alloc (.map #[] 0)) k e w.heap.size 0 []:=⟨.map [],World.ownsMap_made _ _ _ _,fun kl=>⟨fun h=>absurd h (by simp),fun _=>by simp [DataW.atKey]⟩⟩
theorem Sett.lt (h : Sett P w k e g n ks) : g < w.heap.size:=h.choose_spec.1.lt
theorem Sett.kept {row : Option Nat} (h : Sett P w k e g n ks) (hg : w.grownBy w' row) (hne : some g ≠ row) : Sett P w' k e g n ks:=by
 obtain ⟨D,h1,h2⟩:=h
 exact ⟨D,h1.kept hg hne,h2⟩
theorem Sett.below (h : Sett P w k e g n ks) (hb : Below w.heap.size w w') : Sett P w' k e g n ks :=
 h.kept (row:=none) ⟨hb.os,hb.tape,hb.output,hb.size,fun k hk _=>hb.block k hk⟩ (by simp)
theorem plainElem_bool_inv {v : Value} {x : Bool} {ps : List MemPlace} (he : P.underlying e = some .bool) (h : plainElem (H:=Unit) P e v = some (.lit (.bool x),ps)) : v = .bool x:=by
 unfold plainElem at h
 rw [he] at h
 cases v <;> simp at h
 rw [h.1]
theorem Sett.look (h : Sett P w k e g n ks) (K : Keyed P k) (ht : P.underlying t = some (.map k e)) (he : P.underlying e = some .bool) (hz : (zeroValue e).run P w = .ok (.bool false) w)
  {key : Value} {kl : Lit} (hkey : keyOf P k key = some kl) {b : Bool} (hb : b = true ↔ kl ∈ ks) : (Instr.lookup t (.map (some g)) key false).run P w = .ok (.bool b) w:=by
 obtain ⟨D,h1,h2⟩:=h
 obtain ⟨v,ps,hrun,hv⟩:=h1.lookup K ht hz (plainElem_bool he false) hkey
 cases b with
 | true =>
  rw [(h2 kl).1 (hb.1 rfl)] at hv
  rw [plainElem_bool_inv he hv] at hrun
  exact hrun
 | false =>
  rw [(h2 kl).2 (fun h=>by have:=hb.2 h; cases this)] at hv
  rw [plainElem_bool_inv he hv] at hrun
  exact hrun
theorem Sett.put_ (h : Sett P w k e g n ks) (K : Keyed P k) (ht : P.underlying t = some (.map k e)) (he : P.underlying e = some .bool) (hn : n < maxLen)
  {key : Value} {kl : Lit} (hkey : keyOf P k key = some kl) (hkl : WideAt.IsKeyLit kl) : ∃ w',(Instr.mapUpdate t (.map (some g)) key (.bool true)).run P w = .ok () w'∧Sett P w' k e g (n + 1) (kl :: ks)∧w.grownBy w' (some g):=by
 obtain ⟨D,h1,h2⟩:=h
 obtain ⟨w',hrun,h3,h4⟩:=h1.update K ht hn hkey (plainElem_bool he true)
 refine ⟨w',hrun,⟨_,h3,fun kl'=>?_⟩,h4⟩
 by_cases hk : kl' = kl
 ·subst hk
  rw [Maps.atKey_put_same h1.isMap hkl]
  simp
 ·rw [Maps.atKey_put_other hk]
  simp only [List.mem_cons,hk,false_or]
  exact h2 kl'
end
theorem wpList_put_set {P : Program} (w : World) {ops : Array Oper} {rest : List Oper} {o : Oper} {a : Act} {Q : Exit→Act→World→Prop}
  (hg : o.guard = none) (m x v : Operand) (t : TypeId) (hop : o.op = Op.mapUpdate t m x v) (k e : TypeId) (K : Keyed P k) (ht : P.underlying t = some (.map k e)) (he : P.underlying e = some .bool) (g n : Nat) (ks : List Lit)
  (hm : a.eval m = .map (some g)) (hown : Sett P w k e g n ks) (hn : n < maxLen) (key : Value) (kl : Lit) (hx : a.eval x = key) (hv : a.eval v = .bool true) (hkey : keyOf P k key = some kl) (hkl : WideAt.IsKeyLit kl)
  (hK : ∀ w',Sett P w' k e g (n + 1) (kl :: ks)→w.grownBy w' (some g)→wpList P ops Q rest (a.put o.dst undef) w') : wpList P ops Q (o :: rest) a w:=by
 refine wpList_plain hg fun K' hK'=>?_
 obtain ⟨w',hrun,r1,r2⟩:=hown.put_ K ht he hn hkey hkl
 unfold Oper.wp
 simp [execOp,hop,hm,hx,hv,hrun,Result.andThen]
 exact hK' _ _ (hK w' r1 r2)
abbrev kInt (x : Int) : Lit:=.int .i64 x
abbrev kStr (s : ByteArray) : Lit:=.string s.data.toList
theorem kInt_wf {x : Int} (h : I64 x) : (Lit.int .i64 x).wf = true:=WalkArith.wf_i64 h
theorem mem_kInt (x : Int) (l : List Int) : l.contains x = true ↔ kInt x ∈ l.map kInt:=by
 simp [kInt,List.mem_map]
theorem mem_kStr (s : ByteArray) (l : List ByteArray) : l.any (fun t=>sEq t s) = true ↔ kStr s ∈ l.map kStr:=by
 simp only [List.any_eq_true,List.mem_map,sEq,beq_iff_eq,ByteArray.toList_eq]
 constructor
 ·rintro ⟨x,hx,h⟩
  exact ⟨x,hx,by unfold kStr; rw [h]⟩
 ·rintro ⟨x,hx,h⟩
  exact ⟨x,hx,by unfold kStr at h; injection h⟩
section
variable {N : Nat} {w W : World} {L r : List (Nat × TypeId × Array Value)} {x0 x1 x2 x3 x4 : Nat × TypeId × Array Value}
theorem Fr.name (F : Fr N w W L) : ∃ l,l = L∧Fr N w W l:=⟨_,rfl,F⟩
theorem Fr.at_mem (F : Fr N w W L) (h : x0 ∈ L) : (∀ i,W.cell? ⟨x0.1,i,none⟩ = x0.2.2[i]?)∧x0.1 < W.heap.size∧∀ i,W.frozen? ⟨x0.1,i,none⟩ = false :=
 ⟨fun i=>F.cell h i,F.lt h,fun i=>F.frozen h i⟩
theorem Fr.c0 (F : Fr N w W L) (h : L = x0 :: r) : (∀ i,W.cell? ⟨x0.1,i,none⟩ = x0.2.2[i]?)∧x0.1 < W.heap.size∧∀ i,W.frozen? ⟨x0.1,i,none⟩ = false:=F.at_mem (by rw [h]; exact .head _)
theorem Fr.c1 (F : Fr N w W L) (h : L = x1 :: x0 :: r) : (∀ i,W.cell? ⟨x0.1,i,none⟩ = x0.2.2[i]?)∧x0.1 < W.heap.size∧∀ i,W.frozen? ⟨x0.1,i,none⟩ = false:=F.at_mem (by rw [h]; exact .tail _ (.head _))
end
theorem wp_named {P : Program} {c : Code} {Q : Exit→Act→World→Prop} {a : Act} {w : World} (h : ∀ W,W = w→c.wp P Q a W) : c.wp P Q a w:=h w rfl
theorem Fr.grown {N : Nat} {w W W' : World} {L : List (Nat × TypeId × Array Value)} {g : Nat} (F : Fr N w W L) (hg : W.grownBy W' (some g)) (hN : N ≤ g) (hne : ∀ x ∈ L,x.1 ≠ g) : Fr N w W' L :=
 ⟨F.base,F.below.grown hg F.le (fun k hk=>by injection hk with hk; omega),fun x hx=>⟨(F.blk x hx).1,by
  have h:=(F.blk x hx).2
  unfold Blk at h ⊢
  rw [hg.block x.1 (Array.getElem?_eq_some_iff.1 h).1 (fun e=>hne x hx (by injection e))]
  exact h⟩⟩
theorem Fr.alloc_any {N : Nat} {w W : World} {L : List (Nat × TypeId × Array Value)} (F : Fr N w W L) (o : Obj) : Fr N w (W.alloc o) L:=F.call ((Below.refl _ W).alloc (Nat.le_refl _) o)
end Go.Proofs.YtafenffmgpcjcaaGreat
namespace Go.Proofs.YtafenffmgpcjcaaGreat
open Go.RowKit Go.Proofs.YtafenffmgpcjcaaGreat.Vf
set_option linter.unusedVariables false
section
variable {P : Program} {w W w' : World} {F : Cells} {N : Nat}
def All2 (w : World) (F : Cells) : List FV→List Value→Prop
 | [],[]=>True
 | f :: fs,v :: vs=>Rep w F f v∧All2 w F fs vs
 | _,_=>False
theorem all2_of : ∀ (fs : List FV) (l : List Value),l.length = fs.length→(∀ (j : Nat) y,fs[j]? = some y→∃ u,l[j]? = some u∧Rep w F y u)→All2 w F fs l
 | [],[],_,_=>trivial
 | [],v :: l,h,_=>by simp at h
 | f :: fs,[],h,_=>by simp at h
 | f :: fs,v :: l,h,H=>⟨by obtain ⟨u,h1,h2⟩:=H 0 f rfl; simp at h1; subst h1; exact h2,all2_of fs l (by simpa using h) fun j y hj=>by obtain ⟨u,h1,h2⟩:=H (j + 1) y (by simpa using hj); exact ⟨u,by simpa using h1,h2⟩⟩
theorem All2.get : ∀ {fs : List FV} {l : List Value},All2 w F fs l→l.length = fs.length∧∀ (j : Nat) y,fs[j]? = some y→∃ u,l[j]? = some u∧Rep w F y u
 | [],[],_=>⟨rfl,fun j y h=>by simp at h⟩
 | [],v :: l,h=>h.elim
 | f :: fs,[],h=>h.elim
 | f :: fs,v :: l,h=>by
  obtain ⟨h1,h2⟩:=h.2.get
  refine ⟨by simp [h1],fun j y hj=>?_⟩
  cases j with
  | zero=>simp at hj; subst hj; exact ⟨v,rfl,h.1⟩
  | succ j=>obtain ⟨u,a,b⟩:=h2 j y (by simpa using hj); exact ⟨u,by simpa using a,b⟩
theorem rep_agg {fs : List FV} {v : Value} (h : Rep w F (.agg fs) v) : ∃ l : List Value,v = .agg l.toArray∧All2 w F fs l:=by
 cases h with
 | agg cs a vs ha hv hr=>exact ⟨a.toList,by simp,all2_of fs _ (by simpa using ha) fun j y hj=>⟨vs j,by simpa using hv j y hj,hr j y hj⟩⟩
theorem rep_sl {l : List FV} {c : Cap} {v : Value} (h : Rep w F (.sl l c) v) : ∃ A k,v = .slice A l.length k:=by
 cases h with
 | nil c=>exact ⟨none,0,rfl⟩
 | emp a cap=>exact ⟨a,cap,rfl⟩
 | sl l c b o cap=>exact ⟨_,cap,rfl⟩
theorem rep_sc {u v : Value} (h : Rep w F (.sc u) v) : v = u:=by cases h; rfl
theorem rep_at {l : List FV} {c : Cap} {A : Option Addr} {n k i : Nat} {x : FV} (h : Rep w F (.sl l c) (.slice A n k)) (hi : l[i]? = some x) :
  ∃ b o,A = some ⟨b,o,none⟩∧l.length ≤ k∧∀ j y,x.cells[j]? = some y→∃ u,F b (o + i * x.cells.length + j)∧w.cell? ⟨b,o + i * x.cells.length + j,none⟩ = some u∧Rep w F y u:=by
 cases h with
 | nil c=>simp at hi
 | emp a cap=>simp at hi
 | sl l c b o cap sz vs hc hf hle hz hF hr =>
  refine ⟨b,o,rfl,hle,fun j y hj=>?_⟩
  rw [hz i x hi]
  exact ⟨vs i j,(hF i j x y hi hj).1,(hF i j x y hi hj).2.1,hr i j x y hi hj⟩
theorem keep_below (hF : ∀ b o,F b o→b < N) (hb : Below N w W) : Keep F w W:=fun b o h=>hb.cell (p:=⟨b,o,none⟩) (hF b o h)
theorem calls_of {f : FuncId} {xs : List FV} {r : FV} (hg : Gives P f xs r) {vals : Array Value} (hF : ∀ b o,F b o→b < N) (hN : N ≤ W.heap.size) (hv : All2 W F xs vals.toList) :
  Calls P f vals W fun e w'=>∃ v F',e = .returned v∧Rep w' F' r v∧Below W.heap.size W w':=by
 obtain ⟨h1,h2⟩:=hv.get
 refine (hg.2 W F vals (fun b o h=>Nat.lt_of_lt_of_le (hF b o h) hN) (by simpa using h1) fun j x hj=>?_).mono ?_
 ·obtain ⟨u,a,b⟩:=h2 j x hj
  exact ⟨u,by simpa using a,b⟩
 ·rintro e w' ⟨v,F',rfl,hr,hb,-⟩
  exact ⟨v,F',rfl,hr,hb⟩
theorem calls_of1 {f : FuncId} {xs : List FV} {u : Value} (hg : Gives P f xs (.sc u)) {vals : Array Value} (hF : ∀ b o,F b o→b < N) (hN : N ≤ W.heap.size) (hv : All2 W F xs vals.toList) :
  Calls P f vals W fun e w'=>e = .returned u∧Below W.heap.size W w' :=
 (calls_of hg hF hN hv).mono fun e w' ⟨v,F',he,hr,hb⟩=>⟨by rw [he,rep_sc hr],hb⟩
theorem calls_of2 {f : FuncId} {xs : List FV} {u v : Value} (hg : Gives P f xs (.tup [.sc u,.sc v])) {vals : Array Value} (hF : ∀ b o,F b o→b < N) (hN : N ≤ W.heap.size) (hv : All2 W F xs vals.toList) :
  Calls P f vals W fun e w'=>e = .returned (.tuple #[u,v])∧Below W.heap.size W w' :=
 (calls_of hg hF hN hv).mono fun e w' ⟨x,F',he,hr,hb⟩=>⟨by
  cases hr with
  | tup cs a vs ha hv hr =>
   have h0:=rep_sc (hr 0 _ rfl)
   have h1:=rep_sc (hr 1 _ rfl)
   have g0:=hv 0 _ rfl
   have g1:=hv 1 _ rfl
   rw [h0] at g0
   rw [h1] at g1
   rw [he]
   congr 2
   apply Array.ext_getElem?
   intro i
   match i with
   | 0=>simpa using g0
   | 1=>simpa using g1
   | i + 2=>rw [Array.getElem?_eq_none (by simp at ha; omega)]; simp,hb⟩
theorem of_walk {f : FuncId} {xs : List FV} {u : Value} (hb : HasBody P f) (h : ∀ (w : World) (F : Cells) (vals : Array Value),(∀ b o,F b o→b < w.heap.size)→All2 w F xs vals.toList→Calls P f vals w fun e w'=>e = .returned u∧Below w.heap.size w w') : Gives P f xs (.sc u):=by
 refine ⟨hb,fun w F vals hF hs hv=>(h w F vals hF (all2_of xs _ (by simpa using hs) fun j y hj=>by obtain ⟨u,a,b⟩:=hv j y hj; exact ⟨u,by simpa using a,b⟩)).mono ?_⟩
 rintro e w' ⟨rfl,hbel⟩
 exact ⟨u,F,rfl,.sc u,hbel,fun _ _ h=>h,fun _ _ h=>.inl h,fun b o h=>Nat.lt_of_lt_of_le (hF b o h) hbel.size⟩
end
theorem prg_val {w : World} {F : Cells} {d : PrgD} {v : Value} (h : Rep w F (fPrg d) v) : ∃ a1 c1 a2 c2 a3 c3 a4 c4 a5 c5 a6 c6 a7 c7 a8 c8,
  v = .agg #[.string d.name,.slice a1 d.headers.l.length c1,.slice a2 d.meta_.l.length c2,.slice a3 d.regs.l.length c3,.slice a4 d.acts.l.length c4,.slice a5 d.tables.l.length c5,.slice a6 d.states.l.length c6,.slice a7 d.control.l.length c7,.slice a8 d.dep.l.length c8]∧All2 w F (cPrg d) [.string d.name,.slice a1 d.headers.l.length c1,.slice a2 d.meta_.l.length c2,.slice a3 d.regs.l.length c3,.slice a4 d.acts.l.length c4,.slice a5 d.tables.l.length c5,.slice a6 d.states.l.length c6,.slice a7 d.control.l.length c7,.slice a8 d.dep.l.length c8]:=by
 obtain ⟨l,rfl,hl⟩:=rep_agg h
 match l,hl with
 | [v0,v1,v2,v3,v4,v5,v6,v7,v8],hl =>
  have hl':=hl
  obtain ⟨h0,h1,h2,h3,h4,h5,h6,h7,h8,-⟩:=hl
  obtain rfl:=rep_sc h0
  obtain ⟨a1,c1,rfl⟩:=rep_sl h1
  obtain ⟨a2,c2,rfl⟩:=rep_sl h2
  obtain ⟨a3,c3,rfl⟩:=rep_sl h3
  obtain ⟨a4,c4,rfl⟩:=rep_sl h4
  obtain ⟨a5,c5,rfl⟩:=rep_sl h5
  obtain ⟨a6,c6,rfl⟩:=rep_sl h6
  obtain ⟨a7,c7,rfl⟩:=rep_sl h7
  obtain ⟨a8,c8,rfl⟩:=rep_sl h8
  simp only [encL,List.length_map] at hl' ⊢
  exact ⟨a1,c1,a2,c2,a3,c3,a4,c4,a5,c5,a6,c6,a7,c7,a8,c8,rfl,hl'⟩
end Go.Proofs.YtafenffmgpcjcaaGreat
namespace Go.Proofs.YtafenffmgpcjcaaGreat
open Go.RowKit Go.Proofs.YtafenffmgpcjcaaGreat.Vf
set_option linter.unusedVariables false
theorem kInt_key {x : Int} (h : I64 x) : keyOf Tryz.prog 3 (.int .i64 x) = some (kInt x):=Maps.keyOf_int_mk Tryz.underlying3 (kInt_wf h)
theorem kInt_is {x : Int} (h : I64 x) : WideAt.IsKeyLit (kInt x):=trivial
theorem zeroBool (w : World) : (zeroValue 4).run Tryz.prog w = .ok (.bool false) w:=by kernel_rfl
theorem actScan_at (d : PrgD) {l : List Int} {k : Nat} {a : Int} (h : l[k]? = some a) : actScan d l k = if a < 0 ∨ (d.acts.l.length : Int) ≤ a then some 8 else if (l.take k).contains a then some 7 else none:=by
 unfold actScan
 rw [h]
theorem tblActs_some {d : PrgD} {t : TblD} {k : Nat} {e : Int} (hk : k < t.acts.l.length) (h : ∀ i,i < k→actScan d t.acts.l i = none) (he : actScan d t.acts.l k = some e) : tblActs d t = e:=by
 unfold tblActs
 rw [scan_some hk h he]
theorem tblActs_none {d : PrgD} {t : TblD} (h : ∀ i,i < t.acts.l.length→actScan d t.acts.l i = none) : tblActs d t = if !t.acts.l.contains t.dfl then 8 else callCheck d t.dfl t.args.l:=by
 unfold tblActs
 rw [scan_none h]
theorem take_keys {l : List Int} {k : Nat} {a : Int} (h : l[k]? = some a) : (l.take (k + 1)).reverse.map kInt = kInt a :: (l.take k).reverse.map kInt:=by
 rw [List.take_add_one,h,List.reverse_append]
 rfl
theorem mem_rev (x : Int) (l : List Int) : l.contains x = true ↔ kInt x ∈ l.reverse.map kInt:=by
 rw [mem_kInt,List.map_reverse,List.mem_reverse]
theorem tbl_val {w : World} {F : Cells} {t : TblD} {v : Value} (h : Rep w F (fTbl t) v) : ∃ a1 c1 a2 c2 a4 c4,v = .agg #[.string t.name,.slice a1 t.keys.l.length c1,.slice a2 t.acts.l.length c2,.int .i64 t.dfl,.slice a4 t.args.l.length c4,.int .i64 t.size] ∧
  Rep w F (sl (encL intF t.acts.l)) (.slice a2 t.acts.l.length c2)∧Rep w F (sl (encL u32F t.args.l)) (.slice a4 t.args.l.length c4):=by
 obtain ⟨l,rfl,hl⟩:=rep_agg h
 match l,hl with
 | [v0,v1,v2,v3,v4,v5],hl =>
  obtain ⟨h0,h1,h2,h3,h4,h5,-⟩:=hl
  obtain rfl:=rep_sc h0
  obtain ⟨a1,c1,rfl⟩:=rep_sl h1
  obtain ⟨a2,c2,rfl⟩:=rep_sl h2
  obtain rfl:=rep_sc h3
  obtain ⟨a4,c4,rfl⟩:=rep_sl h4
  obtain rfl:=rep_sc h5
  simp only [encL,List.length_map] at h2 h4 ⊢
  exact ⟨a1,c1,a2,c2,a4,c4,rfl,h2,h4⟩
structure TblOk (t : TblD) : Prop where
 acts : ∀ a ∈ t.acts.l,-9223372036854775808 ≤ a∧a ≤ 9223372036854775807
 dfl : -9223372036854775808 ≤ t.dfl∧t.dfl ≤ 9223372036854775807
 args : t.args.l.length < 2^62
theorem int_at {w W : World} {F : Cells} {N : Nat} {l : List Int} {A : Option Addr} {c i : Nat} {x : Int} (h : Rep w F (sl (encL intF l)) (.slice A l.length c)) (hF : ∀ b o,F b o→b < N) (hb : Below N w W) (hi : l[i]? = some x) :
  ∃ b o,A = some ⟨b,o,none⟩∧b < N∧W.cell? ⟨b,o + i,none⟩ = some (.int .i64 x):=by
 obtain ⟨b,o,rfl,hk,H⟩:=rep_at (i:=i) (x:=intF x) h (by simp [encL,hi])
 obtain ⟨u,h1,h2,h3⟩:=H 0 (intF x) rfl
 have h1' : F b (o + i):=by simpa [FV.cells] using h1
 have h2' : w.cell? ⟨b,o + i,none⟩ = some u:=by simpa [FV.cells] using h2
 rw [rep_sc h3] at h2'
 exact ⟨b,o,rfl,hF _ _ h1',(hb.cell (p:=⟨b,o + i,none⟩) (hF _ _ h1')).trans h2'⟩
theorem checkCall_w (d : PrgD) (act : Int) (args : List Int) (hl : args.length < 2^62) {w W : World} {F : Cells} {N : Nat} {L : List (Nat × TypeId × Array Value)} {v : Value} {A : Option Addr} {c : Nat} (hF : ∀ b o,F b o→b < N) (hr : Fr N w W L) (hP : Rep w F (fPrg d) v) (hG : Rep w F (sl (encL u32F args)) (.slice A args.length c)) :
  Calls Tryz.prog 206 #[v,.agg #[.int .i64 act,.slice A args.length c]] W fun e w'=>e = .returned (.int .i64 (callCheck d act args))∧Below W.heap.size W w':=by
 have hk:=keep_below hF hr.below
 refine calls_of1 (call_ok d act args hl) hF hr.le ⟨hP.mono (fun _ _ h=>h) hk,?_,trivial⟩
 refine .agg _ _ (fun j=>if j = 0 then .int .i64 act else .slice A args.length c) rfl (fun j y hj=>?_) (fun j y hj=>?_)
 ·match j,hj with
  | 0,_=>rfl
  | 1,_=>rfl
  | j + 2,hj=>simp at hj
 ·match j,hj with
  | 0,hj=>simp at hj; subst hj; exact .sc _
  | 1,hj=>simp at hj; subst hj; exact hG.mono (fun _ _ h=>h) hk
  | j + 2,hj=>simp at hj
set_option maxRecDepth 100000 in
set_option maxHeartbeats 2000000 in
theorem tblActs_g (d : PrgD) (t : TblD) (ht : TblOk t) (hl : t.acts.l.length ≤ 1000) (hal : d.acts.l.length ≤ 1000) : Gives Tryz.prog 150 [fPrg d,fTbl t] (intF (tblActs d t)):=by
 refine of_walk ⟨_,Tryz.func150,rfl,by decide⟩ fun w F vals hF hv=>?_
 obtain ⟨vl,rfl⟩ : ∃ l : List Value,vals = l.toArray:=⟨vals.toList,by simp⟩
 match vl,hv with
 | [v0,v1],hv =>
 obtain ⟨h0,h1,-⟩:=hv
 have HP0:=Lib.hid h0
 obtain ⟨a1,c1,a2,c2,a3,c3,a4,c4,a5,c5,a6,c6,a7,c7,a8,c8,rfl,-⟩:=prg_val h0
 obtain ⟨b1,k1,aa,ac,b4,k4,rfl,hA,hG⟩:=tbl_val h1
 have HP:=Lib.hid h0
 clear h0 h1
 obtain ⟨N,hN⟩ : ∃ N,w.heap.size = N:=⟨_,rfl⟩
 rw [hN] at hF
 have F0:=Fr.start w
 rw [hN] at F0
 have HFr:=Lib.hid hF
 have HF0:=Lib.hid F0
 have hmm:=@run_makeMap Tryz.prog
 have HTs:=Lib.hid fun (k : Nat) (e : Int)=>tblActs_some (d:=d) (t:=t) (k:=k) (e:=e)
 have HTn:=Lib.hid (tblActs_none (d:=d) (t:=t))
 have HTo:=Lib.hid ht
 have HG:=Lib.hid hG
 have HA:=Lib.hid hA
 obtain ⟨nm,⟨keys⟩,⟨al⟩,dfl,⟨args⟩,size⟩:=t
 simp only at HA HG HTo hl HTs HTn ⊢
 clear F0 hF ht hA hG
 refine hN ▸ ?_
 go_enter Tryz.func150,Tryz.ntmps150
 go_wp2_with fail
 clear hmm
 refine wp_named ?_
 intro W1 hW1
 have F1:=(((HF0.out.alloc _ _).alloc _ _).alloc_any _).of_eq hW1
 have S1 : Sett Tryz.prog W1 3 4 (N + 2) 0 []:=by
  rw [hW1]
  have h:=Sett.made (P:=Tryz.prog) (k:=3) (e:=4) ((w.alloc (.cells #[.string d.name,.slice a1 d.headers.l.length c1,.slice a2 d.meta_.l.length c2,.slice a3 d.regs.l.length c3,.slice a4 d.acts.l.length c4,.slice a5 d.tables.l.length c5,.slice a6 d.states.l.length c6,.slice a7 d.control.l.length c7,.slice a8 d.dep.l.length c8] 31)).alloc (.cells #[.string nm,.slice b1 keys.length k1,.slice aa al.length ac,.int .i64 dfl,.slice b4 args.length k4,.int .i64 size] 69))
  simp only [World.size_alloc,hN] at h
  exact h
 simp only [World.size_alloc,hN] at F1
 obtain ⟨L,hL,F1⟩:=F1.name
 have HNe:=Lib.hid (show ∀ x ∈ L,x.1 ≠ N + 2 by rw [hL]; simp)
 have HL:=Lib.hid hL
 have HF1:=Lib.hid F1
 have HS1:=Lib.hid S1
 clear hW1 F1 hL S1
 go_loopw [12] (fun i wr=>∃ k : Nat,k ≤ al.length∧i = .int .i64 k∧(∀ j,j < k→actScan d al j = none)∧Fr N w wr L∧Sett Tryz.prog wr 3 4 (N + 2) k ((al.take k).reverse.map kInt)) (fun i _=>al.length - (intOf i).toNat)
 case atStart=>exact ⟨0,Nat.zero_le _,rfl,fun j hj=>absurd hj (by omega),HF1.out,HS1.out⟩
 case round =>
  obtain ⟨k,hk,rfl,hall,F,S⟩:=hrel
  have HAl:=Lib.hid hall
  have HF:=Lib.hid F
  have HS:=Lib.hid S
  clear F hall S
  obtain ⟨g0,l0,f0⟩:=HF.out.c0 HL.out
  obtain ⟨g1,l1,f1⟩:=HF.out.c1 HL.out
  dsimp only at g0 l0 f0 g1 l1 f1
  by_cases hlt : k < al.length
  ·obtain ⟨x,-,hx⟩:=nth_of hlt
   have hxok : I64 x:=HTo.out.acts x (List.mem_of_getElem? hx)
   obtain ⟨b2,off2,hA2,hb2,p0⟩:=int_at (W:=wr) HA.out HFr.out HF.out.below hx
   have HSc:=Lib.hid (actScan_at d hx)
   have HTk:=Lib.hid (take_keys hx)
   have HXo:=Lib.hid hxok
   obtain ⟨q,hq⟩ : ∃ q,(al.take k).contains x = q:=⟨_,rfl⟩
   have hlook:=HS.out.look (Maps.int_keyed Tryz.underlying3) (t:=243) Tryz.underlying243 Tryz.underlying4 (zeroBool _) (kInt_key hxok) (b:=q) (by rw [← hq]; exact mem_rev _ _)
   rw [hq] at HSc
   subst hA2
   clear hx hxok hq
   by_cases c1 : x < 0
   ·have HV2:=Lib.hid (HTs.out k 8 hlt HAl.out (HSc.out.trans (if_pos (.inl c1))))
    clear hlook
    go_wp2_with fail
    go_returns
    exact ⟨by rw [HV2.out]; try rfl,HF.out.below⟩
   ·by_cases c2 : (d.acts.l.length : Int) ≤ x
    ·have HV2:=Lib.hid (HTs.out k 8 hlt HAl.out (HSc.out.trans (if_pos (.inr c2))))
     clear hlook
     go_wp2_with fail
     go_returns
     exact ⟨by rw [HV2.out]; try rfl,HF.out.below⟩
    ·have HSd:=Lib.hid (HSc.out.trans (if_neg (by omega)))
     cases q with
     | true =>
      have HV2:=Lib.hid (HTs.out k 7 hlt HAl.out (HSd.out.trans rfl))
      go_wp2_with fail
      go_returns
      exact ⟨by rw [HV2.out]; try rfl,HF.out.below⟩
     | false =>
      have HNn:=Lib.hid (HSd.out.trans rfl)
      go_wp2_with (at_mapUpdate; refine wpList_put_set _ rfl (.tmp 28) (.tmp 29) (.const (.bool true)) 243 rfl 3 4 (Maps.int_keyed Tryz.underlying3) Tryz.underlying243 Tryz.underlying4 (N + 2) k _ rfl HS.out (by unfold maxLen; omega) _ (kInt x) rfl rfl (kInt_key HXo.out) (kInt_is HXo.out) ?_; intro w5 S5 hg5; have HS5:=Lib.hid S5; have HF5:=Lib.hid (HF.out.grown hg5 (by omega) HNe.out); clear S5 hg5 hlook g0 l0 f0 g1 l1 f1 p0)
      go_roundw
      case rel=>exact ⟨k + 1,by omega,by go_num,fun j hj=>by rcases Nat.lt_succ_iff_lt_or_eq.1 hj with h | h; exact HAl.out j h; rw [h]; exact HNn.out,HF5.out,by rw [HTk.out]; exact HS5.out⟩
      case measure=>simp [intOf]; omega
  ·obtain rfl : k = al.length:=by omega
   have HV:=Lib.hid (HTn.out (fun i hi=>HAl.out i hi))
   have HD:=Lib.hid HTo.out.dfl
   obtain ⟨q,hq⟩ : ∃ q,al.contains dfl = q:=⟨_,rfl⟩
   have hlook:=HS.out.look (Maps.int_keyed Tryz.underlying3) (t:=243) Tryz.underlying243 Tryz.underlying4 (zeroBool _) (kInt_key HD.out) (b:=q) (by rw [← hq,List.take_length]; exact mem_rev _ _)
   simp only at hlook
   rw [hq] at HV
   clear hlt hq
   cases q with
   | false =>
    have HV2:=Lib.hid (HV.out.trans rfl)
    go_wp2_with fail
    go_returns
    exact ⟨by rw [HV2.out]; try rfl,HF.out.below⟩
   | true =>
    have HV2:=Lib.hid (HV.out.trans rfl)
    go_wp2_with fail
    with_reducible refine (checkCall_w d dfl args HTo.out.args HFr.out HF.out HP.out HG.out).mono ?_
    rintro e w5 ⟨rfl,hb5⟩
    have HF5:=Lib.hid (HF.out.call hb5)
    clear hb5 hlook
    clear g0 l0 f0 g1 l1 f1
    go_wp2_with fail
    go_returns
    exact ⟨by rw [HV2.out]; try rfl,HF5.out.below⟩
theorem neq_b {a b : Int} (h : a ≠ b) : (a == b) = false:=by simpa using h
theorem addr_inj {b b' o o' : Nat} (h : (some ⟨b,o,none⟩ : Option Addr) = some ⟨b',o',none⟩) : b = b'∧o = o':=by
 injection h with h; injection h with h1 h2; exact ⟨h1,h2⟩
theorem kStr_key {s : ByteArray} (h : s.size ≤ maxLen) : keyOf Tryz.prog 9 (.string s) = some (kStr s):=WideMaps.keyOf_string_mk Tryz.underlying9 h
def stKeys (l : List StaD) (k : Nat) : List Lit:=(l.take k).reverse.map (fun t=>kStr t.name)
theorem take_names {l : List StaD} {k : Nat} {a : StaD} (h : l[k]? = some a) : stKeys l (k + 1) = kStr a.name :: stKeys l k:=by
 unfold stKeys
 rw [List.take_add_one,h,List.reverse_append]
 rfl
theorem mem_names (s : ByteArray) (l : List StaD) (k : Nat) : (l.take k).any (fun t=>sEq t.name s) = true ↔ kStr s ∈ stKeys l k:=by
 unfold stKeys
 have h:=mem_kStr s ((l.take k).map (·.name))
 rw [List.any_map,List.map_map] at h
 rw [List.map_reverse,List.mem_reverse]
 exact h
theorem staScan_at (d : PrgD) {k : Nat} {s : StaD} (h : d.states.l[k]? = some s) : staScan d k = if !ident s.name then some ((k : Int),-1,6) else if (d.states.l.take k).any (fun t=>sEq t.name s.name) then some ((k : Int),-1,7)
  else if (staCheck d k s).2 = 0 then none else some ((k : Int),(staCheck d k s).1,(staCheck d k s).2):=by
 unfold staScan
 rw [h]
theorem parCheck_some {d : PrgD} (h0 : d.states.l.length ≠ 0) (h12 : d.states.l.length ≤ 12) {k : Nat} {e : Int × Int × Int} (hk : k < d.states.l.length) (h : ∀ i,i < k→staScan d i = none) (he : staScan d k = some e) : parCheck d = e:=by
 unfold parCheck
 rw [if_neg h0,if_neg (by omega),scan_some hk h he]
 rfl
theorem parCheck_none {d : PrgD} (h0 : d.states.l.length ≠ 0) (h12 : d.states.l.length ≤ 12) (h : ∀ i,i < d.states.l.length→staScan d i = none) : parCheck d = (0,0,0):=by
 unfold parCheck
 rw [if_neg h0,if_neg (by omega),scan_none h]
 rfl
theorem sta_at {w W : World} {F : Cells} {N : Nat} {l : List StaD} {A : Option Addr} {c i : Nat} {x : StaD} (h : Rep w F (sl (encL fSta l)) (.slice A l.length c)) (hF : ∀ b o,F b o→b < N) (hb : Below N w W) (hi : l[i]? = some x) :
  ∃ b o,A = some ⟨b,o,none⟩∧b < N∧∃ e1 k1 e5 k5,W.cell? ⟨b,o + i * 7,none⟩ = some (.string x.name)∧W.cell? ⟨b,o + i * 7 + 1,none⟩ = some (.slice e1 x.extract.l.length k1)∧W.cell? ⟨b,o + i * 7 + 2,none⟩ = some (.bool x.sel)∧W.cell? ⟨b,o + i * 7 + 3,none⟩ = some (.int .i64 x.onh)∧W.cell? ⟨b,o + i * 7 + 4,none⟩ = some (.int .i64 x.onf)∧W.cell? ⟨b,o + i * 7 + 5,none⟩ = some (.slice e5 x.cases.l.length k5)∧W.cell? ⟨b,o + i * 7 + 6,none⟩ = some (.int .i64 x.dfl):=by
 obtain ⟨b,o,rfl,hk,H⟩:=rep_at (i:=i) (x:=fSta x) h (by simp [encL,hi])
 have key : ∀ j y,(fSta x).cells[j]? = some y→∃ u,b < N∧W.cell? ⟨b,o + i * 7 + j,none⟩ = some u∧Rep w F y u:=fun j y hj=>by
  obtain ⟨u,h1,h2,h3⟩:=H j y hj
  exact ⟨u,hF _ _ h1,(hb.cell (p:=⟨b,o + i * 7 + j,none⟩) (hF _ _ h1)).trans h2,h3⟩
 obtain ⟨u0,hN,q0,r0⟩:=key 0 _ rfl
 obtain ⟨u1,-,q1,r1⟩:=key 1 _ rfl
 obtain ⟨u2,-,q2,r2⟩:=key 2 _ rfl
 obtain ⟨u3,-,q3,r3⟩:=key 3 _ rfl
 obtain ⟨u4,-,q4,r4⟩:=key 4 _ rfl
 obtain ⟨u5,-,q5,r5⟩:=key 5 _ rfl
 obtain ⟨u6,-,q6,r6⟩:=key 6 _ rfl
 obtain rfl:=rep_sc r0
 obtain ⟨e1,k1,rfl⟩:=rep_sl r1
 obtain rfl:=rep_sc r2
 obtain rfl:=rep_sc r3
 obtain rfl:=rep_sc r4
 obtain ⟨e5,k5,rfl⟩:=rep_sl r5
 obtain rfl:=rep_sc r6
 simp only [encL,List.length_map] at q1 q5
 exact ⟨b,o,rfl,hN,e1,k1,e5,k5,q0,q1,q2,q3,q4,q5,q6⟩
theorem ident_w (s : ByteArray) (hs : s.size < 2^62) {w W : World} {F : Cells} {N : Nat} {L : List (Nat × TypeId × Array Value)} (hF : ∀ b o,F b o→b < N) (hr : Fr N w W L) :
  Calls Tryz.prog 141 #[.string s] W fun e w'=>e = .returned (.bool (ident s))∧Below W.heap.size W w' :=
 calls_of1 (ident_g s hs) hF hr.le ⟨.sc _,trivial⟩
theorem checkState_w (d : PrgD) (k : Nat) (x : StaD) (hx : d.states.l[k]? = some x) {w W : World} {F : Cells} {N : Nat} {L : List (Nat × TypeId × Array Value)} {v : Value} (hF : ∀ b o,F b o→b < N) (hr : Fr N w W L) (hP : Rep w F (fPrg d) v) :
  Calls Tryz.prog 151 #[v,.int .i64 k] W fun e w'=>e = .returned (.tuple #[.int .i64 (staCheck d k x).1,.int .i64 (staCheck d k x).2])∧Below W.heap.size W w' :=
 calls_of2 (sta_g d k x hx) hF hr.le ⟨hP.mono (fun _ _ h=>h) (keep_below hF hr.below),.sc _,trivial⟩
theorem of_walk3 {P : Program} {f : FuncId} {xs : List FV} {a b c : Value} (hb : HasBody P f) (h : ∀ (w : World) (F : Cells) (vals : Array Value),(∀ b o,F b o→b < w.heap.size)→All2 w F xs vals.toList→Calls P f vals w fun e w'=>e = .returned (.tuple #[a,b,c])∧Below w.heap.size w w') : Gives P f xs (.tup [.sc a,.sc b,.sc c]):=by
 refine ⟨hb,fun w F vals hF hs hv=>(h w F vals hF (all2_of xs _ (by simpa using hs) fun j y hj=>by obtain ⟨u,a,b⟩:=hv j y hj; exact ⟨u,by simpa using a,b⟩)).mono ?_⟩
 rintro e w' ⟨rfl,hbel⟩
 refine ⟨.tuple #[a,b,c],F,rfl,.tup _ _ (fun j=>if j = 0 then a else if j = 1 then b else c) rfl (fun j y hj=>?_) (fun j y hj=>?_),hbel,fun _ _ h=>h,fun _ _ h=>.inl h,fun b o h=>Nat.lt_of_lt_of_le (hF b o h) hbel.size⟩
 ·match j,hj with
  | 0,_=>rfl
  | 1,_=>rfl
  | 2,_=>rfl
  | j + 3,hj=>simp at hj
 ·match j,hj with
  | 0,hj=>simp at hj; subst hj; exact .sc _
  | 1,hj=>simp at hj; subst hj; exact .sc _
  | 2,hj=>simp at hj; subst hj; exact .sc _
  | j + 3,hj=>simp at hj
abbrev trip3 (p : Int × Int × Int) : FV:=.tup [intF p.1,intF p.2.1,intF p.2.2]
set_option maxRecDepth 100000 in
set_option maxHeartbeats 2000000 in
theorem par_g (d : PrgD) (hn : NmOk d) (hsl : d.states.l.length ≤ 9223372036854775807) : Gives Tryz.prog 106 [fPrg d] (trip3 (parCheck d)):=by
 refine of_walk3 ⟨_,Tryz.func106,rfl,by decide⟩ fun w F vals hF hv=>?_
 obtain ⟨vl,rfl⟩ : ∃ l : List Value,vals = l.toArray:=⟨vals.toList,by simp⟩
 match vl,hv with
 | [v0],hv =>
 obtain ⟨h0,-⟩:=hv
 obtain ⟨a1,c1,a2,c2,a3,c3,a4,c4,a5,c5,a6,c6,a7,c7,a8,c8,rfl,hv⟩:=prg_val h0
 have HA:=Lib.hid (show Rep w F (sl (encL fSta d.states.l)) (.slice a6 d.states.l.length c6) from hv.2.2.2.2.2.2.1)
 have HP:=Lib.hid h0
 clear h0 hv
 obtain ⟨N,hN⟩ : ∃ N,w.heap.size = N:=⟨_,rfl⟩
 rw [hN] at hF
 have F0:=Fr.start w
 rw [hN] at F0
 have HFr:=Lib.hid hF
 have HF0:=Lib.hid F0
 have HNm:=Lib.hid hn
 have hmm:=@run_makeMap Tryz.prog
 clear F0 hF hn
 refine hN ▸ ?_
 by_cases q0 : d.states.l.length = 0
 ·have c0' : ((d.states.l.length : Int) == 0) = true:=by simp [q0]
  have HV:=Lib.hid (show parCheck d = (-1,-1,8) by unfold parCheck; rw [if_pos q0])
  clear q0
  go_enter Tryz.func106,Tryz.ntmps106
  go_wp2_with fail
  go_returns
  exact ⟨by rw [HV.out]; try rfl,(Below.refl _ _).alloc (Nat.le_of_eq hN.symm) _⟩
 ·have c0' : ((d.states.l.length : Int) == 0) = false:=neq_b (by omega)
  by_cases q1 : 12 < d.states.l.length
  ·have c1' : decide ((12 : Int) < d.states.l.length) = true:=by simp; omega
   have HV:=Lib.hid (show parCheck d = (-1,-1,12) by unfold parCheck; rw [if_neg q0,if_pos q1])
   clear q0 q1
   go_enter Tryz.func106,Tryz.ntmps106
   go_wp2_with fail
   go_returns
   exact ⟨by rw [HV.out]; try rfl,(Below.refl _ _).alloc (Nat.le_of_eq hN.symm) _⟩
  ·have c1' : decide ((12 : Int) < d.states.l.length) = false:=by simp; omega
   have HVs:=Lib.hid fun (k : Nat) (e : Int × Int × Int)=>parCheck_some (d:=d) q0 (by omega) (k:=k) (e:=e)
   have HVn:=Lib.hid (parCheck_none (d:=d) q0 (by omega))
   have h12 : d.states.l.length ≤ 12:=by omega
   obtain ⟨b2,off2,hA2⟩ : ∃ b o,a6 = some ⟨b,o,none⟩:=by
    obtain ⟨x0,-,hx0⟩:=nth_of (show 0 < d.states.l.length by omega)
    obtain ⟨b,o,h,-⟩:=sta_at (W:=w) HA.out HFr.out (hN ▸ Below.refl _ _) hx0
    exact ⟨b,o,h⟩
   subst hA2
   clear q0 q1
   go_enter Tryz.func106,Tryz.ntmps106
   go_wp2_with fail
   clear hmm
   refine wp_named ?_
   intro W1 hW1
   have F1:=((HF0.out.alloc _ _).alloc_any _).of_eq hW1
   have S1 : Sett Tryz.prog W1 9 4 (N + 1) 0 []:=by
    rw [hW1]
    have h:=Sett.made (P:=Tryz.prog) (k:=9) (e:=4) (w.alloc (.cells #[.string d.name,.slice a1 d.headers.l.length c1,.slice a2 d.meta_.l.length c2,.slice a3 d.regs.l.length c3,.slice a4 d.acts.l.length c4,.slice a5 d.tables.l.length c5,.slice (some ⟨b2,off2,none⟩) d.states.l.length c6,.slice a7 d.control.l.length c7,.slice a8 d.dep.l.length c8] 31))
    simp only [World.size_alloc,hN] at h
    exact h
   simp only [hN] at F1
   obtain ⟨L,hL,F1⟩:=F1.name
   have HNe:=Lib.hid (show ∀ x ∈ L,x.1 ≠ N + 1 by rw [hL]; simp)
   have HL:=Lib.hid hL
   have HF1:=Lib.hid F1
   have HS1:=Lib.hid S1
   clear hW1 F1 hL S1
   go_loopw [24] (fun i wr=>∃ k : Nat,k ≤ d.states.l.length∧i = .int .i64 k∧(∀ j,j < k→staScan d j = none)∧Fr N w wr L∧Sett Tryz.prog wr 9 4 (N + 1) k (stKeys d.states.l k)) (fun i _=>d.states.l.length - (intOf i).toNat)
   case atStart=>exact ⟨0,Nat.zero_le _,rfl,fun j hj=>absurd hj (by omega),HF1.out,HS1.out⟩
   case round =>
    obtain ⟨k,hk,rfl,hall,F,S⟩:=hrel
    have HAl:=Lib.hid hall
    have HF:=Lib.hid F
    have HS:=Lib.hid S
    clear F hall S
    obtain ⟨g0,l0,f0⟩:=HF.out.c0 HL.out
    dsimp only at g0 l0 f0
    by_cases hlt : k < d.states.l.length
    ·obtain ⟨x,-,hx⟩:=nth_of hlt
     have hxok:=HNm.out.states x (List.mem_of_getElem? hx)
     obtain ⟨b3,off3,hA3,hb2,e1,k1,e5,k5,p0,p1,p2,p3,p4,p5,p6⟩:=sta_at (W:=wr) HA.out HFr.out HF.out.below hx
     obtain ⟨rfl,rfl⟩:=addr_inj hA3
     have HSc:=Lib.hid (staScan_at d hx)
     have HTk:=Lib.hid (take_names hx)
     have HXn:=Lib.hid hxok
     have HXx:=Lib.hid hx
     have hk1 : (k : Int) < d.states.l.length:=by omega
     have hsz : N + 1 < wr.heap.size:=HS.out.lt
     clear hx hxok hA3
     go_wp2_with fail
     refine Calls.named ?_
     intro W4 hW4
     have hb4 : Below wr.heap.size wr W4:=by rw [hW4]; exact (Below.refl _ _).alloc (Nat.le_refl _) _
     obtain ⟨cB,hcB⟩ : ∃ c,wr.heap.size = c:=⟨_,rfl⟩
     have F4:=(HF.out.alloc _ _).of_eq hW4
     rw [hcB] at F4
     obtain ⟨L4,hL4,F4⟩:=F4.name
     have HF4:=Lib.hid F4
     have HL4:=Lib.hid (hL4.trans (by rw [HL.out]))
     have HS4:=Lib.hid (HS.out.below hb4)
     have HNe4:=Lib.hid (show ∀ x ∈ L4,x.1 ≠ N + 1 by rw [hL4]; intro x hx; rcases List.mem_cons.1 hx with rfl | hx; (show cB ≠ N + 1; omega); exact HNe.out x hx)
     have HSub:=Lib.hid (show ∀ W',Fr N w W' L4→Fr N w W' L by rw [hL4]; intro W' h; exact h.skip)
     simp only [hcB] at l0 hsz ⊢
     clear g0 l0 f0
     clear hW4 F4 hL4 hb4 p0 p1 p2 p3 p4 p5 p6 HF HS hcB
     with_reducible refine (ident_w x.name HXn.out HFr.out HF4.out).mono ?_
     rintro e w5 ⟨rfl,hb5⟩
     have HF4':=Lib.hid (HF4.out.call hb5)
     have HS4':=Lib.hid (HS4.out.below hb5)
     clear hb5 HF4 HS4
     have HF4:=HF4'
     have HS4:=HS4'
     clear HF4' HS4'
     obtain ⟨g0,l0,f0⟩:=HF4.out.c0 HL4.out
     obtain ⟨g1,l1,f1⟩:=HF4.out.c1 HL4.out
     dsimp only at g0 l0 f0 g1 l1 f1
     obtain ⟨z,hz⟩ : ∃ z,ident x.name = z:=⟨_,rfl⟩
     have hv:=HSc.out
     rw [hz] at hv ⊢
     have HSd:=Lib.hid hv
     clear hv hz HSc
     cases z with
     | false =>
      have HV2:=Lib.hid (HVs.out k _ hlt HAl.out (HSd.out.trans (if_pos rfl)))
      go_wp2_with fail
      go_returns
      exact ⟨by rw [HV2.out]; try rfl,HF4.out.below⟩
     | true =>
      have HSe:=Lib.hid (HSd.out.trans (if_neg (by simp)))
      obtain ⟨q,hq⟩ : ∃ q,(d.states.l.take k).any (fun t=>sEq t.name x.name) = q:=⟨_,rfl⟩
      have hlook:=HS4.out.look (Maps.string_keyed Tryz.underlying9) (t:=207) Tryz.underlying207 Tryz.underlying4 (zeroBool _) (kStr_key (Nat.le_of_lt (Nat.lt_of_lt_of_le HXn.out (by decide)))) (b:=q) (by rw [← hq]; exact mem_names _ _ _)
      have hv:=HSe.out
      rw [hq] at hv
      have HSf:=Lib.hid hv
      clear hv hq HSe HSd
      cases q with
      | true =>
       have HV2:=Lib.hid (HVs.out k _ hlt HAl.out (HSf.out.trans rfl))
       go_wp2_with fail
       go_returns
       exact ⟨by rw [HV2.out]; try rfl,HF4.out.below⟩
      | false =>
       have HSg:=Lib.hid (HSf.out.trans (if_neg (by simp)))
       go_wp2_with (at_mapUpdate; refine wpList_put_set _ rfl (.tmp 41) (.tmp 43) (.const (.bool true)) 207 rfl 9 4 (Maps.string_keyed Tryz.underlying9) Tryz.underlying207 Tryz.underlying4 (N + 1) k _ rfl HS4.out (by unfold maxLen; omega) _ (kStr x.name) rfl rfl (kStr_key (Nat.le_of_lt (Nat.lt_of_lt_of_le HXn.out (by decide)))) trivial ?_; intro w6 S5 hg5; have HS5:=Lib.hid S5; have HF5:=Lib.hid (HF4.out.grown hg5 (by omega) HNe4.out); clear S5 hg5 hlook g0 l0 f0 g1 l1 f1; obtain ⟨g0,l0,f0⟩:=HF5.out.c0 HL4.out; obtain ⟨g1,l1,f1⟩:=HF5.out.c1 HL4.out; dsimp only at g0 l0 f0 g1 l1 f1)
       with_reducible refine (checkState_w d k x HXx.out HFr.out HF5.out HP.out).mono ?_
       rintro e w7 ⟨rfl,hb6⟩
       have HF6:=Lib.hid (HSub.out _ (HF5.out.call hb6))
       have HS6:=Lib.hid (HS5.out.below hb6)
       obtain ⟨⟨z1,z2⟩,hz⟩ : ∃ z,staCheck d k x = z:=⟨_,rfl⟩
       have hv:=HSg.out
       rw [hz] at hv ⊢
       have HV4:=Lib.hid hv
       clear hb6 hz hv g0 l0 f0 g1 l1 f1 HSg
       dsimp only
       by_cases e0 : z2 = 0
       ·subst e0
        have HNn:=Lib.hid (HV4.out.trans (if_pos rfl))
        go_wp2_with fail
        go_roundw
        case rel=>exact ⟨k + 1,by omega,by go_num,fun j hj=>by rcases Nat.lt_succ_iff_lt_or_eq.1 hj with h | h; exact HAl.out j h; rw [h]; exact HNn.out,HF6.out,by rw [HTk.out]; exact HS6.out⟩
        case measure=>simp [intOf]; omega
       ·have e0' : (z2 != 0) = true:=by simp [e0]
        have HV2:=Lib.hid (HVs.out k _ hlt HAl.out (HV4.out.trans (if_neg e0)))
        clear e0
        go_wp2_with fail
        go_returns
        exact ⟨by rw [HV2.out]; try rfl,HF6.out.below⟩
    ·obtain rfl : k = d.states.l.length:=by omega
     have HV2:=Lib.hid (HVn.out (fun i hi=>HAl.out i hi))
     clear hlt
     go_wp2_with fail
     go_returns
     exact ⟨by rw [HV2.out]; try rfl,HF.out.below⟩
set_option linter.unusedSimpArgs false
set_option maxHeartbeats 4000000
set_option maxRecDepth 100000
theorem tblAt {d : PrgD} (r : Int) : (r < 0∧(if r < 0 then none else d.tables.l[r.toNat]?) = none) ∨ (¬ r < 0∧(d.tables.l.length : Int) ≤ r∧(if r < 0 then none else d.tables.l[r.toNat]?) = none) ∨ (0 ≤ r∧¬ r < 0∧¬ (d.tables.l.length : Int) ≤ r∧r.toNat < d.tables.l.length∧∃ y,nth d.tables.l r.toNat = some y∧d.tables.l[r.toNat]? = some y∧(if r < 0 then none else d.tables.l[r.toNat]?) = some y):=by
 by_cases c1 : r < 0
 ·exact .inl ⟨by omega,if_pos c1⟩
 ·by_cases c2 : r < d.tables.l.length
  ·obtain ⟨y,hr,hr'⟩:=nth_of (show r.toNat < d.tables.l.length by omega)
   exact .inr (.inr ⟨by omega,by omega,by omega,by omega,y,hr,hr',by rw [if_neg c1]; exact hr'⟩)
  ·exact .inr (.inl ⟨by omega,by omega,by rw [if_neg c1]; exact List.getElem?_eq_none (by omega)⟩)
theorem tbl_g (d : PrgD) (hn : NmOk d) (ht : ∀ t ∈ d.tables.l,TblOk t) (hal : d.acts.l.length ≤ 1000) (r : Int) : Gives Tryz.prog 105 [fPrg d,intF r] (two (tblCheck d r)):=by
 refine Gives.of mixed Tryz.func105 rfl rfl rfl (by kernel_rfl) ?_
 rcases tblAt (d:=d) r with ⟨c1,hr⟩ | ⟨c1,c2,hr⟩ | ⟨c0,c1,c2,c3,t,hx,hx',hr⟩
 ·have hv : tblCheck d r = (-1,8):=by unfold tblCheck; rw [hr]
  simp [c1,fPrg,cPrg,hv]
 ·have hv : tblCheck d r = (-1,8):=by unfold tblCheck; rw [hr]
  simp [c1,c2,fPrg,cPrg,hv]
 have hv : tblCheck d r = tblCheckA d t:=by unfold tblCheck; rw [hr]
 rw [hv]
 have hm:=List.mem_of_getElem? hx'
 simp [c0,c1,c2,c3,hx,fPrg,cPrg]
 refine call_g (ident_g t.name (hn.tables t hm)) ?_
 have hA : tblCheckA d t = if !ident t.name then (-1,6) else if 6 < t.keys.l.length ∨ 16 < t.acts.l.length then (-1,12) else if t.size < 1 ∨ 256 < t.size then (-1,9)
  else if (keysCheck d t.keys.l).2 ≠ 0 then keysCheck d t.keys.l else if tblActs d t ≠ 0 then (-3,tblActs d t) else (0,0):=rfl
 cases h1 : ident t.name with
 | false =>
  rw [h1] at hA
  have hA : tblCheckA d t = (-1,6):=hA
  simp [hA]
 | true =>
 rw [h1,if_neg (by decide)] at hA
 by_cases k1 : 6 < t.keys.l.length
 ·have k1' : 6 < (t.keys.l.length : Int):=by omega
  rw [if_pos (.inl k1)] at hA
  simp [k1,k1',hA]
 have k1' : ¬ 6 < (t.keys.l.length : Int):=by omega
 by_cases k2 : 16 < t.acts.l.length
 ·have k2' : 16 < (t.acts.l.length : Int):=by omega
  rw [if_pos (.inr k2)] at hA
  simp [k1,k1',k2,k2',hA]
 have k2' : ¬ 16 < (t.acts.l.length : Int):=by omega
 rw [if_neg (by omega)] at hA
 by_cases k3 : t.size < 1
 ·rw [if_pos (.inl k3)] at hA
  simp [k1,k1',k2,k2',k3,hA]
 by_cases k4 : 256 < t.size
 ·rw [if_pos (.inr k4)] at hA
  simp [k1,k1',k2,k2',k3,k4,hA]
 rw [if_neg (by omega)] at hA
 simp [k1,k1',k2,k2',k3,k4]
 refine call_g (keys_g d t (by omega)) ?_
 by_cases k5 : (keysCheck d t.keys.l).2 = 0
 case neg =>
  rw [if_pos k5] at hA
  simp [k5,hA]
 rw [if_neg (fun h=>h k5)] at hA
 simp [k5]
 refine call_g (tblActs_g d t (ht t hm) (by omega) hal) ?_
 by_cases k6 : tblActs d t = 0
 ·rw [if_neg (fun h=>h k6)] at hA
  simp [k6,hA]
 ·rw [if_pos k6] at hA
  simp [k6,hA]
def regI (d : PrgD) (c : Cap) (i : Nat) (s : St) : Prop:=noneT (fun i=>(prgReg d i).isSome) (List.range d.regs.l.length) i∧∃ g,Vf.Sl [(1,.ref 0 0),(2,.f (.sl (encL strF (d.regs.l.map (·.name))) c)),(15,.f (sl (encL fReg d.regs.l))),(16,.f (intF d.regs.l.length)),(17,.f (intF i))] 85 (aPrg d :: g) [] s
def actI (d : PrgD) (c : Cap) (i : Nat) (s : St) : Prop:=noneT (fun i=>(prgAct d i).isSome) (List.range d.acts.l.length) i∧∃ g,Vf.Sl [(1,.ref 0 0),(2,.f (.sl (encL strF (d.acts.l.map (·.name))) c)),(38,.f (intF d.acts.l.length)),(39,.f (intF i))] 85 (aPrg d :: g) [] s
def tabI (d : PrgD) (c : Cap) (i : Nat) (s : St) : Prop:=noneT (fun i=>(prgTbl d i).isSome) (List.range d.tables.l.length) i∧∃ g,Vf.Sl [(1,.ref 0 0),(2,.f (.sl (encL strF (d.tables.l.map (·.name))) c)),(64,.f (intF d.tables.l.length)),(65,.f (intF i))] 85 (aPrg d :: g) [] s
theorem objs_eq (d : PrgD) : prgObjs d = firstD [scan d.regs.l.length (prgReg d),scan d.acts.l.length (prgAct d),scan d.tables.l.length (prgTbl d)]:=rfl
theorem objs_g (d : PrgD) (hn : NmOk d) (ht : ∀ t ∈ d.tables.l,TblOk t) (hr : d.regs.l.length < 100000) (ha : d.acts.l.length ≤ 1000) (htl : d.tables.l.length < 100000) : Outs Tryz.prog 53 [fPrg d] (diagO (prgObjs d)):=by
 refine Outs.of mixed Tryz.func53 rfl rfl rfl (by kernel_rfl) ?_
 rw [objs_eq]
 generalize hR : firstD [scan d.regs.l.length (prgReg d),scan d.acts.l.length (prgAct d),scan d.tables.l.length (prgTbl d)] = R
 simp [fPrg,cPrg]
 refine call_g (nmsReg_g _ hr) ?_
 obtain ⟨c,hc⟩:=ownF_is (encL strF (d.regs.l.map (·.name)))
 rw [hc]
 simp
 refine forX mixed d.regs.l.length (regI d c) (by kernel_rfl) ⟨.zero,[],Sl.of rfl rfl rfl⟩ ?_
 rintro i ⟨ts,hh,kk⟩ hi ⟨hno,g,rfl,rfl,f,rfl⟩
 by_cases hlt : i < d.regs.l.length
 ·obtain ⟨x,hx,hx'⟩:=nth_of hlt
  have hw:=wrap64 (x:=(i : Int) + 1) (by omega) (by omega)
  have hnm : (d.regs.l.map (·.name))[i]? = some x.name:=by simp [hx']
  have hP : prgReg d i = firstD [req (regCheck x) 3 i 0,req (if hasS ((d.regs.l.map (·.name)).take i) x.name then 7 else 0) 3 i 0]:=by
   simp only [prgReg,hx',hasS_dup hnm]
  have out : ∀ e,prgReg d i = some e→R = some e:=fun e he=>by rw [← hR]; simp [firstD,scan_at hno hlt he]
  simp [hlt,hx,aPrg]
  refine call_g (reg_g x (hn.regs x (List.mem_of_getElem? hx'))) ?_
  simp
  by_cases h0 : regCheck x = 0
  case neg=>exact call_p (req1_p (regCheck x) 3 i 0 h0) (by simp [out (regCheck x,3,(i : Int),0) (by rw [hP]; simp [firstD,req,h0]),diagO])
  rw [h0]
  refine call_g (req0_g 3 i 0) ?_
  simp
  refine call_g (repeated_g _ i x.name c (by simp; omega) hnm) ?_
  simp
  refine call_g (when_g _ 7) ?_
  simp
  cases h2 : hasS ((d.regs.l.map (·.name)).take i) x.name with
  | true =>
   refine call_p (req1_p 7 3 i 0 (by decide)) ?_
   simp [out (7,3,(i : Int),0) (by rw [hP]; simp only [firstD,req,h0,h2]; rfl),diagO]
  | false =>
  refine call_g (req0_g 3 i 0) ?_
  simp [hw]
  exact ⟨hno.next (range_at hlt) (by rw [hP]; simp only [firstD,req,h0,h2]; rfl),_,Sl.of rfl rfl rfl⟩
 obtain rfl : i = d.regs.l.length:=by omega
 have a1:=scan_of hno
 rw [a1] at hR
 clear hno hi hlt hc
 simp [aPrg]
 refine call_g (nmsAct_g _ (by omega)) ?_
 obtain ⟨c,hc⟩:=ownF_is (encL strF (d.acts.l.map (·.name)))
 rw [hc]
 simp
 refine forX mixed d.acts.l.length (actI d c) (by kernel_rfl) ⟨.zero,_,Sl.of rfl rfl rfl⟩ ?_
 rintro i ⟨ts,hh,kk⟩ hi ⟨hno,g,rfl,rfl,f,rfl⟩
 by_cases hlt : i < d.acts.l.length
 ·obtain ⟨x,hx,hx'⟩:=nth_of hlt
  have hw:=wrap64 (x:=(i : Int) + 1) (by omega) (by omega)
  have hnm : (d.acts.l.map (·.name))[i]? = some x.name:=by simp [hx']
  have hP : prgAct d i = firstD [req (actCheck d i).2 4 i (actCheck d i).1,req (if hasS ((d.acts.l.map (·.name)).take i) x.name then 7 else 0) 4 i 0]:=by
   simp only [prgAct,hasS_dup hnm]
  have out : ∀ e,prgAct d i = some e→R = some e:=fun e he=>by rw [← hR]; simp [firstD,scan_at hno hlt he]
  simp [hlt,hx,aPrg]
  refine call_g (act_g d hn i) ?_
  simp
  by_cases h0 : (actCheck d i).2 = 0
  case neg=>exact call_p (req1_p (actCheck d i).2 4 i (actCheck d i).1 h0) (by simp [out ((actCheck d i).2,4,(i : Int),(actCheck d i).1) (by rw [hP]; simp [firstD,req,h0]),diagO])
  rw [h0]
  refine call_g (req0_g 4 i (actCheck d i).1) ?_
  simp
  refine call_g (repeated_g _ i x.name c (by simp; omega) hnm) ?_
  simp
  refine call_g (when_g _ 7) ?_
  simp
  cases h2 : hasS ((d.acts.l.map (·.name)).take i) x.name with
  | true =>
   refine call_p (req1_p 7 4 i 0 (by decide)) ?_
   simp [out (7,4,(i : Int),0) (by rw [hP]; simp only [firstD,req,h0,h2]; rfl),diagO]
  | false =>
  refine call_g (req0_g 4 i 0) ?_
  simp [hw]
  exact ⟨hno.next (range_at hlt) (by rw [hP]; simp only [firstD,req,h0,h2]; rfl),_,Sl.of rfl rfl rfl⟩
 obtain rfl : i = d.acts.l.length:=by omega
 have a2:=scan_of hno
 rw [a2] at hR
 clear hno hi hlt hc
 simp [aPrg]
 refine call_g (nmsTbl_g _ htl) ?_
 obtain ⟨c,hc⟩:=ownF_is (encL strF (d.tables.l.map (·.name)))
 rw [hc]
 simp
 refine forX mixed d.tables.l.length (tabI d c) (by kernel_rfl) ⟨.zero,_,Sl.of rfl rfl rfl⟩ ?_
 rintro i ⟨ts,hh,kk⟩ hi ⟨hno,g,rfl,rfl,f,rfl⟩
 by_cases hlt : i < d.tables.l.length
 ·obtain ⟨x,hx,hx'⟩:=nth_of hlt
  have hw:=wrap64 (x:=(i : Int) + 1) (by omega) (by omega)
  have hnm : (d.tables.l.map (·.name))[i]? = some x.name:=by simp [hx']
  have hP : prgTbl d i = firstD [req (tblCheck d i).2 5 i (tblCheck d i).1,req (if hasS ((d.tables.l.map (·.name)).take i) x.name then 7 else 0) 5 i 0]:=by
   simp only [prgTbl,hasS_dup hnm]
  have out : ∀ e,prgTbl d i = some e→R = some e:=fun e he=>by rw [← hR]; simp [firstD,scan_at hno hlt he]
  simp [hlt,hx,aPrg]
  refine call_g (tbl_g d hn ht ha i) ?_
  simp
  by_cases h0 : (tblCheck d i).2 = 0
  case neg=>exact call_p (req1_p (tblCheck d i).2 5 i (tblCheck d i).1 h0) (by simp [out ((tblCheck d i).2,5,(i : Int),(tblCheck d i).1) (by rw [hP]; simp [firstD,req,h0]),diagO])
  rw [h0]
  refine call_g (req0_g 5 i (tblCheck d i).1) ?_
  simp
  refine call_g (repeated_g _ i x.name c (by simp; omega) hnm) ?_
  simp
  refine call_g (when_g _ 7) ?_
  simp
  cases h2 : hasS ((d.tables.l.map (·.name)).take i) x.name with
  | true =>
   refine call_p (req1_p 7 5 i 0 (by decide)) ?_
   simp [out (7,5,(i : Int),0) (by rw [hP]; simp only [firstD,req,h0,h2]; rfl),diagO]
  | false =>
  refine call_g (req0_g 5 i 0) ?_
  simp [hw]
  exact ⟨hno.next (range_at hlt) (by rw [hP]; simp only [firstD,req,h0,h2]; rfl),_,Sl.of rfl rfl rfl⟩
 obtain rfl : i = d.tables.l.length:=by omega
 have a3:=scan_of hno
 rw [a3] at hR
 clear hno hi hlt hc
 simp [aPrg]
 subst hR
 simp [firstD,diagO]
end Go.Proofs.YtafenffmgpcjcaaGreat
