/- Texts of the proof: S8. -/
import Derived.Test.YtejkhflkeoihlaaGreatS7
import Derived.Test.YtejkhflkeoihlaaGreatQKf
namespace Go.Proofs.YtejkhflkeoihlaaGreat
open Go.RowKit Go.Proofs.YtejkhflkeoihlaaGreat.Vf
set_option linter.unusedVariables false
set_option linter.unusedSimpArgs false
set_option maxRecDepth 100000
set_option maxHeartbeats 4000000
def canZ (l : List Int) : List Int:=compZM (sortZM l)
theorem canZ_nil : canZ [] = []:=by
 refine List.eq_nil_of_length_eq_zero ?_
 have h1:=compZM_len (sortZM [])
 rw [sortZM_len] at h1
 exact Nat.le_zero.1 h1
theorem compZM_ne {l : List Int} (h : l ≠ []) : compZM l ≠ []:=by
 have hl : 0 < l.length:=List.length_pos_iff.2 h
 have : (0 : Nat) ∈ (List.range l.length).filter (Lib.keeps l.toArray):=List.mem_filter.2 ⟨List.mem_range.2 hl,by simp [Lib.keeps]⟩
 intro e
 unfold compZM Lib.compact Lib.compactUpTo at e
 rw [List.map_eq_nil_iff] at e
 rw [e] at this
 cases this
theorem canZ_ne {l : List Int} (h : l ≠ []) : canZ l ≠ []:=compZM_ne fun e=>h (List.eq_nil_of_length_eq_zero (by rw [← sortZM_len,e]; rfl))
theorem canZ_len (l : List Int) : (canZ l).length ≤ l.length:=by
 have:=compZM_len (sortZM l)
 rw [sortZM_len] at this
 exact this
def hdrsTo (l : List ExD) : List Int:=(l.filter fun x=>x.op == 4).map ExD.n
def hdrsM (l : List ExD) : List Int:=canZ (hdrsTo l)
theorem hdrsTo_next {l : List ExD} {i : Nat} {x : ExD} (hx : l[i]? = some x) : hdrsTo (l.take (i + 1)) = if x.op = 4 then hdrsTo (l.take i) ++ [x.n] else hdrsTo (l.take i):=by
 unfold hdrsTo
 rw [List.take_add_one,hx,List.filter_append,List.map_append]
 by_cases h : x.op = 4 <;> simp [h]
theorem hdrsTo_len (l : List ExD) (i : Nat) : (hdrsTo (l.take i)).length ≤ l.length:=by
 unfold hdrsTo
 rw [List.length_map]
 exact Nat.le_trans (List.length_filter_le _ _) (by simp; omega)
def hdI (l : List ExD) (c : Cap) (i : Nat) (s : St) : Prop:=∃ g k x tk,OwnT k (encL intF (hdrsTo (l.take i))) 1 x tk∧Vf.Sl [(3,x),(6,.f (.sl (encL fEx l) c)),(7,.f (intF l.length)),(8,.f (intF i))] 25 g k s
theorem intF_scs (l : List Int) : Scs (encL intF l):=fun x hx y hy=>by
 obtain ⟨z,_,rfl⟩:=List.mem_map.1 hx
 obtain rfl:=by simpa [FV.cells] using hy
 exact ⟨_,rfl⟩
theorem intF_cells (l : List Int) : ((encL intF l).flatMap FV.cells).map AV.f = rowA l:=by
 induction l with
 | nil=>rfl
 | cons x l ih=>show AV.f (intF x) :: _ = AV.f (intF x) :: _; congr 1
theorem compZM_pre (l : List Int) : (padZ l).take (compZM l).length = compZM l:=by simp [padZ]
theorem ret_cut {H : List (List AV)} {b : Nat} {l : List Int} {cap : Nat} {R : FV→Prop} (hb : ix H b = some (rowA (padZ l))) (hcap : l.length ≤ cap) (h : R (sl (encL intF (compZM l)))) : RetV H (.ms b 0 (compZM l).length cap 1) R:=by
 refine ⟨1,_,?_,h⟩
 show (match ix H b with
  | some cs=>if _ then _ else _
  | none=>none) = _
 have hc:=compZM_len l
 have ht : ((rowA (padZ l)).drop 0).take ((compZM l).length * 1) = rowA (compZM l):=by
  rw [List.drop_zero,Nat.mul_one]
  unfold rowA
  rw [← List.map_take,compZM_pre]
 rw [hb]
 show (if _ then _ else _) = _
 rw [ht,if_pos ⟨by omega,by omega,by simp [padZ_len]; omega,by omega,rowA_one _⟩,rowA_fz]
 simp only
 rw [if_pos (ints_one _)]
 have:=chunk_ints (compZM l)
 show some (FV.sl (chunk false 1 (compZM l).length ((compZM l).map intF)) .un) = _
 rw [this]; rfl
theorem exHdrs_g (l : List ExD) (c : Cap) (hl : l.length ≤ 1000000) : Gives Tryz.prog 269 [.sl (encL fEx l) c] (ownF (encL intF (hdrsM l))):=by
 refine Gives.of_Wd Tryz.func269 rfl rfl rfl (by decide) ?_
 refine Wd.two (W.x mixed (by kernel_rfl) ?_)
 simp
 refine Wd.two (W.x mixed (by kernel_rfl) ?_)
 simp
 refine Wd.two (W.two (W.x mixed (by kernel_rfl) ?_))
 simp
 refine W.blk (forW l.length (hdI l c) ⟨_,_,_,0,.nil,Sl.of rfl rfl rfl⟩ ?_)
 rintro i ⟨ts,hh,kk⟩ hi ⟨g,k,x,tk,ho,rfl,rfl,f,rfl⟩
 by_cases hlt : i < l.length
 ·obtain ⟨y,hy,hy'⟩:=nth_of hlt
  have hw:=wrap64 (x:=(i : Int) + 1) (by omega) (by omega)
  have hn:=hdrsTo_next hy'
  have hln:=hdrsTo_len l i
  by_cases h4 : y.op = 4
  ·rw [if_pos h4] at hn
   refine W.x mixed (by kernel_rfl) ?_
   simp [hlt,hy,h4,-opAppend]
   obtain ⟨t',k',e,ho',_⟩:=append_own ty29 ty3 (by simp) ho (y:=.f (.sl [intF y.n] .full)) rfl (by simp) (by simp) (by simp; omega) (by simp; omega)
   rw [e]
   simp [hw]
   exact ⟨_,_,_,_,by rw [hn,← enc_one]; exact ho',Sl.of rfl rfl rfl⟩
  ·rw [if_neg h4] at hn
   refine W.x mixed (by kernel_rfl) ?_
   simp [hlt,hy,h4,hw]
   exact ⟨_,_,_,_,by rw [hn]; exact ho,Sl.of rfl rfl rfl⟩
 obtain rfl : i = l.length:=by omega
 refine W.x mixed (by kernel_rfl) ?_
 simp
 rw [List.take_length] at ho
 have hln:=hdrsTo_len l l.length
 rw [List.take_length] at hln
 rcases ho with ⟨h0,rfl⟩ | ⟨h0,rfl,hk⟩
 ·have h0' : hdrsTo l = []:=by simpa [encL] using h0
  have hm : hdrsM l = []:=by unfold hdrsM; rw [h0']; exact canZ_nil
  refine Wd.x mixed (by kernel_rfl) ?_
  simp
  refine call_x (sortZ_x (l:=[]) (.inl ⟨rfl,rfl⟩) (by decide)) ?_
  rintro _ _ _ ⟨rfl,rfl,rfl⟩
  simp [rPut]
  refine call_x (compZ_x (l:=[]) (.inl ⟨rfl,rfl⟩) (by decide)) ?_
  rintro _ _ _ ⟨rfl,rfl,rfl⟩
  simp [rPut,rCut,hm,ownF,encL]
 ·have hne : hdrsTo l ≠ []:=fun e=>h0 (by rw [e]; rfl)
  refine Wd.thaw1 (d:=3) (t:=tk) (sz:=1) (l:=encL intF (hdrsTo l)) rfl hk (by decide) (intF_scs _) ?_
  rintro cap ⟨ts,hh,kk⟩ hcap ⟨rfl,rfl,ff,rfl⟩
  rw [intF_cells]
  rw [encL_length] at hcap ⊢
  refine Wd.x mixed (by kernel_rfl) ?_
  simp
  refine call_x (sortZ_x (l:=hdrsTo l) (.inr ⟨0,cap,rfl,rfl,hcap⟩) (by omega)) ?_
  rintro _ _ _ ⟨rfl,rfl,rfl⟩
  simp [rPut]
  have hsl:=sortZM_len (hdrsTo l)
  refine call_x (compZ_x (l:=sortZM (hdrsTo l)) (.inr ⟨0,cap,by rw [hsl],rfl,by omega⟩) (by omega)) ?_
  rintro _ _ _ ⟨rfl,rfl,rfl⟩
  simp [rPut,rCut]
  exact ret_cut rfl (by rw [hsl]; exact hcap) (by unfold ownF hdrsM; rw [if_neg (fun e=>canZ_ne hne (by simpa [encL] using e))]; rfl)
end Go.Proofs.YtejkhflkeoihlaaGreat
namespace Go.Proofs.YtejkhflkeoihlaaGreat
open Go.RowKit Go.Proofs.YtejkhflkeoihlaaGreat.Vf
set_option linter.unusedVariables false
set_option linter.unusedSimpArgs false
set_option maxRecDepth 100000
set_option maxHeartbeats 4000000
theorem own_tc {k : List (Nat × Nat)} {l : List FV} {sz t : Nat} {x : AV} (h : OwnT k l sz x t) (h0 : 0 < sz) (hs : Scs l) : ∃ i : TC,i.av = x∧i.ok k∧((l = []∧i = .nil) ∨ (l ≠ []∧i = .own l t sz)):=by
 rcases h with ⟨rfl,rfl⟩ | ⟨h1,rfl,h2⟩
 ·exact ⟨.nil,rfl,trivial,.inl ⟨rfl,rfl⟩⟩
 ·exact ⟨.own l t sz,rfl,⟨h2,h0,hs⟩,.inr ⟨h1,rfl⟩⟩
theorem colSorted_d (d : PrgD) (l : List Int) {h : List (List AV)} {k : List (Nat × Nat)} {b t : Nat} {x : AV} (hl : l.length < 2^62) (ho : OwnT k (encL intF l) 1 x t) (hb : ix h b = some (aPrg d ++ [x])) :
  GivesD Tryz.prog 181 [.ref b 0] h k (fun y h' k'=>RetV h' y (· = ownF (encL intF (canZ l)))):=by
 refine GivesD.of_Wd Tryz.func181 rfl rfl rfl (by decide) ?_
 refine Wd.two (W.x mixed (by kernel_rfl) ?_)
 simp
 obtain ⟨i,hi1,hi2,hi3⟩:=own_tc ho (by decide) (intF_scs l)
 refine Wd.thawB (d:=0) (b:=b) (items:=(aPrg d).map TC.any ++ [i]) rfl (by
  show ix h b = _
  rw [hb,List.map_append,List.map_map,← hi1]
  rfl) (fun z hz=>by
  rcases List.mem_append.1 hz with hz | hz
  ·obtain ⟨y,_,rfl⟩:=List.mem_map.1 hz; exact trivial
  ·obtain rfl:=List.mem_singleton.1 hz; exact hi2) ?_ ?_
 ·rcases hi3 with ⟨_,rfl⟩ | ⟨_,rfl⟩
  ·exact List.nodup_nil
  ·exact List.nodup_cons.2 ⟨List.not_mem_nil,List.nodup_nil⟩
 rintro cs ⟨ts,hh,kk⟩ hcap ⟨rfl,rfl,ff,rfl⟩
 have hsl:=sortZM_len l
 rcases hi3 with ⟨h0,rfl⟩ | ⟨h0,rfl⟩
 ·obtain rfl : l = []:=by simpa [encL] using h0
  simp [aPrg,tcNew,tcBox]
  refine Wd.x mixed (by kernel_rfl) ?_
  simp
  refine call_x (sortZ_x (l:=[]) (.inl ⟨rfl,rfl⟩) (by decide)) ?_
  rintro _ _ _ ⟨rfl,rfl,rfl⟩
  simp [rPut]
  refine call_x (compZ_x (l:=[]) (.inl ⟨rfl,rfl⟩) (by decide)) ?_
  rintro _ _ _ ⟨rfl,rfl,rfl⟩
  simp [rPut,rCut,canZ_nil,ownF,encL]
 ·cases cs with
  | nil=>simp [aPrg,tcCap] at hcap
  | cons c cs =>
  have hcap : l.length ≤ c:=by simpa [aPrg,tcCap] using hcap
  have hne : l ≠ []:=fun e=>h0 (by rw [e]; rfl)
  simp only [aPrg,List.map_cons,List.map_nil,List.cons_append,List.nil_append,tcNew,tcBox,intF_cells,encL_length]
  refine Wd.x mixed (by kernel_rfl) ?_
  simp
  refine call_x (sortZ_x (l:=l) (.inr ⟨1,c,rfl,rfl,hcap⟩) hl) ?_
  rintro _ _ _ ⟨rfl,rfl,rfl⟩
  simp [rPut]
  refine call_x (compZ_x (l:=sortZM l) (.inr ⟨1,c,by rw [hsl],rfl,by omega⟩) (by omega)) ?_
  rintro _ _ _ ⟨rfl,rfl,rfl⟩
  simp [rPut,rCut]
  exact ret_cut rfl (by rw [hsl]; exact hcap) (by unfold ownF; rw [if_neg (fun e=>canZ_ne hne (by simpa [encL] using e))]; rfl)
end Go.Proofs.YtejkhflkeoihlaaGreat
namespace Go.Proofs.YtejkhflkeoihlaaGreat
open Go.RowKit
set_option linter.unusedVariables false
section
variable {P : Program} {ops : Array Oper} {Q : Exit→Act→World→Prop}
def OpGood (P : Program) (F : Value→World→Prop) (S : World→Prop) (St : World→World→Prop) (w : World) : Result Next→Prop
 | .ok (.value v) w'=>F v w'∧S w'∧St w w'
 | .ok .skip w'=>F undef w'∧S w'∧St w w'
 | .ok (.enter f args) w'=>Calls P f args w' fun e w''=>∃ v,e = .returned v∧F v w''∧S w''∧St w w''
 | _=>False
def depB (o : Oper) (j : Nat) : Bool:=o.after.toList.any fun e=>Nat.beq e.on j && Region.binds .any e
theorem dep_of {o : Oper} {j : Nat} (h : depB o j = true) : ∃ e ∈ o.after,e.on = j∧Region.binds .any e = true:=by
 obtain ⟨e,he,h⟩:=List.any_eq_true.1 h
 rw [Bool.and_eq_true] at h
 exact ⟨e,by simpa using he,Nat.eq_of_beq_eq_true h.1,h.2⟩
def behind (ops : Array Oper) : Nat→Nat→Nat→Bool
 | 0,_,_=>false
 | n + 1,i,j=>match ops[i]? with
  | none=>false
  | some o=>depB o j || o.after.toList.any fun e=>Region.binds .any e && behind ops n e.on j
def relOk (ops : Array Oper) (n : Nat) : Bool :=
 (ops.toList.zipIdx.all fun (o,i)=>(o.after.all fun e=>!Region.binds .any e || decide (e.on < i)) && (match o.dst with | some d=>decide (d < n) | none=>true)) &&
 (ops.toList.zipIdx.all fun (o,i)=>ops.toList.zipIdx.all fun (o',j)=>Nat.beq i j || (match o.dst,o'.dst with | some d,some d'=>!(Nat.beq d d') | _,_=>true))
theorem relOk_edge {n : Nat} (h : relOk ops n = true) {i : Nat} {o : Oper} (ho : ops[i]? = some o) : (∀ e ∈ o.after,Region.binds .any e = true→e.on < i)∧(∀ d,o.dst = some d→d < n):=by
 unfold relOk at h
 rw [Bool.and_eq_true] at h
 have h1:=List.all_eq_true.1 h.1 (o,i) (List.mem_zipIdx_iff_getElem?.2 (by simpa using ho))
 simp only [Bool.and_eq_true] at h1
 refine ⟨fun e he hb=>?_,fun d hd=>?_⟩
 ·have:=Array.all_eq_true_iff_forall_mem.1 h1.1 e he
  simpa [hb] using this
 ·have:=h1.2
  rw [hd] at this
  simpa using this
theorem relOk_dst {n : Nat} (h : relOk ops n = true) {i j : Nat} {o o' : Oper} (ho : ops[i]? = some o) (ho' : ops[j]? = some o') (hne : i ≠ j) {d : Nat} (hd : o.dst = some d) : o'.dst ≠ some d:=by
 intro hd'
 unfold relOk at h
 rw [Bool.and_eq_true] at h
 have h1:=List.all_eq_true.1 h.2 (o,i) (List.mem_zipIdx_iff_getElem?.2 (by simpa using ho))
 have h2:=List.all_eq_true.1 h1 (o',j) (List.mem_zipIdx_iff_getElem?.2 (by simpa using ho'))
 simp [hd,hd',hne] at h2
def Free (ops : Array Oper) (t : Nat) : Prop:=∀ (i : Nat) (o : Oper),ops[i]? = some o→o.dst ≠ some t
def freeB (ops : Array Oper) (t : Nat) : Bool:=ops.toList.all fun o=>match o.dst with | some d=>!(Nat.beq d t) | none=>true
theorem free_of {t : Nat} (h : freeB ops t = true) : Free ops t:=fun i o ho hd=>by
 have:=List.all_eq_true.1 h o (List.mem_of_getElem? (i:=i) (by simpa using ho))
 rw [hd] at this
 simp at this
structure Chain where
 effs : List Nat
 rng : List (Nat × Nat)
def Chain.next (C : Chain) (i j : Nat) : Nat:=if C.effs[j]? = some i then j + 1 else j
def chainOk (ops : Array Oper) (C : Chain) : Bool :=
 (C.effs.zipIdx.all fun (e,m)=>(C.effs.take m).all (fun e'=>!(Nat.beq e e') && behind ops 6 e e') && decide (e < ops.size)) &&
 (C.rng.zipIdx.all fun (r,i)=>(decide (r.1 ≤ C.effs.length) && (C.effs.take r.1).all (fun e=>behind ops 6 i e)) && (match C.effs[r.2]? with | some e=>Nat.beq e i || behind ops 6 e i | none=>true))
structure RelInv (P : Program) (ops : Array Oper) (C : Chain) (fr : Nat→Nat) (S : Nat→World→Prop) (F : Nat→Value→World→Prop) (a : Act) (listed : Array Bool) (j : Nat) (b : Act) (u : World) : Prop where
 good : S j u
 size : listed.size = ops.size
 defers : b.defers = a.defers
 tmps : b.tmps.size = a.tmps.size
 le : j ≤ C.effs.length
 effs : ∀ m e,C.effs[m]? = some e→(listed.getD e false = true ↔ m < j)
 down : ∀ (i : Nat) (o : Oper),ops[i]? = some o→listed.getD i false = true→∀ e ∈ o.after,Region.binds .any e = true→listed.getD e.on false = true
 old : ∀ t : Nat,(∀ (i : Nat) (o : Oper),ops[i]? = some o→o.dst = some t→listed.getD i false = false)→b.tmps[t]? = a.tmps[t]?
 new : ∀ (i : Nat) (o : Oper) (d : Nat),ops[i]? = some o→listed.getD i false = true→o.dst = some d→∃ v,b.tmps[d]? = some v∧F i v u
 from_ : ∀ (i : Nat) (o : Oper),ops[i]? = some o→listed.getD i false = true→fr i ≤ j
theorem behind_listed {C : Chain} {fr : Nat→Nat} {S : Nat→World→Prop} {F : Nat→Value→World→Prop} {a b : Act} {listed : Array Bool} {j : Nat} {u : World} (h : RelInv P ops C fr S F a listed j b u) :
  ∀ (n i k : Nat),behind ops n i k = true→(∀ (o : Oper),ops[i]? = some o→∀ e ∈ o.after,Region.binds .any e = true→listed.getD e.on false = true)→listed.getD k false = true:=by
 intro n
 induction n with
 | zero=>intro i k hb; cases hb
 | succ n ih =>
  intro i k hb hi
  unfold behind at hb
  cases ho : ops[i]? with
  | none=>rw [ho] at hb; cases hb
  | some o =>
   rw [ho] at hb
   simp only [Bool.or_eq_true] at hb
   rcases hb with hb | hb
   ·obtain ⟨e,he,rfl,hbe⟩:=dep_of hb
    exact hi o ho e he hbe
   ·obtain ⟨e,he,hb⟩:=List.any_eq_true.1 hb
    rw [Bool.and_eq_true] at hb
    have hl:=hi o ho e (by simpa using he) hb.1
    exact ih e.on k hb.2 fun o' ho' e' he' hb'=>h.down e.on o' ho' hl e' he' hb'
theorem getD_set_self {listed : Array Bool} {i : Nat} (h : i < listed.size) : (listed.setIfInBounds i true).getD i false = true:=by
 simp [Array.getD_eq_getD_getElem?,Array.getElem?_setIfInBounds_self_of_lt h]
theorem getD_false_of {listed : Array Bool} {i : Nat} (h : listed.getD i true = false) : i < listed.size∧listed.getD i false = false:=by
 have hlt : i < listed.size:=by
  rcases Nat.lt_or_ge i listed.size with h' | h'
  ·exact h'
  ·rw [Array.getD_eq_getD_getElem?,Array.getElem?_eq_none h'] at h; cases h
 refine ⟨hlt,?_⟩
 rw [Array.getD_eq_getD_getElem?,Array.getElem?_eq_getElem hlt] at h ⊢
 exact h
theorem RelInv.range {C : Chain} {fr : Nat→Nat} {S : Nat→World→Prop} {F : Nat→Value→World→Prop} {a b : Act} {listed : Array Bool} {j : Nat} {u : World} (hC : chainOk ops C = true) (h : RelInv P ops C fr S F a listed j b u)
  {i : Nat} {o : Oper} (ho : ops[i]? = some o) (hi : listed.getD i true = false) (hdep : ∀ e ∈ o.after,Region.binds .any e = true→listed.getD e.on false = true) :
  (∀ r,C.rng[i]? = some r→r.1 ≤ j∧j ≤ r.2)∧(∀ m,C.effs[m]? = some i→m = j):=by
 unfold chainOk at hC
 rw [Bool.and_eq_true] at hC
 have hall : ∀ (o' : Oper),ops[i]? = some o'→∀ e ∈ o'.after,Region.binds .any e = true→listed.getD e.on false = true:=fun o' ho' e he hb=>by
  obtain rfl : o = o':=Option.some.inj (ho.symm.trans ho')
  exact hdep e he hb
 have hif:=(getD_false_of hi).2
 refine ⟨fun r hr=>?_,fun m hm=>?_⟩
 ·have h1:=List.all_eq_true.1 hC.2 (r,i) (List.mem_zipIdx_iff_getElem?.2 (by simpa using hr))
  rw [Bool.and_eq_true] at h1
  refine ⟨?_,?_⟩
  ·rcases Nat.lt_or_ge j r.1 with hlt | hge
   ·have h2:=h1.1
    rw [Bool.and_eq_true] at h2
    have hrl : r.1 ≤ C.effs.length:=of_decide_eq_true h2.1
    have hmem : C.effs[j]'(by omega) ∈ C.effs.take r.1:=List.mem_take_iff_getElem.2 ⟨j,by omega,rfl⟩
    have hb:=List.all_eq_true.1 h2.2 _ hmem
    have:=(h.effs j _ (List.getElem?_eq_getElem (by omega))).1 (behind_listed h 6 i _ hb hall)
    omega
   ·exact hge
  ·rcases Nat.lt_or_ge r.2 j with hlt | hge
   ·have hjl : r.2 < C.effs.length:=Nat.lt_of_lt_of_le hlt h.le
    have h2:=h1.2
    rw [List.getElem?_eq_getElem hjl] at h2
    have hl:=(h.effs r.2 _ (List.getElem?_eq_getElem hjl)).2 hlt
    simp only [Bool.or_eq_true] at h2
    rcases h2 with h2 | h2
    ·rw [Nat.eq_of_beq_eq_true h2,hif] at hl; cases hl
    ·have hopt : ∀ (o' : Oper),ops[C.effs[r.2]]? = some o'→∀ e ∈ o'.after,Region.binds .any e = true→listed.getD e.on false = true:=fun o' ho' e he hb=>h.down _ o' ho' hl e he hb
     have:=behind_listed h 6 _ i h2 hopt
     rw [hif] at this; cases this
   ·exact hge
 ·have h1:=List.all_eq_true.1 hC.1 (i,m) (List.mem_zipIdx_iff_getElem?.2 (by simpa using hm))
  rw [Bool.and_eq_true] at h1
  have hge : j ≤ m:=by
   rcases Nat.lt_or_ge m j with hlt | hge
   ·have:=(h.effs m i hm).2 hlt
    rw [hif] at this; cases this
   ·exact hge
  rcases Nat.lt_or_ge j m with hlt | hge2
  ·have hml : m < C.effs.length:=(List.getElem?_eq_some_iff.1 hm).1
   have hmem : C.effs[j]'(by omega) ∈ C.effs.take m:=List.mem_take_iff_getElem.2 ⟨j,by omega,rfl⟩
   have hb:=List.all_eq_true.1 h1.1 _ hmem
   rw [Bool.and_eq_true] at hb
   have:=(h.effs j _ (List.getElem?_eq_getElem (by omega))).1 (behind_listed h 6 i _ hb.2 hall)
   omega
  ·omega
theorem getD_set_ne' {listed : Array Bool} {i j : Nat} (h : j ≠ i) : (listed.setIfInBounds i true).getD j false = listed.getD j false:=getD_set_ne false (Ne.symm h)
def frOk (C : Chain) (fr : Nat→Nat) (n : Nat) : Bool:=(List.range n).all fun i=>match C.rng[i]? with | some r=>decide (fr i ≤ if C.effs.contains i then r.1 + 1 else r.1) | none=>false
theorem next_of {C : Chain} {i j : Nat} (hne : ∀ m : Nat,C.effs[m]? = some i→m = j) : (C.effs[j]? = some i∧C.next i j = j + 1) ∨ ((∀ m : Nat,C.effs[m]? ≠ some i)∧C.next i j = j):=by
 unfold Chain.next
 by_cases h : C.effs[j]? = some i
 ·exact .inl ⟨h,if_pos h⟩
 ·refine .inr ⟨fun m hm=>h ?_,if_neg h⟩
  have:=hne m hm
  subst this
  exact hm
theorem RelInv.step {C : Chain} {fr : Nat→Nat} {S : Nat→World→Prop} {St : Nat→World→World→Prop} {F : Nat→Value→World→Prop} {a b : Act} {listed : Array Bool} {j : Nat} {u u' : World} {i : Nat} {o : Oper} {v : Value}
  (hst : ∀ i v j w w',F i v w→fr i ≤ j→S j w→St j w w'→F i v w') (hok : relOk ops a.tmps.size = true) (hC : chainOk ops C = true) (hfr : frOk C fr ops.size = true)
  (h : RelInv P ops C fr S F a listed j b u) (ho : ops[i]? = some o) (hi : listed.getD i true = false) (hdep : ∀ e ∈ o.after,Region.binds .any e = true→listed.getD e.on false = true)
  (hv : F i v u') (hS : S (C.next i j) u') (hs : St j u u') : RelInv P ops C fr S F a (listed.setIfInBounds i true) (C.next i j) (b.put o.dst v) u':=by
 obtain ⟨hlt,hif⟩:=getD_false_of hi
 obtain ⟨hrng,heff⟩:=h.range hC ho hi hdep
 have hset : ∀ k,k ≠ i→(listed.setIfInBounds i true).getD k false = listed.getD k false:=fun k hk=>getD_set_ne' hk
 have hself:=getD_set_self hlt
 have hin : i < ops.size:=(Array.getElem?_eq_some_iff.1 ho).1
 have hfri : fr i ≤ C.next i j:=by
  have:=List.all_eq_true.1 hfr i (List.mem_range.2 hin)
  cases hr : C.rng[i]? with
  | none=>rw [hr] at this; cases this
  | some r =>
   rw [hr] at this
   have h1:=of_decide_eq_true this
   have h2:=(hrng r hr).1
   rcases next_of heff with ⟨he,hn⟩ | ⟨he,hn⟩
   ·rw [hn]
    split at h1 <;> omega
   ·rw [hn]
    rw [if_neg (by
     intro hc
     rw [List.contains_iff_mem] at hc
     obtain ⟨m,hm⟩:=List.mem_iff_getElem?.1 hc
     exact he m hm)] at h1
    omega
 have hjle : j ≤ C.next i j:=by rcases next_of heff with ⟨_,hn⟩ | ⟨_,hn⟩ <;> omega
 refine ⟨hS,by simpa using h.size,?_,?_,?_,?_,?_,?_,?_,?_⟩
 ·cases hd : o.dst <;> simpa [Act.put] using h.defers
 ·cases hd : o.dst <;> simpa [Act.put] using h.tmps
 ·rcases next_of heff with ⟨he,hn⟩ | ⟨_,hn⟩
  ·rw [hn]; exact (List.getElem?_eq_some_iff.1 he).1
  ·rw [hn]; exact h.le
 ·intro m e hm
  by_cases hei : e = i
  ·subst hei
   obtain rfl:=heff m hm
   rcases next_of heff with ⟨_,hn⟩ | ⟨he,_⟩
   ·rw [hn,hself]; simp
   ·exact absurd hm (he m)
  ·rw [hset e hei,h.effs m e hm]
   rcases next_of heff with ⟨he,hn⟩ | ⟨_,hn⟩
   ·rw [hn]
    constructor
    ·intro; omega
    ·intro hlt'
     rcases Nat.lt_or_ge m j with h' | h'
     ·exact h'
     ·have : m = j:=by omega
      subst this
      rw [hm] at he
      exact absurd (Option.some.inj he) hei
   ·rw [hn]
 ·intro k o' ho' hl e he hb
  by_cases hek : e.on = i
  ·rw [hek]; exact hself
  ·rw [hset e.on hek]
   by_cases hk : k = i
   ·subst hk
    obtain rfl : o = o':=Option.some.inj (ho.symm.trans ho')
    exact hdep e he hb
   ·rw [hset k hk] at hl
    exact h.down k o' ho' hl e he hb
 ·intro t ht
  have hne : o.dst ≠ some t:=fun hd=>by
   have:=ht i o ho hd
   rw [hself] at this
   cases this
  have e : (b.put o.dst v).tmps[t]? = b.tmps[t]?:=by
   cases hd : o.dst with
   | none=>rfl
   | some d=>rw [hd] at hne; simp only [Act.put]; exact Array.getElem?_setIfInBounds_ne (fun e=>hne (by rw [e]))
  rw [e]
  refine h.old t fun k o' ho' hd'=>?_
  have hk : k ≠ i:=fun e=>by
   subst e
   obtain rfl : o = o':=Option.some.inj (ho.symm.trans ho')
   exact hne hd'
  rw [← hset k hk]
  exact ht k o' ho' hd'
 ·intro k o' d ho' hl hd'
  by_cases hk : k = i
  ·subst hk
   obtain rfl : o = o':=Option.some.inj (ho.symm.trans ho')
   have hdn:=(relOk_edge hok ho).2 d hd'
   refine ⟨v,?_,hv⟩
   rw [hd']
   simp only [Act.put]
   exact Array.getElem?_setIfInBounds_self_of_lt (by rw [h.tmps]; exact hdn)
  ·rw [hset k hk] at hl
   obtain ⟨v',e,f⟩:=h.new k o' d ho' hl hd'
   refine ⟨v',?_,hst _ _ _ _ _ f (h.from_ k o' ho' hl) h.good hs⟩
   rw [← e]
   cases hd : o.dst with
   | none=>rfl
   | some d0 =>
    have:=relOk_dst hok ho ho' (Ne.symm hk) hd
    simp only [Act.put]
    exact Array.getElem?_setIfInBounds_ne (fun e=>this (by rw [hd',e]))
 ·intro k o' ho' hl
  by_cases hk : k = i
  ·subst hk; exact hfri
  ·rw [hset k hk] at hl
   exact Nat.le_trans (h.from_ k o' ho' hl) hjle
theorem RelInv.done {C : Chain} {fr : Nat→Nat} {S : Nat→World→Prop} {F : Nat→Value→World→Prop} {a b : Act} {listed : Array Bool} {j : Nat} {u : World} (hok : relOk ops a.tmps.size = true) (h : RelInv P ops C fr S F a listed j b u)
  (hr : Region.ready .any ops listed = []) : ∀ i,i < ops.size→listed.getD i false = true:=by
 intro i
 induction i using Nat.strongRecOn with
 | _ i ih =>
  intro hi
  cases hl : listed.getD i false with
  | true=>rfl
  | false =>
   have hm : i ∈ Region.ready .any ops listed:=mem_ready.2 ⟨by
    rw [Array.getD_eq_getD_getElem?,Array.getElem?_eq_getElem (by rw [h.size]; exact hi)] at hl ⊢
    exact hl,ops[i],Array.getElem?_eq_getElem hi,fun e he hb=>by
     have:=(relOk_edge hok (Array.getElem?_eq_getElem hi)).1 e he hb
     exact ih e.on this (by omega)⟩
   rw [hr] at hm
   cases hm
def RegEnd (Q' : Act→World→Prop) (F : Nat→Value→World→Prop) (u : World) : Nat→List Oper→Act→Prop
 | _,[],a=>Q' a u
 | k,o :: l,a=>match o.dst with
  | none=>RegEnd Q' F u (k + 1) l a
  | some d=>∀ v,F k v u→RegEnd Q' F u (k + 1) l (a.put (some d) v)
theorem RegEnd.run {Q' : Act→World→Prop} {F : Nat→Value→World→Prop} {u : World} : ∀ (l : List Oper) (k : Nat) (a b : Act),RegEnd Q' F u k l a→b.defers = a.defers→b.tmps.size = a.tmps.size →
  (∀ t,(∀ o ∈ l,o.dst ≠ some t)→b.tmps[t]? = a.tmps[t]?)→(∀ (i : Nat) (o : Oper) (d : Nat),l[i]? = some o→o.dst = some d→∃ v,b.tmps[d]? = some v∧F (k + i) v u)→Q' b u:=by
 intro l
 induction l with
 | nil =>
  intro k a b h hd hsz hold _
  have e : b.tmps = a.tmps:=Array.ext_getElem? fun t=>hold t (fun o ho=>by cases ho)
  have : b = a:=by cases a; cases b; simp_all
  rw [this]; exact h
 | cons o l ih =>
  intro k a b h hd hsz hold hnew
  unfold RegEnd at h
  have hnew' : ∀ (i : Nat) (o' : Oper) (d : Nat),l[i]? = some o'→o'.dst = some d→∃ v,b.tmps[d]? = some v∧F (k + 1 + i) v u:=fun i o' d ho' hd'=>by
   have:=hnew (i + 1) o' d (by simpa using ho') hd'
   rwa [show k + (i + 1) = k + 1 + i by omega] at this
  cases hdst : o.dst with
  | none =>
   rw [hdst] at h
   refine ih (k + 1) a b h hd hsz (fun t ht=>hold t fun o' ho'=>?_) hnew'
   rcases List.mem_cons.1 ho' with rfl | ho'
   ·rw [hdst]; simp
   ·exact ht o' ho'
  | some d =>
   rw [hdst] at h
   obtain ⟨v,ev,fv⟩:=hnew 0 o d (by simp) hdst
   rw [Nat.add_zero] at fv
   refine ih (k + 1) (a.put (some d) v) b (h v fv) (by simpa [Act.put] using hd) (by simpa [Act.put] using hsz) (fun t ht=>?_) hnew'
   by_cases htd : t = d
   ·subst htd
    have hlt : t < b.tmps.size:=(Array.getElem?_eq_some_iff.1 ev).1
    rw [ev]
    simp only [Act.put]
    rw [Array.getElem?_setIfInBounds_self_of_lt (by rw [← hsz]; exact hlt)]
   ·simp only [Act.put]
    rw [Array.getElem?_setIfInBounds_ne (Ne.symm htd)]
    refine hold t fun o' ho'=>?_
    rcases List.mem_cons.1 ho' with rfl | ho'
    ·rw [hdst]; simpa using Ne.symm htd
    ·exact ht o' ho'
end
theorem wanted_plain {o : Oper} {y : Nat→Option Bool} {C : Prop} (hg : o.guard = none) (h : Region.wanted o y = false) : C:=by
 unfold Region.wanted at h
 rw [hg] at h
 cases h
end Go.Proofs.YtejkhflkeoihlaaGreat
namespace Go.Proofs.YtejkhflkeoihlaaGreat
open Go.RowKit
set_option linter.unusedVariables false
theorem chain_next {C : Chain} {i j : Nat} (h : C.effs.contains i = false) : C.next i j = j:=by
 unfold Chain.next
 rw [if_neg]
 intro he
 have : C.effs.contains i = true:=by rw [List.contains_iff_mem]; exact List.mem_of_getElem? he
 rw [h] at this; cases this
abbrev LFact:=Nat→Value→World→Prop
def lfact (l : List LFact) (i j : Nat) (v : Value) (w : World) : Prop:=match l[i]? with | some f=>f j v w | none=>True
def leq (X : Value) : LFact:=fun _ v _=>v = X
def KeepL (ops : Array Oper) (ρ : Operand→Value) (i j j' : Nat) (u u' : World) : Nat→List Oper→List LFact→Prop
 | _,[],_=>True
 | _,_ :: _,[]=>True
 | k,o :: l,f :: fs=>(match o.dst with | none=>True | some d=>k = i ∨ behind ops 6 k i = true ∨ (f j (ρ (.tmp d)) u→f j' (ρ (.tmp d)) u'))∧KeepL ops ρ i j j' u u' (k + 1) l fs
theorem KeepL.at_ {ops : Array Oper} {ρ : Operand→Value} {i j j' : Nat} {u u' : World} : ∀ (l : List Oper) (fs : List LFact) (k0 : Nat),KeepL ops ρ i j j' u u' k0 l fs →
  ∀ (k : Nat) (o : Oper) (d : Nat),l[k]? = some o→o.dst = some d→k0 + k ≠ i→behind ops 6 (k0 + k) i = false→lfact fs k j (ρ (.tmp d)) u→lfact fs k j' (ρ (.tmp d)) u':=by
 intro l
 induction l with
 | nil=>intro fs k0 _ k o d h; simp at h
 | cons x l ih =>
  intro fs k0 h k o d ho hd hne hnd hf
  cases fs with
  | nil=>simp [lfact]
  | cons f fs =>
   cases k with
   | zero =>
    obtain rfl : x = o:=by simpa using ho
    have h1:=h.1
    rw [hd] at h1
    rcases h1 with h1 | h1 | h1
    ·exact absurd h1 hne
    ·rw [Nat.add_zero] at hnd; rw [hnd] at h1; cases h1
    ·exact h1 hf
   | succ k=>exact ih fs (k0 + 1) h.2 k o d (by simpa using ho) hd (by omega) (by rwa [show k0 + 1 + k = k0 + (k + 1) by omega]) hf
def LStable (fs : List LFact) : Prop:=∀ f ∈ fs,∀ (j : Nat) (v : Value) (u u' : World),Below u.heap.size u u'→f j v u→f j v u'
theorem KeepL.below {ops : Array Oper} {ρ : Operand→Value} {i j : Nat} {u u' : World} (hb : Below u.heap.size u u') : ∀ (l : List Oper) (fs : List LFact) (k0 : Nat),LStable fs→KeepL ops ρ i j j u u' k0 l fs:=by
 intro l
 induction l with
 | nil=>intro fs k0 _; trivial
 | cons o l ih =>
  intro fs k0 hs
  cases fs with
  | nil=>trivial
  | cons f fs =>
   refine ⟨?_,ih fs (k0 + 1) fun f' hf'=>hs f' (List.mem_cons_of_mem _ hf')⟩
   cases o.dst with
   | none=>trivial
   | some d=>exact .inr (.inr (hs f (List.mem_cons_self ..) j _ u u' hb))
section
variable {P : Program} {ops : Array Oper} {Q : Exit→Act→World→Prop}
structure RelInvL (P : Program) (ops : Array Oper) (C : Chain) (S : Nat→World→Prop) (fs : List LFact) (a : Act) (listed : Array Bool) (j : Nat) (b : Act) (u : World) : Prop where
 base : RelInv P ops C (fun _=>0) (fun _ _=>True) (fun _ _ _=>True) a listed j b u
 good : S j u
 new : ∀ (i : Nat) (o : Oper) (d : Nat),ops[i]? = some o→listed.getD i false = true→o.dst = some d→lfact fs i j (b.eval (.tmp d)) u
def OpLookL (P : Program) (l : List Oper) (C : Chain) (S : Nat→World→Prop) (fs : List LFact) (a : Act) (i : Nat) (o : Oper) : Prop :=
 ∀ (j : Nat),(∀ r,C.rng[i]? = some r→r.1 ≤ j∧j ≤ r.2)→∀ (ρ : Operand→Value) (y : Nat→Option Bool) (u : World),S j u →
  (∀ c,ρ (.const c) = c)→(∀ f,ρ (.func f) = .func (.func f) #[] #[])→(∀ g,ρ (.global g) = .pointer (some ⟨g,0,none⟩)) →
  (∀ t,freeB l.toArray t = true→ρ (.tmp t) = a.eval (.tmp t)) →
  (∀ (k : Nat) (o' : Oper) (d : Nat),depB o k = true→l.toArray[k]? = some o'→o'.dst = some d→lfact fs k j (ρ (.tmp d)) u∧y k = (match ρ (.tmp d) with | .bool x=>some x | _=>none)) →
  (Region.wanted o y = true→OpGood P (lfact fs i (C.next i j)) (S (C.next i j)) (fun _ u'=>KeepL l.toArray ρ i j (C.next i j) u u' 0 l fs) u ((execOp ρ o).run P u))∧(Region.wanted o y = false→lfact fs i (C.next i j) undef u∧S (C.next i j) u∧KeepL l.toArray ρ i j (C.next i j) u u 0 l fs)
def LooksL (P : Program) (l : List Oper) (C : Chain) (S : Nat→World→Prop) (fs : List LFact) (a : Act) : Nat→List Oper→Prop
 | _,[]=>True
 | k,o :: r=>OpLookL P l C S fs a k o∧LooksL P l C S fs a (k + 1) r
theorem LooksL.at_ {l0 : List Oper} {C : Chain} {S : Nat→World→Prop} {fs : List LFact} {a : Act} : ∀ (l : List Oper) (k : Nat),LooksL P l0 C S fs a k l→∀ i o,l[i]? = some o→OpLookL P l0 C S fs a (k + i) o:=by
 intro l
 induction l with
 | nil=>intro k h i o ho; simp at ho
 | cons x l ih =>
  intro k h i o ho
  cases i with
  | zero=>simp at ho; subst ho; exact h.1
  | succ i=>have:=ih (k + 1) h.2 i o (by simpa using ho); rwa [show k + 1 + i = k + (i + 1) by omega] at this
theorem eval_put_ne {b : Act} {v : Value} {o : Oper} {d : Nat} (h : o.dst ≠ some d) : (b.put o.dst v).eval (.tmp d) = b.eval (.tmp d):=by
 cases hd : o.dst with
 | none=>rfl
 | some d0 =>
  rw [hd] at h
  simp only [Act.put,Act.eval,Array.getD_eq_getD_getElem?]
  rw [Array.getElem?_setIfInBounds_ne (fun e=>h (by rw [e]))]
theorem RelInvL.step {l : List Oper} {C : Chain} {S : Nat→World→Prop} {fs : List LFact} {a b : Act} {listed : Array Bool} {j : Nat} {u u' : World} {i : Nat} {o : Oper} {v : Value}
  (hok : relOk l.toArray a.tmps.size = true) (hC : chainOk l.toArray C = true) (hfr : frOk C (fun _=>0) l.toArray.size = true)
  (h : RelInvL P l.toArray C S fs a listed j b u) (ho : l.toArray[i]? = some o) (hi : listed.getD i true = false) (hdep : ∀ e ∈ o.after,Region.binds .any e = true→listed.getD e.on false = true)
  (hv : lfact fs i (C.next i j) v u') (hS : S (C.next i j) u') (hs : KeepL l.toArray b.eval i j (C.next i j) u u' 0 l fs) : RelInvL P l.toArray C S fs a (listed.setIfInBounds i true) (C.next i j) (b.put o.dst v) u':=by
 refine ⟨h.base.step (St:=fun _ _ _=>True) (fun _ _ _ _ _ _ _ _ _=>trivial) hok hC hfr ho hi hdep trivial trivial trivial,hS,?_⟩
 obtain ⟨hlt,hif⟩:=getD_false_of hi
 intro k o' d ho' hl hd
 by_cases hk : k = i
 ·subst hk
  obtain rfl : o = o':=Option.some.inj (ho.symm.trans ho')
  have hdn:=(relOk_edge hok ho).2 d hd
  have : (b.put o.dst v).eval (.tmp d) = v:=by
   rw [hd]
   simp only [Act.put,Act.eval,Array.getD_eq_getD_getElem?]
   rw [Array.getElem?_setIfInBounds_self_of_lt (by rw [h.base.tmps]; exact hdn)]
   rfl
  rw [this]
  exact hv
 ·rw [getD_set_ne' hk] at hl
  rw [eval_put_ne (fun e=>relOk_dst hok ho ho' (Ne.symm hk) e hd)]
  have hnd : behind l.toArray 6 (0 + k) i = false:=by
   cases hb : behind l.toArray 6 (0 + k) i with
   | false=>rfl
   | true =>
    rw [Nat.zero_add] at hb
    have:=behind_listed h.base 6 k i hb fun o1 ho1 e he hb1=>h.base.down k o1 ho1 hl e he hb1
    rw [hif] at this
    cases this
  exact hs.at_ l fs 0 k o' d (by simpa using ho') hd (by omega) hnd (h.new k o' d ho' hl hd)
theorem wpAny_relL {l : List Oper} {C : Chain} {S : Nat→World→Prop} {fs : List LFact} {a : Act} (hok : relOk l.toArray a.tmps.size = true) (hC : chainOk l.toArray C = true) (hfr : frOk C (fun _=>0) l.toArray.size = true)
  (hops : LooksL P l C S fs a 0 l) (hend : ∀ u,S C.effs.length u→RegEnd (Q .normal) (fun i=>lfact fs i C.effs.length) u 0 l a) :
  ∀ (fuel : Nat) (listed : Array Bool) (j : Nat) (b : Act) (u : World),listed.toList.count false ≤ fuel→RelInvL P l.toArray C S fs a listed j b u→wpAny P .any l.toArray Q fuel listed b u:=by
 have hfin : ∀ (listed : Array Bool) (j : Nat) (b : Act) (u : World),RelInvL P l.toArray C S fs a listed j b u→Region.ready .any l.toArray listed = []→Q .normal b u:=fun listed j b u h hr=>by
  have hall:=h.base.done hok hr
  have hj : j = C.effs.length:=by
   rcases Nat.lt_or_ge j C.effs.length with hlt | hge
   ·have h0:=(h.base.effs j _ (List.getElem?_eq_getElem hlt))
    have hin : C.effs[j] < l.toArray.size:=by
     unfold chainOk at hC
     rw [Bool.and_eq_true] at hC
     have h1:=List.all_eq_true.1 hC.1 (C.effs[j],j) (List.mem_zipIdx_iff_getElem?.2 (by simp))
     rw [Bool.and_eq_true] at h1
     exact of_decide_eq_true h1.2
    have:=h0.1 (hall _ hin)
    omega
   ·have:=h.base.le; omega
  have hg:=h.good
  have hn:=h.new
  rw [hj] at hg hn
  refine RegEnd.run l 0 a b (hend u hg) h.base.defers h.base.tmps (fun t ht=>h.base.old t fun i o ho hd=>absurd hd (ht o (List.mem_of_getElem? (i:=i) (by simpa using ho)))) (fun i o d ho hd=>?_)
  have hl:=hall i (Array.getElem?_eq_some_iff.1 (show l.toArray[i]? = some o by simpa using ho)).1
  obtain ⟨v,ev,_⟩:=h.base.new i o d (by simpa using ho) hl hd
  have:=hn i o d (by simpa using ho) hl hd
  have hev : b.eval (.tmp d) = v:=by simp [Act.eval,ev]
  rw [hev] at this
  exact ⟨v,ev,by rw [Nat.zero_add]; exact this⟩
 intro fuel
 induction fuel with
 | zero =>
  intro listed j b u hc h
  have hr : Region.ready .any l.toArray listed = []:=by
   cases hr : Region.ready .any l.toArray listed with
   | nil=>rfl
   | cons i r =>
    have hm : i ∈ Region.ready .any l.toArray listed:=by rw [hr]; exact List.mem_cons_self
    obtain ⟨hi,o,ho,_⟩:=mem_ready.1 hm
    have hlt : i < listed.size:=by rw [h.base.size]; exact (Array.getElem?_eq_some_iff.1 ho).1
    have hmem : false ∈ listed.toList:=by
     rw [Array.getD_eq_getD_getElem?,Array.getElem?_eq_getElem hlt] at hi
     have : listed[i] = false:=hi
     rw [← this]; simp
    have:=List.count_pos_iff.2 hmem
    omega
  exact ⟨hr,hfin listed j b u h hr⟩
 | succ fuel ih =>
  intro listed j b u hc h
  refine ⟨hfin listed j b u h,fun i hi=>?_⟩
  obtain ⟨hi0,o,ho,hdep⟩:=mem_ready.1 hi
  have hlt : i < listed.size:=by rw [h.base.size]; exact (Array.getElem?_eq_some_iff.1 ho).1
  have hli : listed[i] = false:=by
   rw [Array.getD_eq_getD_getElem?,Array.getElem?_eq_getElem hlt] at hi0
   exact hi0
  have hcnt : (listed.setIfInBounds i true).toList.count false ≤ fuel:=by
   rw [Array.toList_setIfInBounds,List.count_set (by simpa using hlt)]
   have hmem : false ∈ listed.toList:=by rw [← hli]; simp
   have:=List.count_pos_iff.2 hmem
   simp only [Array.getElem_toList,hli,beq_self_eq_true,if_true,Bool.true_beq,Bool.false_eq_true,if_false]
   omega
  have hlk:=LooksL.at_ l 0 hops i o (by simpa using ho)
  rw [Nat.zero_add] at hlk
  have hlook:=hlk j (h.base.range hC ho hi0 hdep).1 b.eval (yielded l.toArray b.tmps) u h.good (fun _=>rfl) (fun _=>rfl) (fun _=>rfl) (fun t ht=>by
    have:=h.base.old t fun i o ho hd=>absurd hd (free_of ht i o ho)
    unfold Act.eval; simp only [Array.getD_eq_getD_getElem?]
    rw [this]) (fun k o' d hj ho' hd'=>by
    obtain ⟨e,he,rfl,hb⟩:=dep_of hj
    obtain ⟨v,ev,fv⟩:=h.base.new e.on o' d ho' (hdep e he hb) hd'
    have hev : b.eval (.tmp d) = v:=by simp [Act.eval,ev]
    refine ⟨h.new e.on o' d ho' (hdep e he hb) hd',?_⟩
    unfold yielded
    rw [ho']
    simp only [Option.bind_some,hd',ev,hev]
    cases v <;> rfl)
  unfold wpOp
  rw [ho]
  show if Region.wanted o (yielded l.toArray b.tmps) = true then _ else _
  split
  ·rename_i hw
   have hg:=hlook.1 hw
   refine .inl ?_
   unfold Oper.wp
   generalize (execOp b.eval o).run P u = r at hg ⊢
   cases r with
   | halt x w'=>exact hg.elim
   | ok n w' =>
    cases n with
    | value v =>
     obtain ⟨f,s,t⟩:=hg
     exact ih _ _ _ _ hcnt (h.step hok hC hfr ho hi0 hdep f s t)
    | skip =>
     obtain ⟨f,s,t⟩:=hg
     exact ih _ _ _ _ hcnt (h.step hok hC hfr ho hi0 hdep f s t)
    | enter f args =>
     refine Calls.mono (show Calls P f args w' _ from hg) ?_
     rintro e w'' ⟨v,rfl,f,s,t⟩
     exact ih _ _ _ _ hcnt (h.step hok hC hfr ho hi0 hdep f s t)
    | _=>exact hg.elim
  ·rename_i hw
   have hw' : Region.wanted o (yielded l.toArray b.tmps) = false:=by simpa using hw
   obtain ⟨f,s,t⟩:=hlook.2 hw'
   exact ih _ _ _ _ hcnt (h.step hok hC hfr ho hi0 hdep f s t)
theorem wp_region_relL {l : List Oper} {id : Nat} {a : Act} {w : World} (C : Chain) (S : Nat→World→Prop) (fs : List LFact) (hm : P.follows .mixedOrders = true)
  (hok : relOk l.toArray a.tmps.size = true) (hC : chainOk l.toArray C = true) (hfr : frOk C (fun _=>0) l.toArray.size = true) (hS : S 0 w.drew)
  (hops : LooksL P l C S fs a 0 l) (hend : ∀ u,S C.effs.length u→RegEnd (Q .normal) (fun i=>lfact fs i C.effs.length) u 0 l a) :
  (Code.region id l.toArray true).wp P Q a w:=by
 refine wp_region_any hm ?_
 have hno : ∀ i,(Array.replicate l.toArray.size false).getD i false = false:=fun i=>by
  rw [Array.getD_eq_getD_getElem?]
  rcases Nat.lt_or_ge i l.toArray.size with h | h
  ·rw [Array.getElem?_eq_getElem (by simpa using h)]; simp
  ·rw [Array.getElem?_eq_none (by simpa using h)]; rfl
 refine wpAny_relL hok hC hfr hops hend _ _ 0 _ _ ?_ ⟨⟨trivial,by simp,rfl,rfl,Nat.zero_le _,(fun m e _=>(by rw [hno]; simp)),(fun i o _ hl=>(by rw [hno] at hl; cases hl)),(fun _ _=>rfl),(fun i o d _ hl=>(by rw [hno] at hl; cases hl)),(fun i o _ hl=>(by rw [hno] at hl; cases hl))⟩,hS,(fun i o d _ hl=>(by rw [hno] at hl; cases hl))⟩
 simp
end
theorem LStable.nil_ : LStable []:=fun f hf=>absurd hf (by simp)
theorem LStable.cons_ {f : LFact} {fs : List LFact} (h : ∀ (j : Nat) (v : Value) (u u' : World),Below u.heap.size u u'→f j v u→f j v u') (hs : LStable fs) : LStable (f :: fs):=fun g hg=>by
 rcases List.mem_cons.1 hg with rfl | hg
 ·exact h
 ·exact hs g hg
theorem leq_st (X : Value) : ∀ (j : Nat) (v : Value) (u u' : World),Below u.heap.size u u'→leq X j v u→leq X j v u':=fun _ _ _ _ _ h=>h
def lat (m : Nat) (p : Value→World→Prop) : LFact:=fun j v u=>j = m→p v u
def VStable (p : Value→World→Prop) : Prop:=∀ (v : Value) (u u' : World),Below u.heap.size u u'→p v u→p v u'
theorem lat_st {m : Nat} {p : Value→World→Prop} (h : VStable p) : ∀ (j : Nat) (v : Value) (u u' : World),Below u.heap.size u u'→lat m p j v u→lat m p j v u':=fun _ v u u' hb hp hj=>h v u u' hb (hp hj)
def pLit (lo : Nat) (t : TypeId) (n : Nat) (cs : Array Value) (v : Value) (u : World) : Prop:=∃ g,v = .slice (some ⟨g,0,none⟩) n n∧lo ≤ g∧Blk u g t cs
theorem pLit_st {lo : Nat} {t : TypeId} {n : Nat} {cs : Array Value} : VStable (pLit lo t n cs):=fun v u u' hb ⟨g,e,hg,ho⟩=>⟨g,e,hg,ho.below hb ho.lt⟩
theorem good_call {P : Program} {u : World} {F : Value→World→Prop} {S : World→Prop} {St : World→World→Prop} {f : FuncId} {args : Array Value} {Q : Ending→World→Prop} (h : Calls P f args u Q)
  (hq : ∀ e w',Q e w'→∃ v,e = .returned v∧F v w'∧S w'∧St u w') : OpGood P F S St u (.ok (.enter f args) u):=h.mono hq
end Go.Proofs.YtejkhflkeoihlaaGreat
