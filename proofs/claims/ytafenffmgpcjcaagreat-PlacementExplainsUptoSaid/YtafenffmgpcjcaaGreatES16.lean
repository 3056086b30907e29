/- Texts of the proof: ES16. -/
import Derived.Test.YtafenffmgpcjcaaGreatES15
import Derived.Test.YtafenffmgpcjcaaGreatEVC1
import Derived.Test.YtafenffmgpcjcaaGreatES11
namespace Go.Proofs.YtafenffmgpcjcaaGreat
open Go.RowKit Go.Proofs.YtafenffmgpcjcaaGreat.Vf
set_option linter.unusedVariables false
set_option linter.unusedSimpArgs false
set_option maxRecDepth 100000
set_option maxHeartbeats 4000000
theorem ruWr_len {d : PrgD} (hC : PrgC d) (u : UnitD) : (ruWr d u).length ≤ 1000000:=by
 unfold ruWr
 cases h : tblOf d u.table with
 | none=>exact Nat.zero_le _
 | some t =>
  have h1:=tblOf_small hC h
  have h2:=actsR_len (d:=d) (fun a=>wrR_bd d (prgS_of hC).f a) t.acts.l []
  rw [List.length_nil] at h2
  show (actsR d (fun a=>wrR d (bodyM d a)) [] t.acts.l).length ≤ _
  omega
theorem ruRd_len {d : PrgD} (hC : PrgC d) (u : UnitD) (hu : u.cond.l.length ≤ 1000000) : (ruRd d u).length ≤ 10000000:=by
 unfold ruRd
 split
 ·have h1:=gathM_len d [] ⟨FL u.cond.l,HL u.cond.l,[]⟩
  have h2:=FLn_len u.cond.l
  have h3:=HLn_len u.cond.l
  simp only [List.length_nil] at h1
  omega
 ·cases h : tblOf d u.table with
  | none=>exact Nat.zero_le _
  | some t =>
   have h1:=tblOf_small hC h
   have h2:=actsR_len (d:=d) (fun a=>rdR_bd d a) t.acts.l (keysR d t.keys.l)
   have h3:=keysR_len d t.keys.l
   show (actsR d (fun a=>rdR (bodyM d a)) (keysR d t.keys.l) t.acts.l).length ≤ _
   omega
theorem depsR_same (d : PrgD) (us : List UnitD) : depsM (RdU d us) (WrU d us) us = depsM (rdF d us) (wrF d us) us:=by
 unfold depsM
 refine List.map_congr_left fun a _=>List.map_congr_left fun b _=>depM_same (fun a=>?_) (fun a=>?_) us a b
 ·unfold RdU rdF
  cases us[a]? with
  | none=>exact SameM.rfl_
  | some u=>exact ruRd_same d u
 ·unfold WrU wrF
  cases us[a]? with
  | none=>exact SameM.rfl_
  | some u=>exact ruWr_same d u
theorem ctl_few {d : PrgD} (hU : PrgU d) (h : (ctlCheckW d).2 = 0) : (nodsPre d.control.l).length ≤ 24:=by
 have hn:=hU.nodes
 unfold ctlCheckW at h
 rw [wr_id (by omega) (by omega)] at h
 split at h
 ·cases h
 ·omega
theorem runits_g (d : PrgD) (hU : PrgU d) : Gives Tryz.prog 18 [fPrg d] (ownF (encL fUnit (bldM d))) :=
 rbuild_g d hU.ok.nod hU.nodes fun h=>by rw [(bldL_all _ _ _).1]; exact Nat.le_trans (ctl_few hU h) (by decide)
def chip0 : ChipD:=⟨0,0,0,0,0,0,0,0⟩
def useM (d : PrgD) (S : List Int) (s : Int) : UsD:=if (prgCheckW d).1 = 0∧S.length = (bldM d).length then usTo (jobM d chip0) S s S.length else ⟨0,0,(0,0)⟩
def fUse (u : UsD) : FV:=.tup [intF u.tables,intF u.gates,fRes u.cost]
theorem useP_g (d : PrgD) (S : List Int) (cs : Cap) (s : Int) (hU : PrgU d) (hS : S.length ≤ maxLen) : Gives Tryz.prog 14 [fPrg d,.sl (encL intF S) cs,intF s] (fUse (useM d S s)):=by
 refine Gives.of mixed Tryz.func14 rfl rfl rfl (by kernel_rfl) ?_
 simp [fPrg,cPrg]
 refine call_g (prg_g d hU.ok) ?_
 by_cases h1 : (prgCheckW d).1 = 0
 case neg =>
  have hv : useM d S s = ⟨0,0,(0,0)⟩:=if_neg fun h=>h1 h.1
  rw [hv]
  simp [h1,fUse]
  exact ⟨3,_,rfl,rfl⟩
 have hC:=prgC_of h1
 obtain ⟨c1,c2,c3,hJ⟩:=newJob_g d chip0 hU hC
 have hjc : (jobM d chip0).costs.length = (bldM d).length:=by simp [jobM]
 have hju : (jobM d chip0).units.length = (bldM d).length:=rfl
 simp [h1]
 refine call_g hJ ?_
 unfold useM
 rw [← hju] at hjc ⊢
 generalize jobM d chip0 = j at *
 by_cases h2 : S.length = j.units.length
 case neg =>
  have h2' : ¬ (S.length : Int) = j.units.length:=by omega
  rw [if_neg fun h=>h2 h.2]
  simp [h2,h2',fUse]
  exact ⟨3,_,rfl,rfl⟩
 rw [if_pos ⟨h1,h2⟩]
 simp [h2]
 refine call_g (usage_g j c1 c2 c3 S cs s (by omega) (by omega) hS) ?_
 rw [h2]
 simp [fUse]
 exact ⟨3,_,rfl,rfl⟩
theorem opb_sl {P : Program} {t e : TypeId} {α : Type} {enc : α→FV} {ok : α→Prop} {ms : α→Nat} {sz : Nat} (ht : P.underlying t = some (.slice e)) (hc : P.cellsOf e = sz) (hs : 0 < sz) (hl : ∀ y,(enc y).cells.length = sz) (he : ∀ N,OpB P N e α enc ok ms) (N : Nat) :
  OpB P N t (List α) (fun l=>.sl (encL enc l) .un) (fun l=>∀ y ∈ l,ok y) (fun l=>lsum ms l + 1):=opb_all (fun N=>opb_slice ht hc hs hl (he N)) N
def IOk (x : Int) : Prop:=-9223372036854775808 ≤ x∧x ≤ 9223372036854775807
theorem iok_of {x : Int} (h : (Lit.int .i64 x).wf = true) : IOk x:=by
 simp only [Lit.wf,Bool.and_eq_true,decide_eq_true_eq] at h
 exact h
structure CallD where
 act : Int
 args : List Int
abbrev fCallD (x : CallD) : FV:=.agg [intF x.act,sl (encL u32F x.args)]
theorem u32_of {x : Int} (h : (Lit.int .u32 x).wf = true) : U32 x:=by
 simp only [Lit.wf,Bool.and_eq_true,decide_eq_true_eq] at h
 exact ⟨h.1,Int.lt_of_le_of_lt h.2 (by decide)⟩
def ms_fld (x : FldD) : Nat:=((x.name.size + 1) + (1 + 0)) + 1
theorem fld_opb (N : Nat) : OpB Tryz.prog N 124 FldD fFld (fun _=>True) ms_fld :=
 opb_all (fun N=>(opb_struct Tryz.underlying124 (fun y=>by kernel_rfl) (fldb_cons (sz:=1) (opb_string Tryz.underlying9) rfl (by kernel_rfl) (fun _=>rfl) (fldb_cons (sz:=1) (opb_int Tryz.underlying3) rfl (by kernel_rfl) (fun _=>rfl) fldb_nil))).map (β:=FldD) (enc':=fFld) (ok':=fun _=>True) (ms':=ms_fld) (fun p=>⟨p.1,p.2.1⟩) (fun _=>rfl) (fun _ _=>trivial) (fun _=>Nat.le_refl _)) N
theorem fld_sl (N : Nat) : OpB Tryz.prog N 23 (List FldD) (fun l=>.sl (encL fFld l) .un) (fun l=>∀ y ∈ l,(fun _=>True) y) (fun l=>lsum ms_fld l + 1):=opb_sl (sz:=2) Tryz.underlying23 (by kernel_rfl) (by decide) (fun _=>rfl) fld_opb N
def ms_hdr (x : HdrD) : Nat:=((x.name.size + 1) + ((lsum ms_fld x.fields.l + 1) + 0)) + 1
theorem hdr_opb (N : Nat) : OpB Tryz.prog N 118 HdrD fHdr (fun _=>True) ms_hdr :=
 opb_all (fun N=>(opb_struct Tryz.underlying118 (fun y=>by kernel_rfl) (fldb_cons (sz:=1) (opb_string Tryz.underlying9) rfl (by kernel_rfl) (fun _=>rfl) (fldb_cons (sz:=1) (fld_sl N) rfl (by kernel_rfl) (fun _=>rfl) fldb_nil))).map (β:=HdrD) (enc':=fHdr) (ok':=fun _=>True) (ms':=ms_hdr) (fun p=>⟨p.1,⟨p.2.1⟩⟩) (fun _=>rfl) (fun _ _=>trivial) (fun _=>Nat.le_refl _)) N
def ms_reg (x : RegD) : Nat:=((x.name.size + 1) + (1 + (1 + 0))) + 1
theorem reg_opb (N : Nat) : OpB Tryz.prog N 120 RegD fReg (fun _=>True) ms_reg :=
 opb_all (fun N=>(opb_struct Tryz.underlying120 (fun y=>by kernel_rfl) (fldb_cons (sz:=1) (opb_string Tryz.underlying9) rfl (by kernel_rfl) (fun _=>rfl) (fldb_cons (sz:=1) (opb_int Tryz.underlying3) rfl (by kernel_rfl) (fun _=>rfl) (fldb_cons (sz:=1) (opb_int Tryz.underlying3) rfl (by kernel_rfl) (fun _=>rfl) fldb_nil)))).map (β:=RegD) (enc':=fReg) (ok':=fun _=>True) (ms':=ms_reg) (fun p=>⟨p.1,p.2.1,p.2.2.1⟩) (fun _=>rfl) (fun _ _=>trivial) (fun _=>Nat.le_refl _)) N
def ms_ex (x : ExD) : Nat:=(1 + (1 + (1 + 0))) + 1
theorem ex_opb (N : Nat) : OpB Tryz.prog N 126 ExD fEx (fun _=>True) ms_ex :=
 opb_all (fun N=>(opb_struct Tryz.underlying126 (fun y=>by kernel_rfl) (fldb_cons (sz:=1) (opb_int Tryz.underlying3) rfl (by kernel_rfl) (fun _=>rfl) (fldb_cons (sz:=1) (opb_int Tryz.underlying3) rfl (by kernel_rfl) (fun _=>rfl) (fldb_cons (sz:=1) (opb_int Tryz.underlying3) rfl (by kernel_rfl) (fun _=>rfl) fldb_nil)))).map (β:=ExD) (enc':=fEx) (ok':=fun _=>True) (ms':=ms_ex) (fun p=>⟨p.1,p.2.1,p.2.2.1⟩) (fun _=>rfl) (fun _ _=>trivial) (fun _=>Nat.le_refl _)) N
def ms_ref (x : (Int × Int)) : Nat:=(1 + (1 + 0)) + 1
theorem ref_opb (N : Nat) : OpB Tryz.prog N 71 (Int × Int) (fun r : Int × Int=>fRef r.1 r.2) (fun _=>True) ms_ref :=
 opb_all (fun N=>(opb_struct Tryz.underlying71 (fun y=>by kernel_rfl) (fldb_cons (sz:=1) (opb_int Tryz.underlying3) rfl (by kernel_rfl) (fun _=>rfl) (fldb_cons (sz:=1) (opb_int Tryz.underlying3) rfl (by kernel_rfl) (fun _=>rfl) fldb_nil))).map (β:=(Int × Int)) (enc':=(fun r : Int × Int=>fRef r.1 r.2)) (ok':=fun _=>True) (ms':=ms_ref) (fun p=>(p.1,p.2.1)) (fun _=>rfl) (fun _ _=>trivial) (fun _=>Nat.le_refl _)) N
theorem ex_sl (N : Nat) : OpB Tryz.prog N 54 (List ExD) (fun l=>.sl (encL fEx l) .un) (fun l=>∀ y ∈ l,(fun _=>True) y) (fun l=>lsum ms_ex l + 1):=opb_sl (sz:=3) Tryz.underlying54 (by kernel_rfl) (by decide) (fun _=>rfl) ex_opb N
def ms_st (x : StD) : Nat:=(1 + (ms_ref (x.dh,x.df) + (1 + (1 + ((lsum ms_ex x.index.l + 1) + ((lsum ms_ex x.value.l + 1) + 0)))))) + 1
theorem st_opb (N : Nat) : OpB Tryz.prog N 116 StD fSt (fun _=>True) ms_st :=
 opb_all (fun N=>(opb_struct Tryz.underlying116 (fun y=>by kernel_rfl) (fldb_cons (sz:=1) (opb_int Tryz.underlying3) rfl (by kernel_rfl) (fun _=>rfl) (fldb_cons (sz:=2) (ref_opb N) rfl (by kernel_rfl) (fun _=>rfl) (fldb_cons (sz:=1) (opb_int Tryz.underlying3) rfl (by kernel_rfl) (fun _=>rfl) (fldb_cons (sz:=1) (opb_int Tryz.underlying3) rfl (by kernel_rfl) (fun _=>rfl) (fldb_cons (sz:=1) (ex_sl N) rfl (by kernel_rfl) (fun _=>rfl) (fldb_cons (sz:=1) (ex_sl N) rfl (by kernel_rfl) (fun _=>rfl) fldb_nil))))))).map (β:=StD) (enc':=fSt) (ok':=fun _=>True) (ms':=ms_st) (fun p=>⟨p.1,p.2.1.1,p.2.1.2,p.2.2.1,p.2.2.2.1,⟨p.2.2.2.2.1⟩,⟨p.2.2.2.2.2.1⟩⟩) (fun _=>rfl) (fun _ _=>trivial) (fun _=>Nat.le_refl _)) N
theorem st_sl (N : Nat) : OpB Tryz.prog N 112 (List StD) (fun l=>.sl (encL fSt l) .un) (fun l=>∀ y ∈ l,(fun _=>True) y) (fun l=>lsum ms_st l + 1):=opb_sl (sz:=7) Tryz.underlying112 (by kernel_rfl) (by decide) (fun _=>rfl) st_opb N
def ms_act (x : ActD) : Nat:=((x.name.size + 1) + ((lsum ms_fld x.params.l + 1) + ((lsum ms_st x.body.l + 1) + 0))) + 1
theorem act_opb (N : Nat) : OpB Tryz.prog N 114 ActD fAct (fun _=>True) ms_act :=
 opb_all (fun N=>(opb_struct Tryz.underlying114 (fun y=>by kernel_rfl) (fldb_cons (sz:=1) (opb_string Tryz.underlying9) rfl (by kernel_rfl) (fun _=>rfl) (fldb_cons (sz:=1) (fld_sl N) rfl (by kernel_rfl) (fun _=>rfl) (fldb_cons (sz:=1) (st_sl N) rfl (by kernel_rfl) (fun _=>rfl) fldb_nil)))).map (β:=ActD) (enc':=fAct) (ok':=fun _=>True) (ms':=ms_act) (fun p=>⟨p.1,⟨p.2.1⟩,⟨p.2.2.1⟩⟩) (fun _=>rfl) (fun _ _=>trivial) (fun _=>Nat.le_refl _)) N
def ms_key (x : KeyD) : Nat:=(ms_ref (x.h,x.f) + (1 + 0)) + 1
theorem key_opb (N : Nat) : OpB Tryz.prog N 128 KeyD fKey (fun _=>True) ms_key :=
 opb_all (fun N=>(opb_struct Tryz.underlying128 (fun y=>by kernel_rfl) (fldb_cons (sz:=2) (ref_opb N) rfl (by kernel_rfl) (fun _=>rfl) (fldb_cons (sz:=1) (opb_int Tryz.underlying3) rfl (by kernel_rfl) (fun _=>rfl) fldb_nil))).map (β:=KeyD) (enc':=fKey) (ok':=fun _=>True) (ms':=ms_key) (fun p=>⟨p.1.1,p.1.2,p.2.1⟩) (fun _=>rfl) (fun _ _=>trivial) (fun _=>Nat.le_refl _)) N
theorem u32_sl (N : Nat) : OpB Tryz.prog N 65 (List Int) (fun l=>.sl (encL (fun y : Int=>.sc (.int .u32 y)) l) .un) (fun l=>∀ y ∈ l,(fun y : Int=>(Lit.int .u32 y).wf = true) y) (fun l=>lsum (fun _=>1) l + 1):=opb_sl (sz:=1) Tryz.underlying65 (by kernel_rfl) (by decide) (fun _=>rfl) (fun N=>opb_int Tryz.underlying197) N
def ms_call (x : CallD) : Nat:=(1 + ((lsum (fun _=>1) x.args + 1) + 0)) + 1
theorem call_opb (N : Nat) : OpB Tryz.prog N 67 CallD fCallD (fun x=>IOk x.act∧∀ y ∈ x.args,U32 y) ms_call :=
 opb_all (fun N=>(opb_struct Tryz.underlying67 (fun y=>by kernel_rfl) (fldb_cons (sz:=1) (opb_int Tryz.underlying3) rfl (by kernel_rfl) (fun _=>rfl) (fldb_cons (sz:=1) (u32_sl N) rfl (by kernel_rfl) (fun _=>rfl) fldb_nil))).map (β:=CallD) (enc':=fCallD) (ok':=fun x=>IOk x.act∧∀ y ∈ x.args,U32 y) (ms':=ms_call) (fun p=>⟨p.1,p.2.1⟩) (fun _=>rfl) (fun _ h=>⟨iok_of h.1,fun y hy=>u32_of (h.2.1 y hy)⟩) (fun _=>Nat.le_refl _)) N
theorem key_sl (N : Nat) : OpB Tryz.prog N 64 (List KeyD) (fun l=>.sl (encL fKey l) .un) (fun l=>∀ y ∈ l,(fun _=>True) y) (fun l=>lsum ms_key l + 1):=opb_sl (sz:=3) Tryz.underlying64 (by kernel_rfl) (by decide) (fun _=>rfl) key_opb N
theorem int_sl (N : Nat) : OpB Tryz.prog N 29 (List Int) (fun l=>.sl (encL (fun y : Int=>.sc (.int .i64 y)) l) .un) (fun l=>∀ y ∈ l,(fun y : Int=>(Lit.int .i64 y).wf = true) y) (fun l=>lsum (fun _=>1) l + 1):=opb_sl (sz:=1) Tryz.underlying29 (by kernel_rfl) (by decide) (fun _=>rfl) (fun N=>opb_int Tryz.underlying3) N
def ms_tbl (x : TblD) : Nat:=((x.name.size + 1) + ((lsum ms_key x.keys.l + 1) + ((lsum (fun _=>1) x.acts.l + 1) + (ms_call (⟨x.dfl,x.args.l⟩ : CallD) + (1 + 0))))) + 1
theorem tbl_opb (N : Nat) : OpB Tryz.prog N 69 TblD fTbl (fun x=>(∀ a ∈ x.acts.l,IOk a)∧IOk x.dfl∧∀ y ∈ x.args.l,U32 y) ms_tbl :=
 opb_all (fun N=>(opb_struct Tryz.underlying69 (fun y=>by kernel_rfl) (fldb_cons (sz:=1) (opb_string Tryz.underlying9) rfl (by kernel_rfl) (fun _=>rfl) (fldb_cons (sz:=1) (key_sl N) rfl (by kernel_rfl) (fun _=>rfl) (fldb_cons (sz:=1) (int_sl N) rfl (by kernel_rfl) (fun _=>rfl) (fldb_cons (sz:=2) (call_opb N) rfl (by kernel_rfl) (fun _=>rfl) (fldb_cons (sz:=1) (opb_int Tryz.underlying3) rfl (by kernel_rfl) (fun _=>rfl) fldb_nil)))))).map (β:=TblD) (enc':=fTbl) (ok':=fun x=>(∀ a ∈ x.acts.l,IOk a)∧IOk x.dfl∧∀ y ∈ x.args.l,U32 y) (ms':=ms_tbl) (fun p=>⟨p.1,⟨p.2.1⟩,⟨p.2.2.1⟩,p.2.2.2.1.act,⟨p.2.2.2.1.args⟩,p.2.2.2.2.1⟩) (fun _=>rfl) (fun _ h=>⟨fun a ha=>iok_of (h.2.2.1 a ha),h.2.2.2.1.1,h.2.2.2.1.2⟩) (fun _=>Nat.le_refl _)) N
def ms_case (x : CaseD) : Nat:=(1 + (1 + (1 + 0))) + 1
theorem case_opb (N : Nat) : OpB Tryz.prog N 246 CaseD fCase (fun x=>U32 x.value∧U32 x.mask) ms_case :=
 opb_all (fun N=>(opb_struct Tryz.underlying246 (fun y=>by kernel_rfl) (fldb_cons (sz:=1) (opb_int Tryz.underlying197) rfl (by kernel_rfl) (fun _=>rfl) (fldb_cons (sz:=1) (opb_int Tryz.underlying197) rfl (by kernel_rfl) (fun _=>rfl) (fldb_cons (sz:=1) (opb_int Tryz.underlying3) rfl (by kernel_rfl) (fun _=>rfl) fldb_nil)))).map (β:=CaseD) (enc':=fCase) (ok':=fun x=>U32 x.value∧U32 x.mask) (ms':=ms_case) (fun p=>⟨p.1,p.2.1,p.2.2.1⟩) (fun _=>rfl) (fun _ h=>⟨u32_of h.1,u32_of h.2.1⟩) (fun _=>Nat.le_refl _)) N
theorem case_sl (N : Nat) : OpB Tryz.prog N 72 (List CaseD) (fun l=>.sl (encL fCase l) .un) (fun l=>∀ y ∈ l,(fun x=>U32 x.value∧U32 x.mask) y) (fun l=>lsum ms_case l + 1):=opb_sl (sz:=3) Tryz.underlying72 (by kernel_rfl) (by decide) (fun _=>rfl) case_opb N
def ms_sta (x : StaD) : Nat:=((x.name.size + 1) + ((lsum (fun _=>1) x.extract.l + 1) + (1 + (ms_ref (x.onh,x.onf) + ((lsum ms_case x.cases.l + 1) + (1 + 0)))))) + 1
theorem sta_opb (N : Nat) : OpB Tryz.prog N 74 StaD fSta (fun x=>∀ c ∈ x.cases.l,U32 c.value∧U32 c.mask) ms_sta :=
 opb_all (fun N=>(opb_struct Tryz.underlying74 (fun y=>by kernel_rfl) (fldb_cons (sz:=1) (opb_string Tryz.underlying9) rfl (by kernel_rfl) (fun _=>rfl) (fldb_cons (sz:=1) (int_sl N) rfl (by kernel_rfl) (fun _=>rfl) (fldb_cons (sz:=1) (opb_bool Tryz.underlying4) rfl (by kernel_rfl) (fun _=>rfl) (fldb_cons (sz:=2) (ref_opb N) rfl (by kernel_rfl) (fun _=>rfl) (fldb_cons (sz:=1) (case_sl N) rfl (by kernel_rfl) (fun _=>rfl) (fldb_cons (sz:=1) (opb_int Tryz.underlying3) rfl (by kernel_rfl) (fun _=>rfl) fldb_nil))))))).map (β:=StaD) (enc':=fSta) (ok':=fun x=>∀ c ∈ x.cases.l,U32 c.value∧U32 c.mask) (ms':=ms_sta) (fun p=>⟨p.1,⟨p.2.1⟩,p.2.2.1,p.2.2.2.1.1,p.2.2.2.1.2,⟨p.2.2.2.2.1⟩,p.2.2.2.2.2.1⟩) (fun _=>rfl) (fun _ h=>h.2.2.2.2.1) (fun _=>Nat.le_refl _)) N
mutual
def ms_nod : NodD→Nat
 | .mk _ _ c tl el=>(1 + (1 + ((lsum ms_ex c + 1) + ((ms_nods tl + 1) + ((ms_nods el + 1) + 0))))) + 1
def ms_nods : List NodD→Nat
 | []=>0
 | x :: l=>ms_nod x + ms_nods l
end
theorem ms_nods_eq (l : List NodD) : lsum ms_nod l = ms_nods l:=by
 induction l with
 | nil=>rfl
 | cons x l ih=>rw [lsum,ms_nods,ih]
theorem nod_opb : ∀ N,OpB Tryz.prog N 122 NodD fNod (fun _=>True) ms_nod
 | 0=>OpB.zero
 | N + 1=>by
  have hs : OpB Tryz.prog N 28 (List NodD) (fun l=>.sl (encL fNod l) .un) (fun l=>∀ y ∈ l,True) (fun l=>lsum ms_nod l + 1):=(opb_slice (sz:=5) Tryz.underlying28 (by kernel_rfl) (by decide) (fun x=>by rw [fNod_eq]; rfl) (nod_opb N)).mono (Nat.le_succ N)
  refine (opb_struct Tryz.underlying122 (fun y=>by kernel_rfl) (fldb_cons (sz:=1) (opb_int Tryz.underlying3) rfl (by kernel_rfl) (fun _=>rfl) (fldb_cons (sz:=1) (opb_int Tryz.underlying3) rfl (by kernel_rfl) (fun _=>rfl) (fldb_cons (sz:=1) (ex_sl N) rfl (by kernel_rfl) (fun _=>rfl) (fldb_cons (sz:=1) hs rfl (by kernel_rfl) (fun _=>rfl) (fldb_cons (sz:=1) hs rfl (by kernel_rfl) (fun _=>rfl) fldb_nil)))))).map (fun p=>.mk p.1 p.2.1 p.2.2.1 p.2.2.2.1 p.2.2.2.2.1) (fun p=>by rw [fNod_eq]; rfl) (fun _ _=>trivial) (fun p=>?_)
  show ms_nod _ ≤ _
  rw [ms_nod,← ms_nods_eq,← ms_nods_eq]
  exact Nat.le_refl _
theorem nod_sl (N : Nat) : OpB Tryz.prog N 28 (List NodD) (fun l=>.sl (encL fNod l) .un) (fun l=>∀ y ∈ l,(fun _=>True) y) (fun l=>lsum ms_nod l + 1):=opb_sl (sz:=5) Tryz.underlying28 (by kernel_rfl) (by decide) (fun x=>by rw [fNod_eq]; rfl) nod_opb N
theorem hdr_sl (N : Nat) : OpB Tryz.prog N 22 (List HdrD) (fun l=>.sl (encL fHdr l) .un) (fun l=>∀ y ∈ l,(fun _=>True) y) (fun l=>lsum ms_hdr l + 1):=opb_sl (sz:=2) Tryz.underlying22 (by kernel_rfl) (by decide) (fun _=>rfl) hdr_opb N
theorem reg_sl (N : Nat) : OpB Tryz.prog N 24 (List RegD) (fun l=>.sl (encL fReg l) .un) (fun l=>∀ y ∈ l,(fun _=>True) y) (fun l=>lsum ms_reg l + 1):=opb_sl (sz:=3) Tryz.underlying24 (by kernel_rfl) (by decide) (fun _=>rfl) reg_opb N
theorem act_sl (N : Nat) : OpB Tryz.prog N 25 (List ActD) (fun l=>.sl (encL fAct l) .un) (fun l=>∀ y ∈ l,(fun _=>True) y) (fun l=>lsum ms_act l + 1):=opb_sl (sz:=3) Tryz.underlying25 (by kernel_rfl) (by decide) (fun _=>rfl) act_opb N
theorem tbl_sl (N : Nat) : OpB Tryz.prog N 26 (List TblD) (fun l=>.sl (encL fTbl l) .un) (fun l=>∀ y ∈ l,(fun x=>(∀ a ∈ x.acts.l,IOk a)∧IOk x.dfl∧∀ y ∈ x.args.l,U32 y) y) (fun l=>lsum ms_tbl l + 1):=opb_sl (sz:=6) Tryz.underlying26 (by kernel_rfl) (by decide) (fun _=>rfl) tbl_opb N
theorem sta_sl (N : Nat) : OpB Tryz.prog N 27 (List StaD) (fun l=>.sl (encL fSta l) .un) (fun l=>∀ y ∈ l,(fun x=>∀ c ∈ x.cases.l,U32 c.value∧U32 c.mask) y) (fun l=>lsum ms_sta l + 1):=opb_sl (sz:=7) Tryz.underlying27 (by kernel_rfl) (by decide) (fun _=>rfl) sta_opb N
def ms_prg (x : PrgD) : Nat:=((x.name.size + 1) + ((lsum ms_hdr x.headers.l + 1) + ((lsum ms_fld x.meta_.l + 1) + ((lsum ms_reg x.regs.l + 1) + ((lsum ms_act x.acts.l + 1) + ((lsum ms_tbl x.tables.l + 1) + ((lsum ms_sta x.states.l + 1) + ((lsum ms_nod x.control.l + 1) + ((lsum (fun _=>1) x.dep.l + 1) + 0))))))))) + 1
theorem prg_opb (N : Nat) : OpB Tryz.prog N 31 PrgD fPrg (fun x=>(∀ t ∈ x.tables.l,(∀ a ∈ t.acts.l,IOk a)∧IOk t.dfl∧∀ y ∈ t.args.l,U32 y)∧∀ s ∈ x.states.l,∀ c ∈ s.cases.l,U32 c.value∧U32 c.mask) ms_prg :=
 opb_all (fun N=>(opb_struct Tryz.underlying31 (fun y=>by kernel_rfl) (fldb_cons (sz:=1) (opb_string Tryz.underlying9) rfl (by kernel_rfl) (fun _=>rfl) (fldb_cons (sz:=1) (hdr_sl N) rfl (by kernel_rfl) (fun _=>rfl) (fldb_cons (sz:=1) (fld_sl N) rfl (by kernel_rfl) (fun _=>rfl) (fldb_cons (sz:=1) (reg_sl N) rfl (by kernel_rfl) (fun _=>rfl) (fldb_cons (sz:=1) (act_sl N) rfl (by kernel_rfl) (fun _=>rfl) (fldb_cons (sz:=1) (tbl_sl N) rfl (by kernel_rfl) (fun _=>rfl) (fldb_cons (sz:=1) (sta_sl N) rfl (by kernel_rfl) (fun _=>rfl) (fldb_cons (sz:=1) (nod_sl N) rfl (by kernel_rfl) (fun _=>rfl) (fldb_cons (sz:=1) (int_sl N) rfl (by kernel_rfl) (fun _=>rfl) fldb_nil)))))))))).map (β:=PrgD) (enc':=fPrg) (ok':=fun x=>(∀ t ∈ x.tables.l,(∀ a ∈ t.acts.l,IOk a)∧IOk t.dfl∧∀ y ∈ t.args.l,U32 y)∧∀ s ∈ x.states.l,∀ c ∈ s.cases.l,U32 c.value∧U32 c.mask) (ms':=ms_prg) (fun p=>⟨p.1,⟨p.2.1⟩,⟨p.2.2.1⟩,⟨p.2.2.2.1⟩,⟨p.2.2.2.2.1⟩,⟨p.2.2.2.2.2.1⟩,⟨p.2.2.2.2.2.2.1⟩,⟨p.2.2.2.2.2.2.2.1⟩,⟨p.2.2.2.2.2.2.2.2.1⟩⟩) (fun _=>rfl) (fun _ h=>⟨h.2.2.2.2.2.1,h.2.2.2.2.2.2.1⟩) (fun _=>Nat.le_refl _)) N
def ms_chip (x : ChipD) : Nat:=(1 + (1 + (1 + (1 + (1 + (1 + (1 + (1 + 0)))))))) + 1
theorem chip_opb (N : Nat) : OpB Tryz.prog N 33 ChipD fChip (fun _=>True) ms_chip :=
 opb_all (fun N=>(opb_struct Tryz.underlying33 (fun y=>by kernel_rfl) (fldb_cons (sz:=1) (opb_int Tryz.underlying3) rfl (by kernel_rfl) (fun _=>rfl) (fldb_cons (sz:=1) (opb_int Tryz.underlying3) rfl (by kernel_rfl) (fun _=>rfl) (fldb_cons (sz:=1) (opb_int Tryz.underlying3) rfl (by kernel_rfl) (fun _=>rfl) (fldb_cons (sz:=1) (opb_int Tryz.underlying3) rfl (by kernel_rfl) (fun _=>rfl) (fldb_cons (sz:=1) (opb_int Tryz.underlying3) rfl (by kernel_rfl) (fun _=>rfl) (fldb_cons (sz:=1) (opb_int Tryz.underlying3) rfl (by kernel_rfl) (fun _=>rfl) (fldb_cons (sz:=1) (opb_int Tryz.underlying3) rfl (by kernel_rfl) (fun _=>rfl) (fldb_cons (sz:=1) (opb_int Tryz.underlying3) rfl (by kernel_rfl) (fun _=>rfl) fldb_nil))))))))).map (β:=ChipD) (enc':=fChip) (ok':=fun _=>True) (ms':=ms_chip) (fun p=>⟨p.1,p.2.1,p.2.2.1,p.2.2.2.1,p.2.2.2.2.1,p.2.2.2.2.2.1,p.2.2.2.2.2.2.1,p.2.2.2.2.2.2.2.1⟩) (fun _=>rfl) (fun _ _=>trivial) (fun _=>Nat.le_refl _)) N
theorem ms_nods_len (l : List NodD) : l.length ≤ ms_nods l:=by
 induction l with
 | nil=>exact Nat.le_refl _
 | cons x l ih =>
  obtain ⟨k,t,c,a,b⟩:=x
  rw [ms_nods,ms_nod,List.length_cons]
  omega
mutual
theorem nodB_n : ∀ (x : NodD),ms_nod x ≤ maxLen→NodB x.thn.l∧NodB x.els.l
 | .mk k t c tl el,h=>by
  rw [ms_nod] at h
  exact ⟨nodB_l tl (by omega),nodB_l el (by omega)⟩
theorem nodB_l : ∀ (l : List NodD),ms_nods l ≤ maxLen→NodB l
 | [],h=>.mk [] (Nat.zero_le _) (fun x hx=>by cases hx) (fun x hx=>by cases hx)
 | x :: l,h=>by
  have hlen:=ms_nods_len (x :: l)
  rw [ms_nods] at h hlen
  obtain ⟨h1,h2⟩:=nodB_n x (by omega)
  cases nodB_l l (by omega) with
  | mk _ hl a b =>
   refine .mk _ (by omega) (fun y hy=>?_) (fun y hy=>?_)
   ·rcases List.mem_cons.1 hy with rfl | hy
    ·exact h1
    ·exact a y hy
   ·rcases List.mem_cons.1 hy with rfl | hy
    ·exact h2
    ·exact b y hy
end
theorem lsum_ex (l : List ExD) : 2 * l.length ≤ lsum ms_ex l:=by
 induction l with
 | nil=>exact Nat.le_refl _
 | cons x l ih =>
  have : 2 ≤ ms_ex x:=by unfold ms_ex; omega
  simp only [lsum,List.length_cons]; omega
mutual
theorem nodM_n : ∀ (x : NodD),(nodPre x).length ≤ ms_nod x∧∀ y ∈ nodPre x,2 * y.cond.l.length ≤ ms_nod x
 | .mk k t c tl el=>by
  obtain ⟨a1,a2⟩:=nodM_l tl
  obtain ⟨b1,b2⟩:=nodM_l el
  have hc:=lsum_ex c
  rw [nodPre,ms_nod]
  refine ⟨by simp only [List.length_cons,List.length_append]; omega,fun y hy=>?_⟩
  rcases List.mem_cons.1 hy with rfl | hy
  ·show 2 * c.length ≤ _
   omega
  rcases List.mem_append.1 hy with hy | hy
  ·have:=a2 y hy; omega
  ·have:=b2 y hy; omega
theorem nodM_l : ∀ (l : List NodD),(nodsPre l).length ≤ ms_nods l∧∀ y ∈ nodsPre l,2 * y.cond.l.length ≤ ms_nods l
 | []=>⟨Nat.le_refl _,fun y hy=>by rw [nodsPre] at hy; cases hy⟩
 | x :: l=>by
  obtain ⟨a1,a2⟩:=nodM_n x
  obtain ⟨b1,b2⟩:=nodM_l l
  rw [nodsPre,ms_nods]
  refine ⟨by simp only [List.length_append]; omega,fun y hy=>?_⟩
  rcases List.mem_append.1 hy with hy | hy
  ·have:=a2 y hy; omega
  ·have:=b2 y hy; omega
end
theorem prgU_of {d : PrgD} (h : ms_prg d ≤ 1048576) (hok : ∀ t ∈ d.tables.l,(∀ a ∈ t.acts.l,IOk a)∧IOk t.dfl∧∀ y ∈ t.args.l,U32 y) : PrgU d:=by
 unfold ms_prg at h
 have m1 : ∀ x ∈ d.headers.l,ms_hdr x ≤ 1048576:=fun x hx=>by have:=lsum_mem (f:=ms_hdr) hx; omega
 have m2 : ∀ x ∈ d.meta_.l,ms_fld x ≤ 1048576:=fun x hx=>by have:=lsum_mem (f:=ms_fld) hx; omega
 have m3 : ∀ x ∈ d.regs.l,ms_reg x ≤ 1048576:=fun x hx=>by have:=lsum_mem (f:=ms_reg) hx; omega
 have m4 : ∀ x ∈ d.acts.l,ms_act x ≤ 1048576:=fun x hx=>by have:=lsum_mem (f:=ms_act) hx; omega
 have m5 : ∀ x ∈ d.tables.l,ms_tbl x ≤ 1048576:=fun x hx=>by have:=lsum_mem (f:=ms_tbl) hx; omega
 have m6 : ∀ x ∈ d.states.l,ms_sta x ≤ 1048576:=fun x hx=>by have:=lsum_mem (f:=ms_sta) hx; omega
 have m7:=lsum_len (f:=ms_sta) (fun x=>by unfold ms_sta; omega) d.states.l
 have m8:=ms_nods_eq d.control.l
 refine ⟨⟨⟨by omega,fun x hx=>?_,fun x hx=>?_,fun x hx=>?_,fun x hx=>?_,fun x hx=>?_,fun x hx=>?_⟩,fun t ht=>?_,nodB_l _ (by unfold maxLen; omega),by omega⟩,?_,?_⟩
 ·have h1:=m1 x hx
  unfold ms_hdr at h1
  exact ⟨by omega,fun y hy=>by have h2:=lsum_mem (f:=ms_fld) hy; unfold ms_fld at h1 h2; omega⟩
 ·have h1:=m2 x hx
  unfold ms_fld at h1
  omega
 ·have h1:=m3 x hx
  unfold ms_reg at h1
  omega
 ·have h1:=m4 x hx
  unfold ms_act at h1
  exact ⟨by omega,fun y hy=>by have h2:=lsum_mem (f:=ms_fld) hy; unfold ms_fld at h1 h2; omega⟩
 ·have h1:=m5 x hx
  unfold ms_tbl at h1
  omega
 ·have h1:=m6 x hx
  unfold ms_sta at h1
  omega
 ·have h1:=m5 t ht
  obtain ⟨o1,o2,_⟩:=hok t ht
  unfold ms_tbl ms_call at h1
  have h2:=lsum_len (f:=fun _ : Int=>1) (fun _=>Nat.le_refl _) t.args.l
  exact ⟨o1,o2,by simp only at h1; omega⟩
 ·have h1:=(nodM_l d.control.l).1
  omega
 ·intro y hy
  have h1:=(nodM_l d.control.l).2 y hy
  omega
theorem prgN_of {d : PrgD} (hok : ∀ t ∈ d.tables.l,(∀ a ∈ t.acts.l,IOk a)∧IOk t.dfl∧∀ y ∈ t.args.l,U32 y) (h2 : ∀ s ∈ d.states.l,∀ c ∈ s.cases.l,U32 c.value∧U32 c.mask) : PrgN d :=
 ⟨fun t ht=>(hok t ht).2.2,h2⟩
def big2 (s : StD) : Bool:=decide ((60 : Int) < s.index.l.length) || decide ((60 : Int) < s.value.l.length)
def big1 (a : ActD) : Bool:=decide ((20 : Int) < a.params.l.length) || (decide ((30 : Int) < a.body.l.length) || a.body.l.any big2)
def big3 (h : HdrD) : Bool:=decide ((40 : Int) < h.fields.l.length)
def big4 (r : RegD) : Bool:=decide (200 < r.size)
def sm16 (d : PrgD) : Bool:=if (20 : Int) < d.headers.l.length then false else if (30 : Int) < d.meta_.l.length then false else if (20 : Int) < d.regs.l.length then false else if (40 : Int) < d.acts.l.length then false else
 !d.acts.l.any big1 && (!d.headers.l.any big3 && !d.regs.l.any big4)
def s6A (d : PrgD) (i : Nat) (s : St) : Prop:=noneT big1 d.acts.l i∧Vf.Sl [(1,.ref 0 0),(3,.f (intF i))] 120 [aPrg d] [] s
def s6B (d : PrgD) (a : ActD) (i j : Nat) (s : St) : Prop:=noneT big2 a.body.l j∧Vf.Sl [(1,.ref 0 0),(3,.f (intF i)),(4,.f (intF j))] 120 [aPrg d] [] s
def s6C (d : PrgD) (i : Nat) (s : St) : Prop:=noneT big3 d.headers.l i∧Vf.Sl [(1,.ref 0 0),(5,.f (intF i))] 120 [aPrg d] [] s
def s6D (d : PrgD) (i : Nat) (s : St) : Prop:=noneT big4 d.regs.l i∧Vf.Sl [(1,.ref 0 0),(6,.f (intF i))] 120 [aPrg d] [] s
theorem small16_g (d : PrgD) : Gives Tryz.prog 22 [fPrg d] (boolF (sm16 d)):=by
 refine Gives.of mixed Tryz.func22 rfl rfl rfl (by kernel_rfl) ?_
 generalize hv : sm16 d = v
 unfold sm16 at hv
 simp [fPrg,cPrg]
 by_cases h1 : (20 : Int) < d.headers.l.length
 ·rw [if_pos h1] at hv; subst hv
  simp [h1]
 rw [if_neg h1] at hv
 by_cases h2 : (30 : Int) < d.meta_.l.length
 ·rw [if_pos h2] at hv; subst hv
  simp [h1,h2]
 rw [if_neg h2] at hv
 by_cases h3 : (20 : Int) < d.regs.l.length
 ·rw [if_pos h3] at hv; subst hv
  simp [h1,h2,h3]
 rw [if_neg h3] at hv
 by_cases h4 : (40 : Int) < d.acts.l.length
 ·rw [if_pos h4] at hv; subst hv
  simp [h1,h2,h3,h4]
 rw [if_neg h4] at hv
 simp [h1,h2,h3,h4]
 have q1 : d.headers.l.length ≤ 20:=by omega
 have q2 : d.regs.l.length ≤ 20:=by omega
 have q3 : d.acts.l.length ≤ 40:=by omega
 refine forX mixed d.acts.l.length (s6A d) (by kernel_rfl) ⟨.zero,Sl.of rfl rfl rfl⟩ ?_
 rintro i ⟨ts,hh,kk⟩ hi ⟨hno,rfl,rfl,f,rfl⟩
 by_cases hlt : i < d.acts.l.length
 ·obtain ⟨a,ha,ha'⟩:=nth_of hlt
  have hw:=wrap64 (x:=(i : Int) + 1) (by omega) (by omega)
  have hit : big1 a = true→v = false:=fun h=>by rw [← hv,any_hit ha' h]; rfl
  by_cases a1 : (20 : Int) < a.params.l.length
  ·obtain rfl:=hit (by simp [big1,a1])
   simp [aPrg,hlt,ha,a1]
  by_cases a2 : (30 : Int) < a.body.l.length
  ·obtain rfl:=hit (by simp [big1,a2])
   simp [aPrg,hlt,ha,a1,a2]
  simp [aPrg,hlt,ha,a1,a2]
  refine forX mixed a.body.l.length (s6B d a i) (by kernel_rfl) ⟨.zero,Sl.of rfl rfl rfl⟩ ?_
  rintro j ⟨ts,hh,kk⟩ hj ⟨hno2,rfl,rfl,f,rfl⟩
  by_cases hlj : j < a.body.l.length
  ·obtain ⟨s,hs,hs'⟩:=nth_of hlj
   have hw2:=wrap64 (x:=(j : Int) + 1) (by omega) (by omega)
   have hit2 : big2 s = true→v = false:=fun h=>hit (by unfold big1; rw [any_hit hs' h]; simp)
   by_cases b1 : (60 : Int) < s.index.l.length
   ·obtain rfl:=hit2 (by simp [big2,b1])
    simp [aPrg,hlt,ha,hlj,hs,b1]
   by_cases b2 : (60 : Int) < s.value.l.length
   ·obtain rfl:=hit2 (by simp [big2,b2])
    simp [aPrg,hlt,ha,hlj,hs,b1,b2]
   simp [aPrg,hlt,ha,hlj,hs,b1,b2,hw2]
   exact ⟨hno2.next hs' (by simp [big2,b1,b2]),Sl.of rfl rfl rfl⟩
  ·have hal:=hno2.all hlj
   simp [aPrg,hlt,ha,hlj,hw]
   exact ⟨hno.next ha' (by simp [big1,a1,a2,hal]),Sl.of rfl rfl rfl⟩
 rw [hno.all hlt] at hv
 simp [aPrg,hlt]
 refine forX mixed d.headers.l.length (s6C d) (by kernel_rfl) ⟨.zero,Sl.of rfl rfl rfl⟩ ?_
 clear hlt hi hno
 rintro i ⟨ts,hh,kk⟩ hi ⟨hno,rfl,rfl,f,rfl⟩
 by_cases hlt : i < d.headers.l.length
 ·obtain ⟨a,ha,ha'⟩:=nth_of hlt
  have hw:=wrap64 (x:=(i : Int) + 1) (by omega) (by omega)
  by_cases a1 : (40 : Int) < a.fields.l.length
  ·have : v = false:=by rw [← hv,any_hit ha' (show big3 a = true by simp [big3,a1])]; rfl
   subst this
   simp [aPrg,hlt,ha,a1]
  simp [aPrg,hlt,ha,a1,hw]
  exact ⟨hno.next ha' (by simp [big3,a1]),Sl.of rfl rfl rfl⟩
 rw [hno.all hlt] at hv
 simp [aPrg,hlt]
 refine forX mixed d.regs.l.length (s6D d) (by kernel_rfl) ⟨.zero,Sl.of rfl rfl rfl⟩ ?_
 clear hlt hi hno
 rintro i ⟨ts,hh,kk⟩ hi ⟨hno,rfl,rfl,f,rfl⟩
 by_cases hlt : i < d.regs.l.length
 ·obtain ⟨a,ha,ha'⟩:=nth_of hlt
  have hw:=wrap64 (x:=(i : Int) + 1) (by omega) (by omega)
  by_cases a1 : (200 : Int) < a.size
  ·have : v = false:=by rw [← hv,any_hit ha' (show big4 a = true by simp [big4,a1])]; rfl
   subst this
   simp [aPrg,hlt,ha,a1]
  simp [aPrg,hlt,ha,a1,hw]
  exact ⟨hno.next ha' (by simp [big4,a1]),Sl.of rfl rfl rfl⟩
 rw [hno.all hlt] at hv
 subst hv
 simp [aPrg,hlt]
def big5 (t : TblD) : Bool:=decide ((20 : Int) < t.keys.l.length) || (decide ((40 : Int) < t.acts.l.length) || decide ((40 : Int) < t.args.l.length))
def big6 (t : StaD) : Bool:=decide ((20 : Int) < t.extract.l.length) || decide ((20 : Int) < t.cases.l.length)
def sm22 (d : PrgD) (n : Int) : Bool:=if sm16 d = true then (if (30 : Int) < d.tables.l.length then false else if (30 : Int) < d.states.l.length then false else if (30 : Int) < d.dep.l.length then false else if 60 < n then false else
 !d.tables.l.any big5 && !d.states.l.any big6) else false
def runM (G : Nat→Int→Int) (n : Nat) : Nat→Nat→Int→Int
 | 0,_,c=>c
 | m + 1,i,c=>if i < n∧c ≤ 60 then runM G n m (i + 1) (G i c) else c
theorem runM_stop {G : Nat→Int→Int} {n m i : Nat} {c : Int} (h : ¬ (i < n∧c ≤ 60)) : runM G n m i c = c:=by
 cases m with
 | zero=>rfl
 | succ m=>rw [runM,if_neg h]
def blkS (F1 F2 : NodD→Int) (l : List NodD) (i : Nat) (c : Int) : Int:=match l[i]? with
 | none=>c
 | some x=>IntKind.i64.wrap (c + IntKind.i64.wrap (IntKind.i64.wrap (F1 x + F2 x) + IntKind.i64.wrap ((x.cond.l.length : Int) / 20)))
def bkI (l : List NodD) (dp r : Int) (G : Nat→Int→Int) (i : Nat) (s : St) : Prop:=∃ c,runM G l.length (l.length - i) i c = r∧Vf.Sl [(0,.f (sl (encL fNod l))),(1,.f (intF dp)),(2,.f (intF 60)),(7,.f (intF c)),(8,.f (intF i))] 61 [] [] s
theorem lblocks_g (l : List NodD) (hB : NodB l) (hc : ∀ y ∈ nodsPre l,y.cond.l.length ≤ 1000000) : ∃ F : Int→Int,∀ dp,Gives Tryz.prog 23 [sl (encL fNod l),intF dp,intF 60] (intF (F dp)):=by
 induction hB with
 | mk l hl h1 h2 ih1 ih2 =>
  have hsub : ∀ x ∈ l,(∀ y ∈ nodsPre x.thn.l,y.cond.l.length ≤ 1000000)∧(∀ y ∈ nodsPre x.els.l,y.cond.l.length ≤ 1000000)∧x.cond.l.length ≤ 1000000:=fun x hx =>
   ⟨fun y hy=>hc y (nodsPre_thn hx y hy),fun y hy=>hc y (nodsPre_els hx y hy),hc x (nodsPre_mem hx)⟩
  have e1 : ∀ x : NodD,∃ F : Int→Int,x ∈ l→∀ dp,Gives Tryz.prog 23 [sl (encL fNod x.thn.l),intF dp,intF 60] (intF (F dp)):=fun x=>by
   by_cases hx : x ∈ l
   ·obtain ⟨F,hF⟩:=ih1 x hx (hsub x hx).1
    exact ⟨F,fun _=>hF⟩
   ·exact ⟨fun _=>0,fun h=>absurd h hx⟩
  have e2 : ∀ x : NodD,∃ F : Int→Int,x ∈ l→∀ dp,Gives Tryz.prog 23 [sl (encL fNod x.els.l),intF dp,intF 60] (intF (F dp)):=fun x=>by
   by_cases hx : x ∈ l
   ·obtain ⟨F,hF⟩:=ih2 x hx (hsub x hx).2.1
    exact ⟨F,fun _=>hF⟩
   ·exact ⟨fun _=>0,fun h=>absurd h hx⟩
  obtain ⟨F1,hF1⟩:=Classical.skolem.1 e1
  obtain ⟨F2,hF2⟩:=Classical.skolem.1 e2
  refine ⟨fun dp=>if (60 : Int) < l.length then 61 else if 20 < dp then 61 else runM (blkS (fun x=>F1 x (IntKind.i64.wrap (dp + 1))) (fun x=>F2 x (IntKind.i64.wrap (dp + 1))) l) l.length l.length 0 l.length,fun dp=>?_⟩
  refine Gives.of mixed Tryz.func23 rfl rfl rfl (by kernel_rfl) ?_
  by_cases c1 : (60 : Int) < l.length
  ·simp [c1,Vf.wrap64]
  by_cases c2 : 20 < dp
  ·simp [c1,c2,Vf.wrap64]
  simp only [if_neg c1,if_neg c2]
  generalize hr : runM (blkS (fun x=>F1 x (IntKind.i64.wrap (dp + 1))) (fun x=>F2 x (IntKind.i64.wrap (dp + 1))) l) l.length l.length 0 l.length = r
  simp [c1,c2]
  refine forX mixed l.length (bkI l dp r _) (by kernel_rfl) ⟨_,hr,Sl.of rfl rfl rfl⟩ ?_
  rintro i ⟨ts,hh,kk⟩ hi ⟨c,hr,rfl,rfl,f,rfl⟩
  by_cases hlt : i < l.length
  case neg =>
   rw [runM_stop (by omega)] at hr
   subst hr
   simp [hlt]
  by_cases c3 : c ≤ 60
  case neg =>
   rw [runM_stop (by omega)] at hr
   subst hr
   simp [hlt,c3]
  obtain ⟨x,hx,hx'⟩:=nth_of hlt
  have hm:=List.mem_of_getElem? hx'
  have hw:=wrap64 (x:=(i : Int) + 1) (by omega) (by omega)
  rw [show l.length - i = (l.length - (i + 1)) + 1 by omega,runM,if_pos ⟨hlt,c3⟩] at hr
  simp [hlt,c3,hx,fNod_eq]
  refine call_g (hF1 x hm _) ?_
  simp [hlt,c3,hx,fNod_eq]
  refine call_g (hF2 x hm _) ?_
  have hG : blkS (fun x=>F1 x (IntKind.i64.wrap (dp + 1))) (fun x=>F2 x (IntKind.i64.wrap (dp + 1))) l i c = IntKind.i64.wrap (c + IntKind.i64.wrap (IntKind.i64.wrap (F1 x (IntKind.i64.wrap (dp + 1)) + F2 x (IntKind.i64.wrap (dp + 1))) + IntKind.i64.wrap ((x.cond.l.length : Int) / 20))):=by
   unfold blkS
   rw [hx']
  rw [hG] at hr
  simp [hlt,hx,fNod_eq,hw]
  exact ⟨_,hr,Sl.of rfl rfl rfl⟩
def s22A (d : PrgD) (i : Nat) (s : St) : Prop:=noneT big5 d.tables.l i∧Vf.Sl [(1,.ref 0 0),(3,.f (intF i))] 93 [aPrg d] [] s
def s22B (d : PrgD) (i : Nat) (s : St) : Prop:=noneT big6 d.states.l i∧Vf.Sl [(1,.ref 0 0),(4,.f (intF i))] 93 [aPrg d] [] s
theorem small22_g (d : PrgD) (hB : NodB d.control.l) (hc : ∀ y ∈ nodsPre d.control.l,y.cond.l.length ≤ 1000000) : ∃ b,Gives Tryz.prog 6 [fPrg d] (boolF b):=by
 obtain ⟨F,hF⟩:=lblocks_g d.control.l hB hc
 refine ⟨sm22 d (F 0),?_⟩
 refine Gives.of mixed Tryz.func6 rfl rfl rfl (by kernel_rfl) ?_
 generalize hv : sm22 d (F 0) = v
 unfold sm22 at hv
 simp [fPrg,cPrg]
 refine call_g (small16_g d) ?_
 cases h0 : sm16 d with
 | false =>
  rw [h0] at hv
  subst hv
  simp
 | true =>
 rw [h0] at hv
 replace hv:=hv
 rw [if_pos rfl] at hv
 by_cases h1 : (30 : Int) < d.tables.l.length
 ·rw [if_pos h1] at hv; subst hv
  simp [h1]
 rw [if_neg h1] at hv
 by_cases h2 : (30 : Int) < d.states.l.length
 ·rw [if_pos h2] at hv; subst hv
  simp [h1,h2]
 rw [if_neg h2] at hv
 by_cases h3 : (30 : Int) < d.dep.l.length
 ·rw [if_pos h3] at hv; subst hv
  simp [h1,h2,h3]
 rw [if_neg h3] at hv
 simp [h1,h2,h3]
 refine call_g (hF 0) ?_
 by_cases h4 : 60 < F 0
 ·rw [if_pos h4] at hv; subst hv
  simp [h4]
 rw [if_neg h4] at hv
 simp [h4]
 refine forX mixed d.tables.l.length (s22A d) (by kernel_rfl) ⟨.zero,Sl.of rfl rfl rfl⟩ ?_
 rintro i ⟨ts,hh,kk⟩ hi ⟨hno,rfl,rfl,f,rfl⟩
 by_cases hlt : i < d.tables.l.length
 ·obtain ⟨a,ha,ha'⟩:=nth_of hlt
  have hw:=wrap64 (x:=(i : Int) + 1) (by omega) (by omega)
  have hit : big5 a = true→v = false:=fun h=>by rw [← hv,any_hit ha' h]; rfl
  by_cases a1 : (20 : Int) < a.keys.l.length
  ·obtain rfl:=hit (by simp [big5,a1])
   simp [aPrg,hlt,ha,a1]
  by_cases a2 : (40 : Int) < a.acts.l.length
  ·obtain rfl:=hit (by simp [big5,a2])
   simp [aPrg,hlt,ha,a1,a2]
  by_cases a3 : (40 : Int) < a.args.l.length
  ·obtain rfl:=hit (by simp [big5,a3])
   simp [aPrg,hlt,ha,a1,a2,a3]
  simp [aPrg,hlt,ha,a1,a2,a3,hw]
  exact ⟨hno.next ha' (by simp [big5,a1,a2,a3]),Sl.of rfl rfl rfl⟩
 rw [hno.all hlt] at hv
 simp [aPrg,hlt]
 refine forX mixed d.states.l.length (s22B d) (by kernel_rfl) ⟨.zero,Sl.of rfl rfl rfl⟩ ?_
 clear hlt hi hno
 rintro i ⟨ts,hh,kk⟩ hi ⟨hno,rfl,rfl,f,rfl⟩
 by_cases hlt : i < d.states.l.length
 ·obtain ⟨a,ha,ha'⟩:=nth_of hlt
  have hw:=wrap64 (x:=(i : Int) + 1) (by omega) (by omega)
  have hit : big6 a = true→v = false:=fun h=>by rw [← hv,any_hit ha' h]; rfl
  by_cases a1 : (20 : Int) < a.extract.l.length
  ·obtain rfl:=hit (by simp [big6,a1])
   simp [aPrg,hlt,ha,a1]
  by_cases a2 : (20 : Int) < a.cases.l.length
  ·obtain rfl:=hit (by simp [big6,a2])
   simp [aPrg,hlt,ha,a1,a2]
  simp [aPrg,hlt,ha,a1,a2,hw]
  exact ⟨hno.next ha' (by simp [big6,a1,a2]),Sl.of rfl rfl rfl⟩
 rw [hno.all hlt] at hv
 subst hv
 simp [aPrg,hlt]
def difAt (a b : List Int) (i : Nat) : Bool:=a.getD i 0 != b.getD i 0
theorem eq_of_dif {a b : List Int} (hl : a.length = b.length) (h : (List.range a.length).any (difAt a b) = false) : a = b:=by
 apply List.ext_getElem hl
 intro i h1 h2
 have:=List.any_eq_false.1 h i (List.mem_range.2 h1)
 simp only [difAt,List.getD_eq_getElem?_getD,List.getElem?_eq_getElem h1,List.getElem?_eq_getElem h2] at this
 simpa using this
def eqiI (a b : List Int) (ca cb : Cap) (i : Nat) (s : St) : Prop:=noneT (difAt a b) (List.range a.length) i∧Vf.Sl [(0,.f (.sl (encL intF a) ca)),(1,.f (.sl (encL intF b) cb)),(5,.f (intF i))] 26 [] [] s
theorem eqInts_g (a b : List Int) (ca cb : Cap) (ha : a.length < 2^62) : Gives Tryz.prog 20 [.sl (encL intF a) ca,.sl (encL intF b) cb] (boolF (decide (a = b))):=by
 refine Gives.of mixed Tryz.func20 rfl rfl rfl (by kernel_rfl) ?_
 by_cases hl : a.length = b.length
 case neg =>
  have hl' : ¬ (a.length : Int) = b.length:=by omega
  have : a ≠ b:=fun h=>hl (by rw [h])
  rw [decide_eq_false this]
  simp [hl,hl']
 have hl' : (a.length : Int) = b.length:=by omega
 simp [hl']
 refine forX mixed a.length (eqiI a b ca cb) (by kernel_rfl) ⟨.zero,Sl.of rfl rfl rfl⟩ ?_
 rintro i ⟨ts,hh,kk⟩ hi ⟨hno,rfl,rfl,f,rfl⟩
 by_cases hlt : i < a.length
 ·obtain ⟨x,hx,hx'⟩:=nth_of hlt
  obtain ⟨y,hy,hy'⟩:=nth_of (show i < b.length by omega)
  have hlb : i < b.length:=by omega
  have hw:=wrap64 (x:=(i : Int) + 1) (by omega) (by omega)
  have hd : difAt a b i = (x != y):=by simp [difAt,List.getD_eq_getElem?_getD,hx',hy']
  by_cases c : x = y
  ·simp [hlt,hlb,hx,hy,c,hw]
   exact ⟨hno.next (range_at hlt) (by rw [hd,c]; simp),Sl.of rfl rfl rfl⟩
  ·have hne : a ≠ b:=fun h=>c (by rw [h] at hx'; exact Option.some.inj (hx'.symm.trans hy'))
   rw [decide_eq_false hne]
   simp [hlt,hlb,hx,hy,c]
 ·have ha':=hno.all (show ¬ i < (List.range a.length).length by simpa using hlt)
  rw [decide_eq_true (eq_of_dif hl ha')]
  simp [hlt]
def sameM (a b : Int × List Int × Int × Int × List Int) : Bool:=decide (a.1 = b.1) && (decide (a.2.1 = b.2.1) && (decide (a.2.2.1 = b.2.2.1) && (decide (a.2.2.2.1 = b.2.2.2.1) && decide (a.2.2.2.2 = b.2.2.2.2))))
theorem same_g (s s' st st' r r' : Int) (l l' u u' : List Int) (c1 c2 c3 c4 : Cap) (h1 : l.length < 2^62) (h2 : u.length < 2^62) :
  Gives Tryz.prog 10 [fPlc s (.sl (encL intF l) c1) st r (.sl (encL intF u) c2),fPlc s' (.sl (encL intF l') c3) st' r' (.sl (encL intF u') c4)] (boolF (sameM (s,l,st,r,u) (s',l',st',r',u'))):=by
 unfold sameM
 refine Gives.of mixed Tryz.func10 rfl rfl rfl (by kernel_rfl) ?_
 by_cases e1 : s = s'
 case neg=>simp [e1]
 simp [e1]
 refine call_g (eqInts_g l l' c1 c3 h1) ?_
 by_cases e2 : l = l'
 case neg=>simp [e2]
 by_cases e3 : st = st'
 case neg=>simp [e2,e3]
 by_cases e4 : r = r'
 case neg=>simp [e2,e3,e4]
 simp [e2,e3,e4]
 refine call_g (eqInts_g u u' c2 c4 h2) ?_
 simp
theorem lchip_g (n : Int) : Gives Tryz.prog 25 [intF n] (fChip ⟨n,4,4,8,8,8,8,8⟩):=by
 refine Gives.of mixed Tryz.func25 rfl rfl rfl (by kernel_rfl) ?_
 simp
end Go.Proofs.YtafenffmgpcjcaaGreat
