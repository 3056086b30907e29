/- Texts of the proof: S13. -/
import Derived.Test.YtejkhflkeoihlaaGreatVC1
import Derived.Test.YtejkhflkeoihlaaGreatS12
import Derived.Test.YtejkhflkeoihlaaGreatQPe
namespace Go.Proofs.YtejkhflkeoihlaaGreat
open Go.RowKit Go.Proofs.YtejkhflkeoihlaaGreat.Vf
set_option linter.unusedVariables false
set_option linter.unusedSimpArgs false
set_option maxRecDepth 100000
set_option maxHeartbeats 4000000
theorem opb_sl {P : Program} {t e : TypeId} {α : Type} {enc : α→FV} {ok : α→Prop} {ms : α→Nat} {sz : Nat} (ht : P.underlying t = some (.slice e)) (hc : P.cellsOf e = sz) (hs : 0 < sz) (hl : ∀ y,(enc y).cells.length = sz) (he : ∀ N,OpB P N e α enc ok ms) (N : Nat) :
  OpB P N t (List α) (fun l=>.sl (encL enc l) .un) (fun l=>∀ y ∈ l,ok y) (fun l=>lsum ms l + 1):=opb_all (fun N=>opb_slice ht hc hs hl (he N)) N
def IOk (x : Int) : Prop:=-9223372036854775808 ≤ x∧x ≤ 9223372036854775807
theorem iok_of {x : Int} (h : (Lit.int .i64 x).wf = true) : IOk x:=by
 simp only [Lit.wf,Bool.and_eq_true,decide_eq_true_eq] at h
 exact h
def ms_fld (x : FldD) : Nat:=((x.name.size + 1) + (1 + 0)) + 1
theorem fld_opb (N : Nat) : OpB Tryz.prog N 164 FldD fFld (fun _=>True) ms_fld :=
 opb_all (fun N=>(opb_struct Tryz.underlying164 (fun y=>by kernel_rfl) (fldb_cons (sz:=1) (opb_string Tryz.underlying9) rfl (by kernel_rfl) (fun _=>rfl) (fldb_cons (sz:=1) (opb_int Tryz.underlying3) rfl (by kernel_rfl) (fun _=>rfl) fldb_nil))).map (β:=FldD) (enc':=fFld) (ok':=fun _=>True) (ms':=ms_fld) (fun p=>⟨p.1,p.2.1⟩) (fun _=>rfl) (fun _ _=>trivial) (fun _=>Nat.le_refl _)) N
theorem fld_sl (N : Nat) : OpB Tryz.prog N 23 (List FldD) (fun l=>.sl (encL fFld l) .un) (fun l=>∀ y ∈ l,(fun _=>True) y) (fun l=>lsum ms_fld l + 1):=opb_sl (sz:=2) Tryz.underlying23 (by kernel_rfl) (by decide) (fun _=>rfl) fld_opb N
def ms_hdr (x : HdrD) : Nat:=((x.name.size + 1) + ((lsum ms_fld x.fields.l + 1) + 0)) + 1
theorem hdr_opb (N : Nat) : OpB Tryz.prog N 166 HdrD fHdr (fun _=>True) ms_hdr :=
 opb_all (fun N=>(opb_struct Tryz.underlying166 (fun y=>by kernel_rfl) (fldb_cons (sz:=1) (opb_string Tryz.underlying9) rfl (by kernel_rfl) (fun _=>rfl) (fldb_cons (sz:=1) (fld_sl N) rfl (by kernel_rfl) (fun _=>rfl) fldb_nil))).map (β:=HdrD) (enc':=fHdr) (ok':=fun _=>True) (ms':=ms_hdr) (fun p=>⟨p.1,⟨p.2.1⟩⟩) (fun _=>rfl) (fun _ _=>trivial) (fun _=>Nat.le_refl _)) N
def ms_reg (x : RegD) : Nat:=((x.name.size + 1) + (1 + (1 + 0))) + 1
theorem reg_opb (N : Nat) : OpB Tryz.prog N 168 RegD fReg (fun _=>True) ms_reg :=
 opb_all (fun N=>(opb_struct Tryz.underlying168 (fun y=>by kernel_rfl) (fldb_cons (sz:=1) (opb_string Tryz.underlying9) rfl (by kernel_rfl) (fun _=>rfl) (fldb_cons (sz:=1) (opb_int Tryz.underlying3) rfl (by kernel_rfl) (fun _=>rfl) (fldb_cons (sz:=1) (opb_int Tryz.underlying3) rfl (by kernel_rfl) (fun _=>rfl) fldb_nil)))).map (β:=RegD) (enc':=fReg) (ok':=fun _=>True) (ms':=ms_reg) (fun p=>⟨p.1,p.2.1,p.2.2.1⟩) (fun _=>rfl) (fun _ _=>trivial) (fun _=>Nat.le_refl _)) N
def ms_ex (x : ExD) : Nat:=(1 + (1 + (1 + 0))) + 1
theorem ex_opb (N : Nat) : OpB Tryz.prog N 139 ExD fEx (fun _=>True) ms_ex :=
 opb_all (fun N=>(opb_struct Tryz.underlying139 (fun y=>by kernel_rfl) (fldb_cons (sz:=1) (opb_int Tryz.underlying3) rfl (by kernel_rfl) (fun _=>rfl) (fldb_cons (sz:=1) (opb_int Tryz.underlying3) rfl (by kernel_rfl) (fun _=>rfl) (fldb_cons (sz:=1) (opb_int Tryz.underlying3) rfl (by kernel_rfl) (fun _=>rfl) fldb_nil)))).map (β:=ExD) (enc':=fEx) (ok':=fun _=>True) (ms':=ms_ex) (fun p=>⟨p.1,p.2.1,p.2.2.1⟩) (fun _=>rfl) (fun _ _=>trivial) (fun _=>Nat.le_refl _)) N
def ms_ref (x : (Int × Int)) : Nat:=(1 + (1 + 0)) + 1
theorem ref_opb (N : Nat) : OpB Tryz.prog N 170 (Int × Int) (fun r : Int × Int=>fRef r.1 r.2) (fun _=>True) ms_ref :=
 opb_all (fun N=>(opb_struct Tryz.underlying170 (fun y=>by kernel_rfl) (fldb_cons (sz:=1) (opb_int Tryz.underlying3) rfl (by kernel_rfl) (fun _=>rfl) (fldb_cons (sz:=1) (opb_int Tryz.underlying3) rfl (by kernel_rfl) (fun _=>rfl) fldb_nil))).map (β:=(Int × Int)) (enc':=(fun r : Int × Int=>fRef r.1 r.2)) (ok':=fun _=>True) (ms':=ms_ref) (fun p=>(p.1,p.2.1)) (fun _=>rfl) (fun _ _=>trivial) (fun _=>Nat.le_refl _)) N
theorem ex_sl (N : Nat) : OpB Tryz.prog N 74 (List ExD) (fun l=>.sl (encL fEx l) .un) (fun l=>∀ y ∈ l,(fun _=>True) y) (fun l=>lsum ms_ex l + 1):=opb_sl (sz:=3) Tryz.underlying74 (by kernel_rfl) (by decide) (fun _=>rfl) ex_opb N
def ms_st (x : StD) : Nat:=(1 + (ms_ref (x.dh,x.df) + (1 + (1 + ((lsum ms_ex x.index.l + 1) + ((lsum ms_ex x.value.l + 1) + 0)))))) + 1
theorem st_opb (N : Nat) : OpB Tryz.prog N 172 StD fSt (fun _=>True) ms_st :=
 opb_all (fun N=>(opb_struct Tryz.underlying172 (fun y=>by kernel_rfl) (fldb_cons (sz:=1) (opb_int Tryz.underlying3) rfl (by kernel_rfl) (fun _=>rfl) (fldb_cons (sz:=2) (ref_opb N) rfl (by kernel_rfl) (fun _=>rfl) (fldb_cons (sz:=1) (opb_int Tryz.underlying3) rfl (by kernel_rfl) (fun _=>rfl) (fldb_cons (sz:=1) (opb_int Tryz.underlying3) rfl (by kernel_rfl) (fun _=>rfl) (fldb_cons (sz:=1) (ex_sl N) rfl (by kernel_rfl) (fun _=>rfl) (fldb_cons (sz:=1) (ex_sl N) rfl (by kernel_rfl) (fun _=>rfl) fldb_nil))))))).map (β:=StD) (enc':=fSt) (ok':=fun _=>True) (ms':=ms_st) (fun p=>⟨p.1,p.2.1.1,p.2.1.2,p.2.2.1,p.2.2.2.1,⟨p.2.2.2.2.1⟩,⟨p.2.2.2.2.2.1⟩⟩) (fun _=>rfl) (fun _ _=>trivial) (fun _=>Nat.le_refl _)) N
theorem st_sl (N : Nat) : OpB Tryz.prog N 121 (List StD) (fun l=>.sl (encL fSt l) .un) (fun l=>∀ y ∈ l,(fun _=>True) y) (fun l=>lsum ms_st l + 1):=opb_sl (sz:=7) Tryz.underlying121 (by kernel_rfl) (by decide) (fun _=>rfl) st_opb N
def ms_act (x : ActD) : Nat:=((x.name.size + 1) + ((lsum ms_fld x.params.l + 1) + ((lsum ms_st x.body.l + 1) + 0))) + 1
theorem act_opb (N : Nat) : OpB Tryz.prog N 123 ActD fAct (fun _=>True) ms_act :=
 opb_all (fun N=>(opb_struct Tryz.underlying123 (fun y=>by kernel_rfl) (fldb_cons (sz:=1) (opb_string Tryz.underlying9) rfl (by kernel_rfl) (fun _=>rfl) (fldb_cons (sz:=1) (fld_sl N) rfl (by kernel_rfl) (fun _=>rfl) (fldb_cons (sz:=1) (st_sl N) rfl (by kernel_rfl) (fun _=>rfl) fldb_nil)))).map (β:=ActD) (enc':=fAct) (ok':=fun _=>True) (ms':=ms_act) (fun p=>⟨p.1,⟨p.2.1⟩,⟨p.2.2.1⟩⟩) (fun _=>rfl) (fun _ _=>trivial) (fun _=>Nat.le_refl _)) N
def ms_key (x : KeyD) : Nat:=(ms_ref (x.h,x.f) + (1 + 0)) + 1
theorem key_opb (N : Nat) : OpB Tryz.prog N 350 KeyD fKey (fun _=>True) ms_key :=
 opb_all (fun N=>(opb_struct Tryz.underlying350 (fun y=>by kernel_rfl) (fldb_cons (sz:=2) (ref_opb N) rfl (by kernel_rfl) (fun _=>rfl) (fldb_cons (sz:=1) (opb_int Tryz.underlying3) rfl (by kernel_rfl) (fun _=>rfl) fldb_nil))).map (β:=KeyD) (enc':=fKey) (ok':=fun _=>True) (ms':=ms_key) (fun p=>⟨p.1.1,p.1.2,p.2.1⟩) (fun _=>rfl) (fun _ _=>trivial) (fun _=>Nat.le_refl _)) N
theorem u32_sl (N : Nat) : OpB Tryz.prog N 57 (List Int) (fun l=>.sl (encL (fun y : Int=>.sc (.int .u32 y)) l) .un) (fun l=>∀ y ∈ l,(fun y : Int=>(Lit.int .u32 y).wf = true) y) (fun l=>lsum (fun _=>1) l + 1):=opb_sl (sz:=1) Tryz.underlying57 (by kernel_rfl) (by decide) (fun _=>rfl) (fun N=>opb_int Tryz.underlying62) N
def ms_call (x : CallD) : Nat:=(1 + ((lsum (fun _=>1) x.args + 1) + 0)) + 1
theorem call_opb (N : Nat) : OpB Tryz.prog N 120 CallD fCallD (fun x=>IOk x.act) ms_call :=
 opb_all (fun N=>(opb_struct Tryz.underlying120 (fun y=>by kernel_rfl) (fldb_cons (sz:=1) (opb_int Tryz.underlying3) rfl (by kernel_rfl) (fun _=>rfl) (fldb_cons (sz:=1) (u32_sl N) rfl (by kernel_rfl) (fun _=>rfl) fldb_nil))).map (β:=CallD) (enc':=fCallD) (ok':=fun x=>IOk x.act) (ms':=ms_call) (fun p=>⟨p.1,p.2.1⟩) (fun _=>rfl) (fun _ h=>iok_of h.1) (fun _=>Nat.le_refl _)) N
theorem key_sl (N : Nat) : OpB Tryz.prog N 173 (List KeyD) (fun l=>.sl (encL fKey l) .un) (fun l=>∀ y ∈ l,(fun _=>True) y) (fun l=>lsum ms_key l + 1):=opb_sl (sz:=3) Tryz.underlying173 (by kernel_rfl) (by decide) (fun _=>rfl) key_opb N
theorem int_sl (N : Nat) : OpB Tryz.prog N 29 (List Int) (fun l=>.sl (encL (fun y : Int=>.sc (.int .i64 y)) l) .un) (fun l=>∀ y ∈ l,(fun y : Int=>(Lit.int .i64 y).wf = true) y) (fun l=>lsum (fun _=>1) l + 1):=opb_sl (sz:=1) Tryz.underlying29 (by kernel_rfl) (by decide) (fun _=>rfl) (fun N=>opb_int Tryz.underlying3) N
def ms_tbl (x : TblD) : Nat:=((x.name.size + 1) + ((lsum ms_key x.keys.l + 1) + ((lsum (fun _=>1) x.acts.l + 1) + (ms_call (⟨x.dfl,x.args.l⟩ : CallD) + (1 + 0))))) + 1
theorem tbl_opb (N : Nat) : OpB Tryz.prog N 175 TblD fTbl (fun x=>(∀ a ∈ x.acts.l,IOk a)∧IOk x.dfl) ms_tbl :=
 opb_all (fun N=>(opb_struct Tryz.underlying175 (fun y=>by kernel_rfl) (fldb_cons (sz:=1) (opb_string Tryz.underlying9) rfl (by kernel_rfl) (fun _=>rfl) (fldb_cons (sz:=1) (key_sl N) rfl (by kernel_rfl) (fun _=>rfl) (fldb_cons (sz:=1) (int_sl N) rfl (by kernel_rfl) (fun _=>rfl) (fldb_cons (sz:=2) (call_opb N) rfl (by kernel_rfl) (fun _=>rfl) (fldb_cons (sz:=1) (opb_int Tryz.underlying3) rfl (by kernel_rfl) (fun _=>rfl) fldb_nil)))))).map (β:=TblD) (enc':=fTbl) (ok':=fun x=>(∀ a ∈ x.acts.l,IOk a)∧IOk x.dfl) (ms':=ms_tbl) (fun p=>⟨p.1,⟨p.2.1⟩,⟨p.2.2.1⟩,p.2.2.2.1.act,⟨p.2.2.2.1.args⟩,p.2.2.2.2.1⟩) (fun _=>rfl) (fun _ h=>⟨fun a ha=>iok_of (h.2.2.1 a ha),h.2.2.2.1⟩) (fun _=>Nat.le_refl _)) N
def ms_case (x : CaseD) : Nat:=(1 + (1 + (1 + 0))) + 1
theorem case_opb (N : Nat) : OpB Tryz.prog N 353 CaseD fCase (fun _=>True) ms_case :=
 opb_all (fun N=>(opb_struct Tryz.underlying353 (fun y=>by kernel_rfl) (fldb_cons (sz:=1) (opb_int Tryz.underlying62) rfl (by kernel_rfl) (fun _=>rfl) (fldb_cons (sz:=1) (opb_int Tryz.underlying62) rfl (by kernel_rfl) (fun _=>rfl) (fldb_cons (sz:=1) (opb_int Tryz.underlying3) rfl (by kernel_rfl) (fun _=>rfl) fldb_nil)))).map (β:=CaseD) (enc':=fCase) (ok':=fun _=>True) (ms':=ms_case) (fun p=>⟨p.1,p.2.1,p.2.2.1⟩) (fun _=>rfl) (fun _ _=>trivial) (fun _=>Nat.le_refl _)) N
theorem case_sl (N : Nat) : OpB Tryz.prog N 176 (List CaseD) (fun l=>.sl (encL fCase l) .un) (fun l=>∀ y ∈ l,(fun _=>True) y) (fun l=>lsum ms_case l + 1):=opb_sl (sz:=3) Tryz.underlying176 (by kernel_rfl) (by decide) (fun _=>rfl) case_opb N
def ms_sta (x : StaD) : Nat:=((x.name.size + 1) + ((lsum (fun _=>1) x.extract.l + 1) + (1 + (ms_ref (x.onh,x.onf) + ((lsum ms_case x.cases.l + 1) + (1 + 0)))))) + 1
theorem sta_opb (N : Nat) : OpB Tryz.prog N 178 StaD fSta (fun _=>True) ms_sta :=
 opb_all (fun N=>(opb_struct Tryz.underlying178 (fun y=>by kernel_rfl) (fldb_cons (sz:=1) (opb_string Tryz.underlying9) rfl (by kernel_rfl) (fun _=>rfl) (fldb_cons (sz:=1) (int_sl N) rfl (by kernel_rfl) (fun _=>rfl) (fldb_cons (sz:=1) (opb_bool Tryz.underlying4) rfl (by kernel_rfl) (fun _=>rfl) (fldb_cons (sz:=2) (ref_opb N) rfl (by kernel_rfl) (fun _=>rfl) (fldb_cons (sz:=1) (case_sl N) rfl (by kernel_rfl) (fun _=>rfl) (fldb_cons (sz:=1) (opb_int Tryz.underlying3) rfl (by kernel_rfl) (fun _=>rfl) fldb_nil))))))).map (β:=StaD) (enc':=fSta) (ok':=fun _=>True) (ms':=ms_sta) (fun p=>⟨p.1,⟨p.2.1⟩,p.2.2.1,p.2.2.2.1.1,p.2.2.2.1.2,⟨p.2.2.2.2.1⟩,p.2.2.2.2.2.1⟩) (fun _=>rfl) (fun _ _=>trivial) (fun _=>Nat.le_refl _)) N
mutual
def ms_nod : NodD→Nat
 | .mk _ _ c tl el=>(1 + (1 + ((lsum ms_ex c + 1) + ((ms_nods tl + 1) + ((ms_nods el + 1) + 0))))) + 1
def ms_nods : List NodD→Nat
 | []=>0
 | x :: l=>ms_nod x + ms_nods l
end
theorem ms_nods_eq (l : List NodD) : lsum ms_nod l = ms_nods l:=by
 induction l with
 | nil=>rfl
 | cons x l ih=>rw [lsum,ms_nods,ih]
theorem nod_opb : ∀ N,OpB Tryz.prog N 133 NodD fNod (fun _=>True) ms_nod
 | 0=>OpB.zero
 | N + 1=>by
  have hs : OpB Tryz.prog N 28 (List NodD) (fun l=>.sl (encL fNod l) .un) (fun l=>∀ y ∈ l,True) (fun l=>lsum ms_nod l + 1):=(opb_slice (sz:=5) Tryz.underlying28 (by kernel_rfl) (by decide) (fun x=>by rw [fNod_eq]; rfl) (nod_opb N)).mono (Nat.le_succ N)
  refine (opb_struct Tryz.underlying133 (fun y=>by kernel_rfl) (fldb_cons (sz:=1) (opb_int Tryz.underlying3) rfl (by kernel_rfl) (fun _=>rfl) (fldb_cons (sz:=1) (opb_int Tryz.underlying3) rfl (by kernel_rfl) (fun _=>rfl) (fldb_cons (sz:=1) (ex_sl N) rfl (by kernel_rfl) (fun _=>rfl) (fldb_cons (sz:=1) hs rfl (by kernel_rfl) (fun _=>rfl) (fldb_cons (sz:=1) hs rfl (by kernel_rfl) (fun _=>rfl) fldb_nil)))))).map (fun p=>.mk p.1 p.2.1 p.2.2.1 p.2.2.2.1 p.2.2.2.2.1) (fun p=>by rw [fNod_eq]; rfl) (fun _ _=>trivial) (fun p=>?_)
  show ms_nod _ ≤ _
  rw [ms_nod,← ms_nods_eq,← ms_nods_eq]
  exact Nat.le_refl _
theorem nod_sl (N : Nat) : OpB Tryz.prog N 28 (List NodD) (fun l=>.sl (encL fNod l) .un) (fun l=>∀ y ∈ l,(fun _=>True) y) (fun l=>lsum ms_nod l + 1):=opb_sl (sz:=5) Tryz.underlying28 (by kernel_rfl) (by decide) (fun x=>by rw [fNod_eq]; rfl) nod_opb N
theorem hdr_sl (N : Nat) : OpB Tryz.prog N 22 (List HdrD) (fun l=>.sl (encL fHdr l) .un) (fun l=>∀ y ∈ l,(fun _=>True) y) (fun l=>lsum ms_hdr l + 1):=opb_sl (sz:=2) Tryz.underlying22 (by kernel_rfl) (by decide) (fun _=>rfl) hdr_opb N
theorem reg_sl (N : Nat) : OpB Tryz.prog N 24 (List RegD) (fun l=>.sl (encL fReg l) .un) (fun l=>∀ y ∈ l,(fun _=>True) y) (fun l=>lsum ms_reg l + 1):=opb_sl (sz:=3) Tryz.underlying24 (by kernel_rfl) (by decide) (fun _=>rfl) reg_opb N
theorem act_sl (N : Nat) : OpB Tryz.prog N 25 (List ActD) (fun l=>.sl (encL fAct l) .un) (fun l=>∀ y ∈ l,(fun _=>True) y) (fun l=>lsum ms_act l + 1):=opb_sl (sz:=3) Tryz.underlying25 (by kernel_rfl) (by decide) (fun _=>rfl) act_opb N
theorem tbl_sl (N : Nat) : OpB Tryz.prog N 26 (List TblD) (fun l=>.sl (encL fTbl l) .un) (fun l=>∀ y ∈ l,(fun x=>(∀ a ∈ x.acts.l,IOk a)∧IOk x.dfl) y) (fun l=>lsum ms_tbl l + 1):=opb_sl (sz:=6) Tryz.underlying26 (by kernel_rfl) (by decide) (fun _=>rfl) tbl_opb N
theorem sta_sl (N : Nat) : OpB Tryz.prog N 27 (List StaD) (fun l=>.sl (encL fSta l) .un) (fun l=>∀ y ∈ l,(fun _=>True) y) (fun l=>lsum ms_sta l + 1):=opb_sl (sz:=7) Tryz.underlying27 (by kernel_rfl) (by decide) (fun _=>rfl) sta_opb N
def ms_prg (x : PrgD) : Nat:=((x.name.size + 1) + ((lsum ms_hdr x.headers.l + 1) + ((lsum ms_fld x.meta_.l + 1) + ((lsum ms_reg x.regs.l + 1) + ((lsum ms_act x.acts.l + 1) + ((lsum ms_tbl x.tables.l + 1) + ((lsum ms_sta x.states.l + 1) + ((lsum ms_nod x.control.l + 1) + ((lsum (fun _=>1) x.dep.l + 1) + 0))))))))) + 1
theorem prg_opb (N : Nat) : OpB Tryz.prog N 31 PrgD fPrg (fun x=>∀ t ∈ x.tables.l,(∀ a ∈ t.acts.l,IOk a)∧IOk t.dfl) ms_prg :=
 opb_all (fun N=>(opb_struct Tryz.underlying31 (fun y=>by kernel_rfl) (fldb_cons (sz:=1) (opb_string Tryz.underlying9) rfl (by kernel_rfl) (fun _=>rfl) (fldb_cons (sz:=1) (hdr_sl N) rfl (by kernel_rfl) (fun _=>rfl) (fldb_cons (sz:=1) (fld_sl N) rfl (by kernel_rfl) (fun _=>rfl) (fldb_cons (sz:=1) (reg_sl N) rfl (by kernel_rfl) (fun _=>rfl) (fldb_cons (sz:=1) (act_sl N) rfl (by kernel_rfl) (fun _=>rfl) (fldb_cons (sz:=1) (tbl_sl N) rfl (by kernel_rfl) (fun _=>rfl) (fldb_cons (sz:=1) (sta_sl N) rfl (by kernel_rfl) (fun _=>rfl) (fldb_cons (sz:=1) (nod_sl N) rfl (by kernel_rfl) (fun _=>rfl) (fldb_cons (sz:=1) (int_sl N) rfl (by kernel_rfl) (fun _=>rfl) fldb_nil)))))))))).map (β:=PrgD) (enc':=fPrg) (ok':=fun x=>∀ t ∈ x.tables.l,(∀ a ∈ t.acts.l,IOk a)∧IOk t.dfl) (ms':=ms_prg) (fun p=>⟨p.1,⟨p.2.1⟩,⟨p.2.2.1⟩,⟨p.2.2.2.1⟩,⟨p.2.2.2.2.1⟩,⟨p.2.2.2.2.2.1⟩,⟨p.2.2.2.2.2.2.1⟩,⟨p.2.2.2.2.2.2.2.1⟩,⟨p.2.2.2.2.2.2.2.2.1⟩⟩) (fun _=>rfl) (fun _ h=>h.2.2.2.2.2.1) (fun _=>Nat.le_refl _)) N
def ms_chip (x : ChipD) : Nat:=(1 + (1 + (1 + (1 + (1 + (1 + (1 + (1 + 0)))))))) + 1
theorem chip_opb (N : Nat) : OpB Tryz.prog N 33 ChipD fChip (fun _=>True) ms_chip :=
 opb_all (fun N=>(opb_struct Tryz.underlying33 (fun y=>by kernel_rfl) (fldb_cons (sz:=1) (opb_int Tryz.underlying3) rfl (by kernel_rfl) (fun _=>rfl) (fldb_cons (sz:=1) (opb_int Tryz.underlying3) rfl (by kernel_rfl) (fun _=>rfl) (fldb_cons (sz:=1) (opb_int Tryz.underlying3) rfl (by kernel_rfl) (fun _=>rfl) (fldb_cons (sz:=1) (opb_int Tryz.underlying3) rfl (by kernel_rfl) (fun _=>rfl) (fldb_cons (sz:=1) (opb_int Tryz.underlying3) rfl (by kernel_rfl) (fun _=>rfl) (fldb_cons (sz:=1) (opb_int Tryz.underlying3) rfl (by kernel_rfl) (fun _=>rfl) (fldb_cons (sz:=1) (opb_int Tryz.underlying3) rfl (by kernel_rfl) (fun _=>rfl) (fldb_cons (sz:=1) (opb_int Tryz.underlying3) rfl (by kernel_rfl) (fun _=>rfl) fldb_nil))))))))).map (β:=ChipD) (enc':=fChip) (ok':=fun _=>True) (ms':=ms_chip) (fun p=>⟨p.1,p.2.1,p.2.2.1,p.2.2.2.1,p.2.2.2.2.1,p.2.2.2.2.2.1,p.2.2.2.2.2.2.1,p.2.2.2.2.2.2.2.1⟩) (fun _=>rfl) (fun _ _=>trivial) (fun _=>Nat.le_refl _)) N
def ms_gd (x : GuardD) : Nat:=(1 + (1 + 0)) + 1
theorem gd_opb (N : Nat) : OpB Tryz.prog N 136 GuardD fGd (fun _=>True) ms_gd :=
 opb_all (fun N=>(opb_struct Tryz.underlying136 (fun y=>by kernel_rfl) (fldb_cons (sz:=1) (opb_int Tryz.underlying3) rfl (by kernel_rfl) (fun _=>rfl) (fldb_cons (sz:=1) (opb_bool Tryz.underlying4) rfl (by kernel_rfl) (fun _=>rfl) fldb_nil))).map (β:=GuardD) (enc':=fGd) (ok':=fun _=>True) (ms':=ms_gd) (fun p=>⟨p.1,p.2.1⟩) (fun _=>rfl) (fun _ _=>trivial) (fun _=>Nat.le_refl _)) N
theorem gd_sl (N : Nat) : OpB Tryz.prog N 75 (List GuardD) (fun l=>.sl (encL fGd l) .un) (fun l=>∀ y ∈ l,(fun _=>True) y) (fun l=>lsum ms_gd l + 1):=opb_sl (sz:=2) Tryz.underlying75 (by kernel_rfl) (by decide) (fun _=>rfl) gd_opb N
def ms_unit (x : UnitD) : Nat:=(1 + ((lsum ms_ex x.cond.l + 1) + ((lsum ms_gd x.guards.l + 1) + 0))) + 1
theorem unit_opb (N : Nat) : OpB Tryz.prog N 77 UnitD fUnit (fun _=>True) ms_unit :=
 opb_all (fun N=>(opb_struct Tryz.underlying77 (fun y=>by kernel_rfl) (fldb_cons (sz:=1) (opb_int Tryz.underlying3) rfl (by kernel_rfl) (fun _=>rfl) (fldb_cons (sz:=1) (ex_sl N) rfl (by kernel_rfl) (fun _=>rfl) (fldb_cons (sz:=1) (gd_sl N) rfl (by kernel_rfl) (fun _=>rfl) fldb_nil)))).map (β:=UnitD) (enc':=fUnit) (ok':=fun _=>True) (ms':=ms_unit) (fun p=>⟨p.1,⟨p.2.1⟩,⟨p.2.2.1⟩⟩) (fun _=>rfl) (fun _ _=>trivial) (fun _=>Nat.le_refl _)) N
def ms_slt (x : SlotD) : Nat:=(1 + (1 + (1 + (1 + 0)))) + 1
theorem slt_opb (N : Nat) : OpB Tryz.prog N 158 SlotD fSlt (fun _=>True) ms_slt :=
 opb_all (fun N=>(opb_struct Tryz.underlying158 (fun y=>by kernel_rfl) (fldb_cons (sz:=1) (opb_int Tryz.underlying3) rfl (by kernel_rfl) (fun _=>rfl) (fldb_cons (sz:=1) (opb_int Tryz.underlying3) rfl (by kernel_rfl) (fun _=>rfl) (fldb_cons (sz:=1) (opb_int Tryz.underlying3) rfl (by kernel_rfl) (fun _=>rfl) (fldb_cons (sz:=1) (opb_int Tryz.underlying3) rfl (by kernel_rfl) (fun _=>rfl) fldb_nil))))).map (β:=SlotD) (enc':=fSlt) (ok':=fun _=>True) (ms':=ms_slt) (fun p=>⟨p.1,p.2.1,p.2.2.1,p.2.2.2.1⟩) (fun _=>rfl) (fun _ _=>trivial) (fun _=>Nat.le_refl _)) N
theorem unit_sl (N : Nat) : OpB Tryz.prog N 34 (List UnitD) (fun l=>.sl (encL fUnit l) .un) (fun l=>∀ y ∈ l,(fun _=>True) y) (fun l=>lsum ms_unit l + 1):=opb_sl (sz:=3) Tryz.underlying34 (by kernel_rfl) (by decide) (fun _=>rfl) unit_opb N
theorem slt_sl (N : Nat) : OpB Tryz.prog N 35 (List SlotD) (fun l=>.sl (encL fSlt l) .un) (fun l=>∀ y ∈ l,(fun _=>True) y) (fun l=>lsum ms_slt l + 1):=opb_sl (sz:=4) Tryz.underlying35 (by kernel_rfl) (by decide) (fun _=>rfl) slt_opb N
def ms_pl (x : PlD) : Nat:=(ms_prg x.prg + (ms_chip x.chip + ((lsum ms_unit x.units + 1) + ((lsum (fun _=>1) x.stage + 1) + ((lsum ms_slt x.slots + 1) + 0))))) + 1
theorem pl_opb (N : Nat) : OpB Tryz.prog N 37 PlD fPl (fun x=>∀ t ∈ x.prg.tables.l,(∀ a ∈ t.acts.l,IOk a)∧IOk t.dfl) ms_pl :=
 opb_all (fun N=>(opb_struct Tryz.underlying37 (fun y=>by kernel_rfl) (fldb_cons (sz:=9) (prg_opb N) rfl (by kernel_rfl) (fun _=>rfl) (fldb_cons (sz:=8) (chip_opb N) rfl (by kernel_rfl) (fun _=>rfl) (fldb_cons (sz:=1) (unit_sl N) rfl (by kernel_rfl) (fun _=>rfl) (fldb_cons (sz:=1) (int_sl N) rfl (by kernel_rfl) (fun _=>rfl) (fldb_cons (sz:=1) (slt_sl N) rfl (by kernel_rfl) (fun _=>rfl) fldb_nil)))))).map (β:=PlD) (enc':=fPl) (ok':=fun x=>∀ t ∈ x.prg.tables.l,(∀ a ∈ t.acts.l,IOk a)∧IOk t.dfl) (ms':=ms_pl) (fun p=>⟨p.1,p.2.1,p.2.2.1,p.2.2.2.1,p.2.2.2.2.1⟩) (fun _=>rfl) (fun _ h=>h.1) (fun _=>Nat.le_refl _)) N
def ms_km (x : (Int × Int)) : Nat:=(1 + (1 + 0)) + 1
theorem km_opb (N : Nat) : OpB Tryz.prog N 277 (Int × Int) fKm (fun _=>True) ms_km :=
 opb_all (fun N=>(opb_struct Tryz.underlying277 (fun y=>by kernel_rfl) (fldb_cons (sz:=1) (opb_int Tryz.underlying62) rfl (by kernel_rfl) (fun _=>rfl) (fldb_cons (sz:=1) (opb_int Tryz.underlying62) rfl (by kernel_rfl) (fun _=>rfl) fldb_nil))).map (β:=(Int × Int)) (enc':=fKm) (ok':=fun _=>True) (ms':=ms_km) (fun p=>(p.1,p.2.1)) (fun _=>rfl) (fun _ _=>trivial) (fun _=>Nat.le_refl _)) N
theorem km_sl (N : Nat) : OpB Tryz.prog N 214 (List (Int × Int)) (fun l=>.sl (encL fKm l) .un) (fun l=>∀ y ∈ l,(fun _=>True) y) (fun l=>lsum ms_km l + 1):=opb_sl (sz:=2) Tryz.underlying214 (by kernel_rfl) (by decide) (fun _=>rfl) km_opb N
abbrev fEntT (x : List (Int × Int) × Int × CallD) : FV:=.agg [sl (encL fKm x.1),intF x.2.1,intF x.2.2.act,sl (encL u32F x.2.2.args)]
def ms_ent (x : (List (Int × Int) × Int × CallD)) : Nat:=((lsum ms_km x.1 + 1) + (1 + (ms_call x.2.2 + 0))) + 1
theorem ent_opb (N : Nat) : OpB Tryz.prog N 216 (List (Int × Int) × Int × CallD) fEntT (fun _=>True) ms_ent :=
 opb_all (fun N=>(opb_struct Tryz.underlying216 (fun y=>by kernel_rfl) (fldb_cons (sz:=1) (km_sl N) rfl (by kernel_rfl) (fun _=>rfl) (fldb_cons (sz:=1) (opb_int Tryz.underlying3) rfl (by kernel_rfl) (fun _=>rfl) (fldb_cons (sz:=2) (call_opb N) rfl (by kernel_rfl) (fun _=>rfl) fldb_nil)))).map (β:=(List (Int × Int) × Int × CallD)) (enc':=fEntT) (ok':=fun _=>True) (ms':=ms_ent) (fun p=>(p.1,p.2.1,p.2.2.1)) (fun _=>rfl) (fun _ _=>trivial) (fun _=>Nat.le_refl _)) N
def ms_row (x : RowD) : Nat:=(1 + (ms_ent (x.keys,x.prio,x.call) + 0)) + 1
theorem row_opb (N : Nat) : OpB Tryz.prog N 218 RowD fRow (fun _=>True) ms_row :=
 opb_all (fun N=>(opb_struct Tryz.underlying218 (fun y=>by kernel_rfl) (fldb_cons (sz:=1) (opb_int Tryz.underlying3) rfl (by kernel_rfl) (fun _=>rfl) (fldb_cons (sz:=4) (ent_opb N) rfl (by kernel_rfl) (fun _=>rfl) fldb_nil))).map (β:=RowD) (enc':=fRow) (ok':=fun _=>True) (ms':=ms_row) (fun p=>⟨p.1,p.2.1.1,p.2.1.2.1,p.2.1.2.2⟩) (fun _=>rfl) (fun _ _=>trivial) (fun _=>Nat.le_refl _)) N
abbrev ms_rows (l : List RowD) : Nat:=lsum ms_row l + 1
abbrev ms_u32s (l : List Int) : Nat:=lsum (fun _=>1) l + 1
theorem row_sl (N : Nat) : OpB Tryz.prog N 117 (List RowD) (fun l=>.sl (encL fRow l) .un) (fun l=>∀ y ∈ l,(fun _=>True) y) (fun l=>lsum ms_row l + 1):=opb_sl (sz:=5) Tryz.underlying117 (by kernel_rfl) (by decide) (fun _=>rfl) row_opb N
theorem rows_sl (N : Nat) : OpB Tryz.prog N 38 (List (List RowD)) (fun l=>.sl (encL (fun l=>.sl (encL fRow l) .un) l) .un) (fun l=>∀ y ∈ l,(fun l=>∀ y ∈ l,(fun _=>True) y) y) (fun l=>lsum (fun l=>lsum ms_row l + 1) l + 1):=opb_sl (sz:=1) Tryz.underlying38 (by kernel_rfl) (by decide) (fun _=>rfl) row_sl N
theorem u32s_sl (N : Nat) : OpB Tryz.prog N 40 (List (List Int)) (fun l=>.sl (encL (fun l=>.sl (encL (fun y : Int=>.sc (.int .u32 y)) l) .un) l) .un) (fun l=>∀ y ∈ l,(fun l=>∀ y ∈ l,(fun y : Int=>(Lit.int .u32 y).wf = true) y) y) (fun l=>lsum (fun l=>lsum (fun _=>1) l + 1) l + 1):=opb_sl (sz:=1) Tryz.underlying40 (by kernel_rfl) (by decide) (fun _=>rfl) u32_sl N
theorem call_sl (N : Nat) : OpB Tryz.prog N 39 (List CallD) (fun l=>.sl (encL fCallD l) .un) (fun l=>∀ y ∈ l,(fun x=>IOk x.act) y) (fun l=>lsum ms_call l + 1):=opb_sl (sz:=2) Tryz.underlying39 (by kernel_rfl) (by decide) (fun _=>rfl) call_opb N
def ms_cfg (x : CfgD) : Nat:=((lsum ms_rows x.rows + 1) + ((lsum (fun _=>1) x.next + 1) + ((lsum ms_call x.dfl + 1) + ((lsum ms_u32s x.regs + 1) + 0)))) + 1
theorem cfg_opb (N : Nat) : OpB Tryz.prog N 42 CfgD fCfg (fun _=>True) ms_cfg :=
 opb_all (fun N=>(opb_struct Tryz.underlying42 (fun y=>by kernel_rfl) (fldb_cons (sz:=1) (rows_sl N) rfl (by kernel_rfl) (fun _=>rfl) (fldb_cons (sz:=1) (int_sl N) rfl (by kernel_rfl) (fun _=>rfl) (fldb_cons (sz:=1) (call_sl N) rfl (by kernel_rfl) (fun _=>rfl) (fldb_cons (sz:=1) (u32s_sl N) rfl (by kernel_rfl) (fun _=>rfl) fldb_nil))))).map (β:=CfgD) (enc':=fCfg) (ok':=fun _=>True) (ms':=ms_cfg) (fun p=>⟨p.1,p.2.1,p.2.2.1,p.2.2.2.1⟩) (fun _=>rfl) (fun _ _=>trivial) (fun _=>Nat.le_refl _)) N
theorem u8_sl (N : Nat) : OpB Tryz.prog N 43 (List Int) (fun l=>.sl (encL (fun y : Int=>.sc (.int .u8 y)) l) .un) (fun l=>∀ y ∈ l,(fun y : Int=>(Lit.int .u8 y).wf = true) y) (fun l=>lsum (fun _=>1) l + 1):=opb_sl (sz:=1) Tryz.underlying43 (by kernel_rfl) (by decide) (fun _=>rfl) (fun N=>opb_int Tryz.underlying5) N
def ms_pkt (x : (Int × List Int)) : Nat:=(1 + ((lsum (fun _=>1) x.2 + 1) + 0)) + 1
theorem pkt_opb (N : Nat) : OpB Tryz.prog N 45 (Int × List Int) (fun p : Int × List Int=>fPkt p.1 p.2) (fun _=>True) ms_pkt :=
 opb_all (fun N=>(opb_struct Tryz.underlying45 (fun y=>by kernel_rfl) (fldb_cons (sz:=1) (opb_int Tryz.underlying3) rfl (by kernel_rfl) (fun _=>rfl) (fldb_cons (sz:=1) (u8_sl N) rfl (by kernel_rfl) (fun _=>rfl) fldb_nil))).map (β:=(Int × List Int)) (enc':=(fun p : Int × List Int=>fPkt p.1 p.2)) (ok':=fun _=>True) (ms':=ms_pkt) (fun p=>(p.1,p.2.1)) (fun _=>rfl) (fun _ _=>trivial) (fun _=>Nat.le_refl _)) N
abbrev fAll (x : PlD × CfgD × Int × List Int) : FV:=.agg (cPl x.1 ++ (cCfg x.2.1 ++ [intF x.2.2.1,sl (encL u8F x.2.2.2)]))
def ms_all (x : (PlD × CfgD × Int × List Int)) : Nat:=(ms_pl x.1 + (ms_cfg x.2.1 + (ms_pkt x.2.2 + 0))) + 1
theorem all_opb (N : Nat) : OpB Tryz.prog N 47 (PlD × CfgD × Int × List Int) fAll (fun x=>∀ t ∈ x.1.prg.tables.l,(∀ a ∈ t.acts.l,IOk a)∧IOk t.dfl) ms_all :=
 opb_all (fun N=>(opb_struct Tryz.underlying47 (fun y=>by kernel_rfl) (fldb_cons (sz:=20) (pl_opb N) rfl (by kernel_rfl) (fun _=>rfl) (fldb_cons (sz:=4) (cfg_opb N) rfl (by kernel_rfl) (fun _=>rfl) (fldb_cons (sz:=2) (pkt_opb N) rfl (by kernel_rfl) (fun _=>rfl) fldb_nil)))).map (β:=(PlD × CfgD × Int × List Int)) (enc':=fAll) (ok':=fun x=>∀ t ∈ x.1.prg.tables.l,(∀ a ∈ t.acts.l,IOk a)∧IOk t.dfl) (ms':=ms_all) (fun p=>(p.1,p.2.1,p.2.2.1)) (fun _=>rfl) (fun _ h=>h.1) (fun _=>Nat.le_refl _)) N
end Go.Proofs.YtejkhflkeoihlaaGreat
namespace Go.Proofs.YtejkhflkeoihlaaGreat
open Go.RowKit Go.Proofs.YtejkhflkeoihlaaGreat.Vf
set_option linter.unusedVariables false
set_option linter.unusedSimpArgs false
set_option maxRecDepth 100000
set_option maxHeartbeats 4000000
theorem ms_nods_len (l : List NodD) : l.length ≤ ms_nods l:=by
 induction l with
 | nil=>exact Nat.le_refl _
 | cons x l ih =>
  obtain ⟨k,t,c,a,b⟩:=x
  rw [ms_nods,ms_nod,List.length_cons]
  omega
mutual
theorem nodB_n : ∀ (x : NodD),ms_nod x ≤ maxLen→NodB x.thn.l∧NodB x.els.l
 | .mk k t c tl el,h=>by
  rw [ms_nod] at h
  exact ⟨nodB_l tl (by omega),nodB_l el (by omega)⟩
theorem nodB_l : ∀ (l : List NodD),ms_nods l ≤ maxLen→NodB l
 | [],h=>.mk [] (Nat.zero_le _) (fun x hx=>by cases hx) (fun x hx=>by cases hx)
 | x :: l,h=>by
  have hlen:=ms_nods_len (x :: l)
  rw [ms_nods] at h hlen
  obtain ⟨h1,h2⟩:=nodB_n x (by omega)
  cases nodB_l l (by omega) with
  | mk _ hl a b =>
   refine .mk _ (by omega) (fun y hy=>?_) (fun y hy=>?_)
   ·rcases List.mem_cons.1 hy with rfl | hy
    ·exact h1
    ·exact a y hy
   ·rcases List.mem_cons.1 hy with rfl | hy
    ·exact h2
    ·exact b y hy
end
theorem lsum_ex (l : List ExD) : 2 * l.length ≤ lsum ms_ex l:=by
 induction l with
 | nil=>exact Nat.le_refl _
 | cons x l ih =>
  have : 2 ≤ ms_ex x:=by unfold ms_ex; omega
  simp only [lsum,List.length_cons]; omega
mutual
theorem nodM_n : ∀ (x : NodD),(nodPre x).length ≤ ms_nod x∧∀ y ∈ nodPre x,2 * y.cond.l.length ≤ ms_nod x
 | .mk k t c tl el=>by
  obtain ⟨a1,a2⟩:=nodM_l tl
  obtain ⟨b1,b2⟩:=nodM_l el
  have hc:=lsum_ex c
  rw [nodPre,ms_nod]
  refine ⟨by simp only [List.length_cons,List.length_append]; omega,fun y hy=>?_⟩
  rcases List.mem_cons.1 hy with rfl | hy
  ·show 2 * c.length ≤ _
   omega
  rcases List.mem_append.1 hy with hy | hy
  ·have:=a2 y hy; omega
  ·have:=b2 y hy; omega
theorem nodM_l : ∀ (l : List NodD),(nodsPre l).length ≤ ms_nods l∧∀ y ∈ nodsPre l,2 * y.cond.l.length ≤ ms_nods l
 | []=>⟨Nat.le_refl _,fun y hy=>by rw [nodsPre] at hy; cases hy⟩
 | x :: l=>by
  obtain ⟨a1,a2⟩:=nodM_n x
  obtain ⟨b1,b2⟩:=nodM_l l
  rw [nodsPre,ms_nods]
  refine ⟨by simp only [List.length_append]; omega,fun y hy=>?_⟩
  rcases List.mem_append.1 hy with hy | hy
  ·have:=a2 y hy; omega
  ·have:=b2 y hy; omega
end
theorem prgU_of {d : PrgD} (h : ms_prg d ≤ 1048576) (hok : ∀ t ∈ d.tables.l,(∀ a ∈ t.acts.l,IOk a)∧IOk t.dfl) : PrgU d:=by
 unfold ms_prg at h
 have m1 : ∀ x ∈ d.headers.l,ms_hdr x ≤ 1048576:=fun x hx=>by have:=lsum_mem (f:=ms_hdr) hx; omega
 have m2 : ∀ x ∈ d.meta_.l,ms_fld x ≤ 1048576:=fun x hx=>by have:=lsum_mem (f:=ms_fld) hx; omega
 have m3 : ∀ x ∈ d.regs.l,ms_reg x ≤ 1048576:=fun x hx=>by have:=lsum_mem (f:=ms_reg) hx; omega
 have m4 : ∀ x ∈ d.acts.l,ms_act x ≤ 1048576:=fun x hx=>by have:=lsum_mem (f:=ms_act) hx; omega
 have m5 : ∀ x ∈ d.tables.l,ms_tbl x ≤ 1048576:=fun x hx=>by have:=lsum_mem (f:=ms_tbl) hx; omega
 have m6 : ∀ x ∈ d.states.l,ms_sta x ≤ 1048576:=fun x hx=>by have:=lsum_mem (f:=ms_sta) hx; omega
 have m7:=lsum_len (f:=ms_sta) (fun x=>by unfold ms_sta; omega) d.states.l
 have m8:=ms_nods_eq d.control.l
 refine ⟨⟨⟨by omega,fun x hx=>?_,fun x hx=>?_,fun x hx=>?_,fun x hx=>?_,fun x hx=>?_,fun x hx=>?_⟩,fun t ht=>?_,nodB_l _ (by unfold maxLen; omega),by omega⟩,?_,?_⟩
 ·have h1:=m1 x hx
  unfold ms_hdr at h1
  exact ⟨by omega,fun y hy=>by have h2:=lsum_mem (f:=ms_fld) hy; unfold ms_fld at h1 h2; omega⟩
 ·have h1:=m2 x hx
  unfold ms_fld at h1
  omega
 ·have h1:=m3 x hx
  unfold ms_reg at h1
  omega
 ·have h1:=m4 x hx
  unfold ms_act at h1
  exact ⟨by omega,fun y hy=>by have h2:=lsum_mem (f:=ms_fld) hy; unfold ms_fld at h1 h2; omega⟩
 ·have h1:=m5 x hx
  unfold ms_tbl at h1
  omega
 ·have h1:=m6 x hx
  unfold ms_sta at h1
  omega
 ·have h1:=m5 t ht
  obtain ⟨o1,o2⟩:=hok t ht
  unfold ms_tbl ms_call at h1
  have h2:=lsum_len (f:=fun _ : Int=>1) (fun _=>Nat.le_refl _) t.args.l
  exact ⟨o1,o2,by simp only at h1; omega⟩
 ·have h1:=(nodM_l d.control.l).1
  omega
 ·intro y hy
  have h1:=(nodM_l d.control.l).2 y hy
  omega
theorem plU_of {x : PlD} (h : ms_pl x ≤ 1048576) (hok : ∀ t ∈ x.prg.tables.l,(∀ a ∈ t.acts.l,IOk a)∧IOk t.dfl) : PlU x:=by
 unfold ms_pl at h
 have m1:=lsum_len (f:=ms_unit) (fun x=>by unfold ms_unit; omega) x.units
 have m2:=lsum_len (f:=fun _ : Int=>1) (fun _=>Nat.le_refl _) x.stage
 refine ⟨prgU_of (by omega) hok,⟨?_,fun u hu=>?_⟩,by unfold maxLen; omega⟩
 ·have m3 : ∀ l : List UnitD,3 * l.length ≤ lsum ms_unit l:=fun l=>by
   induction l with
   | nil=>exact Nat.le_refl _
   | cons u l ih =>
    have : 3 ≤ ms_unit u:=by unfold ms_unit; omega
    simp only [lsum,List.length_cons]; omega
  have:=m3 x.units
  omega
 ·have h1:=lsum_mem (f:=ms_unit) hu
  unfold ms_unit at h1
  have h2:=lsum_len (f:=ms_ex) (fun x=>by unfold ms_ex; omega) u.cond.l
  have h3:=lsum_len (f:=ms_gd) (fun x=>by unfold ms_gd; omega) u.guards.l
  unfold ms_unit at h
  exact ⟨by unfold maxLen; omega,by unfold maxLen; omega⟩
theorem cfgB_of {c : CfgD} (h : ms_cfg c ≤ 1048576) : CfgB c:=by
 unfold ms_cfg at h
 have m1:=lsum_len (f:=ms_rows) (fun x=>by unfold ms_rows; omega) c.rows
 have m2:=lsum_len (f:=fun _ : Int=>1) (fun _=>Nat.le_refl _) c.next
 have m3:=lsum_len (f:=ms_call) (fun x=>by unfold ms_call; omega) c.dfl
 have m4:=lsum_len (f:=ms_u32s) (fun x=>by unfold ms_u32s; omega) c.regs
 refine ⟨by omega,fun l hl=>?_,by omega,⟨by omega,fun x hx=>?_⟩,⟨by omega,fun x hx=>?_⟩⟩
 ·have h1:=lsum_mem (f:=ms_rows) hl
  have h2:=lsum_len (f:=ms_row) (fun x=>by unfold ms_row; omega) l
  have h5 : ms_rows l = lsum ms_row l + 1:=rfl
  refine ⟨by omega,fun x hx=>?_⟩
  have h3:=lsum_mem (f:=ms_row) hx
  have h6 : ms_row x = (1 + (ms_ent (x.keys,x.prio,x.call) + 0)) + 1:=rfl
  have h7 : ms_ent (x.keys,x.prio,x.call) = ((lsum ms_km x.keys + 1) + (1 + (ms_call x.call + 0))) + 1:=rfl
  have h8 : ms_call x.call = (1 + ((lsum (fun _=>1) x.call.args + 1) + 0)) + 1:=rfl
  have h4:=lsum_len (f:=ms_km) (fun x=>by unfold ms_km; omega) x.keys
  have h9:=lsum_len (f:=fun _ : Int=>1) (fun _=>Nat.le_refl _) x.call.args
  omega
 ·have h1:=lsum_mem (f:=ms_call) hx
  have h8 : ms_call x = (1 + ((lsum (fun _=>1) x.args + 1) + 0)) + 1:=rfl
  have h9:=lsum_len (f:=fun _ : Int=>1) (fun _=>Nat.le_refl _) x.args
  omega
 ·have h1:=lsum_mem (f:=ms_u32s) hx
  have h8 : ms_u32s x = lsum (fun _=>1) x + 1:=rfl
  have h9:=lsum_len (f:=fun _ : Int=>1) (fun _=>Nat.le_refl _) x
  omega
theorem law_g (x : PlD) (c : CfgD) (p : Int) (l : List Int) (hU : PlU x) (hB : CfgB c) (ha : x.prg.acts.l.length ≤ maxLen) : Gives Tryz.prog 3 [fAll (x,c,p,l)] (boolF true):=by
 have hbig:=bigP_g x c hB ha
 have hpc:=pchk_g x hU
 refine Gives.of mixed Tryz.func3 rfl rfl rfl (by kernel_rfl) ?_
 simp only [fPl,cPl,cPrg,List.cons_append,List.nil_append] at hbig hpc
 simp [cPl,cPrg]
 refine call_g hbig ?_
 cases hb : bigP x c with
 | true =>
  simp
  refine call_g works_g ?_
  simp
 | false =>
 simp
 by_cases hl : (600 : Int) < l.length
 ·simp [hl]
  refine call_g works_g ?_
  simp
 simp [hl]
 refine call_g hpc ?_
 by_cases hi : pchkM x = 0
 ·simp [hi]
  refine call_g works_g ?_
  simp
 have hr:=run_g x c p l hU hB hi
 have hs:=runStage_g x c 0 hU hB hi
 obtain ⟨c0,e0⟩:=ownF_is (encL fRowsO c.rows)
 obtain ⟨c2,e2⟩:=ownF_is (encL fCallD c.dfl)
 obtain ⟨c3,e3⟩:=ownF_is (encL fU32 c.regs)
 have heq:=eqCfg_t c hB
 unfold fCfgO cCfgO at hr heq
 rw [e0,e2,e3] at hr heq
 rw [e3] at hs
 simp only [fPl,cPl,cPrg,List.cons_append,List.nil_append] at hr hs
 simp [hi]
 refine call_g hr ?_
 simp
 refine call_g hs ?_
 simp
 refine call_g eqRes_drop ?_
 simp
 refine call_g heq ?_
 simp
 refine call_g (eqWords_t [1] .un .full (by decide)) ?_
 simp [(show IntKind.i64.wrap 0 = 0 by decide)]
 refine call_g (eqRegs38_t c.regs c3 .un (by have:=hB.regs.1; omega) fun y hy=>by have:=hB.regs.2 y hy; omega) ?_
 simp
 refine call_g works_g ?_
 simp
end Go.Proofs.YtejkhflkeoihlaaGreat
