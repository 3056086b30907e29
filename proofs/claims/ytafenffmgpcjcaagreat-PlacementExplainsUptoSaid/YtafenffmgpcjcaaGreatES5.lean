/- Texts of the proof: ES5. -/
import Derived.Test.YtafenffmgpcjcaaGreatES4
import Derived.Recover
import Derived.Defers
import Derived.Shelf.SlLaysF0
import Derived.Shelf.SlLaysN
import Derived.Shelf.SlLaysNS
import Derived.Shelf.SlicesG.In.CompactI
import Derived.Shelf.SlSortFuncK.RowK2
import Derived.Test.YtafenffmgpcjcaaGreatES0
namespace Go.Proofs.YtafenffmgpcjcaaGreat
open Go.RowKit Go.Proofs.YtafenffmgpcjcaaGreat.Vf
set_option linter.unusedVariables false
set_option linter.unusedSimpArgs false
set_option maxRecDepth 100000
set_option maxHeartbeats 4000000
theorem flow_eq (d : PrgD) : prgFlowW d = firstD [req (parCheck d).2.2 6 (parCheck d).1 (parCheck d).2.1,req (ctlCheckW d).2 7 (ctlCheckW d).1 0,req (depCheck d).2 8 (depCheck d).1 0]:=rfl
theorem flow_g (d : PrgD) (hn : NmOk d) (hd : d.tables.l.length ≤ 100000) (hB : NodB d.control.l) (hsl : d.states.l.length ≤ 9223372036854775807) : Outs Tryz.prog 54 [fPrg d] (diagO (prgFlowW d)):=by
 refine Outs.of mixed Tryz.func54 rfl rfl rfl (by kernel_rfl) ?_
 rw [flow_eq]
 simp [fPrg,cPrg]
 refine call_g (par_g d hn hsl) ?_
 simp
 by_cases h1 : (parCheck d).2.2 = 0
 case neg=>exact call_p (req1_p _ 6 _ _ h1) (by simp [firstD,req,h1,diagO])
 rw [h1]
 refine call_g (req0_g 6 (parCheck d).1 (parCheck d).2.1) ?_
 simp
 refine call_g (ctl_g d hd hB) ?_
 simp
 by_cases h2 : (ctlCheckW d).2 = 0
 case neg=>exact call_p (req1_p _ 7 _ _ h2) (by simp [firstD,req,h2,diagO])
 rw [h2]
 refine call_g (req0_g 7 (ctlCheckW d).1 0) ?_
 simp
 refine call_g (dep_g d) ?_
 simp
 by_cases h3 : (depCheck d).2 = 0
 case neg=>exact call_p (req1_p _ 8 _ _ h3) (by simp [firstD,req,h3,diagO])
 rw [h3]
 refine call_g (req0_g 8 (depCheck d).1 0) ?_
 simp [firstD,req,diagO]
def DiagE : Option Diag→Ending→Prop
 | none,e=>e = .returned (.tuple #[])
 | some (c,p,i,s),e=>e = .panicked [{ v:=failV c p i s,recovered:=false }]
theorem outs_w {f : FuncId} {x : FV} {r : Option Diag} (ho : Outs Tryz.prog f [x] (diagO r)) {w W : World} {F : Cells} {N : Nat} {L : List (Nat × TypeId × Array Value)} {v : Value} (hF : ∀ b o,F b o→b < N) (hr : Fr N w W L) (hP : Rep w F x v) :
  Calls Tryz.prog f #[v] W fun e w'=>DiagE r e∧Below W.heap.size W w':=by
 have hP':=hP.mono (fun _ _ h=>h) (keep_below hF hr.below)
 match r,ho with
 | none,ho =>
  refine (calls_of ho hF hr.le (vals:=#[v]) ⟨hP',trivial⟩).mono ?_
  rintro e w' ⟨u,F',rfl,hu,hb⟩
  refine ⟨?_,hb⟩
  cases hu with
  | tup cs a vs ha hv hr =>
   have : a = #[]:=Array.eq_empty_of_size_eq_zero (by simpa using ha)
   rw [this]; rfl
 | some (c,p,i,s),ho =>
  refine (ho.2 W F #[v] (fun b o h=>Nat.lt_of_lt_of_le (hF b o h) hr.le) rfl fun j y hj=>?_).mono ?_
  ·match j,hj with
   | 0,hj=>simp at hj; subst hj; exact ⟨v,rfl,hP'⟩
   | j + 1,hj=>simp at hj
  ·rintro e w' ⟨rfl,hb⟩
   exact ⟨rfl,hb⟩
theorem limits_none {d : PrgD} (h : prgLimits d = none) : d.headers.l.length < 100000∧d.regs.l.length < 100000∧d.acts.l.length ≤ 1000∧d.tables.l.length < 100000:=by
 unfold prgLimits at h
 simp only [firstD,req] at h
 by_cases c0 : ident d.name = true <;> by_cases c1 : 8 < d.headers.l.length <;> by_cases c2 : 4 < d.regs.l.length <;> by_cases c3 : 16 < d.acts.l.length <;> by_cases c4 : 12 < d.tables.l.length <;> simp [c0,c1,c2,c3,c4] at h
 omega
structure PrgOk (d : PrgD) : Prop where
 nm : NmOk d
 tbl : ∀ t ∈ d.tables.l,TblOk t
 nod : NodB d.control.l
 sta : d.states.l.length ≤ 9223372036854775807
set_option maxRecDepth 100000 in
set_option maxHeartbeats 600000 in
theorem catch_idle (p : Addr) (w : World) : CallsD Tryz.prog 49 #[.pointer (some p)] .returning w fun e u' w'=>e = .returned (.tuple #[])∧u' = .returning∧w' = w:=by
 refine callsD_of_wpS Tryz.func49 rfl fun c₀ cs hu=>?_
 apply wpS_seq
 apply wpS_region
 simp [wpOpsS,go_sem,recoverD,hu,Tryz.ntmps49,Exit.thenS]
 apply wpS_of_wp
 go_wp2_with fail
 cases c₀
 simp_all [bodyPostS,results,Tryz.results49]
set_option maxRecDepth 100000 in
set_option maxHeartbeats 600000 in
theorem catch_yes (g : Nat) (c q i s : Int) (older : List PanicEntry) (w : World) (hb : Blk w g 80 #[.int .i64 0,.int .i64 0,.int .i64 0,.int .i64 0]) :
  CallsD Tryz.prog 49 #[.pointer (some ⟨g,0,none⟩)] (.panicking ({ v:=failV c q i s,recovered:=false } :: older)) w fun e u' w' =>
   e = .returned (.tuple #[])∧u' = .panicking ({ v:=failV c q i s,recovered:=true } :: older)∧Blk w' g 80 #[.int .i64 c,.int .i64 q,.int .i64 i,.int .i64 s]∧Below g w w':=by
 refine callsD_of_wpS Tryz.func49 rfl fun c₀ cs hu=>?_
 apply wpS_seq
 apply wpS_region
 simp [wpOpsS,go_sem,recoverD,hu,Tryz.ntmps49,Exit.thenS]
 have g0 : ∀ i,w.cell? ⟨g,i,none⟩ = _:=fun i=>hb.cell i
 have f0 : ∀ i,w.frozen? ⟨g,i,none⟩ = false:=fun i=>hb.frozen i
 have l0 : g < w.heap.size:=hb.lt
 have HB:=Lib.hid hb
 have HU:=Lib.hid hu
 have hta : ∀ W,(Instr.typeAssert (failV c q i s) 20 130 true).run Tryz.prog W = .ok (.tuple #[.agg #[.int .i64 c,.int .i64 q,.int .i64 i,.int .i64 s],.bool true]) W:=fun _=>by kernel_rfl
 rw [show (Array.replicate 15 undef : Array Value) = #[undef,undef,undef,undef,undef,undef,undef,undef,undef,undef,undef,undef,undef,undef,undef] from rfl]
 clear hb hu
 apply wpS_of_wp
 go_wp2_with fail
 have hB4:=((((HB.out.set_ 0 (.int .i64 c)).set_ 1 (.int .i64 q)).set_ 2 (.int .i64 i)).set_ 3 (.int .i64 s)).below (w':=_) ((Below.refl _ _).alloc (Nat.le_refl _) (.cells #[.int .i64 c,.int .i64 q,.int .i64 i,.int .i64 s] 130)) (by simpa [World.setCell] using l0)
 refine ⟨rfl,FrameMode.panicking ({ v:=failV c q i s,recovered:=true } :: older),by cases c₀; rfl,.tuple #[],by simp [results,Tryz.results49],rfl,rfl,hB4,?_⟩
 exact ((((((Below.refl g w).setCell (Nat.le_refl _) _).setCell (Nat.le_refl _) _).setCell (Nat.le_refl _) _).setCell (Nat.le_refl _) _)).alloc (by simp [World.setCell]; omega) _
abbrev diagV (x : Diag) : Value:=.agg #[.int .i64 x.1,.int .i64 x.2.1,.int .i64 x.2.2.1,.int .i64 x.2.2.2]
theorem prgCheck_some {d : PrgD} {x : Diag} (h : firstD [prgLimits d,scan d.headers.l.length (prgHdr d),prgMetas d,prgObjs d,prgFlowW d] = some x) : prgCheckW d = x:=by
 unfold prgCheckW
 rw [h]
 rfl
set_option maxRecDepth 100000 in
set_option maxHeartbeats 2000000 in
theorem prgCheck_c (d : PrgD) (ho : PrgOk d) {w : World} {F : Cells} {v : Value} (hF : ∀ b o,F b o→b < w.heap.size) (h0 : Rep w F (fPrg d) v) :
  Calls Tryz.prog 27 #[v] w fun e w'=>e = .returned (diagV (prgCheckW d))∧Below w.heap.size w w':=by
 have HP:=Lib.hid h0
 obtain ⟨a1,c1,a2,c2,a3,c3,a4,c4,a5,c5,a6,c6,a7,c7,a8,c8,rfl,-⟩:=prg_val h0
 clear h0
 obtain ⟨N,hN⟩ : ∃ N,w.heap.size = N:=⟨_,rfl⟩
 rw [hN] at hF ⊢
 have F0:=Fr.start w
 rw [hN] at F0
 have HFr:=Lib.hid hF
 have HO:=Lib.hid ho
 have HF0:=Lib.hid F0
 have hmf : ∀ (fn : Fn) (first cap : Array Value) (w : World),(Instr.makeFunc fn first cap).run Tryz.prog w = .ok (.func fn first cap) w:=fun _ _ _ _=>rfl
 clear hF F0 ho
 go_enter_defers Tryz.func27,Tryz.ntmps27
 go_wp2_with fail
 refine Calls.named ?_
 intro W hW
 have F1:=((HF0.out.alloc _ _).alloc _ _).of_eq hW
 simp only [World.size_alloc,hN] at F1
 obtain ⟨L,hL,F1⟩:=F1.name
 have HL:=Lib.hid hL
 have HF1:=Lib.hid F1
 clear F1 hL hW hmf
 with_reducible refine (outs_w (limits_g d HO.out.nm) HFr.out HF1.out HP.out).mono ?_
 rintro e w2 ⟨hE,hb2⟩
 have HF2:=Lib.hid (HF1.out.call hb2)
 clear hb2
 cases h1 : prgLimits d with
 | some x =>
  obtain ⟨c,q,i,s⟩:=x
  have HV:=Lib.hid (prgCheck_some (d:=d) (x:=(c,q,i,s)) (by rw [h1]; rfl))
  rw [h1] at hE
  clear h1
  obtain rfl:=hE
  refine leaves_cons (f:=49) (args:=#[.pointer (some ⟨N + 1,0,none⟩)]) (by simp) (by simp [go_sem]) ?_
  refine (catch_yes (N + 1) c q i s [] w2 (HF2.out.blk _ (by rw [HL.out]; exact .head _)).2).mono ?_
  rintro e u' w9 ⟨rfl,rfl,hB9,hb9⟩
  have r0:=hB9.cell 0
  have r1:=hB9.cell 1
  have r2:=hB9.cell 2
  have r3:=hB9.cell 3
  have HB9:=Lib.hid (HF2.out.below.trans (hb9.mono (by omega)))
  simp at r0 r1 r2 r3
  simp [Leaves,settle,results,Tryz.results27,go_sem,r0,r1,r2,r3,HV.out]
  exact HB9.out
 | none =>
  rw [h1] at hE
  obtain rfl:=hE
  have HV1:=Lib.hid h1
  clear h1
  obtain ⟨g0,l0,f0⟩:=HF2.out.c0 HL.out
  obtain ⟨g1,l1,f1⟩:=HF2.out.c1 HL.out
  dsimp only at g0 l0 f0 g1 l1 f1
  go_wp2_with fail
  with_reducible refine (outs_w (headers_g d HO.out.nm (limits_none HV1.out).1) HFr.out HF2.out HP.out).mono ?_
  rintro e w3 ⟨hE,hb3⟩
  have HF3:=Lib.hid (HF2.out.call hb3)
  clear hb3
  clear g0 l0 f0 g1 l1 f1
  cases h2 : scan d.headers.l.length (prgHdr d) with
  | some x =>
   obtain ⟨c,q,i,s⟩:=x
   have HV:=Lib.hid (prgCheck_some (d:=d) (x:=(c,q,i,s)) (by rw [HV1.out,h2]; rfl))
   rw [h2] at hE
   clear h2
   obtain rfl:=hE
   refine leaves_cons (f:=49) (args:=#[.pointer (some ⟨N + 1,0,none⟩)]) (by simp) (by simp [go_sem]) ?_
   refine (catch_yes (N + 1) c q i s [] w3 (HF3.out.blk _ (by rw [HL.out]; exact .head _)).2).mono ?_
   rintro e u' w9 ⟨rfl,rfl,hB9,hb9⟩
   have r0:=hB9.cell 0
   have r1:=hB9.cell 1
   have r2:=hB9.cell 2
   have r3:=hB9.cell 3
   have HB9:=Lib.hid (HF3.out.below.trans (hb9.mono (by omega)))
   simp at r0 r1 r2 r3
   simp [Leaves,settle,results,Tryz.results27,go_sem,r0,r1,r2,r3,HV.out]
   exact HB9.out
  | none =>
   rw [h2] at hE
   obtain rfl:=hE
   have HV2:=Lib.hid h2
   clear h2
   obtain ⟨g0,l0,f0⟩:=HF3.out.c0 HL.out
   obtain ⟨g1,l1,f1⟩:=HF3.out.c1 HL.out
   dsimp only at g0 l0 f0 g1 l1 f1
   go_wp2_with fail
   with_reducible refine (outs_w (metadata_g d HO.out.nm) HFr.out HF3.out HP.out).mono ?_
   rintro e w4 ⟨hE,hb4⟩
   have HF4:=Lib.hid (HF3.out.call hb4)
   clear hb4
   clear g0 l0 f0 g1 l1 f1
   cases h3 : prgMetas d with
   | some x =>
    obtain ⟨c,q,i,s⟩:=x
    have HV:=Lib.hid (prgCheck_some (d:=d) (x:=(c,q,i,s)) (by rw [HV1.out,HV2.out,h3]; rfl))
    rw [h3] at hE
    clear h3
    obtain rfl:=hE
    refine leaves_cons (f:=49) (args:=#[.pointer (some ⟨N + 1,0,none⟩)]) (by simp) (by simp [go_sem]) ?_
    refine (catch_yes (N + 1) c q i s [] w4 (HF4.out.blk _ (by rw [HL.out]; exact .head _)).2).mono ?_
    rintro e u' w9 ⟨rfl,rfl,hB9,hb9⟩
    have r0:=hB9.cell 0
    have r1:=hB9.cell 1
    have r2:=hB9.cell 2
    have r3:=hB9.cell 3
    have HB9:=Lib.hid (HF4.out.below.trans (hb9.mono (by omega)))
    simp at r0 r1 r2 r3
    simp [Leaves,settle,results,Tryz.results27,go_sem,r0,r1,r2,r3,HV.out]
    exact HB9.out
   | none =>
    rw [h3] at hE
    obtain rfl:=hE
    have HV3:=Lib.hid h3
    clear h3
    obtain ⟨g0,l0,f0⟩:=HF4.out.c0 HL.out
    obtain ⟨g1,l1,f1⟩:=HF4.out.c1 HL.out
    dsimp only at g0 l0 f0 g1 l1 f1
    go_wp2_with fail
    with_reducible refine (outs_w (objs_g d HO.out.nm HO.out.tbl (limits_none HV1.out).2.1 (limits_none HV1.out).2.2.1 (limits_none HV1.out).2.2.2) HFr.out HF4.out HP.out).mono ?_
    rintro e w5 ⟨hE,hb5⟩
    have HF5:=Lib.hid (HF4.out.call hb5)
    clear hb5
    clear g0 l0 f0 g1 l1 f1
    cases h4 : prgObjs d with
    | some x =>
     obtain ⟨c,q,i,s⟩:=x
     have HV:=Lib.hid (prgCheck_some (d:=d) (x:=(c,q,i,s)) (by rw [HV1.out,HV2.out,HV3.out,h4]; rfl))
     rw [h4] at hE
     clear h4
     obtain rfl:=hE
     refine leaves_cons (f:=49) (args:=#[.pointer (some ⟨N + 1,0,none⟩)]) (by simp) (by simp [go_sem]) ?_
     refine (catch_yes (N + 1) c q i s [] w5 (HF5.out.blk _ (by rw [HL.out]; exact .head _)).2).mono ?_
     rintro e u' w9 ⟨rfl,rfl,hB9,hb9⟩
     have r0:=hB9.cell 0
     have r1:=hB9.cell 1
     have r2:=hB9.cell 2
     have r3:=hB9.cell 3
     have HB9:=Lib.hid (HF5.out.below.trans (hb9.mono (by omega)))
     simp at r0 r1 r2 r3
     simp [Leaves,settle,results,Tryz.results27,go_sem,r0,r1,r2,r3,HV.out]
     exact HB9.out
    | none =>
     rw [h4] at hE
     obtain rfl:=hE
     have HV4:=Lib.hid h4
     clear h4
     obtain ⟨g0,l0,f0⟩:=HF5.out.c0 HL.out
     obtain ⟨g1,l1,f1⟩:=HF5.out.c1 HL.out
     dsimp only at g0 l0 f0 g1 l1 f1
     go_wp2_with fail
     with_reducible refine (outs_w (flow_g d HO.out.nm (Nat.le_of_lt (limits_none HV1.out).2.2.2) HO.out.nod HO.out.sta) HFr.out HF5.out HP.out).mono ?_
     rintro e w6 ⟨hE,hb6⟩
     have HF6:=Lib.hid (HF5.out.call hb6)
     clear hb6
     clear g0 l0 f0 g1 l1 f1
     cases h5 : prgFlowW d with
     | some x =>
      obtain ⟨c,q,i,s⟩:=x
      have HV:=Lib.hid (prgCheck_some (d:=d) (x:=(c,q,i,s)) (by rw [HV1.out,HV2.out,HV3.out,HV4.out,h5]; rfl))
      rw [h5] at hE
      clear h5
      obtain rfl:=hE
      refine leaves_cons (f:=49) (args:=#[.pointer (some ⟨N + 1,0,none⟩)]) (by simp) (by simp [go_sem]) ?_
      refine (catch_yes (N + 1) c q i s [] w6 (HF6.out.blk _ (by rw [HL.out]; exact .head _)).2).mono ?_
      rintro e u' w9 ⟨rfl,rfl,hB9,hb9⟩
      have r0:=hB9.cell 0
      have r1:=hB9.cell 1
      have r2:=hB9.cell 2
      have r3:=hB9.cell 3
      have HB9:=Lib.hid (HF6.out.below.trans (hb9.mono (by omega)))
      simp at r0 r1 r2 r3
      simp [Leaves,settle,results,Tryz.results27,go_sem,r0,r1,r2,r3,HV.out]
      exact HB9.out
     | none =>
      rw [h5] at hE
      obtain rfl:=hE
      have HV5:=Lib.hid h5
      clear h5
      have HV:=Lib.hid (show prgCheckW d = (0,0,0,0) by unfold prgCheckW; rw [HV1.out,HV2.out,HV3.out,HV4.out,HV5.out]; rfl)
      obtain ⟨g0,l0,f0⟩:=HF6.out.c0 HL.out
      obtain ⟨g1,l1,f1⟩:=HF6.out.c1 HL.out
      dsimp only at g0 l0 f0 g1 l1 f1
      go_wp2_with fail
      refine leaves_cons (f:=49) (args:=#[.pointer (some ⟨N + 1,0,none⟩)]) (by simp) (by simp [go_sem]) ?_
      refine (catch_idle ⟨N + 1,0,none⟩ _).mono ?_
      rintro e u' w9 ⟨rfl,rfl,rfl⟩
      have HB9:=Lib.hid (((((HF6.out.below.setCell (show N ≤ N + 1 by omega) (.int .i64 0) (p:=⟨N + 1,0,none⟩)).setCell (show N ≤ N + 1 by omega) (.int .i64 0) (p:=⟨N + 1,1,none⟩)).setCell (show N ≤ N + 1 by omega) (.int .i64 0) (p:=⟨N + 1,2,none⟩)).setCell (show N ≤ N + 1 by omega) (.int .i64 0) (p:=⟨N + 1,3,none⟩)))
      simp [Leaves,settle,results,Tryz.results27,go_sem,g0,HV.out]
      exact HB9.out
abbrev fDiag (x : Diag) : FV:=.agg [intF x.1,intF x.2.1,intF x.2.2.1,intF x.2.2.2]
theorem prg_g (d : PrgD) (ho : PrgOk d) : Gives Tryz.prog 27 [fPrg d] (fDiag (prgCheckW d)):=by
 refine ⟨⟨_,Tryz.func27,rfl,by decide⟩,fun w F vals hF hs hv=>?_⟩
 obtain ⟨vl,rfl⟩ : ∃ l : List Value,vals = l.toArray:=⟨vals.toList,by simp⟩
 match vl,hs,hv with
 | [v],hs,hv =>
  obtain ⟨u,h1,h2⟩:=hv 0 _ rfl
  have h1 : v = u:=by simpa using h1
  subst h1
  refine (prgCheck_c d ho hF h2).mono ?_
  rintro e w' ⟨rfl,hb⟩
  refine ⟨_,F,rfl,.agg _ _ (fun j=>if j = 0 then .int .i64 (prgCheckW d).1 else if j = 1 then .int .i64 (prgCheckW d).2.1 else if j = 2 then .int .i64 (prgCheckW d).2.2.1 else .int .i64 (prgCheckW d).2.2.2) rfl (fun j y hj=>?_) (fun j y hj=>?_),hb,fun _ _ h=>h,fun _ _ h=>.inl h,fun b o h=>Nat.lt_of_lt_of_le (hF b o h) hb.size⟩
  ·match j,hj with
   | 0,_=>rfl
   | 1,_=>rfl
   | 2,_=>rfl
   | 3,_=>rfl
   | j + 4,hj=>simp at hj
  ·match j,hj with
   | 0,hj=>simp at hj; subst hj; exact .sc _
   | 1,hj=>simp at hj; subst hj; exact .sc _
   | 2,hj=>simp at hj; subst hj; exact .sc _
   | 3,hj=>simp at hj; subst hj; exact .sc _
   | j + 4,hj=>simp at hj
end Go.Proofs.YtafenffmgpcjcaaGreat
namespace Go.Proofs.YtafenffmgpcjcaaGreat
open Go.RowKit
set_option linter.unusedVariables false
section
variable {P : Program} {ops : Array Oper} {Q : Exit→Act→World→Prop}
def OpGood (P : Program) (F : Value→World→Prop) (S : World→Prop) (St : World→World→Prop) (w : World) : Result Next→Prop
 | .ok (.value v) w'=>F v w'∧S w'∧St w w'
 | .ok .skip w'=>F undef w'∧S w'∧St w w'
 | .ok (.enter f args) w'=>Calls P f args w' fun e w''=>∃ v,e = .returned v∧F v w''∧S w''∧St w w''
 | _=>False
def depB (o : Oper) (j : Nat) : Bool:=o.after.toList.any fun e=>Nat.beq e.on j && Region.binds .any e
theorem dep_of {o : Oper} {j : Nat} (h : depB o j = true) : ∃ e ∈ o.after,e.on = j∧Region.binds .any e = true:=by
 obtain ⟨e,he,h⟩:=List.any_eq_true.1 h
 rw [Bool.and_eq_true] at h
 exact ⟨e,by simpa using he,Nat.eq_of_beq_eq_true h.1,h.2⟩
def behind (ops : Array Oper) : Nat→Nat→Nat→Bool
 | 0,_,_=>false
 | n + 1,i,j=>match ops[i]? with
  | none=>false
  | some o=>depB o j || o.after.toList.any fun e=>Region.binds .any e && behind ops n e.on j
def relOk (ops : Array Oper) (n : Nat) : Bool :=
 (ops.toList.zipIdx.all fun (o,i)=>(o.after.all fun e=>!Region.binds .any e || decide (e.on < i)) && (match o.dst with | some d=>decide (d < n) | none=>true)) &&
 (ops.toList.zipIdx.all fun (o,i)=>ops.toList.zipIdx.all fun (o',j)=>Nat.beq i j || (match o.dst,o'.dst with | some d,some d'=>!(Nat.beq d d') | _,_=>true))
theorem relOk_edge {n : Nat} (h : relOk ops n = true) {i : Nat} {o : Oper} (ho : ops[i]? = some o) : (∀ e ∈ o.after,Region.binds .any e = true→e.on < i)∧(∀ d,o.dst = some d→d < n):=by
 unfold relOk at h
 rw [Bool.and_eq_true] at h
 have h1:=List.all_eq_true.1 h.1 (o,i) (List.mem_zipIdx_iff_getElem?.2 (by simpa using ho))
 simp only [Bool.and_eq_true] at h1
 refine ⟨fun e he hb=>?_,fun d hd=>?_⟩
 ·have:=Array.all_eq_true_iff_forall_mem.1 h1.1 e he
  simpa [hb] using this
 ·have:=h1.2
  rw [hd] at this
  simpa using this
theorem relOk_dst {n : Nat} (h : relOk ops n = true) {i j : Nat} {o o' : Oper} (ho : ops[i]? = some o) (ho' : ops[j]? = some o') (hne : i ≠ j) {d : Nat} (hd : o.dst = some d) : o'.dst ≠ some d:=by
 intro hd'
 unfold relOk at h
 rw [Bool.and_eq_true] at h
 have h1:=List.all_eq_true.1 h.2 (o,i) (List.mem_zipIdx_iff_getElem?.2 (by simpa using ho))
 have h2:=List.all_eq_true.1 h1 (o',j) (List.mem_zipIdx_iff_getElem?.2 (by simpa using ho'))
 simp [hd,hd',hne] at h2
def Free (ops : Array Oper) (t : Nat) : Prop:=∀ (i : Nat) (o : Oper),ops[i]? = some o→o.dst ≠ some t
def freeB (ops : Array Oper) (t : Nat) : Bool:=ops.toList.all fun o=>match o.dst with | some d=>!(Nat.beq d t) | none=>true
theorem free_of {t : Nat} (h : freeB ops t = true) : Free ops t:=fun i o ho hd=>by
 have:=List.all_eq_true.1 h o (List.mem_of_getElem? (i:=i) (by simpa using ho))
 rw [hd] at this
 simp at this
structure Chain where
 effs : List Nat
 rng : List (Nat × Nat)
def Chain.next (C : Chain) (i j : Nat) : Nat:=if C.effs[j]? = some i then j + 1 else j
def chainOk (ops : Array Oper) (C : Chain) : Bool :=
 (C.effs.zipIdx.all fun (e,m)=>(C.effs.take m).all (fun e'=>!(Nat.beq e e') && behind ops 6 e e') && decide (e < ops.size)) &&
 (C.rng.zipIdx.all fun (r,i)=>(decide (r.1 ≤ C.effs.length) && (C.effs.take r.1).all (fun e=>behind ops 6 i e)) && (match C.effs[r.2]? with | some e=>Nat.beq e i || behind ops 6 e i | none=>true))
structure RelInv (P : Program) (ops : Array Oper) (C : Chain) (fr : Nat→Nat) (S : Nat→World→Prop) (F : Nat→Value→World→Prop) (a : Act) (listed : Array Bool) (j : Nat) (b : Act) (u : World) : Prop where
 good : S j u
 size : listed.size = ops.size
 defers : b.defers = a.defers
 tmps : b.tmps.size = a.tmps.size
 le : j ≤ C.effs.length
 effs : ∀ m e,C.effs[m]? = some e→(listed.getD e false = true ↔ m < j)
 down : ∀ (i : Nat) (o : Oper),ops[i]? = some o→listed.getD i false = true→∀ e ∈ o.after,Region.binds .any e = true→listed.getD e.on false = true
 old : ∀ t : Nat,(∀ (i : Nat) (o : Oper),ops[i]? = some o→o.dst = some t→listed.getD i false = false)→b.tmps[t]? = a.tmps[t]?
 new : ∀ (i : Nat) (o : Oper) (d : Nat),ops[i]? = some o→listed.getD i false = true→o.dst = some d→∃ v,b.tmps[d]? = some v∧F i v u
 from_ : ∀ (i : Nat) (o : Oper),ops[i]? = some o→listed.getD i false = true→fr i ≤ j
theorem behind_listed {C : Chain} {fr : Nat→Nat} {S : Nat→World→Prop} {F : Nat→Value→World→Prop} {a b : Act} {listed : Array Bool} {j : Nat} {u : World} (h : RelInv P ops C fr S F a listed j b u) :
  ∀ (n i k : Nat),behind ops n i k = true→(∀ (o : Oper),ops[i]? = some o→∀ e ∈ o.after,Region.binds .any e = true→listed.getD e.on false = true)→listed.getD k false = true:=by
 intro n
 induction n with
 | zero=>intro i k hb; cases hb
 | succ n ih =>
  intro i k hb hi
  unfold behind at hb
  cases ho : ops[i]? with
  | none=>rw [ho] at hb; cases hb
  | some o =>
   rw [ho] at hb
   simp only [Bool.or_eq_true] at hb
   rcases hb with hb | hb
   ·obtain ⟨e,he,rfl,hbe⟩:=dep_of hb
    exact hi o ho e he hbe
   ·obtain ⟨e,he,hb⟩:=List.any_eq_true.1 hb
    rw [Bool.and_eq_true] at hb
    have hl:=hi o ho e (by simpa using he) hb.1
    exact ih e.on k hb.2 fun o' ho' e' he' hb'=>h.down e.on o' ho' hl e' he' hb'
theorem getD_set_self {listed : Array Bool} {i : Nat} (h : i < listed.size) : (listed.setIfInBounds i true).getD i false = true:=by
 simp [Array.getD_eq_getD_getElem?,Array.getElem?_setIfInBounds_self_of_lt h]
theorem getD_false_of {listed : Array Bool} {i : Nat} (h : listed.getD i true = false) : i < listed.size∧listed.getD i false = false:=by
 have hlt : i < listed.size:=by
  rcases Nat.lt_or_ge i listed.size with h' | h'
  ·exact h'
  ·rw [Array.getD_eq_getD_getElem?,Array.getElem?_eq_none h'] at h; cases h
 refine ⟨hlt,?_⟩
 rw [Array.getD_eq_getD_getElem?,Array.getElem?_eq_getElem hlt] at h ⊢
 exact h
theorem RelInv.range {C : Chain} {fr : Nat→Nat} {S : Nat→World→Prop} {F : Nat→Value→World→Prop} {a b : Act} {listed : Array Bool} {j : Nat} {u : World} (hC : chainOk ops C = true) (h : RelInv P ops C fr S F a listed j b u)
  {i : Nat} {o : Oper} (ho : ops[i]? = some o) (hi : listed.getD i true = false) (hdep : ∀ e ∈ o.after,Region.binds .any e = true→listed.getD e.on false = true) :
  (∀ r,C.rng[i]? = some r→r.1 ≤ j∧j ≤ r.2)∧(∀ m,C.effs[m]? = some i→m = j):=by
 unfold chainOk at hC
 rw [Bool.and_eq_true] at hC
 have hall : ∀ (o' : Oper),ops[i]? = some o'→∀ e ∈ o'.after,Region.binds .any e = true→listed.getD e.on false = true:=fun o' ho' e he hb=>by
  obtain rfl : o = o':=Option.some.inj (ho.symm.trans ho')
  exact hdep e he hb
 have hif:=(getD_false_of hi).2
 refine ⟨fun r hr=>?_,fun m hm=>?_⟩
 ·have h1:=List.all_eq_true.1 hC.2 (r,i) (List.mem_zipIdx_iff_getElem?.2 (by simpa using hr))
  rw [Bool.and_eq_true] at h1
  refine ⟨?_,?_⟩
  ·rcases Nat.lt_or_ge j r.1 with hlt | hge
   ·have h2:=h1.1
    rw [Bool.and_eq_true] at h2
    have hrl : r.1 ≤ C.effs.length:=of_decide_eq_true h2.1
    have hmem : C.effs[j]'(by omega) ∈ C.effs.take r.1:=List.mem_take_iff_getElem.2 ⟨j,by omega,rfl⟩
    have hb:=List.all_eq_true.1 h2.2 _ hmem
    have:=(h.effs j _ (List.getElem?_eq_getElem (by omega))).1 (behind_listed h 6 i _ hb hall)
    omega
   ·exact hge
  ·rcases Nat.lt_or_ge r.2 j with hlt | hge
   ·have hjl : r.2 < C.effs.length:=Nat.lt_of_lt_of_le hlt h.le
    have h2:=h1.2
    rw [List.getElem?_eq_getElem hjl] at h2
    have hl:=(h.effs r.2 _ (List.getElem?_eq_getElem hjl)).2 hlt
    simp only [Bool.or_eq_true] at h2
    rcases h2 with h2 | h2
    ·rw [Nat.eq_of_beq_eq_true h2,hif] at hl; cases hl
    ·have hopt : ∀ (o' : Oper),ops[C.effs[r.2]]? = some o'→∀ e ∈ o'.after,Region.binds .any e = true→listed.getD e.on false = true:=fun o' ho' e he hb=>h.down _ o' ho' hl e he hb
     have:=behind_listed h 6 _ i h2 hopt
     rw [hif] at this; cases this
   ·exact hge
 ·have h1:=List.all_eq_true.1 hC.1 (i,m) (List.mem_zipIdx_iff_getElem?.2 (by simpa using hm))
  rw [Bool.and_eq_true] at h1
  have hge : j ≤ m:=by
   rcases Nat.lt_or_ge m j with hlt | hge
   ·have:=(h.effs m i hm).2 hlt
    rw [hif] at this; cases this
   ·exact hge
  rcases Nat.lt_or_ge j m with hlt | hge2
  ·have hml : m < C.effs.length:=(List.getElem?_eq_some_iff.1 hm).1
   have hmem : C.effs[j]'(by omega) ∈ C.effs.take m:=List.mem_take_iff_getElem.2 ⟨j,by omega,rfl⟩
   have hb:=List.all_eq_true.1 h1.1 _ hmem
   rw [Bool.and_eq_true] at hb
   have:=(h.effs j _ (List.getElem?_eq_getElem (by omega))).1 (behind_listed h 6 i _ hb.2 hall)
   omega
  ·omega
theorem getD_set_ne' {listed : Array Bool} {i j : Nat} (h : j ≠ i) : (listed.setIfInBounds i true).getD j false = listed.getD j false:=getD_set_ne false (Ne.symm h)
def frOk (C : Chain) (fr : Nat→Nat) (n : Nat) : Bool:=(List.range n).all fun i=>match C.rng[i]? with | some r=>decide (fr i ≤ if C.effs.contains i then r.1 + 1 else r.1) | none=>false
theorem next_of {C : Chain} {i j : Nat} (hne : ∀ m : Nat,C.effs[m]? = some i→m = j) : (C.effs[j]? = some i∧C.next i j = j + 1) ∨ ((∀ m : Nat,C.effs[m]? ≠ some i)∧C.next i j = j):=by
 unfold Chain.next
 by_cases h : C.effs[j]? = some i
 ·exact .inl ⟨h,if_pos h⟩
 ·refine .inr ⟨fun m hm=>h ?_,if_neg h⟩
  have:=hne m hm
  subst this
  exact hm
theorem RelInv.step {C : Chain} {fr : Nat→Nat} {S : Nat→World→Prop} {St : Nat→World→World→Prop} {F : Nat→Value→World→Prop} {a b : Act} {listed : Array Bool} {j : Nat} {u u' : World} {i : Nat} {o : Oper} {v : Value}
  (hst : ∀ i v j w w',F i v w→fr i ≤ j→S j w→St j w w'→F i v w') (hok : relOk ops a.tmps.size = true) (hC : chainOk ops C = true) (hfr : frOk C fr ops.size = true)
  (h : RelInv P ops C fr S F a listed j b u) (ho : ops[i]? = some o) (hi : listed.getD i true = false) (hdep : ∀ e ∈ o.after,Region.binds .any e = true→listed.getD e.on false = true)
  (hv : F i v u') (hS : S (C.next i j) u') (hs : St j u u') : RelInv P ops C fr S F a (listed.setIfInBounds i true) (C.next i j) (b.put o.dst v) u':=by
 obtain ⟨hlt,hif⟩:=getD_false_of hi
 obtain ⟨hrng,heff⟩:=h.range hC ho hi hdep
 have hset : ∀ k,k ≠ i→(listed.setIfInBounds i true).getD k false = listed.getD k false:=fun k hk=>getD_set_ne' hk
 have hself:=getD_set_self hlt
 have hin : i < ops.size:=(Array.getElem?_eq_some_iff.1 ho).1
 have hfri : fr i ≤ C.next i j:=by
  have:=List.all_eq_true.1 hfr i (List.mem_range.2 hin)
  cases hr : C.rng[i]? with
  | none=>rw [hr] at this; cases this
  | some r =>
   rw [hr] at this
   have h1:=of_decide_eq_true this
   have h2:=(hrng r hr).1
   rcases next_of heff with ⟨he,hn⟩ | ⟨he,hn⟩
   ·rw [hn]
    split at h1 <;> omega
   ·rw [hn]
    rw [if_neg (by
     intro hc
     rw [List.contains_iff_mem] at hc
     obtain ⟨m,hm⟩:=List.mem_iff_getElem?.1 hc
     exact he m hm)] at h1
    omega
 have hjle : j ≤ C.next i j:=by rcases next_of heff with ⟨_,hn⟩ | ⟨_,hn⟩ <;> omega
 refine ⟨hS,by simpa using h.size,?_,?_,?_,?_,?_,?_,?_,?_⟩
 ·cases hd : o.dst <;> simpa [Act.put] using h.defers
 ·cases hd : o.dst <;> simpa [Act.put] using h.tmps
 ·rcases next_of heff with ⟨he,hn⟩ | ⟨_,hn⟩
  ·rw [hn]; exact (List.getElem?_eq_some_iff.1 he).1
  ·rw [hn]; exact h.le
 ·intro m e hm
  by_cases hei : e = i
  ·subst hei
   obtain rfl:=heff m hm
   rcases next_of heff with ⟨_,hn⟩ | ⟨he,_⟩
   ·rw [hn,hself]; simp
   ·exact absurd hm (he m)
  ·rw [hset e hei,h.effs m e hm]
   rcases next_of heff with ⟨he,hn⟩ | ⟨_,hn⟩
   ·rw [hn]
    constructor
    ·intro; omega
    ·intro hlt'
     rcases Nat.lt_or_ge m j with h' | h'
     ·exact h'
     ·have : m = j:=by omega
      subst this
      rw [hm] at he
      exact absurd (Option.some.inj he) hei
   ·rw [hn]
 ·intro k o' ho' hl e he hb
  by_cases hek : e.on = i
  ·rw [hek]; exact hself
  ·rw [hset e.on hek]
   by_cases hk : k = i
   ·subst hk
    obtain rfl : o = o':=Option.some.inj (ho.symm.trans ho')
    exact hdep e he hb
   ·rw [hset k hk] at hl
    exact h.down k o' ho' hl e he hb
 ·intro t ht
  have hne : o.dst ≠ some t:=fun hd=>by
   have:=ht i o ho hd
   rw [hself] at this
   cases this
  have e : (b.put o.dst v).tmps[t]? = b.tmps[t]?:=by
   cases hd : o.dst with
   | none=>rfl
   | some d=>rw [hd] at hne; simp only [Act.put]; exact Array.getElem?_setIfInBounds_ne (fun e=>hne (by rw [e]))
  rw [e]
  refine h.old t fun k o' ho' hd'=>?_
  have hk : k ≠ i:=fun e=>by
   subst e
   obtain rfl : o = o':=Option.some.inj (ho.symm.trans ho')
   exact hne hd'
  rw [← hset k hk]
  exact ht k o' ho' hd'
 ·intro k o' d ho' hl hd'
  by_cases hk : k = i
  ·subst hk
   obtain rfl : o = o':=Option.some.inj (ho.symm.trans ho')
   have hdn:=(relOk_edge hok ho).2 d hd'
   refine ⟨v,?_,hv⟩
   rw [hd']
   simp only [Act.put]
   exact Array.getElem?_setIfInBounds_self_of_lt (by rw [h.tmps]; exact hdn)
  ·rw [hset k hk] at hl
   obtain ⟨v',e,f⟩:=h.new k o' d ho' hl hd'
   refine ⟨v',?_,hst _ _ _ _ _ f (h.from_ k o' ho' hl) h.good hs⟩
   rw [← e]
   cases hd : o.dst with
   | none=>rfl
   | some d0 =>
    have:=relOk_dst hok ho ho' (Ne.symm hk) hd
    simp only [Act.put]
    exact Array.getElem?_setIfInBounds_ne (fun e=>this (by rw [hd',e]))
 ·intro k o' ho' hl
  by_cases hk : k = i
  ·subst hk; exact hfri
  ·rw [hset k hk] at hl
   exact Nat.le_trans (h.from_ k o' ho' hl) hjle
theorem RelInv.done {C : Chain} {fr : Nat→Nat} {S : Nat→World→Prop} {F : Nat→Value→World→Prop} {a b : Act} {listed : Array Bool} {j : Nat} {u : World} (hok : relOk ops a.tmps.size = true) (h : RelInv P ops C fr S F a listed j b u)
  (hr : Region.ready .any ops listed = []) : ∀ i,i < ops.size→listed.getD i false = true:=by
 intro i
 induction i using Nat.strongRecOn with
 | _ i ih =>
  intro hi
  cases hl : listed.getD i false with
  | true=>rfl
  | false =>
   have hm : i ∈ Region.ready .any ops listed:=mem_ready.2 ⟨by
    rw [Array.getD_eq_getD_getElem?,Array.getElem?_eq_getElem (by rw [h.size]; exact hi)] at hl ⊢
    exact hl,ops[i],Array.getElem?_eq_getElem hi,fun e he hb=>by
     have:=(relOk_edge hok (Array.getElem?_eq_getElem hi)).1 e he hb
     exact ih e.on this (by omega)⟩
   rw [hr] at hm
   cases hm
def RegEnd (Q' : Act→World→Prop) (F : Nat→Value→World→Prop) (u : World) : Nat→List Oper→Act→Prop
 | _,[],a=>Q' a u
 | k,o :: l,a=>match o.dst with
  | none=>RegEnd Q' F u (k + 1) l a
  | some d=>∀ v,F k v u→RegEnd Q' F u (k + 1) l (a.put (some d) v)
theorem RegEnd.run {Q' : Act→World→Prop} {F : Nat→Value→World→Prop} {u : World} : ∀ (l : List Oper) (k : Nat) (a b : Act),RegEnd Q' F u k l a→b.defers = a.defers→b.tmps.size = a.tmps.size →
  (∀ t,(∀ o ∈ l,o.dst ≠ some t)→b.tmps[t]? = a.tmps[t]?)→(∀ (i : Nat) (o : Oper) (d : Nat),l[i]? = some o→o.dst = some d→∃ v,b.tmps[d]? = some v∧F (k + i) v u)→Q' b u:=by
 intro l
 induction l with
 | nil =>
  intro k a b h hd hsz hold _
  have e : b.tmps = a.tmps:=Array.ext_getElem? fun t=>hold t (fun o ho=>by cases ho)
  have : b = a:=by cases a; cases b; simp_all
  rw [this]; exact h
 | cons o l ih =>
  intro k a b h hd hsz hold hnew
  unfold RegEnd at h
  have hnew' : ∀ (i : Nat) (o' : Oper) (d : Nat),l[i]? = some o'→o'.dst = some d→∃ v,b.tmps[d]? = some v∧F (k + 1 + i) v u:=fun i o' d ho' hd'=>by
   have:=hnew (i + 1) o' d (by simpa using ho') hd'
   rwa [show k + (i + 1) = k + 1 + i by omega] at this
  cases hdst : o.dst with
  | none =>
   rw [hdst] at h
   refine ih (k + 1) a b h hd hsz (fun t ht=>hold t fun o' ho'=>?_) hnew'
   rcases List.mem_cons.1 ho' with rfl | ho'
   ·rw [hdst]; simp
   ·exact ht o' ho'
  | some d =>
   rw [hdst] at h
   obtain ⟨v,ev,fv⟩:=hnew 0 o d (by simp) hdst
   rw [Nat.add_zero] at fv
   refine ih (k + 1) (a.put (some d) v) b (h v fv) (by simpa [Act.put] using hd) (by simpa [Act.put] using hsz) (fun t ht=>?_) hnew'
   by_cases htd : t = d
   ·subst htd
    have hlt : t < b.tmps.size:=(Array.getElem?_eq_some_iff.1 ev).1
    rw [ev]
    simp only [Act.put]
    rw [Array.getElem?_setIfInBounds_self_of_lt (by rw [← hsz]; exact hlt)]
   ·simp only [Act.put]
    rw [Array.getElem?_setIfInBounds_ne (Ne.symm htd)]
    refine hold t fun o' ho'=>?_
    rcases List.mem_cons.1 ho' with rfl | ho'
    ·rw [hdst]; simpa using Ne.symm htd
    ·exact ht o' ho'
end
theorem wanted_plain {o : Oper} {y : Nat→Option Bool} {C : Prop} (hg : o.guard = none) (h : Region.wanted o y = false) : C:=by
 unfold Region.wanted at h
 rw [hg] at h
 cases h
end Go.Proofs.YtafenffmgpcjcaaGreat
namespace Go.Proofs.YtafenffmgpcjcaaGreat
open Go.RowKit
set_option linter.unusedVariables false
theorem chain_next {C : Chain} {i j : Nat} (h : C.effs.contains i = false) : C.next i j = j:=by
 unfold Chain.next
 rw [if_neg]
 intro he
 have : C.effs.contains i = true:=by rw [List.contains_iff_mem]; exact List.mem_of_getElem? he
 rw [h] at this; cases this
abbrev LFact:=Nat→Value→World→Prop
def lfact (l : List LFact) (i j : Nat) (v : Value) (w : World) : Prop:=match l[i]? with | some f=>f j v w | none=>True
def leq (X : Value) : LFact:=fun _ v _=>v = X
def KeepL (ops : Array Oper) (ρ : Operand→Value) (i j j' : Nat) (u u' : World) : Nat→List Oper→List LFact→Prop
 | _,[],_=>True
 | _,_ :: _,[]=>True
 | k,o :: l,f :: fs=>(match o.dst with | none=>True | some d=>k = i ∨ behind ops 6 k i = true ∨ (f j (ρ (.tmp d)) u→f j' (ρ (.tmp d)) u'))∧KeepL ops ρ i j j' u u' (k + 1) l fs
theorem KeepL.at_ {ops : Array Oper} {ρ : Operand→Value} {i j j' : Nat} {u u' : World} : ∀ (l : List Oper) (fs : List LFact) (k0 : Nat),KeepL ops ρ i j j' u u' k0 l fs →
  ∀ (k : Nat) (o : Oper) (d : Nat),l[k]? = some o→o.dst = some d→k0 + k ≠ i→behind ops 6 (k0 + k) i = false→lfact fs k j (ρ (.tmp d)) u→lfact fs k j' (ρ (.tmp d)) u':=by
 intro l
 induction l with
 | nil=>intro fs k0 _ k o d h; simp at h
 | cons x l ih =>
  intro fs k0 h k o d ho hd hne hnd hf
  cases fs with
  | nil=>simp [lfact]
  | cons f fs =>
   cases k with
   | zero =>
    obtain rfl : x = o:=by simpa using ho
    have h1:=h.1
    rw [hd] at h1
    rcases h1 with h1 | h1 | h1
    ·exact absurd h1 hne
    ·rw [Nat.add_zero] at hnd; rw [hnd] at h1; cases h1
    ·exact h1 hf
   | succ k=>exact ih fs (k0 + 1) h.2 k o d (by simpa using ho) hd (by omega) (by rwa [show k0 + 1 + k = k0 + (k + 1) by omega]) hf
def LStable (fs : List LFact) : Prop:=∀ f ∈ fs,∀ (j : Nat) (v : Value) (u u' : World),Below u.heap.size u u'→f j v u→f j v u'
theorem KeepL.below {ops : Array Oper} {ρ : Operand→Value} {i j : Nat} {u u' : World} (hb : Below u.heap.size u u') : ∀ (l : List Oper) (fs : List LFact) (k0 : Nat),LStable fs→KeepL ops ρ i j j u u' k0 l fs:=by
 intro l
 induction l with
 | nil=>intro fs k0 _; trivial
 | cons o l ih =>
  intro fs k0 hs
  cases fs with
  | nil=>trivial
  | cons f fs =>
   refine ⟨?_,ih fs (k0 + 1) fun f' hf'=>hs f' (List.mem_cons_of_mem _ hf')⟩
   cases o.dst with
   | none=>trivial
   | some d=>exact .inr (.inr (hs f (List.mem_cons_self ..) j _ u u' hb))
section
variable {P : Program} {ops : Array Oper} {Q : Exit→Act→World→Prop}
structure RelInvL (P : Program) (ops : Array Oper) (C : Chain) (S : Nat→World→Prop) (fs : List LFact) (a : Act) (listed : Array Bool) (j : Nat) (b : Act) (u : World) : Prop where
 base : RelInv P ops C (fun _=>0) (fun _ _=>True) (fun _ _ _=>True) a listed j b u
 good : S j u
 new : ∀ (i : Nat) (o : Oper) (d : Nat),ops[i]? = some o→listed.getD i false = true→o.dst = some d→lfact fs i j (b.eval (.tmp d)) u
def OpLookL (P : Program) (l : List Oper) (C : Chain) (S : Nat→World→Prop) (fs : List LFact) (a : Act) (i : Nat) (o : Oper) : Prop :=
 ∀ (j : Nat),(∀ r,C.rng[i]? = some r→r.1 ≤ j∧j ≤ r.2)→∀ (ρ : Operand→Value) (y : Nat→Option Bool) (u : World),S j u →
  (∀ c,ρ (.const c) = c)→(∀ f,ρ (.func f) = .func (.func f) #[] #[])→(∀ g,ρ (.global g) = .pointer (some ⟨g,0,none⟩)) →
  (∀ t,freeB l.toArray t = true→ρ (.tmp t) = a.eval (.tmp t)) →
  (∀ (k : Nat) (o' : Oper) (d : Nat),depB o k = true→l.toArray[k]? = some o'→o'.dst = some d→lfact fs k j (ρ (.tmp d)) u∧y k = (match ρ (.tmp d) with | .bool x=>some x | _=>none)) →
  (Region.wanted o y = true→OpGood P (lfact fs i (C.next i j)) (S (C.next i j)) (fun _ u'=>KeepL l.toArray ρ i j (C.next i j) u u' 0 l fs) u ((execOp ρ o).run P u))∧(Region.wanted o y = false→lfact fs i (C.next i j) undef u∧S (C.next i j) u∧KeepL l.toArray ρ i j (C.next i j) u u 0 l fs)
def LooksL (P : Program) (l : List Oper) (C : Chain) (S : Nat→World→Prop) (fs : List LFact) (a : Act) : Nat→List Oper→Prop
 | _,[]=>True
 | k,o :: r=>OpLookL P l C S fs a k o∧LooksL P l C S fs a (k + 1) r
theorem LooksL.at_ {l0 : List Oper} {C : Chain} {S : Nat→World→Prop} {fs : List LFact} {a : Act} : ∀ (l : List Oper) (k : Nat),LooksL P l0 C S fs a k l→∀ i o,l[i]? = some o→OpLookL P l0 C S fs a (k + i) o:=by
 intro l
 induction l with
 | nil=>intro k h i o ho; simp at ho
 | cons x l ih =>
  intro k h i o ho
  cases i with
  | zero=>simp at ho; subst ho; exact h.1
  | succ i=>have:=ih (k + 1) h.2 i o (by simpa using ho); rwa [show k + 1 + i = k + (i + 1) by omega] at this
theorem eval_put_ne {b : Act} {v : Value} {o : Oper} {d : Nat} (h : o.dst ≠ some d) : (b.put o.dst v).eval (.tmp d) = b.eval (.tmp d):=by
 cases hd : o.dst with
 | none=>rfl
 | some d0 =>
  rw [hd] at h
  simp only [Act.put,Act.eval,Array.getD_eq_getD_getElem?]
  rw [Array.getElem?_setIfInBounds_ne (fun e=>h (by rw [e]))]
theorem RelInvL.step {l : List Oper} {C : Chain} {S : Nat→World→Prop} {fs : List LFact} {a b : Act} {listed : Array Bool} {j : Nat} {u u' : World} {i : Nat} {o : Oper} {v : Value}
  (hok : relOk l.toArray a.tmps.size = true) (hC : chainOk l.toArray C = true) (hfr : frOk C (fun _=>0) l.toArray.size = true)
  (h : RelInvL P l.toArray C S fs a listed j b u) (ho : l.toArray[i]? = some o) (hi : listed.getD i true = false) (hdep : ∀ e ∈ o.after,Region.binds .any e = true→listed.getD e.on false = true)
  (hv : lfact fs i (C.next i j) v u') (hS : S (C.next i j) u') (hs : KeepL l.toArray b.eval i j (C.next i j) u u' 0 l fs) : RelInvL P l.toArray C S fs a (listed.setIfInBounds i true) (C.next i j) (b.put o.dst v) u':=by
 refine ⟨h.base.step (St:=fun _ _ _=>True) (fun _ _ _ _ _ _ _ _ _=>trivial) hok hC hfr ho hi hdep trivial trivial trivial,hS,?_⟩
 obtain ⟨hlt,hif⟩:=getD_false_of hi
 intro k o' d ho' hl hd
 by_cases hk : k = i
 ·subst hk
  obtain rfl : o = o':=Option.some.inj (ho.symm.trans ho')
  have hdn:=(relOk_edge hok ho).2 d hd
  have : (b.put o.dst v).eval (.tmp d) = v:=by
   rw [hd]
   simp only [Act.put,Act.eval,Array.getD_eq_getD_getElem?]
   rw [Array.getElem?_setIfInBounds_self_of_lt (by rw [h.base.tmps]; exact hdn)]
   rfl
  rw [this]
  exact hv
 ·rw [getD_set_ne' hk] at hl
  rw [eval_put_ne (fun e=>relOk_dst hok ho ho' (Ne.symm hk) e hd)]
  have hnd : behind l.toArray 6 (0 + k) i = false:=by
   cases hb : behind l.toArray 6 (0 + k) i with
   | false=>rfl
   | true =>
    rw [Nat.zero_add] at hb
    have:=behind_listed h.base 6 k i hb fun o1 ho1 e he hb1=>h.base.down k o1 ho1 hl e he hb1
    rw [hif] at this
    cases this
  exact hs.at_ l fs 0 k o' d (by simpa using ho') hd (by omega) hnd (h.new k o' d ho' hl hd)
theorem wpAny_relL {l : List Oper} {C : Chain} {S : Nat→World→Prop} {fs : List LFact} {a : Act} (hok : relOk l.toArray a.tmps.size = true) (hC : chainOk l.toArray C = true) (hfr : frOk C (fun _=>0) l.toArray.size = true)
  (hops : LooksL P l C S fs a 0 l) (hend : ∀ u,S C.effs.length u→RegEnd (Q .normal) (fun i=>lfact fs i C.effs.length) u 0 l a) :
  ∀ (fuel : Nat) (listed : Array Bool) (j : Nat) (b : Act) (u : World),listed.toList.count false ≤ fuel→RelInvL P l.toArray C S fs a listed j b u→wpAny P .any l.toArray Q fuel listed b u:=by
 have hfin : ∀ (listed : Array Bool) (j : Nat) (b : Act) (u : World),RelInvL P l.toArray C S fs a listed j b u→Region.ready .any l.toArray listed = []→Q .normal b u:=fun listed j b u h hr=>by
  have hall:=h.base.done hok hr
  have hj : j = C.effs.length:=by
   rcases Nat.lt_or_ge j C.effs.length with hlt | hge
   ·have h0:=(h.base.effs j _ (List.getElem?_eq_getElem hlt))
    have hin : C.effs[j] < l.toArray.size:=by
     unfold chainOk at hC
     rw [Bool.and_eq_true] at hC
     have h1:=List.all_eq_true.1 hC.1 (C.effs[j],j) (List.mem_zipIdx_iff_getElem?.2 (by simp))
     rw [Bool.and_eq_true] at h1
     exact of_decide_eq_true h1.2
    have:=h0.1 (hall _ hin)
    omega
   ·have:=h.base.le; omega
  have hg:=h.good
  have hn:=h.new
  rw [hj] at hg hn
  refine RegEnd.run l 0 a b (hend u hg) h.base.defers h.base.tmps (fun t ht=>h.base.old t fun i o ho hd=>absurd hd (ht o (List.mem_of_getElem? (i:=i) (by simpa using ho)))) (fun i o d ho hd=>?_)
  have hl:=hall i (Array.getElem?_eq_some_iff.1 (show l.toArray[i]? = some o by simpa using ho)).1
  obtain ⟨v,ev,_⟩:=h.base.new i o d (by simpa using ho) hl hd
  have:=hn i o d (by simpa using ho) hl hd
  have hev : b.eval (.tmp d) = v:=by simp [Act.eval,ev]
  rw [hev] at this
  exact ⟨v,ev,by rw [Nat.zero_add]; exact this⟩
 intro fuel
 induction fuel with
 | zero =>
  intro listed j b u hc h
  have hr : Region.ready .any l.toArray listed = []:=by
   cases hr : Region.ready .any l.toArray listed with
   | nil=>rfl
   | cons i r =>
    have hm : i ∈ Region.ready .any l.toArray listed:=by rw [hr]; exact List.mem_cons_self
    obtain ⟨hi,o,ho,_⟩:=mem_ready.1 hm
    have hlt : i < listed.size:=by rw [h.base.size]; exact (Array.getElem?_eq_some_iff.1 ho).1
    have hmem : false ∈ listed.toList:=by
     rw [Array.getD_eq_getD_getElem?,Array.getElem?_eq_getElem hlt] at hi
     have : listed[i] = false:=hi
     rw [← this]; simp
    have:=List.count_pos_iff.2 hmem
    omega
  exact ⟨hr,hfin listed j b u h hr⟩
 | succ fuel ih =>
  intro listed j b u hc h
  refine ⟨hfin listed j b u h,fun i hi=>?_⟩
  obtain ⟨hi0,o,ho,hdep⟩:=mem_ready.1 hi
  have hlt : i < listed.size:=by rw [h.base.size]; exact (Array.getElem?_eq_some_iff.1 ho).1
  have hli : listed[i] = false:=by
   rw [Array.getD_eq_getD_getElem?,Array.getElem?_eq_getElem hlt] at hi0
   exact hi0
  have hcnt : (listed.setIfInBounds i true).toList.count false ≤ fuel:=by
   rw [Array.toList_setIfInBounds,List.count_set (by simpa using hlt)]
   have hmem : false ∈ listed.toList:=by rw [← hli]; simp
   have:=List.count_pos_iff.2 hmem
   simp only [Array.getElem_toList,hli,beq_self_eq_true,if_true,Bool.true_beq,Bool.false_eq_true,if_false]
   omega
  have hlk:=LooksL.at_ l 0 hops i o (by simpa using ho)
  rw [Nat.zero_add] at hlk
  have hlook:=hlk j (h.base.range hC ho hi0 hdep).1 b.eval (yielded l.toArray b.tmps) u h.good (fun _=>rfl) (fun _=>rfl) (fun _=>rfl) (fun t ht=>by
    have:=h.base.old t fun i o ho hd=>absurd hd (free_of ht i o ho)
    unfold Act.eval; simp only [Array.getD_eq_getD_getElem?]
    rw [this]) (fun k o' d hj ho' hd'=>by
    obtain ⟨e,he,rfl,hb⟩:=dep_of hj
    obtain ⟨v,ev,fv⟩:=h.base.new e.on o' d ho' (hdep e he hb) hd'
    have hev : b.eval (.tmp d) = v:=by simp [Act.eval,ev]
    refine ⟨h.new e.on o' d ho' (hdep e he hb) hd',?_⟩
    unfold yielded
    rw [ho']
    simp only [Option.bind_some,hd',ev,hev]
    cases v <;> rfl)
  unfold wpOp
  rw [ho]
  show if Region.wanted o (yielded l.toArray b.tmps) = true then _ else _
  split
  ·rename_i hw
   have hg:=hlook.1 hw
   refine .inl ?_
   unfold Oper.wp
   generalize (execOp b.eval o).run P u = r at hg ⊢
   cases r with
   | halt x w'=>exact hg.elim
   | ok n w' =>
    cases n with
    | value v =>
     obtain ⟨f,s,t⟩:=hg
     exact ih _ _ _ _ hcnt (h.step hok hC hfr ho hi0 hdep f s t)
    | skip =>
     obtain ⟨f,s,t⟩:=hg
     exact ih _ _ _ _ hcnt (h.step hok hC hfr ho hi0 hdep f s t)
    | enter f args =>
     refine Calls.mono (show Calls P f args w' _ from hg) ?_
     rintro e w'' ⟨v,rfl,f,s,t⟩
     exact ih _ _ _ _ hcnt (h.step hok hC hfr ho hi0 hdep f s t)
    | _=>exact hg.elim
  ·rename_i hw
   have hw' : Region.wanted o (yielded l.toArray b.tmps) = false:=by simpa using hw
   obtain ⟨f,s,t⟩:=hlook.2 hw'
   exact ih _ _ _ _ hcnt (h.step hok hC hfr ho hi0 hdep f s t)
theorem wp_region_relL {l : List Oper} {id : Nat} {a : Act} {w : World} (C : Chain) (S : Nat→World→Prop) (fs : List LFact) (hm : P.follows .mixedOrders = true)
  (hok : relOk l.toArray a.tmps.size = true) (hC : chainOk l.toArray C = true) (hfr : frOk C (fun _=>0) l.toArray.size = true) (hS : S 0 w.drew)
  (hops : LooksL P l C S fs a 0 l) (hend : ∀ u,S C.effs.length u→RegEnd (Q .normal) (fun i=>lfact fs i C.effs.length) u 0 l a) :
  (Code.region id l.toArray true).wp P Q a w:=by
 refine wp_region_any hm ?_
 have hno : ∀ i,(Array.replicate l.toArray.size false).getD i false = false:=fun i=>by
  rw [Array.getD_eq_getD_getElem?]
  rcases Nat.lt_or_ge i l.toArray.size with h | h
  ·rw [Array.getElem?_eq_getElem (by simpa using h)]; simp
  ·rw [Array.getElem?_eq_none (by simpa using h)]; rfl
 refine wpAny_relL hok hC hfr hops hend _ _ 0 _ _ ?_ ⟨⟨trivial,by simp,rfl,rfl,Nat.zero_le _,(fun m e _=>(by rw [hno]; simp)),(fun i o _ hl=>(by rw [hno] at hl; cases hl)),(fun _ _=>rfl),(fun i o d _ hl=>(by rw [hno] at hl; cases hl)),(fun i o _ hl=>(by rw [hno] at hl; cases hl))⟩,hS,(fun i o d _ hl=>(by rw [hno] at hl; cases hl))⟩
 simp
end
theorem LStable.nil_ : LStable []:=fun f hf=>absurd hf (by simp)
theorem LStable.cons_ {f : LFact} {fs : List LFact} (h : ∀ (j : Nat) (v : Value) (u u' : World),Below u.heap.size u u'→f j v u→f j v u') (hs : LStable fs) : LStable (f :: fs):=fun g hg=>by
 rcases List.mem_cons.1 hg with rfl | hg
 ·exact h
 ·exact hs g hg
theorem leq_st (X : Value) : ∀ (j : Nat) (v : Value) (u u' : World),Below u.heap.size u u'→leq X j v u→leq X j v u':=fun _ _ _ _ _ h=>h
def lat (m : Nat) (p : Value→World→Prop) : LFact:=fun j v u=>j = m→p v u
def VStable (p : Value→World→Prop) : Prop:=∀ (v : Value) (u u' : World),Below u.heap.size u u'→p v u→p v u'
theorem lat_st {m : Nat} {p : Value→World→Prop} (h : VStable p) : ∀ (j : Nat) (v : Value) (u u' : World),Below u.heap.size u u'→lat m p j v u→lat m p j v u':=fun _ v u u' hb hp hj=>h v u u' hb (hp hj)
def pLit (lo : Nat) (t : TypeId) (n : Nat) (cs : Array Value) (v : Value) (u : World) : Prop:=∃ g,v = .slice (some ⟨g,0,none⟩) n n∧lo ≤ g∧Blk u g t cs
theorem pLit_st {lo : Nat} {t : TypeId} {n : Nat} {cs : Array Value} : VStable (pLit lo t n cs):=fun v u u' hb ⟨g,e,hg,ho⟩=>⟨g,e,hg,ho.below hb ho.lt⟩
theorem good_call {P : Program} {u : World} {F : Value→World→Prop} {S : World→Prop} {St : World→World→Prop} {f : FuncId} {args : Array Value} {Q : Ending→World→Prop} (h : Calls P f args u Q)
  (hq : ∀ e w',Q e w'→∃ v,e = .returned v∧F v w'∧S w'∧St u w') : OpGood P F S St u (.ok (.enter f args) u):=h.mono hq
end Go.Proofs.YtafenffmgpcjcaaGreat
namespace Go.Proofs.YtafenffmgpcjcaaGreat
open Go.Shelf Go.RowKit Go.Sort
set_option linter.unusedVariables false
def sortFR_ren : Ren where
 f:=fun x=>match x with
  | 6=>215
  | 15=>250
  | 14=>249
  | 28=>272
  | 29=>273
  | 20=>264
  | 21=>265
  | 22=>266
  | 23=>267
  | 24=>268
  | 25=>269
  | 26=>270
  | 27=>271
  | 46=>287
  | 47=>288
  | 48=>289
  | 49=>290
  | 50=>291
  | 57=>295
  | n=>n
 t:=fun x=>match x with
  | 22=>187
  | 24=>71
  | 25=>252
  | 3=>3
  | 39=>278
  | 0=>0
  | 53=>197
  | 55=>297
  | 4=>4
  | 46=>290
  | 45=>289
  | 50=>225
  | 5=>5
  | 9=>9
  | 66=>306
  | 70=>310
  | 76=>314
  | 77=>315
  | n=>n
 g:=fun n=>n
set_option maxRecDepth 100000 in
theorem sortFR : SlLaysF0.n6 Tryz.prog sortFR_ren where
 mixed:=by kernel_rfl
 f6 := Exists.intro "slices.SortFunc[[]patchbay/api.FieldRef,patchbay/api.FieldRef]" ⟨of_decide_eq_true (id (Eq.refl true)), Tryz.func215.trans (congrArg some (by kernel_rfl))⟩
 f14 := Exists.intro "slices.pdqsortCmpFunc[patchbay/api.FieldRef]" ⟨of_decide_eq_true (id (Eq.refl true)), Tryz.func249.trans (congrArg some (by kernel_rfl))⟩
 f15:=Tryz.func250.trans (congrArg some (by kernel_rfl))
 f20 := Exists.intro "slices.insertionSortCmpFunc[patchbay/api.FieldRef]" ⟨of_decide_eq_true (id (Eq.refl true)), Tryz.func264.trans (congrArg some (by kernel_rfl))⟩
 f21 := Exists.intro "slices.heapSortCmpFunc[patchbay/api.FieldRef]" ⟨of_decide_eq_true (id (Eq.refl true)), Tryz.func265.trans (congrArg some (by kernel_rfl))⟩
 f22 := Exists.intro "slices.breakPatternsCmpFunc[patchbay/api.FieldRef]" ⟨of_decide_eq_true (id (Eq.refl true)), Tryz.func266.trans (congrArg some (by kernel_rfl))⟩
 f23 := Exists.intro "slices.choosePivotCmpFunc[patchbay/api.FieldRef]" ⟨of_decide_eq_true (id (Eq.refl true)), Tryz.func267.trans (congrArg some (by kernel_rfl))⟩
 f24 := Exists.intro "slices.reverseRangeCmpFunc[patchbay/api.FieldRef]" ⟨of_decide_eq_true (id (Eq.refl true)), Tryz.func268.trans (congrArg some (by kernel_rfl))⟩
 f25 := Exists.intro "slices.partialInsertionSortCmpFunc[patchbay/api.FieldRef]" ⟨of_decide_eq_true (id (Eq.refl true)), Tryz.func269.trans (congrArg some (by kernel_rfl))⟩
 f26 := Exists.intro "slices.partitionEqualCmpFunc[patchbay/api.FieldRef]" ⟨of_decide_eq_true (id (Eq.refl true)), Tryz.func270.trans (congrArg some (by kernel_rfl))⟩
 f27 := Exists.intro "slices.partitionCmpFunc[patchbay/api.FieldRef]" ⟨of_decide_eq_true (id (Eq.refl true)), Tryz.func271.trans (congrArg some (by kernel_rfl))⟩
 f28:=Tryz.func272.trans (congrArg some (by kernel_rfl))
 f29:=Tryz.func273.trans (congrArg some (by kernel_rfl))
 f46 := Exists.intro "slices.siftDownCmpFunc[patchbay/api.FieldRef]" ⟨of_decide_eq_true (id (Eq.refl true)), Tryz.func287.trans (congrArg some (by kernel_rfl))⟩
 f47:=Tryz.func288.trans (congrArg some (by kernel_rfl))
 f48:=Tryz.func289.trans (congrArg some (by kernel_rfl))
 f49 := Exists.intro "slices.medianAdjacentCmpFunc[patchbay/api.FieldRef]" ⟨of_decide_eq_true (id (Eq.refl true)), Tryz.func290.trans (congrArg some (by kernel_rfl))⟩
 f50 := Exists.intro "slices.medianCmpFunc[patchbay/api.FieldRef]" ⟨of_decide_eq_true (id (Eq.refl true)), Tryz.func291.trans (congrArg some (by kernel_rfl))⟩
 f57 := Exists.intro "slices.order2CmpFunc[patchbay/api.FieldRef]" ⟨of_decide_eq_true (id (Eq.refl true)), Tryz.func295.trans (congrArg some (by kernel_rfl))⟩
 t0:=Tryz.underlying0
 a0:=Tryz.isAgg0
 z0:=Tryz.sizeOf0
 v0:=Tryz.zeroValue0
 t3:=Tryz.underlying3
 a3:=Tryz.isAgg3
 z3:=Tryz.sizeOf3
 v3:=Tryz.zeroValue3
 t4:=Tryz.underlying4
 a4:=Tryz.isAgg4
 z4:=Tryz.sizeOf4
 v4:=Tryz.zeroValue4
 t5:=Tryz.underlying5
 a5:=Tryz.isAgg5
 z5:=Tryz.sizeOf5
 v5:=Tryz.zeroValue5
 t9:=Tryz.underlying9
 a9:=Tryz.isAgg9
 z9:=Tryz.sizeOf9
 v9:=Tryz.zeroValue9
 t22:=Tryz.underlying187
 a22:=Tryz.isAgg187
 z22:=Tryz.sizeOf187
 v22:=Tryz.zeroValue187
 t25:=Tryz.underlying252
 a25:=Tryz.isAgg252
 z25:=Tryz.sizeOf252
 v25:=Tryz.zeroValue252
 t39:=Tryz.underlying278
 a39:=Tryz.isAgg278
 z39:=Tryz.sizeOf278
 v39:=Tryz.zeroValue278
 t45:=Tryz.underlying289
 a45:=Tryz.isAgg289
 z45:=Tryz.sizeOf289
 v45:=Tryz.zeroValue289
 t46:=Tryz.underlying290
 a46:=Tryz.isAgg290
 z46:=Tryz.sizeOf290
 v46:=Tryz.zeroValue290
 t50:=Tryz.underlying225
 a50:=Tryz.isAgg225
 z50:=Tryz.sizeOf225
 v50:=Tryz.zeroValue225
 t53:=Tryz.underlying197
 a53:=Tryz.isAgg197
 z53:=Tryz.sizeOf197
 v53:=Tryz.zeroValue197
 t55:=Tryz.underlying297
 a55:=Tryz.isAgg297
 z55:=Tryz.sizeOf297
 v55:=Tryz.zeroValue297
 t66:=Tryz.underlying306
 a66:=Tryz.isAgg306
 z66:=Tryz.sizeOf306
 v66:=Tryz.zeroValue306
 t70:=Tryz.underlying310
 a70:=Tryz.isAgg310
 z70:=Tryz.sizeOf310
 v70:=Tryz.zeroValue310
 t76:=Tryz.underlying314
 a76:=Tryz.isAgg314
 z76:=Tryz.sizeOf314
 v76:=Tryz.zeroValue314
 t77:=Tryz.underlying315
 a77:=Tryz.isAgg315
 z77:=Tryz.sizeOf315
 v77:=Tryz.zeroValue315
def sortZ_ren : Ren where
 f:=fun x=>match x with
  | 53=>220
  | 64=>250
  | 63=>252
  | 78=>272
  | 79=>273
  | 70=>274
  | 71=>275
  | 72=>276
  | 73=>277
  | 74=>278
  | 75=>279
  | 59=>280
  | 76=>281
  | 77=>282
  | 88=>292
  | 89=>288
  | 90=>289
  | 91=>293
  | 92=>294
  | 68=>251
  | 96=>296
  | n=>n
 t:=fun x=>match x with
  | 22=>29
  | 23=>3
  | 3=>3
  | 51=>278
  | 0=>0
  | 67=>197
  | 69=>297
  | 4=>4
  | 61=>290
  | 60=>289
  | 44=>225
  | 5=>5
  | 9=>9
  | 75=>306
  | 79=>310
  | 83=>314
  | 84=>315
  | n=>n
 g:=fun n=>n
set_option maxRecDepth 100000 in
theorem sortZ : SlLaysN.n53 Tryz.prog sortZ_ren where
 mixed:=by kernel_rfl
 f53 := Exists.intro "slices.Sort[[]int,int]" ⟨of_decide_eq_true (id (Eq.refl true)), Tryz.func220.trans (congrArg some (by kernel_rfl))⟩
 f59 := Exists.intro "cmp.Less[int]" ⟨of_decide_eq_true (id (Eq.refl true)), Tryz.func280.trans (congrArg some (by kernel_rfl))⟩
 f63 := Exists.intro "slices.pdqsortOrdered[int]" ⟨of_decide_eq_true (id (Eq.refl true)), Tryz.func252.trans (congrArg some (by kernel_rfl))⟩
 f64:=Tryz.func250.trans (congrArg some (by kernel_rfl))
 f68 := Exists.intro "cmp.isNaN[int]" ⟨of_decide_eq_true (id (Eq.refl true)), Tryz.func251.trans (congrArg some (by kernel_rfl))⟩
 f70 := Exists.intro "slices.insertionSortOrdered[int]" ⟨of_decide_eq_true (id (Eq.refl true)), Tryz.func274.trans (congrArg some (by kernel_rfl))⟩
 f71 := Exists.intro "slices.heapSortOrdered[int]" ⟨of_decide_eq_true (id (Eq.refl true)), Tryz.func275.trans (congrArg some (by kernel_rfl))⟩
 f72 := Exists.intro "slices.breakPatternsOrdered[int]" ⟨of_decide_eq_true (id (Eq.refl true)), Tryz.func276.trans (congrArg some (by kernel_rfl))⟩
 f73 := Exists.intro "slices.choosePivotOrdered[int]" ⟨of_decide_eq_true (id (Eq.refl true)), Tryz.func277.trans (congrArg some (by kernel_rfl))⟩
 f74 := Exists.intro "slices.reverseRangeOrdered[int]" ⟨of_decide_eq_true (id (Eq.refl true)), Tryz.func278.trans (congrArg some (by kernel_rfl))⟩
 f75 := Exists.intro "slices.partialInsertionSortOrdered[int]" ⟨of_decide_eq_true (id (Eq.refl true)), Tryz.func279.trans (congrArg some (by kernel_rfl))⟩
 f76 := Exists.intro "slices.partitionEqualOrdered[int]" ⟨of_decide_eq_true (id (Eq.refl true)), Tryz.func281.trans (congrArg some (by kernel_rfl))⟩
 f77 := Exists.intro "slices.partitionOrdered[int]" ⟨of_decide_eq_true (id (Eq.refl true)), Tryz.func282.trans (congrArg some (by kernel_rfl))⟩
 f78:=Tryz.func272.trans (congrArg some (by kernel_rfl))
 f79:=Tryz.func273.trans (congrArg some (by kernel_rfl))
 f88 := Exists.intro "slices.siftDownOrdered[int]" ⟨of_decide_eq_true (id (Eq.refl true)), Tryz.func292.trans (congrArg some (by kernel_rfl))⟩
 f89:=Tryz.func288.trans (congrArg some (by kernel_rfl))
 f90:=Tryz.func289.trans (congrArg some (by kernel_rfl))
 f91 := Exists.intro "slices.medianAdjacentOrdered[int]" ⟨of_decide_eq_true (id (Eq.refl true)), Tryz.func293.trans (congrArg some (by kernel_rfl))⟩
 f92 := Exists.intro "slices.medianOrdered[int]" ⟨of_decide_eq_true (id (Eq.refl true)), Tryz.func294.trans (congrArg some (by kernel_rfl))⟩
 f96 := Exists.intro "slices.order2Ordered[int]" ⟨of_decide_eq_true (id (Eq.refl true)), Tryz.func296.trans (congrArg some (by kernel_rfl))⟩
 t0:=Tryz.underlying0
 a0:=Tryz.isAgg0
 z0:=Tryz.sizeOf0
 v0:=Tryz.zeroValue0
 t3:=Tryz.underlying3
 a3:=Tryz.isAgg3
 z3:=Tryz.sizeOf3
 v3:=Tryz.zeroValue3
 t4:=Tryz.underlying4
 a4:=Tryz.isAgg4
 z4:=Tryz.sizeOf4
 v4:=Tryz.zeroValue4
 t5:=Tryz.underlying5
 a5:=Tryz.isAgg5
 z5:=Tryz.sizeOf5
 v5:=Tryz.zeroValue5
 t9:=Tryz.underlying9
 a9:=Tryz.isAgg9
 z9:=Tryz.sizeOf9
 v9:=Tryz.zeroValue9
 t22:=Tryz.underlying29
 a22:=Tryz.isAgg29
 z22:=Tryz.sizeOf29
 v22:=Tryz.zeroValue29
 t23:=Tryz.underlying3
 a23:=Tryz.isAgg3
 z23:=Tryz.sizeOf3
 v23:=Tryz.zeroValue3
 t44:=Tryz.underlying225
 a44:=Tryz.isAgg225
 z44:=Tryz.sizeOf225
 v44:=Tryz.zeroValue225
 t51:=Tryz.underlying278
 a51:=Tryz.isAgg278
 z51:=Tryz.sizeOf278
 v51:=Tryz.zeroValue278
 t60:=Tryz.underlying289
 a60:=Tryz.isAgg289
 z60:=Tryz.sizeOf289
 v60:=Tryz.zeroValue289
 t61:=Tryz.underlying290
 a61:=Tryz.isAgg290
 z61:=Tryz.sizeOf290
 v61:=Tryz.zeroValue290
 t67:=Tryz.underlying197
 a67:=Tryz.isAgg197
 z67:=Tryz.sizeOf197
 v67:=Tryz.zeroValue197
 t69:=Tryz.underlying297
 a69:=Tryz.isAgg297
 z69:=Tryz.sizeOf297
 v69:=Tryz.zeroValue297
 t75:=Tryz.underlying306
 a75:=Tryz.isAgg306
 z75:=Tryz.sizeOf306
 v75:=Tryz.zeroValue306
 t79:=Tryz.underlying310
 a79:=Tryz.isAgg310
 z79:=Tryz.sizeOf310
 v79:=Tryz.zeroValue310
 t83:=Tryz.underlying314
 a83:=Tryz.isAgg314
 z83:=Tryz.sizeOf314
 v83:=Tryz.zeroValue314
 t84:=Tryz.underlying315
 a84:=Tryz.isAgg315
 z84:=Tryz.sizeOf315
 v84:=Tryz.zeroValue315
def compZ_ren : Ren where
 f:=fun x=>match x with
  | 43=>221
  | n=>n
 t:=fun x=>match x with
  | 22=>29
  | 23=>3
  | 3=>3
  | 4=>4
  | 0=>0
  | n=>n
 g:=fun n=>n
set_option maxRecDepth 100000 in
theorem compZ : SlLaysN.n43 Tryz.prog compZ_ren where
 mixed:=by kernel_rfl
 f43 := Exists.intro "slices.Compact[[]int,int]" ⟨of_decide_eq_true (id (Eq.refl true)), Tryz.func221.trans (congrArg some (by kernel_rfl))⟩
 t0:=Tryz.underlying0
 a0:=Tryz.isAgg0
 z0:=Tryz.sizeOf0
 v0:=Tryz.zeroValue0
 t3:=Tryz.underlying3
 a3:=Tryz.isAgg3
 z3:=Tryz.sizeOf3
 v3:=Tryz.zeroValue3
 t4:=Tryz.underlying4
 a4:=Tryz.isAgg4
 z4:=Tryz.sizeOf4
 v4:=Tryz.zeroValue4
 t22:=Tryz.underlying29
 a22:=Tryz.isAgg29
 z22:=Tryz.sizeOf29
 v22:=Tryz.zeroValue29
 t23:=Tryz.underlying3
 a23:=Tryz.isAgg3
 z23:=Tryz.sizeOf3
 v23:=Tryz.zeroValue3
 i23:=Eq.refl (some (some (Value.int IntKind.i64 0),1,8))
set_option linter.unusedSimpArgs false
end Go.Proofs.YtafenffmgpcjcaaGreat
namespace Go.Proofs.YtafenffmgpcjcaaGreat
open Go.RowKit Go.Proofs.YtafenffmgpcjcaaGreat.Vf
set_option linter.unusedVariables false
set_option linter.unusedSimpArgs false
set_option maxRecDepth 100000
set_option maxHeartbeats 4000000
structure ChipD where
 stages : Int
 tables : Int
 gates : Int
 sram : Int
 tcam : Int
 c8 : Int
 c16 : Int
 c32 : Int
abbrev fChip (c : ChipD) : FV:=.agg [intF c.stages,intF c.tables,intF c.gates,intF c.sram,intF c.tcam,intF c.c8,intF c.c16,intF c.c32]
def satAdd (a b : Int) : Int:=if 9223372036854775807 - a < b then 9223372036854775807 else a + b
theorem satAdd_g (a b : Int) (ha : 0 ≤ a∧a ≤ 9223372036854775807) (hb : 0 ≤ b) : Gives Tryz.prog 173 [intF a,intF b] (intF (satAdd a b)):=by
 refine Gives.of mixed Tryz.func173 rfl rfl rfl (by kernel_rfl) ?_
 have h1:=wrap64 (x:=9223372036854775807 - a) (by omega) (by omega)
 by_cases c : 9223372036854775807 - a < b
 ·simp [h1,c,satAdd]
 ·have h2:=wrap64 (x:=a + b) (by omega) (by omega)
  simp [h1,h2,c,satAdd]
theorem fits2_g (s t : Int) (c : ChipD) : Gives Tryz.prog 76 [.agg [intF s,intF t],fChip c] (boolF (decide (s ≤ c.sram) && decide (t ≤ c.tcam))):=by
 refine Gives.of mixed Tryz.func76 rfl rfl rfl (by kernel_rfl) ?_
 by_cases c1 : s ≤ c.sram <;> by_cases c2 : t ≤ c.tcam <;> simp [c1,c2]
theorem blocks_g (a b : Int) (ha : 0 ≤ a∧a ≤ 1000000000000) (hb : 1 ≤ b∧b ≤ 1000000000000) : Gives Tryz.prog 172 [intF a,intF b] (intF ((a + b - 1) / b)):=by
 refine Gives.of mixed Tryz.func172 rfl rfl rfl (by kernel_rfl) ?_
 have h1:=wrap64 (x:=a + b) (by omega) (by omega)
 have h2:=wrap64 (x:=a + b - 1) (by omega) (by omega)
 have h0 : ¬ b = 0:=by omega
 have h3 : (a + b - 1).tdiv b = (a + b - 1) / b:=Int.tdiv_eq_ediv_of_nonneg (by omega)
 have h4 : 0 ≤ (a + b - 1) / b:=Int.ediv_nonneg (by omega) (by omega)
 have h5 : (a + b - 1) / b ≤ a + b - 1:=Int.ediv_le_self _ (by omega)
 have h6:=wrap64 (x:=(a + b - 1) / b) (by omega) (by omega)
 simp [h1,h2,h0,h3,h6]
def chipN (c : ChipD) : Nat→Int
 | 0=>c.tables
 | 1=>c.gates
 | 2=>c.c8
 | 3=>c.c16
 | _=>c.c32
def bad64 (x : Int) : Bool:=decide (x < 0) || decide (64 < x)
def chipCheck (c : ChipD) : Int :=
 if c.stages < 1 ∨ 16 < c.stages then 9 else if (List.range 5).any (fun k=>bad64 (chipN c k)) then 9
 else if c.sram < 0 ∨ 4096 < c.sram ∨ c.tcam < 0 ∨ 4096 < c.tcam then 9 else 0
def chI64 (c : ChipD) (i : Nat) (s : St) : Prop:=noneT (fun k=>bad64 (chipN c k)) (List.range 5) i∧∃ g,Vf.Sl [(1,.ref 0 0),(23,.agg [.f (intF c.tables),.f (intF c.gates),.f (intF c.c8),.f (intF c.c16),.f (intF c.c32)]),(24,.f (intF i))] 52 ([.f (intF c.stages),.f (intF c.tables),.f (intF c.gates),.f (intF c.sram),.f (intF c.tcam),.f (intF c.c8),.f (intF c.c16),.f (intF c.c32)] :: g) [] s
theorem chip_g (c : ChipD) : Gives Tryz.prog 8 [fChip c] (intF (chipCheck c)):=by
 refine Gives.of mixed Tryz.func8 rfl rfl rfl (by kernel_rfl) ?_
 by_cases c1 : c.stages < 1
 ·have hv : chipCheck c = 9:=if_pos (.inl c1)
  simp [c1,hv]
 by_cases c2 : 16 < c.stages
 ·have hv : chipCheck c = 9:=if_pos (.inr c2)
  simp [c1,c2,hv]
 have hv : chipCheck c = if (List.range 5).any (fun k=>bad64 (chipN c k)) then 9 else if c.sram < 0 ∨ 4096 < c.sram ∨ c.tcam < 0 ∨ 4096 < c.tcam then 9 else 0:=if_neg (by omega)
 simp [c1,c2]
 refine forX mixed 5 (chI64 c) (by kernel_rfl) ⟨.zero,_,Sl.of rfl rfl rfl⟩ ?_
 rintro i ⟨ts,hh,kk⟩ hi ⟨hno,g,rfl,rfl,f,rfl⟩
 by_cases hlt : i < 5
 ·have hit : bad64 (chipN c i) = true→chipCheck c = 9:=fun h=>by rw [hv,any_hit (p:=fun k=>bad64 (chipN c k)) (range_at hlt) h]; rfl
  have h5 : i = 0 ∨ i = 1 ∨ i = 2 ∨ i = 3 ∨ i = 4:=by omega
  by_cases b1 : chipN c i < 0
  ·have hr:=hit (by simp [bad64,b1])
   rcases h5 with rfl | rfl | rfl | rfl | rfl <;> simp only [chipN] at b1 <;> simp [b1,hr]
  by_cases b2 : 64 < chipN c i
  ·have hr:=hit (by simp [bad64,b2])
   rcases h5 with rfl | rfl | rfl | rfl | rfl <;> simp only [chipN] at b1 b2 <;> simp [b1,b2,hr]
  have hnx:=hno.next (range_at hlt) (by simp [bad64,b1,b2])
  rcases h5 with rfl | rfl | rfl | rfl | rfl <;> simp only [chipN] at b1 b2 <;> simp [b1,b2,Vf.wrap64] <;> exact ⟨hnx,_,Sl.of rfl rfl rfl⟩
 ·obtain rfl : i = 5:=by omega
  have ha:=hno.all (by simp)
  rw [if_neg (by rw [ha]; decide)] at hv
  rw [hv]
  by_cases d1 : c.sram < 0 <;> by_cases d2 : 4096 < c.sram <;> by_cases d3 : c.tcam < 0 <;> by_cases d4 : 4096 < c.tcam <;> simp [d1,d2,d3,d4]
structure GuardD where
 unit : Int
 thn : Bool
structure UnitD where
 table : Int
 cond : SL ExD
 guards : SL GuardD
abbrev fGd (g : GuardD) : FV:=.agg [intF g.unit,boolF g.thn]
abbrev fUnit (u : UnitD) : FV:=.agg [intF u.table,sl (encL fEx u.cond.l),sl (encL fGd u.guards.l)]
def gdI (u : UnitD) (n : Int) (k : Nat) (s : St) : Prop:=noneT (fun g : GuardD=>g.unit == n) u.guards.l k∧∃ g,Vf.Sl [(1,.f (intF n)),(8,.f (sl (encL fGd u.guards.l))),(9,.f (intF u.guards.l.length)),(10,.f (intF k))] 19 g [] s
theorem guarded_g (u : UnitD) (n : Int) (hl : u.guards.l.length ≤ maxLen) : Gives Tryz.prog 116 [fUnit u,intF n] (boolF (u.guards.l.any fun g=>g.unit == n)):=by
 refine Gives.of mixed Tryz.func116 rfl rfl rfl (by kernel_rfl) ?_
 simp
 refine forX mixed u.guards.l.length (gdI u n) (by kernel_rfl) ⟨.zero,_,Sl.of rfl rfl rfl⟩ ?_
 rintro k ⟨ts,hh,kk⟩ hk ⟨hno,g,rfl,rfl,f,rfl⟩
 by_cases hlt : k < u.guards.l.length
 ·obtain ⟨x,hx,hx'⟩:=nth_of hlt
  have hw:=wrap64 (x:=(k : Int) + 1) (by omega) (by unfold maxLen at hl; omega)
  by_cases hq : x.unit = n
  ·have:=any_hit (p:=fun g : GuardD=>g.unit == n) hx' (by simpa using hq)
   rw [this]
   simp [hlt,hx,hq]
  ·simp [hlt,hx,hq,hw]
   exact ⟨hno.next hx' (by simpa using hq),_,Sl.of rfl rfl rfl⟩
 ·obtain rfl : k = u.guards.l.length:=by omega
  rw [hno.all hlt]
  simp
def comI (l m : List Int) (c1 c2 : Cap) (k : Nat) (s : St) : Prop:=noneT (fun x=>m.any (fun y=>x == y)) l k∧Vf.Sl [(1,.f (.sl (encL intF m) c2)),(9,.f (.sl (encL intF l) c1)),(10,.f (intF l.length)),(11,.f (intF k))] 26 [] [] s
def comJ (l m : List Int) (c1 c2 : Cap) (k : Nat) (x : Int) (j : Nat) (s : St) : Prop:=noneT (fun y=>x == y) m j∧Vf.Sl [(1,.f (.sl (encL intF m) c2)),(6,.f (intF x)),(9,.f (.sl (encL intF l) c1)),(10,.f (intF l.length)),(11,.f (intF k)),(15,.f (.sl (encL intF m) c2)),(16,.f (intF m.length)),(17,.f (intF j))] 26 [] [] s
theorem common_g (l m : List Int) (c1 c2 : Cap) (hl : l.length ≤ maxLen) (hm : m.length ≤ maxLen) : Gives Tryz.prog 117 [.sl (encL intF l) c1,.sl (encL intF m) c2] (boolF (l.any fun x=>m.any fun y=>x == y)):=by
 refine Gives.of mixed Tryz.func117 rfl rfl rfl (by kernel_rfl) ?_
 simp
 refine forX mixed l.length (comI l m c1 c2) (by kernel_rfl) ⟨.zero,Sl.of rfl rfl rfl⟩ ?_
 rintro k ⟨ts,hh,kk⟩ hk ⟨hno,rfl,rfl,f,rfl⟩
 by_cases hlt : k < l.length
 ·obtain ⟨x,hx,hx'⟩:=nth_of hlt
  have hw:=wrap64 (x:=(k : Int) + 1) (by omega) (by unfold maxLen at hl; omega)
  simp [hlt,hx]
  refine forX mixed m.length (comJ l m c1 c2 k x) (by kernel_rfl) ⟨.zero,Sl.of rfl rfl rfl⟩ ?_
  rintro j ⟨ts,hh,kk⟩ hj ⟨hno2,rfl,rfl,f,rfl⟩
  by_cases hjt : j < m.length
  ·obtain ⟨y,hy,hy'⟩:=nth_of hjt
   have hwj:=wrap64 (x:=(j : Int) + 1) (by omega) (by unfold maxLen at hm; omega)
   by_cases hq : x = y
   ·have h2:=any_hit (p:=fun y=>x == y) hy' (by simpa using hq)
    have:=any_hit (p:=fun x=>m.any fun y=>x == y) hx' h2
    rw [this]
    simp [hjt,hy,hq]
   ·simp [hjt,hy,hq,hwj]
    exact ⟨hno2.next hy' (by simpa using hq),Sl.of rfl rfl rfl⟩
  ·obtain rfl : j = m.length:=by omega
   have h2:=hno2.all hjt
   simp [hw]
   exact ⟨hno.next hx' h2,Sl.of rfl rfl rfl⟩
 ·obtain rfl : k = l.length:=by omega
  rw [hno.all hlt]
  simp
abbrev rowF (r : List Int) : FV:=sl (encL intF r)
def kindM (D : List (List Int)) (i j : Nat) : Int :=
 if j ≤ i ∨ (D.getD i []).length ≤ j then 0 else if (D.getD i []).getD j 0 = 1 ∨ (D.getD i []).getD j 0 = 2 then (D.getD i []).getD j 0 else 0
theorem kind_g (D : List (List Int)) (c : Cap) (i j : Nat) (hi : i < D.length) : Gives Tryz.prog 75 [.sl (encL rowF D) c,intF i,intF j] (intF (kindM D i j)):=by
 refine Gives.of mixed Tryz.func75 rfl rfl rfl (by kernel_rfl) ?_
 obtain ⟨r,hr,hr'⟩:=nth_of hi
 have hD : D.getD i [] = r:=by rw [List.getD_eq_getElem?_getD,hr']; rfl
 by_cases c1 : j ≤ i
 ·have hv : kindM D i j = 0:=if_pos (.inl c1)
  simp [c1,hv]
 by_cases c2 : r.length ≤ j
 ·have hv : kindM D i j = 0:=by unfold kindM; rw [hD,if_pos (.inr c2)]
  simp [c1,c2,hi,hr,hv]
 obtain ⟨x,hx,hx'⟩:=nth_of (show j < r.length by omega)
 have hX : r.getD j 0 = x:=by rw [List.getD_eq_getElem?_getD,hx']; rfl
 have hv : kindM D i j = if x = 1 ∨ x = 2 then x else 0:=by unfold kindM; rw [hD,if_neg (by omega),hX]
 rw [hv]
 have c3 : j < r.length:=by omega
 by_cases k1 : x = 1
 ·simp [c1,c2,c3,hi,hr,hx,k1]
 by_cases k2 : x = 2
 ·simp [c1,c2,c3,hi,hr,hx,k2]
 simp [c1,c2,c3,hi,hr,hx,k1,k2]
theorem satAdd_min {a b : Int} : satAdd a b = if 9223372036854775807 - a < b then 9223372036854775807 else a + b:=rfl
def sumStep (a x : Int × Int) : Int × Int:=(satAdd a.1 (max x.1 0),satAdd a.2 (max x.2 0))
def sumR (l : List (Int × Int)) : Int × Int:=l.foldl sumStep (0,0)
theorem satAdd_bd {a b : Int} (ha : 0 ≤ a∧a ≤ 9223372036854775807) (hb : 0 ≤ b) : 0 ≤ satAdd a b∧satAdd a b ≤ 9223372036854775807:=by
 rw [satAdd_min]
 split <;> omega
theorem sumStep_bd {a x : Int × Int} (h : (0 ≤ a.1∧a.1 ≤ 9223372036854775807)∧(0 ≤ a.2∧a.2 ≤ 9223372036854775807)) : (0 ≤ (sumStep a x).1∧(sumStep a x).1 ≤ 9223372036854775807)∧(0 ≤ (sumStep a x).2∧(sumStep a x).2 ≤ 9223372036854775807) :=
 ⟨satAdd_bd h.1 (by omega),satAdd_bd h.2 (by omega)⟩
theorem sumFold_bd (l : List (Int × Int)) : ∀ a : Int × Int,((0 ≤ a.1∧a.1 ≤ 9223372036854775807)∧(0 ≤ a.2∧a.2 ≤ 9223372036854775807))→(0 ≤ (l.foldl sumStep a).1∧(l.foldl sumStep a).1 ≤ 9223372036854775807)∧(0 ≤ (l.foldl sumStep a).2∧(l.foldl sumStep a).2 ≤ 9223372036854775807):=by
 induction l with
 | nil=>exact fun a h=>h
 | cons x l ih=>exact fun a h=>ih _ (sumStep_bd h)
theorem sumStep_eq (a x : Int × Int) : sumStep a x = (satAdd a.1 (max x.1 0),satAdd a.2 (max x.2 0)):=rfl
theorem fold_take2 {l : List (Int × Int)} {k : Nat} {x : Int × Int} (h : l[k]? = some x) : (l.take (k + 1)).foldl sumStep (0,0) = sumStep ((l.take k).foldl sumStep (0,0)) x:=by
 rw [List.take_add_one,h,List.foldl_append]
 rfl
abbrev fRes (x : Int × Int) : FV:=.agg [intF x.1,intF x.2]
def sumI (l : List (Int × Int)) (c : Cap) (k : Nat) (s : St) : Prop:=∃ y z,((l.take k).foldl sumStep (0,0)) = (y,z)∧Vf.Sl [(0,.f (.sl (encL fRes l) c)),(2,.ref 0 0),(3,.ref 1 0),(6,.f (intF l.length)),(7,.f (intF k))] 32 [[.f (intF 0),.f (intF 0)],[.f (intF y),.f (intF z)]] [] s
theorem sum2_g (l : List (Int × Int)) (c : Cap) (hl : l.length ≤ maxLen) : Gives Tryz.prog 119 [.sl (encL fRes l) c] (fRes (sumR l)):=by
 refine Gives.of mixed Tryz.func119 rfl rfl rfl (by kernel_rfl) ?_
 simp
 refine forX mixed l.length (sumI l c) (by kernel_rfl) ⟨0,0,rfl,Sl.of rfl rfl rfl⟩ ?_
 rintro k ⟨ts,hh,kk⟩ hk ⟨y,z,hyz,rfl,rfl,f,rfl⟩
 have hbd:=sumFold_bd (l.take k) (0,0) ⟨by simp,by simp⟩
 rw [hyz] at hbd
 simp only at hbd
 by_cases hlt : k < l.length
 ·obtain ⟨x,hx,hx'⟩:=nth_of hlt
  have hw:=wrap64 (x:=(k : Int) + 1) (by omega) (by unfold maxLen at hl; omega)
  have hst:=fold_take2 hx'
  rw [hyz,sumStep_eq] at hst
  simp [hlt,hx]
  rw [ops_max (q:=.i64) (a:=x.1) (b:=0) rfl rfl]
  simp
  refine call_g (satAdd_g y (max x.1 0) hbd.1 (by omega)) ?_
  simp [hlt,hx]
  rw [ops_max (q:=.i64) (a:=x.2) (b:=0) rfl rfl]
  simp
  refine call_g (satAdd_g z (max x.2 0) hbd.2 (by omega)) ?_
  simp [hw]
  exact ⟨_,_,hst,Sl.of rfl rfl rfl⟩
 ·obtain rfl : k = l.length:=by omega
  rw [List.take_length] at hyz
  simp [sumR,hyz]
end Go.Proofs.YtafenffmgpcjcaaGreat
