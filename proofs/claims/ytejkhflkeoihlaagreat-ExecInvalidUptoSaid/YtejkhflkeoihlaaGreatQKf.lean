/- Texts of the proof: QKf. -/
import Derived.Test.YtejkhflkeoihlaaGreatS4
import Derived.Recover
import Derived.Defers
namespace Go.Proofs.YtejkhflkeoihlaaGreat
open Go.RowKit Go.Proofs.YtejkhflkeoihlaaGreat.Vf
set_option linter.unusedVariables false
def DiagE : Option Diag→Ending→Prop
 | none,e=>e = .returned (.tuple #[])
 | some (c,p,i,s),e=>e = .panicked [{ v:=failV c p i s,recovered:=false }]
theorem outs_w {f : FuncId} {x : FV} {r : Option Diag} (ho : Outs Tryz.prog f [x] (diagO r)) {w W : World} {F : Cells} {N : Nat} {L : List (Nat × TypeId × Array Value)} {v : Value} (hF : ∀ b o,F b o→b < N) (hr : Fr N w W L) (hP : Rep w F x v) :
  Calls Tryz.prog f #[v] W fun e w'=>DiagE r e∧Below W.heap.size W w':=by
 have hP':=hP.mono (fun _ _ h=>h) (keep_below hF hr.below)
 match r,ho with
 | none,ho =>
  refine (calls_of ho hF hr.le (vals:=#[v]) ⟨hP',trivial⟩).mono ?_
  rintro e w' ⟨u,F',rfl,hu,hb⟩
  refine ⟨?_,hb⟩
  cases hu with
  | tup cs a vs ha hv hr =>
   have : a = #[]:=Array.eq_empty_of_size_eq_zero (by simpa using ha)
   rw [this]; rfl
 | some (c,p,i,s),ho =>
  refine (ho.2 W F #[v] (fun b o h=>Nat.lt_of_lt_of_le (hF b o h) hr.le) rfl fun j y hj=>?_).mono ?_
  ·match j,hj with
   | 0,hj=>simp at hj; subst hj; exact ⟨v,rfl,hP'⟩
   | j + 1,hj=>simp at hj
  ·rintro e w' ⟨rfl,hb⟩
   exact ⟨rfl,hb⟩
theorem limits_none {d : PrgD} (h : prgLimits d = none) : d.headers.l.length < 100000∧d.regs.l.length < 100000∧d.acts.l.length ≤ 1000∧d.tables.l.length < 100000:=by
 unfold prgLimits at h
 simp only [firstD,req] at h
 by_cases c0 : ident d.name = true <;> by_cases c1 : 8 < d.headers.l.length <;> by_cases c2 : 4 < d.regs.l.length <;> by_cases c3 : 16 < d.acts.l.length <;> by_cases c4 : 12 < d.tables.l.length <;> simp [c0,c1,c2,c3,c4] at h
 omega
structure PrgOk (d : PrgD) : Prop where
 nm : NmOk d
 tbl : ∀ t ∈ d.tables.l,TblOk t
 nod : NodB d.control.l
 sta : d.states.l.length ≤ 9223372036854775807
set_option maxRecDepth 100000 in
set_option maxHeartbeats 600000 in
theorem catch_idle (p : Addr) (w : World) : CallsD Tryz.prog 43 #[.pointer (some p)] .returning w fun e u' w'=>e = .returned (.tuple #[])∧u' = .returning∧w' = w:=by
 refine callsD_of_wpS Tryz.func43 rfl fun c₀ cs hu=>?_
 apply wpS_seq
 apply wpS_region
 simp [wpOpsS,go_sem,recoverD,hu,Tryz.ntmps43,Exit.thenS]
 apply wpS_of_wp
 go_wp2_with fail
 cases c₀
 simp_all [bodyPostS,results,Tryz.results43]
set_option maxRecDepth 100000 in
set_option maxHeartbeats 600000 in
theorem catch_yes (g : Nat) (c q i s : Int) (older : List PanicEntry) (w : World) (hb : Blk w g 70 #[.int .i64 0,.int .i64 0,.int .i64 0,.int .i64 0]) :
  CallsD Tryz.prog 43 #[.pointer (some ⟨g,0,none⟩)] (.panicking ({ v:=failV c q i s,recovered:=false } :: older)) w fun e u' w' =>
   e = .returned (.tuple #[])∧u' = .panicking ({ v:=failV c q i s,recovered:=true } :: older)∧Blk w' g 70 #[.int .i64 c,.int .i64 q,.int .i64 i,.int .i64 s]∧Below g w w':=by
 refine callsD_of_wpS Tryz.func43 rfl fun c₀ cs hu=>?_
 apply wpS_seq
 apply wpS_region
 simp [wpOpsS,go_sem,recoverD,hu,Tryz.ntmps43,Exit.thenS]
 have g0 : ∀ i,w.cell? ⟨g,i,none⟩ = _:=fun i=>hb.cell i
 have f0 : ∀ i,w.frozen? ⟨g,i,none⟩ = false:=fun i=>hb.frozen i
 have l0 : g < w.heap.size:=hb.lt
 have HB:=Lib.hid hb
 have HU:=Lib.hid hu
 have hta : ∀ W,(Instr.typeAssert (failV c q i s) 20 125 true).run Tryz.prog W = .ok (.tuple #[.agg #[.int .i64 c,.int .i64 q,.int .i64 i,.int .i64 s],.bool true]) W:=fun _=>by kernel_rfl
 rw [show (Array.replicate 15 undef : Array Value) = #[undef,undef,undef,undef,undef,undef,undef,undef,undef,undef,undef,undef,undef,undef,undef] from rfl]
 clear hb hu
 apply wpS_of_wp
 go_wp2_with fail
 have hB4:=((((HB.out.set_ 0 (.int .i64 c)).set_ 1 (.int .i64 q)).set_ 2 (.int .i64 i)).set_ 3 (.int .i64 s)).below (w':=_) ((Below.refl _ _).alloc (Nat.le_refl _) (.cells #[.int .i64 c,.int .i64 q,.int .i64 i,.int .i64 s] 125)) (by simpa [World.setCell] using l0)
 refine ⟨rfl,FrameMode.panicking ({ v:=failV c q i s,recovered:=true } :: older),by cases c₀; rfl,.tuple #[],by simp [results,Tryz.results43],rfl,rfl,hB4,?_⟩
 exact ((((((Below.refl g w).setCell (Nat.le_refl _) _).setCell (Nat.le_refl _) _).setCell (Nat.le_refl _) _).setCell (Nat.le_refl _) _)).alloc (by simp [World.setCell]; omega) _
abbrev diagV (x : Diag) : Value:=.agg #[.int .i64 x.1,.int .i64 x.2.1,.int .i64 x.2.2.1,.int .i64 x.2.2.2]
theorem prgCheck_some {d : PrgD} {x : Diag} (h : firstD [prgLimits d,scan d.headers.l.length (prgHdr d),prgMetas d,prgObjs d,prgFlowW d] = some x) : prgCheckW d = x:=by
 unfold prgCheckW
 rw [h]
 rfl
set_option maxRecDepth 100000 in
set_option maxHeartbeats 2000000 in
theorem prgCheck_c (d : PrgD) (ho : PrgOk d) {w : World} {F : Cells} {v : Value} (hF : ∀ b o,F b o→b < w.heap.size) (h0 : Rep w F (fPrg d) v) :
  Calls Tryz.prog 14 #[v] w fun e w'=>e = .returned (diagV (prgCheckW d))∧Below w.heap.size w w':=by
 have HP:=Lib.hid h0
 obtain ⟨a1,c1,a2,c2,a3,c3,a4,c4,a5,c5,a6,c6,a7,c7,a8,c8,rfl,-⟩:=prg_val h0
 clear h0
 obtain ⟨N,hN⟩ : ∃ N,w.heap.size = N:=⟨_,rfl⟩
 rw [hN] at hF ⊢
 have F0:=Fr.start w
 rw [hN] at F0
 have HFr:=Lib.hid hF
 have HO:=Lib.hid ho
 have HF0:=Lib.hid F0
 have hmf : ∀ (fn : Fn) (first cap : Array Value) (w : World),(Instr.makeFunc fn first cap).run Tryz.prog w = .ok (.func fn first cap) w:=fun _ _ _ _=>rfl
 clear hF F0 ho
 go_enter_defers Tryz.func14,Tryz.ntmps14
 go_wp2_with fail
 refine Calls.named ?_
 intro W hW
 have F1:=((HF0.out.alloc _ _).alloc _ _).of_eq hW
 simp only [World.size_alloc,hN] at F1
 obtain ⟨L,hL,F1⟩:=F1.name
 have HL:=Lib.hid hL
 have HF1:=Lib.hid F1
 clear F1 hL hW hmf
 with_reducible refine (outs_w (limits_g d HO.out.nm) HFr.out HF1.out HP.out).mono ?_
 rintro e w2 ⟨hE,hb2⟩
 have HF2:=Lib.hid (HF1.out.call hb2)
 clear hb2
 cases h1 : prgLimits d with
 | some x =>
  obtain ⟨c,q,i,s⟩:=x
  have HV:=Lib.hid (prgCheck_some (d:=d) (x:=(c,q,i,s)) (by rw [h1]; rfl))
  rw [h1] at hE
  clear h1
  obtain rfl:=hE
  refine leaves_cons (f:=43) (args:=#[.pointer (some ⟨N + 1,0,none⟩)]) (by simp) (by simp [go_sem]) ?_
  refine (catch_yes (N + 1) c q i s [] w2 (HF2.out.blk _ (by rw [HL.out]; exact .head _)).2).mono ?_
  rintro e u' w9 ⟨rfl,rfl,hB9,hb9⟩
  have r0:=hB9.cell 0
  have r1:=hB9.cell 1
  have r2:=hB9.cell 2
  have r3:=hB9.cell 3
  have HB9:=Lib.hid (HF2.out.below.trans (hb9.mono (by omega)))
  simp at r0 r1 r2 r3
  simp [Leaves,settle,results,Tryz.results14,go_sem,r0,r1,r2,r3,HV.out]
  exact HB9.out
 | none =>
  rw [h1] at hE
  obtain rfl:=hE
  have HV1:=Lib.hid h1
  clear h1
  obtain ⟨g0,l0,f0⟩:=HF2.out.c0 HL.out
  obtain ⟨g1,l1,f1⟩:=HF2.out.c1 HL.out
  dsimp only at g0 l0 f0 g1 l1 f1
  go_wp2_with fail
  with_reducible refine (outs_w (headers_g d HO.out.nm (limits_none HV1.out).1) HFr.out HF2.out HP.out).mono ?_
  rintro e w3 ⟨hE,hb3⟩
  have HF3:=Lib.hid (HF2.out.call hb3)
  clear hb3
  clear g0 l0 f0 g1 l1 f1
  cases h2 : scan d.headers.l.length (prgHdr d) with
  | some x =>
   obtain ⟨c,q,i,s⟩:=x
   have HV:=Lib.hid (prgCheck_some (d:=d) (x:=(c,q,i,s)) (by rw [HV1.out,h2]; rfl))
   rw [h2] at hE
   clear h2
   obtain rfl:=hE
   refine leaves_cons (f:=43) (args:=#[.pointer (some ⟨N + 1,0,none⟩)]) (by simp) (by simp [go_sem]) ?_
   refine (catch_yes (N + 1) c q i s [] w3 (HF3.out.blk _ (by rw [HL.out]; exact .head _)).2).mono ?_
   rintro e u' w9 ⟨rfl,rfl,hB9,hb9⟩
   have r0:=hB9.cell 0
   have r1:=hB9.cell 1
   have r2:=hB9.cell 2
   have r3:=hB9.cell 3
   have HB9:=Lib.hid (HF3.out.below.trans (hb9.mono (by omega)))
   simp at r0 r1 r2 r3
   simp [Leaves,settle,results,Tryz.results14,go_sem,r0,r1,r2,r3,HV.out]
   exact HB9.out
  | none =>
   rw [h2] at hE
   obtain rfl:=hE
   have HV2:=Lib.hid h2
   clear h2
   obtain ⟨g0,l0,f0⟩:=HF3.out.c0 HL.out
   obtain ⟨g1,l1,f1⟩:=HF3.out.c1 HL.out
   dsimp only at g0 l0 f0 g1 l1 f1
   go_wp2_with fail
   with_reducible refine (outs_w (metadata_g d HO.out.nm) HFr.out HF3.out HP.out).mono ?_
   rintro e w4 ⟨hE,hb4⟩
   have HF4:=Lib.hid (HF3.out.call hb4)
   clear hb4
   clear g0 l0 f0 g1 l1 f1
   cases h3 : prgMetas d with
   | some x =>
    obtain ⟨c,q,i,s⟩:=x
    have HV:=Lib.hid (prgCheck_some (d:=d) (x:=(c,q,i,s)) (by rw [HV1.out,HV2.out,h3]; rfl))
    rw [h3] at hE
    clear h3
    obtain rfl:=hE
    refine leaves_cons (f:=43) (args:=#[.pointer (some ⟨N + 1,0,none⟩)]) (by simp) (by simp [go_sem]) ?_
    refine (catch_yes (N + 1) c q i s [] w4 (HF4.out.blk _ (by rw [HL.out]; exact .head _)).2).mono ?_
    rintro e u' w9 ⟨rfl,rfl,hB9,hb9⟩
    have r0:=hB9.cell 0
    have r1:=hB9.cell 1
    have r2:=hB9.cell 2
    have r3:=hB9.cell 3
    have HB9:=Lib.hid (HF4.out.below.trans (hb9.mono (by omega)))
    simp at r0 r1 r2 r3
    simp [Leaves,settle,results,Tryz.results14,go_sem,r0,r1,r2,r3,HV.out]
    exact HB9.out
   | none =>
    rw [h3] at hE
    obtain rfl:=hE
    have HV3:=Lib.hid h3
    clear h3
    obtain ⟨g0,l0,f0⟩:=HF4.out.c0 HL.out
    obtain ⟨g1,l1,f1⟩:=HF4.out.c1 HL.out
    dsimp only at g0 l0 f0 g1 l1 f1
    go_wp2_with fail
    with_reducible refine (outs_w (objs_g d HO.out.nm HO.out.tbl (limits_none HV1.out).2.1 (limits_none HV1.out).2.2.1 (limits_none HV1.out).2.2.2) HFr.out HF4.out HP.out).mono ?_
    rintro e w5 ⟨hE,hb5⟩
    have HF5:=Lib.hid (HF4.out.call hb5)
    clear hb5
    clear g0 l0 f0 g1 l1 f1
    cases h4 : prgObjs d with
    | some x =>
     obtain ⟨c,q,i,s⟩:=x
     have HV:=Lib.hid (prgCheck_some (d:=d) (x:=(c,q,i,s)) (by rw [HV1.out,HV2.out,HV3.out,h4]; rfl))
     rw [h4] at hE
     clear h4
     obtain rfl:=hE
     refine leaves_cons (f:=43) (args:=#[.pointer (some ⟨N + 1,0,none⟩)]) (by simp) (by simp [go_sem]) ?_
     refine (catch_yes (N + 1) c q i s [] w5 (HF5.out.blk _ (by rw [HL.out]; exact .head _)).2).mono ?_
     rintro e u' w9 ⟨rfl,rfl,hB9,hb9⟩
     have r0:=hB9.cell 0
     have r1:=hB9.cell 1
     have r2:=hB9.cell 2
     have r3:=hB9.cell 3
     have HB9:=Lib.hid (HF5.out.below.trans (hb9.mono (by omega)))
     simp at r0 r1 r2 r3
     simp [Leaves,settle,results,Tryz.results14,go_sem,r0,r1,r2,r3,HV.out]
     exact HB9.out
    | none =>
     rw [h4] at hE
     obtain rfl:=hE
     have HV4:=Lib.hid h4
     clear h4
     obtain ⟨g0,l0,f0⟩:=HF5.out.c0 HL.out
     obtain ⟨g1,l1,f1⟩:=HF5.out.c1 HL.out
     dsimp only at g0 l0 f0 g1 l1 f1
     go_wp2_with fail
     with_reducible refine (outs_w (flow_g d HO.out.nm (Nat.le_of_lt (limits_none HV1.out).2.2.2) HO.out.nod HO.out.sta) HFr.out HF5.out HP.out).mono ?_
     rintro e w6 ⟨hE,hb6⟩
     have HF6:=Lib.hid (HF5.out.call hb6)
     clear hb6
     clear g0 l0 f0 g1 l1 f1
     cases h5 : prgFlowW d with
     | some x =>
      obtain ⟨c,q,i,s⟩:=x
      have HV:=Lib.hid (prgCheck_some (d:=d) (x:=(c,q,i,s)) (by rw [HV1.out,HV2.out,HV3.out,HV4.out,h5]; rfl))
      rw [h5] at hE
      clear h5
      obtain rfl:=hE
      refine leaves_cons (f:=43) (args:=#[.pointer (some ⟨N + 1,0,none⟩)]) (by simp) (by simp [go_sem]) ?_
      refine (catch_yes (N + 1) c q i s [] w6 (HF6.out.blk _ (by rw [HL.out]; exact .head _)).2).mono ?_
      rintro e u' w9 ⟨rfl,rfl,hB9,hb9⟩
      have r0:=hB9.cell 0
      have r1:=hB9.cell 1
      have r2:=hB9.cell 2
      have r3:=hB9.cell 3
      have HB9:=Lib.hid (HF6.out.below.trans (hb9.mono (by omega)))
      simp at r0 r1 r2 r3
      simp [Leaves,settle,results,Tryz.results14,go_sem,r0,r1,r2,r3,HV.out]
      exact HB9.out
     | none =>
      rw [h5] at hE
      obtain rfl:=hE
      have HV5:=Lib.hid h5
      clear h5
      have HV:=Lib.hid (show prgCheckW d = (0,0,0,0) by unfold prgCheckW; rw [HV1.out,HV2.out,HV3.out,HV4.out,HV5.out]; rfl)
      obtain ⟨g0,l0,f0⟩:=HF6.out.c0 HL.out
      obtain ⟨g1,l1,f1⟩:=HF6.out.c1 HL.out
      dsimp only at g0 l0 f0 g1 l1 f1
      go_wp2_with fail
      refine leaves_cons (f:=43) (args:=#[.pointer (some ⟨N + 1,0,none⟩)]) (by simp) (by simp [go_sem]) ?_
      refine (catch_idle ⟨N + 1,0,none⟩ _).mono ?_
      rintro e u' w9 ⟨rfl,rfl,rfl⟩
      have HB9:=Lib.hid (((((HF6.out.below.setCell (show N ≤ N + 1 by omega) (.int .i64 0) (p:=⟨N + 1,0,none⟩)).setCell (show N ≤ N + 1 by omega) (.int .i64 0) (p:=⟨N + 1,1,none⟩)).setCell (show N ≤ N + 1 by omega) (.int .i64 0) (p:=⟨N + 1,2,none⟩)).setCell (show N ≤ N + 1 by omega) (.int .i64 0) (p:=⟨N + 1,3,none⟩)))
      simp [Leaves,settle,results,Tryz.results14,go_sem,g0,HV.out]
      exact HB9.out
abbrev fDiag (x : Diag) : FV:=.agg [intF x.1,intF x.2.1,intF x.2.2.1,intF x.2.2.2]
theorem prg_g (d : PrgD) (ho : PrgOk d) : Gives Tryz.prog 14 [fPrg d] (fDiag (prgCheckW d)):=by
 refine ⟨⟨_,Tryz.func14,rfl,by decide⟩,fun w F vals hF hs hv=>?_⟩
 obtain ⟨vl,rfl⟩ : ∃ l : List Value,vals = l.toArray:=⟨vals.toList,by simp⟩
 match vl,hs,hv with
 | [v],hs,hv =>
  obtain ⟨u,h1,h2⟩:=hv 0 _ rfl
  have h1 : v = u:=by simpa using h1
  subst h1
  refine (prgCheck_c d ho hF h2).mono ?_
  rintro e w' ⟨rfl,hb⟩
  refine ⟨_,F,rfl,.agg _ _ (fun j=>if j = 0 then .int .i64 (prgCheckW d).1 else if j = 1 then .int .i64 (prgCheckW d).2.1 else if j = 2 then .int .i64 (prgCheckW d).2.2.1 else .int .i64 (prgCheckW d).2.2.2) rfl (fun j y hj=>?_) (fun j y hj=>?_),hb,fun _ _ h=>h,fun _ _ h=>.inl h,fun b o h=>Nat.lt_of_lt_of_le (hF b o h) hb.size⟩
  ·match j,hj with
   | 0,_=>rfl
   | 1,_=>rfl
   | 2,_=>rfl
   | 3,_=>rfl
   | j + 4,hj=>simp at hj
  ·match j,hj with
   | 0,hj=>simp at hj; subst hj; exact .sc _
   | 1,hj=>simp at hj; subst hj; exact .sc _
   | 2,hj=>simp at hj; subst hj; exact .sc _
   | 3,hj=>simp at hj; subst hj; exact .sc _
   | j + 4,hj=>simp at hj
end Go.Proofs.YtejkhflkeoihlaaGreat
