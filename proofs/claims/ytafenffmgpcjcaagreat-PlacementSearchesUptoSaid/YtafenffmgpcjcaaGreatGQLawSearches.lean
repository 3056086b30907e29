/- The law PlacementSearches holds for every input of bulk at most 1048576: it returns true and leaves its argument as it was. No other condition. -/
import Derived.Test.YtafenffmgpcjcaaGreatRows
import Derived.Test.YtafenffmgpcjcaaGreatGQGk
import Derived.Test.YtafenffmgpcjcaaGreatGS18
import Derived.WalkKit
import Derived.ProofKit
import Derived.OpenShut
import Derived.ShutString
import Derived.ChangeOld
import Derived.Below
import Derived.JoinedCond
namespace Go.Proofs.YtafenffmgpcjcaaGreat.placementSearches
open Go.ChangeShapes Go.WideShapes Go.ChangeAt Go.RowKit
set_option linter.unusedVariables false
theorem own:ownKnob Tryz.prog.godebug=none:=by kernel_rfl
theorem laidOut:laidOutB Tryz.prog=true:=k1
mutual
theorem blk_le {H:Type}:∀ d:DataW H,Vf.blk d≤Rows.uptoBulk d
 | .lit l=>by cases l <;> simp [Vf.blk,Rows.uptoBulk]
 | .nil=>by simp [Vf.blk,Rows.uptoBulk]
 | .ptr d=>by simp [Vf.blk,Rows.uptoBulk]
 | .slice elems spare=>by
  have:=blkL_le elems
  simp only [Vf.blk,Rows.uptoBulk]
  omega
 | .agg parts=>by
  have:=blkL_le parts
  simp only [Vf.blk,Rows.uptoBulk]
  omega
 | .iface t d=>by simp [Vf.blk,Rows.uptoBulk]
 | .map entries=>by simp [Vf.blk,Rows.uptoBulk]
 | .held h=>by simp [Vf.blk,Rows.uptoBulk]
theorem blkL_le {H:Type}:∀ l:List (DataW H),Vf.blkL l≤Rows.uptoBulkAll l
 | []=>Nat.le_refl _
 | d::r=>by
  have h1:=blk_le d
  have h2:=blkL_le r
  simp only [Vf.blkL,Rows.uptoBulkAll]
  omega
end
theorem small {H:Type} {d d' d'':DataW H} (hk:Rows.uptoSmall H [d,d',d'']=true):Vf.blk d≤1048576:=by
 have h:Rows.uptoBulkAll [d,d',d'']≤1048576:=of_decide_eq_true hk
 have h2:=blk_le d
 simp only [Rows.uptoBulkAll] at h
 omega
set_option maxRecDepth 100000
theorem contract (H:Type) (enc:TypeId × Value→H) (W:World) (base:Nat) (args:Array Value) (ds gs:List (DataW H)) (before:List MemPlace)
  (hval0:∀ (j:Nat) t v,Tryz.f3.params[j]?=some t→args[j]?=some v→Value.okWide Tryz.prog W .any base t v)
  (hW:DataW.Whole enc Tryz.prog Tryz.f3.params.toList Rows.placementSearchesSpec.vars false W args.toList ds gs before) (hk:Rows.uptoSmall H (ds ++ gs)=true) :
  Calls Tryz.prog 3 args W fun e W'=>∃ v,e=.returned v∧Rows.placementSearchesSpec.post enc Tryz.prog Tryz.f3 false true false false W args v W':=by
 have hval:∀ (j:Nat) t v,Tryz.f3.params[j]?=some t→args[j]?=some v→Value.okWide Tryz.prog W .any base t v:=hval0
 have hW':=hW
 obtain ⟨p,q,hA0,hV,rfl,hfz,hnd⟩:=hW
 have hA:DataW.TrodAll enc Tryz.prog W 0 (fun _=>true) true Tryz.f3.params.toList args.toList ds p:=hA0
 rw [Tryz.params3] at hA hval
 obtain ⟨v0,vs0,d0,ds0,p0,q0,hargs,rfl,rfl,h0,r0⟩:=trodAll_cons hA
 obtain ⟨v1,vs1,d1,ds1,p1,q1,rfl,rfl,rfl,h1,r1⟩:=trodAll_cons r0
 obtain ⟨v2,vs2,d2,ds2,p2,q2,rfl,rfl,rfl,h2,r2⟩:=trodAll_cons r1
 obtain ⟨rfl,rfl,rfl⟩:=trodAll_nil r2
 obtain rfl:args=#[v0,v1,v2]:=by cases args; simp_all
 obtain ⟨rfl,rfl⟩:=trodVars_none hV
 obtain ⟨a0,rfl,_⟩:=okWide_struct Tryz.underlying31 (hval 0 31 v0 rfl rfl)
 obtain ⟨a1,rfl,_⟩:=okWide_struct Tryz.underlying33 (hval 1 33 v1 rfl rfl)
 have k0:=h0
 have lt0:∀ x ∈ p0,x.block < W.heap.size:=by obtain ⟨m,hm⟩:=k0; exact DataW.trod_lt m _ _ _ hm
 have k1:=h1
 have lt1:∀ x ∈ p1,x.block < W.heap.size:=by obtain ⟨m,hm⟩:=k1; exact DataW.trod_lt m _ _ _ hm
 have k2:=h2
 have lt2:∀ x ∈ p2,x.block < W.heap.size:=by obtain ⟨m,hm⟩:=k2; exact DataW.trod_lt m _ _ _ hm
 simp only [List.append_nil] at hk
 have hsm:=small hk
 obtain ⟨m0,hm0⟩:=h0
 obtain ⟨m1,hm1⟩:=h1
 obtain ⟨d,hok,hR,hms⟩:=(prg_opb m0).go (Nat.le_refl _) hm0
 obtain ⟨c,_,hR1,_⟩:=(chip_opb m1).go (Nat.le_refl _) hm1
 have hR:Vf.Rep W (Vf.below W) (fPrg d) (.agg a0):=Vf.RepC.agg hR
 have hR1:Vf.Rep W (Vf.below W) (fChip c) (.agg a1):=Vf.RepC.agg hR1
 obtain ⟨bu,rfl⟩:=okWide_int Tryz.underlying3 (hval 2 3 v2 rfl rfl)
 clear hm0 hm1
 have hms:ms_prg d≤1048576:=Nat.le_trans hms hsm
 have hU:PrgU d:=prgU_of hms hok.1
 have hN:PrgN d:=prgN_of hok.1 hok.2
 clear hA0 hval0
 refine ((searches_g awake_g d c bu hU hN).2 W (Vf.below W) #[.agg a0,.agg a1,.int .i64 bu] (fun _ _ h=>h) rfl fun j y hj=>?_).mono fun e W' ⟨v,F',he,hr,bel,_⟩=>?_
 ·match j with
  | 0 => exact ⟨_, rfl, by obtain rfl : fPrg d = y := by simpa using hj
                           exact hR⟩
  | 1 => exact ⟨_, rfl, by obtain rfl : fChip c = y := by simpa using hj
                           exact hR1⟩
  | 2 => exact ⟨_, rfl, by obtain rfl : Vf.FV.sc (.int .i64 bu) = y := by simpa using hj
                           exact .sc _⟩
  | j+3=>simp at hj
 cases hr
 subst he
 exact ⟨_,rfl,_,_,_,[],_,[],hW',trodAll_mk1 (shut_bool Tryz.underlying4 _),(trodAll_cons_mk (Below.trod laidOut (by kernel_rfl) (of_decide_eq_true (by kernel_rfl)) k0 bel lt0) (trodAll_cons_mk (Below.trod laidOut (by kernel_rfl) (of_decide_eq_true (by kernel_rfl)) k1 bel lt1) (trodAll_cons_mk (Below.trod laidOut (by kernel_rfl) (of_decide_eq_true (by kernel_rfl)) k2 bel lt2) trodAll_mk0))),rfl,bel.frame _,fun h=>by cases h⟩
theorem lifted (os:Os) (started:os.Started) (H:Type) (enc:TypeId × Value→H) (F:Stop.Interp) :
  ReturnsInHanded {} Tryz.checked os 3 .any ((Rows.OpenSpec.upto Rows.placementSearchesSpec).pre6 enc Tryz.prog Tryz.f3 Rows.placementSearchesUptoRow.domain false) (((Rows.OpenSpec.upto Rows.placementSearchesSpec).at F).post enc Tryz.prog Tryz.f3 false true false false):=by
 refine returnsInHanded_of_cond (C:=Tryz.checked) (s:=Rows.OpenSpec.upto Rows.placementSearchesSpec) (k:=Rows.uptoSmall) rfl own started (by kernel_rfl) Tryz.func3
  (OpenSpec.witness (enc:=enc) (C:=Tryz.checked) (s:=Rows.OpenSpec.upto Rows.placementSearchesSpec) (k:=Rows.uptoSmall) rfl false ⟨#[],#[.agg #[.string .empty,.slice none 0 0,.slice none 0 0,.slice none 0 0,.slice none 0 0,.slice none 0 0,.slice none 0 0,.slice none 0 0,.slice none 0 0],.agg #[.int .i64 0,.int .i64 0,.int .i64 0,.int .i64 0,.int .i64 0,.int .i64 0,.int .i64 0,.int .i64 0],.int .i64 0],[]⟩ 8 (by kernel_rfl) (by kernel_rfl) (by kernel_rfl)
   (x:=([.agg [.lit (.string []),.nil,.nil,.nil,.nil,.nil,.nil,.nil,.nil],.agg [.lit (.int .i64 0),.lit (.int .i64 0),.lit (.int .i64 0),.lit (.int .i64 0),.lit (.int .i64 0),.lit (.int .i64 0),.lit (.int .i64 0),.lit (.int .i64 0)],.lit (.int .i64 0)],[],[])) (by kernel_rfl) rfl (by kernel_rfl)) ?_
 intro W base args ds gs before hval hW _ hk _
 exact contract H enc W base args ds gs before hval hW hk
theorem named:Tryz.pinned.checked.prog.funcNamed Rows.placementSearchesUptoRow.func=some 3:=by kernel_rfl
theorem instance_:Tryz.f3.isInstance Tryz.pinned.checked.prog Rows.placementSearchesUptoRow.origin Rows.placementSearchesUptoRow.targs:=of_decide_eq_true (by kernel_rfl)
theorem wrapper:Tryz.f3.isWrapper Tryz.pinned.checked.prog Rows.placementSearchesUptoRow.wrapper Rows.placementSearchesUptoRow.mainSum:=by unfold Func.isWrapper; first | (rw [if_pos (by decide +kernel)]; kernel_rfl) | (rw [if_neg (by decide +kernel)]; exact ⟨rfl,rfl⟩)
theorem proved:Rows.PlacementSearchesUptoSaid :=
 OpenClaim.holds_of_cond 3 Tryz.f3 rfl rfl rfl rfl rfl rfl rfl ⟨rfl,rfl,rfl,rfl,rfl⟩ rfl rfl rfl rfl rfl named Tryz.func3 closed instance_ wrapper
  (fun os started H enc _ F=>lifted os started H enc F)
end Go.Proofs.YtafenffmgpcjcaaGreat.placementSearches
