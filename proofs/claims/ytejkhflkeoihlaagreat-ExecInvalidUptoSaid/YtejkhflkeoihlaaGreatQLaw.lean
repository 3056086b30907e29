/- The law ExecInvalid holds for every input of bulk at most 1048576: it returns true and leaves its argument as it was. No other condition. -/
import Derived.Test.YtejkhflkeoihlaaGreatRows
import Derived.Test.YtejkhflkeoihlaaGreatS14
import Derived.Test.YtejkhflkeoihlaaGreatS13
import Derived.WalkKit
import Derived.ProofKit
import Derived.OpenShut
import Derived.ShutString
import Derived.ChangeOld
import Derived.Below
import Derived.JoinedCond
namespace Go.Proofs.YtejkhflkeoihlaaGreat.execInvalid
open Go.ChangeShapes Go.WideShapes Go.ChangeAt Go.RowKit
set_option linter.unusedVariables false
theorem own : ownKnob Tryz.prog.godebug = none:=by kernel_rfl
theorem laidOut : laidOutB Tryz.prog = true:=k1
mutual
theorem blk_le {H : Type} : ∀ d : DataW H,Vf.blk d ≤ Rows.uptoBulk d
 | .lit l=>by cases l <;> simp [Vf.blk,Rows.uptoBulk]
 | .nil=>by simp [Vf.blk,Rows.uptoBulk]
 | .ptr d=>by simp [Vf.blk,Rows.uptoBulk]
 | .slice elems spare=>by
  have:=blkL_le elems
  simp only [Vf.blk,Rows.uptoBulk]
  omega
 | .agg parts=>by
  have:=blkL_le parts
  simp only [Vf.blk,Rows.uptoBulk]
  omega
 | .iface t d=>by simp [Vf.blk,Rows.uptoBulk]
 | .map entries=>by simp [Vf.blk,Rows.uptoBulk]
 | .held h=>by simp [Vf.blk,Rows.uptoBulk]
theorem blkL_le {H : Type} : ∀ l : List (DataW H),Vf.blkL l ≤ Rows.uptoBulkAll l
 | []=>Nat.le_refl _
 | d :: r=>by
  have h1:=blk_le d
  have h2:=blkL_le r
  simp only [Vf.blkL,Rows.uptoBulkAll]
  omega
end
theorem small {H : Type} {d : DataW H} (hk : Rows.uptoSmall H [d] = true) : Vf.blk d ≤ 1048576:=by
 have h : Rows.uptoBulkAll [d] ≤ 1048576:=of_decide_eq_true hk
 have h2:=blk_le d
 simp only [Rows.uptoBulkAll] at h
 omega
set_option maxRecDepth 100000
theorem contract (H : Type) (enc : TypeId × Value→H) (W : World) (base : Nat) (args : Array Value) (ds gs : List (DataW H)) (before : List MemPlace)
  (hval0 : ∀ (j : Nat) t v,Tryz.f3.params[j]? = some t→args[j]? = some v→Value.okWide Tryz.prog W .any base t v)
  (hW : DataW.Whole enc Tryz.prog Tryz.f3.params.toList Rows.execInvalidSpec.vars false W args.toList ds gs before) (hk : Rows.uptoSmall H (ds ++ gs) = true) :
  Calls Tryz.prog 3 args W fun e W'=>∃ v,e = .returned v∧Rows.execInvalidSpec.post enc Tryz.prog Tryz.f3 false true false false W args v W':=by
 have hval : ∀ (j : Nat) t v,Tryz.f3.params[j]? = some t→args[j]? = some v→Value.okWide Tryz.prog W .any base t v:=hval0
 have hW':=hW
 obtain ⟨p,q,hA0,hV,rfl,hfz,hnd⟩:=hW
 have hA : DataW.TrodAll enc Tryz.prog W 0 (fun _=>true) true Tryz.f3.params.toList args.toList ds p:=hA0
 rw [Tryz.params3] at hA hval
 obtain ⟨v0,vs0,d0,ds0,p0,q0,hargs,rfl,rfl,h0,r0⟩:=trodAll_cons hA
 obtain ⟨rfl,rfl,rfl⟩:=trodAll_nil r0
 obtain rfl : args = #[v0]:=by cases args; simp_all
 obtain ⟨rfl,rfl⟩:=trodVars_none hV
 obtain ⟨a0,rfl,_⟩:=okWide_struct Tryz.underlying47 (hval 0 47 v0 rfl rfl)
 have k0:=h0
 have lt0 : ∀ x ∈ p0,x.block < W.heap.size:=by obtain ⟨m,hm⟩:=k0; exact DataW.trod_lt m _ _ _ hm
 simp only [List.append_nil] at hk
 have hsm:=small hk
 obtain ⟨m0,hm0⟩:=h0
 obtain ⟨⟨x,c,b,l⟩,hok,hR,hms⟩:=(all_opb m0).go (Nat.le_refl _) hm0
 have hR : Vf.Rep W (Vf.below W) (fAll (x,c,b,l)) (.agg a0):=Vf.RepC.agg hR
 clear hm0
 have hms : ms_all (x,c,b,l) ≤ 1048576:=Nat.le_trans hms hsm
 unfold ms_all at hms
 simp only at hms
 have hU : PlU x:=plU_of (by omega) hok
 have hB : CfgB c:=cfgB_of (by omega)
 have hac : x.prg.acts.l.length ≤ maxLen:=by
  have h1 : ms_pl x ≤ 1048576:=by omega
  unfold ms_pl ms_prg at h1
  have h2:=Vf.lsum_len (f:=ms_act) (fun x=>by unfold ms_act; omega) x.prg.acts.l
  unfold maxLen
  omega
 clear hA0 hval0
 refine ((law_g x c b l hU hB hac).2 W (Vf.below W) #[.agg a0] (fun _ _ h=>h) rfl fun j y hj=>?_).mono fun e W' ⟨v,F',he,hr,bel,_⟩=>?_
 ·match j with
  | 0 => exact ⟨_, rfl, by obtain rfl : fAll (x, c, b, l) = y := by simpa using hj
                           exact hR⟩
  | j + 1=>simp at hj
 cases hr
 subst he
 exact ⟨_,rfl,_,_,_,[],_,[],hW',trodAll_mk1 (shut_bool Tryz.underlying4 _),(trodAll_cons_mk (Below.trod laidOut (by kernel_rfl) (of_decide_eq_true (by kernel_rfl)) k0 bel lt0) trodAll_mk0),rfl,bel.frame _,fun h=>by cases h⟩
theorem lifted (os : Os) (started : os.Started) (H : Type) (enc : TypeId × Value→H) (F : Stop.Interp) :
  ReturnsInHanded {} Tryz.checked os 3 .any ((Rows.OpenSpec.upto Rows.execInvalidSpec).pre6 enc Tryz.prog Tryz.f3 Rows.execInvalidUptoRow.domain false) (((Rows.OpenSpec.upto Rows.execInvalidSpec).at F).post enc Tryz.prog Tryz.f3 false true false false):=by
 refine returnsInHanded_of_cond (C:=Tryz.checked) (s:=Rows.OpenSpec.upto Rows.execInvalidSpec) (k:=Rows.uptoSmall) rfl own started (by kernel_rfl) Tryz.func3
  (OpenSpec.witness (enc:=enc) (C:=Tryz.checked) (s:=Rows.OpenSpec.upto Rows.execInvalidSpec) (k:=Rows.uptoSmall) rfl false ⟨#[],#[.agg #[.string .empty,.slice none 0 0,.slice none 0 0,.slice none 0 0,.slice none 0 0,.slice none 0 0,.slice none 0 0,.slice none 0 0,.slice none 0 0,.int .i64 0,.int .i64 0,.int .i64 0,.int .i64 0,.int .i64 0,.int .i64 0,.int .i64 0,.int .i64 0,.slice none 0 0,.slice none 0 0,.slice none 0 0,.slice none 0 0,.slice none 0 0,.slice none 0 0,.slice none 0 0,.int .i64 0,.slice none 0 0]],[]⟩ 8 (by kernel_rfl) (by kernel_rfl) (by kernel_rfl)
   (x:=([.agg [.agg [.agg [.lit (.string []),.nil,.nil,.nil,.nil,.nil,.nil,.nil,.nil],.agg [.lit (.int .i64 0),.lit (.int .i64 0),.lit (.int .i64 0),.lit (.int .i64 0),.lit (.int .i64 0),.lit (.int .i64 0),.lit (.int .i64 0),.lit (.int .i64 0)],.nil,.nil,.nil],.agg [.nil,.nil,.nil,.nil],.agg [.lit (.int .i64 0),.nil]]],[],[])) (by kernel_rfl) rfl (by kernel_rfl)) ?_
 intro W base args ds gs before hval hW _ hk _
 exact contract H enc W base args ds gs before hval hW hk
theorem named : Tryz.pinned.checked.prog.funcNamed Rows.execInvalidUptoRow.func = some 3:=by kernel_rfl
theorem instance_ : Tryz.f3.isInstance Tryz.pinned.checked.prog Rows.execInvalidUptoRow.origin Rows.execInvalidUptoRow.targs:=of_decide_eq_true (by kernel_rfl)
theorem wrapper : Tryz.f3.isWrapper Tryz.pinned.checked.prog Rows.execInvalidUptoRow.wrapper Rows.execInvalidUptoRow.mainSum:=by unfold Func.isWrapper; first | (rw [if_pos (by decide +kernel)]; kernel_rfl) | (rw [if_neg (by decide +kernel)]; exact ⟨rfl,rfl⟩)
theorem proved : Rows.ExecInvalidUptoSaid :=
 OpenClaim.holds_of_cond 3 Tryz.f3 rfl rfl rfl rfl rfl rfl rfl ⟨rfl,rfl,rfl,rfl,rfl⟩ rfl rfl rfl rfl rfl named Tryz.func3 closed instance_ wrapper
  (fun os started H enc _ F=>lifted os started H enc F)
end Go.Proofs.YtejkhflkeoihlaaGreat.execInvalid
