/- Texts of the proof: S3. -/
import Derived.Test.YtejkhflkeoihlaaGreatS2
import Derived.Test.YtejkhflkeoihlaaGreatS1
namespace Go.Proofs.YtejkhflkeoihlaaGreat
open Go.RowKit Go.Proofs.YtejkhflkeoihlaaGreat.Vf
set_option linter.unusedVariables false
set_option linter.unusedSimpArgs false
set_option maxRecDepth 100000
set_option maxHeartbeats 4000000
theorem fits_g (v w : Int) : Gives Tryz.prog 291 [u32F v,intF w] (boolF (fitsW v w)):=by
 refine Gives.of mixed Tryz.func291 rfl rfl rfl (by kernel_rfl) ?_
 simp
 refine call_g (bvalid_g [w] .full (by simp)) ?_
 have e : okWs [w] = !badW w:=by simp [okWs]
 rw [e]
 cases h : badW w with
 | true=>simp [fitsW,h]
 | false =>
  simp
  refine call_g (mask_g w) ?_
  simp [fitsW,h,maskM]
theorem actAt {d : PrgD} (r : Int) : (r < 0∧(if r < 0 then none else d.acts.l[r.toNat]?) = none) ∨ (¬ r < 0∧(d.acts.l.length : Int) ≤ r∧(if r < 0 then none else d.acts.l[r.toNat]?) = none) ∨ (¬ r < 0∧¬ (d.acts.l.length : Int) ≤ r∧r.toNat < d.acts.l.length∧∃ y,nth d.acts.l r.toNat = some y∧d.acts.l[r.toNat]? = some y∧(if r < 0 then none else d.acts.l[r.toNat]?) = some y):=by
 by_cases c1 : r < 0
 ·exact .inl ⟨by omega,if_pos c1⟩
 ·by_cases c2 : r < d.acts.l.length
  ·obtain ⟨y,hr,hr'⟩:=nth_of (show r.toNat < d.acts.l.length by omega)
   exact .inr (.inr ⟨by omega,by omega,by omega,y,hr,hr',by rw [if_neg c1]; exact hr'⟩)
  ·exact .inr (.inl ⟨by omega,by omega,by rw [if_neg c1]; exact List.getElem?_eq_none (by omega)⟩)
abbrev fCall (act : Int) (args : List Int) : FV:=.agg [intF act,sl (encL u32F args)]
def argOk (a : ActD) (args : List Int) (i : Nat) : Bool:=match args[i]?,a.params.l[i]? with | some v,some f=>fitsW v f.width | _,_=>true
def argBad (a : ActD) (args : List Int) (i : Nat) : Bool:=!argOk a args i
def argsAll (a : ActD) (args : List Int) : Bool:=(List.range args.length).all (argOk a args)
theorem callCheck_eq (d : PrgD) (act : Int) (args : List Int) : callCheck d act args = match (if act < 0 then none else d.acts.l[act.toNat]?) with
 | none=>8
 | some a=>if args.length ≠ a.params.l.length then 2 else if argsAll a args then 0 else 9:=by kernel_rfl
def ccI (a : ActD) (c : List AV) (args : List Int) (i : Nat) (s : St) : Prop:=noneT (argBad a args) (List.range args.length) i∧∃ g,Vf.Sl [(5,.f (sl (encL fFld a.params.l))),(33,.f (sl (encL u32F args))),(34,.f (intF args.length)),(35,.f (intF i))] 49 (c :: g) [] s
theorem call_ok (d : PrgD) (act : Int) (args : List Int) (lenB : args.length < 2^62) : Gives Tryz.prog 225 [fPrg d,fCall act args] (intF (callCheck d act args)):=by
 refine Gives.of mixed Tryz.func225 rfl rfl rfl (by kernel_rfl) ?_
 rcases actAt (d:=d) act with ⟨c1,hr⟩ | ⟨c1,c2,hr⟩ | ⟨c1,c2,c3,y,hy,-,hr⟩
 ·have hv : callCheck d act args = 8:=by rw [callCheck_eq,hr]
  simp [c1,fPrg,cPrg,hv]
 ·have hv : callCheck d act args = 8:=by rw [callCheck_eq,hr]
  simp [c1,c2,fPrg,cPrg,hv]
 have c0 : 0 ≤ act:=by omega
 by_cases c4 : args.length = y.params.l.length
 case neg =>
  have c4' : ¬ (args.length : Int) = y.params.l.length:=by omega
  have hv : callCheck d act args = 2:=by rw [callCheck_eq,hr]; exact if_pos c4
  simp [c0,c1,c2,c3,hy,c4,c4',fPrg,cPrg,hv]
 have c4' : (args.length : Int) = y.params.l.length:=by omega
 have hv : callCheck d act args = if argsAll y args then 0 else 9:=by rw [callCheck_eq,hr]; exact if_neg (by simpa using c4)
 rw [hv]
 simp [c0,c1,c2,c3,hy,c4,fPrg,cPrg]
 refine forX mixed args.length (ccI y [.f (strF d.name),.f (sl (encL fHdr d.headers.l)),.f (sl (encL fFld d.meta_.l)),.f (sl (encL fReg d.regs.l)),.f (sl (encL fAct d.acts.l)),.f (sl (encL fTbl d.tables.l)),.f (sl (encL fSta d.states.l)),.f (sl (encL fNod d.control.l)),.f (sl (encL intF d.dep.l))] args) (by kernel_rfl) ⟨.zero,_,by rw [c4]; exact Sl.of rfl rfl rfl⟩ ?_
 rintro i ⟨ts,hh,kk⟩ hi ⟨hno,g,rfl,rfl,f,rfl⟩
 by_cases hlt : i < args.length
 ·obtain ⟨x,hx,hx'⟩:=nth_of hlt
  obtain ⟨u,hu,hu'⟩:=nth_of (show i < y.params.l.length by omega)
  have hw:=wrap64 (x:=(i : Int) + 1) (by omega) (by have:=lenB; omega)
  have hb : argBad y args i = !fitsW x u.width:=by simp only [argBad,argOk,hx',hu']
  simp [← c4,hlt,hx,hu]
  refine call_g (fits_g x u.width) ?_
  cases hf : fitsW x u.width with
  | false =>
   have : argsAll y args = false:=by
    unfold argsAll
    rw [List.all_eq_false]
    exact ⟨i,List.mem_range.2 hlt,by simp only [argOk,hx',hu',hf]; decide⟩
   simp [this]
  | true =>
   simp [hw]
   exact ⟨hno.next (range_at hlt) (by rw [hb,hf]; rfl),_,by rw [c4]; exact Sl.of rfl rfl rfl⟩
 ·obtain rfl : i = args.length:=by omega
  have : argsAll y args = true:=by
   unfold argsAll
   rw [List.all_eq_true]
   intro j hj
   have:=hno j j (List.mem_range.1 hj) (range_at (List.mem_range.1 hj))
   simpa [argBad] using this
  simp [← c4,this]
end Go.Proofs.YtejkhflkeoihlaaGreat
namespace Go.Proofs.YtejkhflkeoihlaaGreat
open Go.RowKit Go.Proofs.YtejkhflkeoihlaaGreat.Vf
set_option linter.unusedVariables false
set_option linter.unusedSimpArgs false
set_option maxRecDepth 100000
set_option maxHeartbeats 4000000
def stScan (d : PrgD) (a : ActD) (i : Nat) : Option (Int × Int):=match a.body.l[i]? with | none=>none | some s=>if stCheck d a.params.l s = 0 then none else some ((i : Int),stCheck d a.params.l s)
theorem actCheckA_eq (d : PrgD) (a : ActD) : actCheckA d a = if actDecl a ≠ 0 then (-1,actDecl a) else (scan a.body.l.length (stScan d a)).getD (0,0):=by kernel_rfl
def aScp (d : PrgD) (ps : List FldD) : List AV:=[.f (strF d.name),.f (sl (encL fHdr d.headers.l)),.f (sl (encL fFld d.meta_.l)),.f (sl (encL fReg d.regs.l)),.f (sl (encL fAct d.acts.l)),.f (sl (encL fTbl d.tables.l)),.f (sl (encL fSta d.states.l)),.f (sl (encL fNod d.control.l)),.f (sl (encL intF d.dep.l)),.f (sl (encL fFld ps))]
def acI (d : PrgD) (a : ActD) (i : Nat) (s : St) : Prop:=noneT (fun i=>(stScan d a i).isSome) (List.range a.body.l.length) i∧∃ g,Vf.Sl [(7,.ref 2 0),(35,.f (sl (encL fSt a.body.l))),(36,.f (intF a.body.l.length)),(37,.f (intF i))] 50 (aPrg d :: [.f (strF a.name),.f (sl (encL fFld a.params.l)),.f (sl (encL fSt a.body.l))] :: aScp d a.params.l :: g) [] s
theorem act_g (d : PrgD) (hn : NmOk d) (r : Int) : Gives Tryz.prog 107 [fPrg d,intF r] (two (actCheck d r)):=by
 refine Gives.of mixed Tryz.func107 rfl rfl rfl (by kernel_rfl) ?_
 rcases actAt (d:=d) r with ⟨c1,hr⟩ | ⟨c1,c2,hr⟩ | ⟨c1,c2,c3,a,ha,ha',hr⟩
 ·have hv : actCheck d r = (-1,8):=by unfold actCheck; rw [hr]
  simp [c1,fPrg,cPrg,hv]
 ·have hv : actCheck d r = (-1,8):=by unfold actCheck; rw [hr]
  simp [c1,c2,fPrg,cPrg,hv]
 have c0 : 0 ≤ r:=by omega
 have hv : actCheck d r = actCheckA d a:=by unfold actCheck; rw [hr]
 rw [hv,actCheckA_eq]
 have hna:=hn.acts a (List.mem_of_getElem? ha')
 simp [c0,c1,c2,c3,ha,fPrg,cPrg]
 refine call_g (decl_g a hna.1 hna.2) ?_
 by_cases h1 : actDecl a = 0
 case neg=>simp [h1]
 have hbl : a.body.l.length ≤ 12:=by
  unfold actDecl at h1
  split at h1
  ·simp at h1
  ·split at h1
   ·simp at h1
   ·omega
 simp [h1]
 refine forX mixed a.body.l.length (acI d a) (by kernel_rfl) ⟨.zero,[],Sl.of rfl rfl rfl⟩ ?_
 rintro i ⟨ts,hh,kk⟩ hi ⟨hno,g,rfl,rfl,f,rfl⟩
 by_cases hlt : i < a.body.l.length
 ·obtain ⟨x,hx,hx'⟩:=nth_of hlt
  have hw:=wrap64 (x:=(i : Int) + 1) (by omega) (by omega)
  have hf : stScan d a i = if stCheck d a.params.l x = 0 then none else some ((i : Int),stCheck d a.params.l x):=by simp only [stScan,hx']
  have out : ∀ e,stScan d a i = some e→scan a.body.l.length (stScan d a) = some e:=fun e he=>scan_at hno hlt he
  simp [hlt,hx,aScp,aPrg]
  refine call_g (st_g d a.params.l x) ?_
  by_cases h2 : stCheck d a.params.l x = 0
  ·simp [h2,hw]
   exact ⟨hno.next (range_at hlt) (by rw [hf,if_pos h2]; rfl),_,Sl.of rfl rfl rfl⟩
  ·simp [h2,out _ (hf.trans (if_neg h2))]
 ·obtain rfl : i = a.body.l.length:=by omega
  simp [hlt,scan_of hno]
end Go.Proofs.YtejkhflkeoihlaaGreat
namespace Go.Proofs.YtejkhflkeoihlaaGreat
open Go.RowKit Go.Proofs.YtejkhflkeoihlaaGreat.Vf
set_option linter.unusedVariables false
set_option linter.unusedSimpArgs false
set_option maxRecDepth 100000
set_option maxHeartbeats 4000000
theorem isum_append (l m : List Int) : isum (l ++ m) = isum l + isum m:=by
 induction l with
 | nil=>simp [isum]
 | cons a l ih=>simp only [List.cons_append,isum,ih]; omega
theorem widthOf_bd (d : PrgD) (h f : Int) : 0 ≤ widthOf d h f∧widthOf d h f ≤ 32:=by
 rw [widthOf_eq]
 split
 ·omega
 ·rename_i h1
  have:=(badW_not _).1 (by simpa using h1)
  omega
theorem keyBits_bd (d : PrgD) (l : List KeyD) : 0 ≤ keyBits d l∧keyBits d l ≤ 32 * l.length:=by
 unfold keyBits
 induction l with
 | nil=>simp [isum]
 | cons a l ih=>have:=widthOf_bd d a.h a.f; simp only [List.map_cons,isum,List.length_cons]; omega
theorem take_snoc {α : Type} {l : List α} {k : Nat} {x : α} (h : l[k]? = some x) : l.take (k + 1) = l.take k ++ [x]:=by
 rw [List.take_add_one,h]; rfl
theorem keyBits_next {d : PrgD} {l : List KeyD} {k : Nat} {x : KeyD} (h : l[k]? = some x) : keyBits d (l.take (k + 1)) = keyBits d (l.take k) + widthOf d x.h x.f:=by
 rw [take_snoc h]; unfold keyBits; rw [List.map_append,isum_append]; simp [isum]
theorem keyLpm_next {l : List KeyD} {k : Nat} {x : KeyD} (h : l[k]? = some x) : keyLpm (l.take (k + 1)) = keyLpm (l.take k) + if x.kind = 2 then 1 else 0:=by
 rw [take_snoc h]; unfold keyLpm; rw [List.countP_append]; simp [List.countP_cons]
theorem keyLpm_le (l : List KeyD) : keyLpm l ≤ l.length:=List.countP_le_length
def ckI (d : PrgD) (t : TblD) (i : Nat) (s : St) : Prop:=noneT (fun i=>(keyScan d t.keys.l i).isSome) (List.range t.keys.l.length) i∧∃ g,Vf.Sl [(2,.ref 0 0),(6,.f (intF (keyLpm (t.keys.l.take i)))),(7,.f (intF (keyBits d (t.keys.l.take i)))),(12,.f (sl (encL fKey t.keys.l))),(13,.f (intF t.keys.l.length)),(14,.f (intF i))] 44 (aPrg d :: g) [] s
theorem keys_g (d : PrgD) (t : TblD) (hl : t.keys.l.length < 100000) : Gives Tryz.prog 195 [fPrg d,fTbl t] (two (keysCheck d t.keys.l)):=by
 refine Gives.of mixed Tryz.func195 rfl rfl rfl (by kernel_rfl) ?_
 simp [fPrg,cPrg]
 refine forX mixed t.keys.l.length (ckI d t) (by kernel_rfl) ⟨.zero,_,Sl.of rfl rfl rfl⟩ ?_
 rintro i ⟨ts,hh,kk⟩ hi ⟨hno,g,rfl,rfl,f,rfl⟩
 have hkc : keysCheck d t.keys.l = match scan t.keys.l.length (keyScan d t.keys.l) with | some e=>e | none=>if 1 < keyLpm t.keys.l then (-2,7) else if 64 < keyBits d t.keys.l then (-2,10) else (0,0):=rfl
 by_cases hlt : i < t.keys.l.length
 ·obtain ⟨x,hx,hx'⟩:=nth_of hlt
  have hw:=wrap64 (x:=(i : Int) + 1) (by omega) (by omega)
  have hlm:=keyLpm_le (t.keys.l.take i)
  have hbb:=keyBits_bd d (t.keys.l.take i)
  have hti : (t.keys.l.take i).length = i:=by rw [List.length_take]; omega
  have hwb:=widthOf_bd d x.h x.f
  have hwl:=wrap64 (x:=((keyLpm (t.keys.l.take i) : Nat) : Int) + 1) (by omega) (by omega)
  have hwk:=wrap64 (x:=keyBits d (t.keys.l.take i) + widthOf d x.h x.f) (by omega) (by omega)
  have hf : keyScan d t.keys.l i = if widthOf d x.h x.f = 0 then some ((i : Int),8) else if 1 ≤ x.kind∧x.kind ≤ 3 then none else some ((i : Int),11):=by simp only [keyScan,hx']
  have out : ∀ e,keyScan d t.keys.l i = some e→keysCheck d t.keys.l = e:=fun e he=>by rw [hkc,scan_at hno hlt he]
  simp [hlt,hx,aPrg]
  refine call_g (envWidth_g d x.h x.f) ?_
  by_cases h1 : widthOf d x.h x.f = 0
  ·simp [h1,out _ (hf.trans (if_pos h1))]
  rw [if_neg h1] at hf
  have hb':=keyBits_next (d:=d) hx'
  have hl':=keyLpm_next hx'
  by_cases k2 : x.kind = 2
  ·rw [if_pos k2] at hl'
   simp [h1,k2,hw,hwl,hwk]
   exact ⟨hno.next (range_at hlt) (by rw [hf,if_pos (by omega)]; rfl),_,by rw [hb',hl']; exact Sl.of rfl rfl rfl⟩
  rw [if_neg k2] at hl'
  by_cases k1 : x.kind = 1
  ·simp [h1,k1,hw,hwl,hwk]
   exact ⟨hno.next (range_at hlt) (by rw [hf,if_pos (by omega)]; rfl),_,by rw [hb',hl']; exact Sl.of rfl rfl rfl⟩
  by_cases k3 : x.kind = 3
  ·simp [h1,k3,hw,hwl,hwk]
   exact ⟨hno.next (range_at hlt) (by rw [hf,if_pos (by omega)]; rfl),_,by rw [hb',hl']; exact Sl.of rfl rfl rfl⟩
  simp [h1,k1,k2,k3,out _ (hf.trans (if_neg (by omega)))]
 ·obtain rfl : i = t.keys.l.length:=by omega
  rw [hkc,scan_of hno]
  by_cases h1 : 1 < keyLpm t.keys.l
  ·have h1' : 1 < (keyLpm t.keys.l : Int):=by omega
   simp [h1,h1']
  have h1' : ¬ 1 < (keyLpm t.keys.l : Int):=by omega
  by_cases h2 : 64 < keyBits d t.keys.l
  ·simp [h1,h1',h2]
  ·simp [h1,h1',h2]
end Go.Proofs.YtejkhflkeoihlaaGreat
namespace Go.Proofs.YtejkhflkeoihlaaGreat
open Go.RowKit Go.Proofs.YtejkhflkeoihlaaGreat.Vf
set_option linter.unusedVariables false
set_option linter.unusedSimpArgs false
set_option maxRecDepth 100000
set_option maxHeartbeats 4000000
theorem first_of {α : Type} {p : α→Bool} {l : List α} (h : l.any p = true) : ∃ k : Nat,∃ x,l[k]? = some x∧p x = true∧noneT p l k:=by
 induction l with
 | nil=>simp at h
 | cons a l ih =>
  cases ha : p a with
  | true=>exact ⟨0,a,rfl,ha,.zero⟩
  | false =>
   rw [List.any_cons,ha,Bool.false_or] at h
   obtain ⟨k,x,h1,h2,h3⟩:=ih h
   refine ⟨k + 1,x,by simpa using h1,h2,fun j y hj hy=>?_⟩
   cases j with
   | zero=>simp at hy; rw [← hy]; exact ha
   | succ j=>exact h3 j y (by omega) (by simpa using hy)
theorem idxInt_g (l : List Int) (c : Cap) (v : Int) (hl : l.length < 2^62) : ∃ i : Int,(decide (0 ≤ i) = l.contains v)∧Gives Tryz.prog 74 [.sl (encL intF l) c,intF v] (intF i):=by
 have hc : l.contains v = l.any (fun x=>v == x):=by
  induction l with
  | nil=>rfl
  | cons a l ih=>rw [List.contains_cons,List.any_cons,ih (by simp at hl; omega)]
 rw [hc]
 cases h : l.any (fun x=>v == x) with
 | false =>
  refine ⟨-1,rfl,Gives.of mixed Tryz.func74 rfl rfl rfl (by kernel_rfl) ?_⟩
  simp
  refine forX mixed l.length (fun k s=>Vf.Sl [(0,.f (.sl (encL intF l) c)),(1,.f (intF v)),(7,.f (intF l.length)),(8,.f (intF k))] 19 [] [] s) (by kernel_rfl) (Sl.of rfl rfl rfl) ?_
  rintro k ⟨t,hh,kk⟩ hk ⟨rfl,rfl,f,rfl⟩
  by_cases hlt : k < l.length
  ·obtain ⟨x,hx,hx'⟩:=nth_of hlt
   have hw:=wrap64 (x:=(k : Int) + 1) (by omega) (by omega)
   have hq : ¬ v = x:=by
    have:=List.any_eq_false.1 h x (List.mem_of_getElem? hx')
    simpa using this
   simp [hlt,hx,hq,hw]
   exact Sl.of rfl rfl rfl
  ·obtain rfl : k = l.length:=by omega
   simp
 | true =>
  obtain ⟨m,z,hm,hz,hno⟩:=first_of h
  have hml:=(List.getElem?_eq_some_iff.1 hm).1
  refine ⟨m,by simp,Gives.of mixed Tryz.func74 rfl rfl rfl (by kernel_rfl) ?_⟩
  simp
  refine forX mixed m (fun k s=>Vf.Sl [(0,.f (.sl (encL intF l) c)),(1,.f (intF v)),(7,.f (intF l.length)),(8,.f (intF k))] 19 [] [] s) (by kernel_rfl) (Sl.of rfl rfl rfl) ?_
  rintro k ⟨t,hh,kk⟩ hk ⟨rfl,rfl,f,rfl⟩
  have hlt : k < l.length:=by omega
  obtain ⟨x,hx,hx'⟩:=nth_of hlt
  have hw:=wrap64 (x:=(k : Int) + 1) (by omega) (by omega)
  by_cases hkm : k < m
  ·have hq : ¬ v = x:=by simpa using hno k x hkm hx'
   simp [hlt,hx,hq,hw]
   exact ⟨hkm,Sl.of rfl rfl rfl⟩
  ·obtain rfl : k = m:=by omega
   rw [hm] at hx'
   obtain rfl:=Option.some.inj hx'
   have hz' : v = z:=by simpa using hz
   simp [hlt,hx,hz']
theorem hasInt_g (l : List Int) (c : Cap) (v : Int) (hl : l.length < 2^62) : Gives Tryz.prog 28 [.sl (encL intF l) c,intF v] (boolF (l.contains v)):=by
 refine Gives.of mixed Tryz.func28 rfl rfl rfl (by kernel_rfl) ?_
 simp
 obtain ⟨i,hi,hg⟩:=idxInt_g l c v hl
 refine call_g hg ?_
 simp [hi]
def dpI (d : PrgD) (i : Nat) (s : St) : Prop:=noneT (fun i=>(depScan d i).isSome) (List.range d.dep.l.length) i∧∃ g,Vf.Sl [(1,.ref 0 0),(11,.f (sl (encL intF d.dep.l))),(12,.f (intF d.dep.l.length)),(13,.f (intF i))] 38 (aPrg d :: g) [] s
theorem dep_g (d : PrgD) : Gives Tryz.prog 112 [fPrg d] (two (depCheck d)):=by
 refine Gives.of mixed Tryz.func112 rfl rfl rfl (by kernel_rfl) ?_
 by_cases c1 : 8 < d.dep.l.length
 ·have c1' : 8 < (d.dep.l.length : Int):=by omega
  simp [c1,c1',fPrg,cPrg,depCheck]
 have c1' : ¬ 8 < (d.dep.l.length : Int):=by omega
 have hv : depCheck d = (scan d.dep.l.length (depScan d)).getD (0,0):=by unfold depCheck; rw [if_neg c1]
 rw [hv]
 simp [c1,c1',fPrg,cPrg]
 refine forX mixed d.dep.l.length (dpI d) (by kernel_rfl) ⟨.zero,_,Sl.of rfl rfl rfl⟩ ?_
 rintro i ⟨ts,hh,kk⟩ hi ⟨hno,g,rfl,rfl,f,rfl⟩
 by_cases hlt : i < d.dep.l.length
 ·obtain ⟨x,hx,hx'⟩:=nth_of hlt
  have hw:=wrap64 (x:=(i : Int) + 1) (by omega) (by omega)
  have hf : depScan d i = if x < 0 ∨ (d.headers.l.length : Int) ≤ x then some ((i : Int),8) else if (d.dep.l.take i).contains x then some ((i : Int),7) else none:=by simp only [depScan,hx']
  have out : ∀ e,depScan d i = some e→scan d.dep.l.length (depScan d) = some e:=fun e he=>scan_at hno hlt he
  by_cases c2 : x < 0
  ·simp [hlt,hx,c2,aPrg,out _ (hf.trans (if_pos (.inl c2)))]
  by_cases c3 : (d.headers.l.length : Int) ≤ x
  ·simp [hlt,hx,c2,c3,aPrg,out _ (hf.trans (if_pos (.inr c3)))]
  rw [if_neg (by omega)] at hf
  simp [hlt,hx,c2,c3,aPrg]
  rw [sliceF (enc:=intF) (l:=d.dep.l) (c:=.un) (i:=i) ty29 ty3 (by simp) (fun _=>rfl) (Nat.le_of_lt hlt)]
  simp
  refine call_g (hasInt_g (d.dep.l.take i) .un x (by rw [List.length_take]; omega)) ?_
  cases he : (d.dep.l.take i).contains x with
  | true=>simp [out _ (hf.trans (if_pos he))]
  | false =>
   simp [hw]
   exact ⟨hno.next (range_at hlt) (by rw [hf,if_neg (by rw [he]; decide)]; rfl),_,Sl.of rfl rfl rfl⟩
 ·obtain rfl : i = d.dep.l.length:=by omega
  simp [hlt,scan_of hno]
theorem leads_g (d : PrgD) (st nx : Int) : Gives Tryz.prog 266 [fPrg d,intF st,intF nx] (boolF (leadsD d st nx)):=by
 refine Gives.of mixed Tryz.func266 rfl rfl rfl (by kernel_rfl) ?_
 by_cases c1 : nx = -1
 ·simp [c1,fPrg,cPrg,leadsD]
 by_cases c2 : nx = -2
 ·simp [c1,c2,fPrg,cPrg,leadsD]
 by_cases c3 : st < nx
 ·simp [c1,c2,c3,fPrg,cPrg,leadsD]
 ·simp [c1,c2,c3,fPrg,cPrg,leadsD]
end Go.Proofs.YtejkhflkeoihlaaGreat
namespace Go.Proofs.YtejkhflkeoihlaaGreat
open Go.RowKit Go.Proofs.YtejkhflkeoihlaaGreat.Vf
set_option linter.unusedVariables false
set_option linter.unusedSimpArgs false
set_option maxRecDepth 100000
set_option maxHeartbeats 4000000
theorem case_g (d : PrgD) (st : Nat) (s : StaD) (c : CaseD) (hs : d.states.l[st]? = some s) : Gives Tryz.prog 265 [fPrg d,intF st,fCase c] (intF (caseCheck d st s c)):=by
 refine Gives.of mixed Tryz.func265 rfl rfl rfl (by kernel_rfl) ?_
 have hlt:=(List.getElem?_eq_some_iff.1 hs).1
 have hx : nth d.states.l st = some s:=hs
 simp [hlt,hx,fPrg,cPrg]
 refine call_g (envWidth_g d s.onh s.onf) ?_
 have hv : caseCheck d st s c = if (!fitsW c.value (widthOf d s.onh s.onf)) || !fitsW c.mask (widthOf d s.onh s.onf) then 9
   else if andNotU c.value c.mask ≠ 0 then 5 else if !leadsD d st c.next then 14 else 0:=rfl
 rw [hv]
 generalize widthOf d s.onh s.onf = W
 simp
 refine call_g (fits_g c.value W) ?_
 cases h1 : fitsW c.value W with
 | false=>simp
 | true =>
 simp
 refine call_g (fits_g c.mask W) ?_
 cases h2 : fitsW c.mask W with
 | false=>simp
 | true =>
 by_cases h3 : andNotU c.value c.mask = 0
 case neg =>
  have h3' : ¬ notI .u32 c.value c.mask = 0:=h3
  simp [h3,h3']
 have h3' : notI .u32 c.value c.mask = 0:=h3
 simp [h3,h3']
 refine call_g (leads_g d st c.next) ?_
 cases h4 : leadsD d st c.next <;> simp
def aSta (s : StaD) (q : Bool) : List AV:=[.f (strF s.name),.f (sl (encL intF s.extract.l)),.f (boolF q),.f (intF s.onh),.f (intF s.onf),.f (sl (encL fCase s.cases.l)),.f (intF s.dfl)]
def noHdr (d : PrgD) (h : Int) : Bool:=decide (h < 0) || decide ((d.headers.l.length : Int) ≤ h)
def stI1 (d : PrgD) (st : Nat) (s : StaD) (i : Nat) (t : St) : Prop:=noneT (noHdr d) s.extract.l i∧∃ g,Vf.Sl [(1,.f (intF st)),(2,.ref 0 0),(6,.ref 1 0),(28,.f (sl (encL intF s.extract.l))),(29,.f (intF s.extract.l.length)),(30,.f (intF i))] 87 (aPrg d :: aSta s s.sel :: g) [] t
def stI2 (d : PrgD) (st : Nat) (s : StaD) (q : Bool) (i : Nat) (t : St) : Prop:=noneT (fun i=>(casesScan d st s i).isSome) (List.range s.cases.l.length) i∧∃ g,Vf.Sl [(1,.f (intF st)),(2,.ref 0 0),(6,.ref 1 0),(65,.f (sl (encL fCase s.cases.l))),(66,.f (intF s.cases.l.length)),(67,.f (intF i))] 87 (aPrg d :: aSta s q :: g) [] t
theorem sta_g (d : PrgD) (st : Nat) (s : StaD) (hs : d.states.l[st]? = some s) : Gives Tryz.prog 197 [fPrg d,intF st] (two (staCheck d st s)):=by
 refine Gives.of mixed Tryz.func197 rfl rfl rfl (by kernel_rfl) ?_
 have hlt:=(List.getElem?_eq_some_iff.1 hs).1
 have hx : nth d.states.l st = some s:=hs
 have hv : staCheck d st s = if 4 < s.extract.l.length ∨ 8 < s.cases.l.length then (-1,12)
  else if s.extract.l.any (noHdr d) then (-1,8)
  else if s.sel = true∧widthOf d s.onh s.onf = 0 then (-1,8)
  else if s.sel = false∧0 < s.cases.l.length then (-1,11)
  else match scan s.cases.l.length (casesScan d st s) with
   | some e=>e
   | none=>if leadsD d st s.dfl then (0,0) else (-1,14):=rfl
 by_cases c1 : 4 < s.extract.l.length
 ·have c1' : 4 < (s.extract.l.length : Int):=by omega
  rw [hv,if_pos (.inl c1)]
  simp [hlt,hx,fPrg,cPrg,c1']
 have c1' : ¬ 4 < (s.extract.l.length : Int):=by omega
 by_cases c2 : 8 < s.cases.l.length
 ·have c2' : 8 < (s.cases.l.length : Int):=by omega
  rw [hv,if_pos (.inr c2)]
  simp [hlt,hx,fPrg,cPrg,c1',c2']
 have c2' : ¬ 8 < (s.cases.l.length : Int):=by omega
 rw [if_neg (by omega)] at hv
 simp [hlt,hx,fPrg,cPrg,c1',c2']
 refine forX mixed s.extract.l.length (stI1 d st s) (by kernel_rfl) ⟨.zero,_,Sl.of rfl rfl rfl⟩ ?_
 rintro i ⟨ts,hh,kk⟩ hi ⟨hno,g,rfl,rfl,f,rfl⟩
 by_cases hil : i < s.extract.l.length
 ·obtain ⟨x,hx1,hx1'⟩:=nth_of hil
  have hw:=wrap64 (x:=(i : Int) + 1) (by omega) (by omega)
  by_cases q1 : x < 0
  ·have : s.extract.l.any (noHdr d) = true:=any_hit hx1' (by simp [noHdr,q1])
   rw [if_pos this] at hv
   simp [hil,hx1,aPrg,aSta,q1,hv]
  by_cases q2 : (d.headers.l.length : Int) ≤ x
  ·have : s.extract.l.any (noHdr d) = true:=any_hit hx1' (by simp [noHdr,q2])
   rw [if_pos this] at hv
   simp [hil,hx1,aPrg,aSta,q1,q2,hv]
  simp [hil,hx1,aPrg,aSta,q1,q2,hw]
  exact ⟨hno.next hx1' (by simp [noHdr,q1,q2]),_,Sl.of rfl rfl rfl⟩
 obtain rfl : i = s.extract.l.length:=by omega
 have ha:=hno.all (by omega)
 rw [if_neg (by rw [ha]; decide)] at hv
 clear hno hi hil ha
 have last : (s.sel = true→¬ widthOf d s.onh s.onf = 0)→(s.sel = false→¬ 0 < s.cases.l.length)→staCheck d st s = match scan s.cases.l.length (casesScan d st s) with
   | some e=>e
   | none=>if leadsD d st s.dfl then (0,0) else (-1,14):=fun h1 h2=>by
  rw [hv,if_neg (fun h=>h1 h.1 h.2),if_neg (fun h=>h2 h.1 h.2)]
 simp [aPrg,aSta]
 cases hsel : s.sel with
 | false =>
  cases h0 : decide (0 < s.cases.l.length) with
  | false =>
   have h0':=of_decide_eq_false h0
   have hl:=last (fun h=>by rw [hsel] at h; cases h) (fun _=>h0')
   simp [h0]
   refine forX mixed s.cases.l.length (stI2 d st s false) (by kernel_rfl) ⟨.zero,_,Sl.of rfl rfl rfl⟩ ?_
   rintro i ⟨ts,hh,kk⟩ hi ⟨hno,g,rfl,rfl,f,rfl⟩
   by_cases hil : i < s.cases.l.length
   ·obtain ⟨x,hx1,hx1'⟩:=nth_of hil
    have hw:=wrap64 (x:=(i : Int) + 1) (by omega) (by omega)
    have hf : casesScan d st s i = if caseCheck d st s x = 0 then none else some ((i : Int),caseCheck d st s x):=by simp only [casesScan,hx1']
    simp [hil,hx1,aPrg,aSta]
    refine call_g (case_g d st s x hs) ?_
    by_cases h2 : caseCheck d st s x = 0
    ·simp [h2,hw]
     exact ⟨hno.next (range_at hil) (by rw [hf,if_pos h2]; rfl),_,Sl.of rfl rfl rfl⟩
    ·rw [scan_at hno hil (hf.trans (if_neg h2))] at hl
     simp [h2,hl]
   ·obtain rfl : i = s.cases.l.length:=by omega
    rw [scan_of hno] at hl
    simp [hil,aPrg,aSta]
    refine call_g (leads_g d st s.dfl) ?_
    cases h4 : leadsD d st s.dfl <;> simp [hl,h4]
  | true =>
   have h0':=of_decide_eq_true h0
   have hV : staCheck d st s = (-1,11):=by rw [hv,if_neg (fun h=>by rw [hsel] at h; cases h.1),if_pos ⟨hsel,h0'⟩]
   simp [h0,hV]
 | true =>
  simp
  refine call_g (envWidth_g d s.onh s.onf) ?_
  by_cases h1 : widthOf d s.onh s.onf = 0
  ·have hV : staCheck d st s = (-1,8):=by rw [hv,if_pos ⟨hsel,h1⟩]
   simp [h1,hV]
  have hl:=last (fun _=>h1) (fun h=>by rw [hsel] at h; cases h)
  simp [h1]
  refine forX mixed s.cases.l.length (stI2 d st s true) (by kernel_rfl) ⟨.zero,_,Sl.of rfl rfl rfl⟩ ?_
  rintro i ⟨ts,hh,kk⟩ hi ⟨hno,g,rfl,rfl,f,rfl⟩
  by_cases hil : i < s.cases.l.length
  ·obtain ⟨x,hx1,hx1'⟩:=nth_of hil
   have hw:=wrap64 (x:=(i : Int) + 1) (by omega) (by omega)
   have hf : casesScan d st s i = if caseCheck d st s x = 0 then none else some ((i : Int),caseCheck d st s x):=by simp only [casesScan,hx1']
   simp [hil,hx1,aPrg,aSta]
   refine call_g (case_g d st s x hs) ?_
   by_cases h2 : caseCheck d st s x = 0
   ·simp [h2,hw]
    exact ⟨hno.next (range_at hil) (by rw [hf,if_pos h2]; rfl),_,Sl.of rfl rfl rfl⟩
   ·rw [scan_at hno hil (hf.trans (if_neg h2))] at hl
    simp [h2,hl]
  ·obtain rfl : i = s.cases.l.length:=by omega
   rw [scan_of hno] at hl
   simp [hil,aPrg,aSta]
   refine call_g (leads_g d st s.dfl) ?_
   cases h4 : leadsD d st s.dfl <;> simp [hl,h4]
end Go.Proofs.YtejkhflkeoihlaaGreat
namespace Go.Proofs.YtejkhflkeoihlaaGreat
open Go.RowKit Go.Proofs.YtejkhflkeoihlaaGreat.Vf
set_option linter.unusedVariables false
set_option linter.unusedSimpArgs false
set_option maxRecDepth 100000
set_option maxHeartbeats 4000000
theorem applies_g (x : NodD) : Gives Tryz.prog 118 [fNod x] (boolF (nodApplies x)):=by
 refine Gives.of mixed Tryz.func118 rfl rfl rfl (by kernel_rfl) ?_
 rw [fNod_eq]
 unfold nodApplies
 by_cases c1 : x.kind = 1
 ·simp [c1]
 ·by_cases c3 : x.kind = 3
  ·simp [c3]
  ·have e1 : (x.kind == 1) = false:=by simpa using c1
   have e3 : (x.kind == 3) = false:=by simpa using c3
   simp [c1,c3]
def cnI (d : PrgD) (x : NodD) (used : List Int) (i : Nat) (s : St) : Prop:=noneT (fun u=>u == x.table) used i∧∃ g,Vf.Sl [(3,.ref 0 0),(4,.ref 1 0),(12,.f (intF x.kind)),(27,.f (sl (encL intF used))),(28,.f (intF used.length)),(29,.f (intF i))] 66 (aPrg d :: [.f (intF x.kind),.f (intF x.table),.f (sl (encL fEx x.cond.l)),.f (sl (encL fNod x.thn.l)),.f (sl (encL fNod x.els.l))] :: g) [] s
theorem node_g (d : PrgD) (x : NodD) (used : List Int) (hu : used.length < 2^62) : Gives Tryz.prog 117 [fPrg d,fNod x,sl (encL intF used)] (intF (nodCheckW d x used)):=by
 refine Gives.of mixed Tryz.func117 rfl rfl rfl (by kernel_rfl) ?_
 rw [fNod_eq]
 by_cases k2 : x.kind = 2
 ·have hv : nodCheckW d x used = if (exCheck d [] x.cond.l).2 ≠ 0 then (exCheck d [] x.cond.l).2 else if (exCheck d [] x.cond.l).1 ≠ 1 then 10 else 0:=by unfold nodCheckW; rw [if_neg (by omega),if_pos k2]
  rw [hv]
  simp [k2,fPrg,cPrg]
  refine call_g (Gives.weak (exCheck_g d [] x.cond.l)) ?_
  by_cases h1 : (exCheck d [] x.cond.l).2 = 0
  ·by_cases h2 : (exCheck d [] x.cond.l).1 = 1
   ·simp [h1,h2]
   ·simp [h1,h2]
  ·simp [h1]
 by_cases k1 : x.kind = 1 ∨ x.kind = 3
 case neg =>
  have k1a : ¬ x.kind = 1:=fun h=>k1 (.inl h)
  have k1b : ¬ x.kind = 3:=fun h=>k1 (.inr h)
  have hv : nodCheckW d x used = 11:=by unfold nodCheckW; rw [if_neg k1,if_neg k2]
  simp [k1a,k1b,k2,fPrg,cPrg,hv]
 have hv : nodCheckW d x used = if x.table < 0 ∨ (d.tables.l.length : Int) ≤ x.table then 8
  else if used.contains x.table then 7
  else if x.kind = 1∧0 < wr ((x.thn.l.length : Int) + x.els.l.length) then 5 else 0:=by unfold nodCheckW; rw [if_pos k1]
 have hc : used.contains x.table = used.any (fun u=>u == x.table):=by
  clear hu hv
  induction used with
  | nil=>rfl
  | cons a l ih =>
   rw [List.contains_cons,List.any_cons,ih,Bool.beq_comm]
 rw [hc] at hv
 have k1' : ¬ (¬ x.kind = 1∧¬ x.kind = 3):=by omega
 by_cases c1 : x.table < 0
 ·rw [if_pos (.inl c1)] at hv
  rcases k1 with k1 | k1 <;> simp [k1,k2,fPrg,cPrg,hv,c1]
 by_cases c2 : (d.tables.l.length : Int) ≤ x.table
 ·rw [if_pos (.inr c2)] at hv
  rcases k1 with k1 | k1 <;> simp [k1,k2,fPrg,cPrg,hv,c1,c2]
 rw [if_neg (by omega)] at hv
 rcases k1 with k1 | k1
 ·simp [k1,k2,fPrg,cPrg,c1,c2]
  refine forX mixed used.length (cnI d x used) (by kernel_rfl) ⟨.zero,_,by rw [k1]; exact Sl.of rfl rfl rfl⟩ ?_
  rintro i ⟨ts,hh,kk⟩ hi ⟨hno,g,rfl,rfl,f,rfl⟩
  by_cases hil : i < used.length
  ·obtain ⟨u,hx1,hx1'⟩:=nth_of hil
   have hw:=wrap64 (x:=(i : Int) + 1) (by omega) (by omega)
   by_cases hq : u = x.table
   ·rw [if_pos (any_hit hx1' (by simpa using hq))] at hv
    simp [hil,hx1,hq,hv]
   ·simp [hil,hx1,hq,hw]
    exact ⟨hno.next hx1' (by simpa using hq),_,Sl.of rfl rfl rfl⟩
  ·obtain rfl : i = used.length:=by omega
   rw [hno.all (by omega),if_neg (by decide)] at hv
   by_cases h1 : 0 < IntKind.i64.wrap ((x.thn.l.length : Int) + x.els.l.length)
   ·rw [if_pos ⟨k1,h1⟩] at hv
    simp [hil,k1,h1,hv]
   ·rw [if_neg (fun h=>h1 h.2)] at hv
    simp [hil,k1,h1,hv]
 ·simp [k1,k2,fPrg,cPrg,c1,c2]
  refine forX mixed used.length (cnI d x used) (by kernel_rfl) ⟨.zero,_,by rw [k1]; exact Sl.of rfl rfl rfl⟩ ?_
  rintro i ⟨ts,hh,kk⟩ hi ⟨hno,g,rfl,rfl,f,rfl⟩
  by_cases hil : i < used.length
  ·obtain ⟨u,hx1,hx1'⟩:=nth_of hil
   have hw:=wrap64 (x:=(i : Int) + 1) (by omega) (by omega)
   by_cases hq : u = x.table
   ·rw [if_pos (any_hit hx1' (by simpa using hq))] at hv
    simp [hil,hx1,hq,hv]
   ·simp [hil,hx1,hq,hw]
    exact ⟨hno.next hx1' (by simpa using hq),_,Sl.of rfl rfl rfl⟩
  ·obtain rfl : i = used.length:=by omega
   rw [hno.all (by omega),if_neg (by decide)] at hv
   rw [if_neg (fun h=>by have:=h.1; omega)] at hv
   simp [hil,k1,hv]
end Go.Proofs.YtejkhflkeoihlaaGreat
namespace Go.Proofs.YtejkhflkeoihlaaGreat
open Go.RowKit Go.Proofs.YtejkhflkeoihlaaGreat.Vf
set_option linter.unusedVariables false
set_option linter.unusedSimpArgs false
set_option maxRecDepth 100000
set_option maxHeartbeats 4000000
inductive NodB : List NodD→Prop
 | mk (l : List NodD) (hl : l.length ≤ maxLen) (h1 : ∀ x ∈ l,NodB x.thn.l) (h2 : ∀ x ∈ l,NodB x.els.l) : NodB l
theorem nodDeepW_eq (x : NodD) : nodDeepW x = max (nodsDeepW x.thn.l) (nodsDeepW x.els.l):=by obtain ⟨k,t,c,a,b⟩:=x; rfl
theorem mostW_nonneg (l : List NodD) : 0 ≤ nodsMostW l:=by
 induction l with
 | nil=>simp [nodsMostW]
 | cons x l ih=>rw [nodsMostW]; omega
theorem mostW_snoc (l : List NodD) (x : NodD) : nodsMostW (l ++ [x]) = max (nodsMostW l) (nodDeepW x):=by
 induction l with
 | nil=>have:=mostW_nonneg [x]; simp [nodsMostW] at *; omega
 | cons y l ih=>rw [List.cons_append,nodsMostW,ih,nodsMostW]; omega
theorem deepW_eq {l : List NodD} (h : l ≠ []) : nodsDeepW l = wr (nodsMostW l + 1):=by
 cases l with
 | nil=>exact absurd rfl h
 | cons x l=>rw [nodsDeepW,nodsMostW]
def neI (l : List NodD) (i : Nat) (s : St) : Prop:=∃ g,Vf.Sl [(3,.f (intF (nodsMostW (l.take i)))),(9,.f (sl (encL fNod l))),(10,.f (intF l.length)),(11,.f (intF i))] 26 g [] s
theorem nest_g (l : List NodD) (h : NodB l) : Gives Tryz.prog 114 [sl (encL fNod l)] (intF (nodsDeepW l)):=by
 induction h with
 | mk l hl h1 h2 ih1 ih2 =>
  refine Gives.of mixed Tryz.func114 rfl rfl rfl (by kernel_rfl) ?_
  by_cases c0 : l.length = 0
  ·have : l = []:=List.eq_nil_of_length_eq_zero c0
   subst this
   simp [nodsDeepW]
  have hne : l ≠ []:=fun h=>c0 (by rw [h]; rfl)
  rw [deepW_eq hne]
  simp [c0,hne]
  refine forX mixed l.length (neI l) (by kernel_rfl) ⟨_,Sl.of rfl rfl rfl⟩ ?_
  rintro i ⟨ts,hh,kk⟩ hi ⟨g,rfl,rfl,f,rfl⟩
  by_cases hlt : i < l.length
  ·obtain ⟨x,hx,hx'⟩:=nth_of hlt
   have hm:=List.mem_of_getElem? hx'
   have hw:=wrap64 (x:=(i : Int) + 1) (by omega) (by unfold maxLen at hl; omega)
   have hn : nodsMostW (l.take (i + 1)) = max (nodsMostW (l.take i)) (max (nodsDeepW x.thn.l) (nodsDeepW x.els.l)):=by
    rw [take_snoc hx',mostW_snoc,nodDeepW_eq]
   simp [hlt,hx,fNod_eq]
   refine call_g (ih1 x hm) ?_
   simp
   refine call_g (ih2 x hm) ?_
   rw [ops_max3 (q:=.i64) (a:=nodsMostW (l.take i)) (b:=nodsDeepW x.thn.l) (c:=nodsDeepW x.els.l) rfl rfl rfl]
   simp [hw]
   rw [← hn]
   exact ⟨_,Sl.of rfl rfl rfl⟩
  ·obtain rfl : i = l.length:=by omega
   simp [hlt,wr]
end Go.Proofs.YtejkhflkeoihlaaGreat
namespace Go.Proofs.YtejkhflkeoihlaaGreat
open Go.RowKit Go.Proofs.YtejkhflkeoihlaaGreat.Vf
set_option linter.unusedVariables false
set_option linter.unusedSimpArgs false
set_option maxRecDepth 100000
set_option maxHeartbeats 4000000
theorem count1_r (x : NodD) (n : Int) (b : Nat) (h : List (List AV)) (k : List (Nat × Nat)) (hb : h[b]? = some [.f (intF n)]) : GivesR Tryz.prog 198 [.f (fNod x),.ref b 0] h k (.f (boolF true)) (h.set b [.f (intF (wr (n + 1)))]) k:=by
 refine GivesR.of mixed Tryz.func198 rfl rfl rfl (by kernel_rfl) ?_
 have hbl:=(List.getElem?_eq_some_iff.1 hb).1
 have hb' : ix (h ++ [[.f (intF x.kind),.f (intF x.table),.f (sl (encL fEx x.cond.l)),.f (sl (encL fNod x.thn.l)),.f (sl (encL fNod x.els.l))]]) b = some [.f (intF n)]:=by
  show (h ++ _)[b]? = _
  rw [List.getElem?_append_left hbl]; exact hb
 rw [fNod_eq]
 simp [hb']
 exact retR_eq rfl (List.set_append_left _ _ hbl) (List.append_nil k).symm (by simp) (Nat.le_refl _) (BelC.set fun z hz=>by simp at hz; subst hz; exact .f _)
section walk
variable {S : Type}
def Vis (Inv : S→List (List AV)→List (Nat × Nat)→Prop) (g : FuncId) (args : List AV) (s s' : S) (q : Bool) : Prop :=
 ∀ h k,Inv s h k→∀ e,∃ h' k',GivesR Tryz.prog g args (h ++ e) k (.f (boolF q)) (h' ++ e) k'∧Inv s' h' k'∧h'.length = h.length∧k.length ≤ k'.length∧BelC h h' k'.length
def runV (V : S→NodD→Bool × S) : S→List NodD→Bool × S
 | s,[]=>(true,s)
 | s,x :: l=>if (V s x).1 then runV V (V s x).2 l else (false,(V s x).2)
theorem runV_append (V : S→NodD→Bool × S) (s : S) (a b : List NodD) : runV V s (a ++ b) = if (runV V s a).1 then runV V (runV V s a).2 b else (false,(runV V s a).2):=by
 induction a generalizing s with
 | nil=>simp [runV]
 | cons x a ih =>
  simp only [List.cons_append,runV]
  split
  ·rw [ih]
  ·simp
def nodC (x : NodD) : List AV:=[.f (intF x.kind),.f (intF x.table),.f (sl (encL fEx x.cond.l)),.f (sl (encL fNod x.thn.l)),.f (sl (encL fNod x.els.l))]
def Reach (f : FuncId) (cs : List AV) (e : List (List AV)) (q : Bool) (hT : List (List AV)) (kT : List (Nat × Nat)) : List NodD→List (List AV)→List (List AV)→List (Nat × Nat)→Prop
 | [],B,h,k=>q = true∧h = hT∧k = kT
 | x :: r,B,h,k=>∃ h1 k1 b1,h1.length = h.length∧GivesR Tryz.prog f (.f (fNod x) :: cs) (h ++ (e ++ (B ++ [nodC x]))) k (.f (boolF b1)) (h1 ++ (e ++ (B ++ [nodC x]))) k1 ∧
  ((b1 = false∧q = false∧h1 = hT∧k1 = kT) ∨ (b1 = true∧∃ h2 k2 b2,h2.length = h1.length∧GivesR Tryz.prog 115 [.f (sl (encL fNod x.thn.l)),.fnr f cs] (h1 ++ (e ++ (B ++ [nodC x]))) k1 (.f (boolF b2)) (h2 ++ (e ++ (B ++ [nodC x]))) k2 ∧
    ((b2 = false∧q = false∧h2 = hT∧k2 = kT) ∨ (b2 = true∧∃ h3 k3 b3,h3.length = h2.length∧GivesR Tryz.prog 115 [.f (sl (encL fNod x.els.l)),.fnr f cs] (h2 ++ (e ++ (B ++ [nodC x]))) k2 (.f (boolF b3)) (h3 ++ (e ++ (B ++ [nodC x]))) k3 ∧
      ((b3 = false∧q = false∧h3 = hT∧k3 = kT) ∨ (b3 = true∧Reach f cs e q hT kT r (B ++ [nodC x]) h3 k3))))))
theorem reach_ex (V : S→NodD→Bool × S) (Inv : S→List (List AV)→List (Nat × Nat)→Prop) (f : FuncId) (cs : List AV) (e : List (List AV)) (hV : ∀ s x,Vis Inv f (.f (fNod x) :: cs) s (V s x).2 (V s x).1) : ∀ (l : List NodD)
  (h1 : ∀ x ∈ l,∀ s,Vis Inv 115 [.f (sl (encL fNod x.thn.l)),.fnr f cs] s (runV V s (nodsPre x.thn.l)).2 (runV V s (nodsPre x.thn.l)).1)
  (h2 : ∀ x ∈ l,∀ s,Vis Inv 115 [.f (sl (encL fNod x.els.l)),.fnr f cs] s (runV V s (nodsPre x.els.l)).2 (runV V s (nodsPre x.els.l)).1)
  (B : List (List AV)) (s : S) (h : List (List AV)) (k : List (Nat × Nat)),Inv s h k→∃ hT kT,Reach f cs e (runV V s (nodsPre l)).1 hT kT l B h k∧Inv (runV V s (nodsPre l)).2 hT kT∧hT.length = h.length∧k.length ≤ kT.length∧BelC h hT kT.length
 | [],h1,h2,B,s,h,k,hi=>⟨h,k,⟨rfl,rfl,rfl⟩,hi,rfl,Nat.le_refl _,.refl⟩
 | x :: l,h1,h2,B,s,h,k,hi=>by
  have en : nodsPre (x :: l) = x :: (nodsPre x.thn.l ++ (nodsPre x.els.l ++ nodsPre l)):=by obtain ⟨a,b,c,d,e⟩:=x; simp [nodsPre,nodPre]; rfl
  rw [en]
  obtain ⟨ha,ka,ga,ia,la,na,ba⟩:=hV s x h k hi (e ++ (B ++ [nodC x]))
  cases va : (V s x).1 with
  | false =>
   have er : runV V s (x :: (nodsPre x.thn.l ++ (nodsPre x.els.l ++ nodsPre l))) = (false,(V s x).2):=by rw [runV,if_neg (by rw [va]; decide)]
   rw [er]
   exact ⟨ha,ka,⟨ha,ka,false,la,by rw [va] at ga; exact ga,.inl ⟨rfl,rfl,rfl,rfl⟩⟩,ia,la,na,ba⟩
  | true =>
  have er : runV V s (x :: (nodsPre x.thn.l ++ (nodsPre x.els.l ++ nodsPre l))) = runV V (V s x).2 (nodsPre x.thn.l ++ (nodsPre x.els.l ++ nodsPre l)):=by rw [runV,if_pos va]
  rw [er,runV_append]
  rw [va] at ga
  generalize (V s x).2 = s1 at *
  obtain ⟨hb,kb,gb,ib,lb,nb,bb⟩:=h1 x (.head _) s1 ha ka ia (e ++ (B ++ [nodC x]))
  cases vb : (runV V s1 (nodsPre x.thn.l)).1 with
  | false =>
   rw [if_neg (by decide)]
   exact ⟨hb,kb,⟨ha,ka,true,la,ga,.inr ⟨rfl,hb,kb,false,lb,by rw [vb] at gb; exact gb,.inl ⟨rfl,rfl,rfl,rfl⟩⟩⟩,ib,lb.trans la,Nat.le_trans na nb,ba.trans bb la nb⟩
  | true =>
  rw [if_pos rfl,runV_append]
  rw [vb] at gb
  generalize (runV V s1 (nodsPre x.thn.l)).2 = s2 at *
  obtain ⟨hc,kc,gc,ic,lc,nc,bc⟩:=h2 x (.head _) s2 hb kb ib (e ++ (B ++ [nodC x]))
  cases vc : (runV V s2 (nodsPre x.els.l)).1 with
  | false =>
   rw [if_neg (by decide)]
   exact ⟨hc,kc,⟨ha,ka,true,la,ga,.inr ⟨rfl,hb,kb,true,lb,gb,.inr ⟨rfl,hc,kc,false,lc,by rw [vc] at gc; exact gc,.inl ⟨rfl,rfl,rfl,rfl⟩⟩⟩⟩,ic,lc.trans (lb.trans la),Nat.le_trans na (Nat.le_trans nb nc),(ba.trans bb la nb).trans bc (lb.trans la) nc⟩
  | true =>
  rw [if_pos rfl]
  rw [vc] at gc
  generalize (runV V s2 (nodsPre x.els.l)).2 = s3 at *
  obtain ⟨hT,kT,rT,iT,lT,nT,bT⟩:=reach_ex V Inv f cs e hV l (fun y hy=>h1 y (.tail _ hy)) (fun y hy=>h2 y (.tail _ hy)) (B ++ [nodC x]) s3 hc kc ic
  exact ⟨hT,kT,⟨ha,ka,true,la,ga,.inr ⟨rfl,hb,kb,true,lb,gb,.inr ⟨rfl,hc,kc,true,lc,gc,.inr ⟨rfl,rT⟩⟩⟩⟩,iT,lT.trans (lc.trans (lb.trans la)),Nat.le_trans na (Nat.le_trans nb (Nat.le_trans nc nT)),((ba.trans bb la nb).trans bc (lb.trans la) nc).trans bT (lc.trans (lb.trans la)) nT⟩
def preI (f : FuncId) (cs : List AV) (e : List (List AV)) (q : Bool) (hT : List (List AV)) (kT : List (Nat × Nat)) (l : List NodD) (i : Nat) (s : St) : Prop:=∃ h k B,h.length = hT.length∧Reach f cs e q hT kT (l.drop i) B h k∧Vf.Sl [(1,.fnr f cs),(7,.f (sl (encL fNod l))),(8,.f (intF l.length)),(9,.f (intF i))] 32 (h ++ (e ++ B)) k s
theorem pre_r (V : S→NodD→Bool × S) (Inv : S→List (List AV)→List (Nat × Nat)→Prop) (f : FuncId) (cs : List AV) (hV : ∀ s x,Vis Inv f (.f (fNod x) :: cs) s (V s x).2 (V s x).1) (l : List NodD) (hB : NodB l) :
  ∀ s,Vis Inv 115 [.f (sl (encL fNod l)),.fnr f cs] s (runV V s (nodsPre l)).2 (runV V s (nodsPre l)).1:=by
 induction hB with
 | mk l hl h1 h2 ih1 ih2 =>
  intro s h k hi e
  obtain ⟨hT,kT,hr,hi',hlen,hk,hbel⟩:=reach_ex V Inv f cs e hV l ih1 ih2 [] s h k hi
  refine ⟨hT,kT,?_,hi',hlen,hk,hbel⟩
  generalize (runV V s (nodsPre l)).1 = q at hr
  clear hi hi' ih1 ih2 hV
  refine GivesR.of mixed Tryz.func115 rfl rfl rfl (by kernel_rfl) ?_
  simp
  refine forX mixed l.length (preI f cs e q hT kT l) (by kernel_rfl) ⟨h,k,[],hlen.symm,hr,by rw [List.append_nil]; exact Sl.of rfl rfl rfl⟩ ?_
  rintro i ⟨ts,hh,kk⟩ hi ⟨h,k,B,hln,hr,rfl,rfl,g,rfl⟩
  by_cases hlt : i < l.length
  ·obtain ⟨x,hx,hx'⟩:=nth_of hlt
   have hw:=wrap64 (x:=(i : Int) + 1) (by omega) (by unfold maxLen at hl; omega)
   have hdr : l.drop i = x :: l.drop (i + 1):=by
    obtain ⟨hj,rfl⟩:=List.getElem?_eq_some_iff.1 hx'
    exact List.drop_eq_getElem_cons hj
   rw [hdr] at hr
   obtain ⟨ha,ka,b1,la,g1,hr⟩:=hr
   rw [fNod_eq] at g1
   simp [hlt,hx,fNod_eq]
   refine ⟨_,g1.agg.x,?_⟩
   rintro _ _ _ ⟨rfl,rfl,rfl⟩
   rcases hr with ⟨rfl,rfl,rfl,rfl⟩ | ⟨rfl,hb,kb,b2,lb,g2,hr⟩
   ·simp
    exact retR_eq rfl (List.append_assoc _ _ _).symm (List.append_nil _).symm (by simp [hlen]) hk (hbel.app hlen)
   simp [← la,nodC]
   refine call_r g2 ?_
   rcases hr with ⟨rfl,rfl,rfl,rfl⟩ | ⟨rfl,hc,kc,b3,lc,g3,hr⟩
   ·simp
    exact retR_eq rfl (List.append_assoc _ _ _).symm (List.append_nil _).symm (by simp [hlen]) hk (hbel.app hlen)
   simp [← lb,nodC]
   refine call_r g3 ?_
   rcases hr with ⟨rfl,rfl,rfl,rfl⟩ | ⟨rfl,hr⟩
   ·simp
    exact retR_eq rfl (List.append_assoc _ _ _).symm (List.append_nil _).symm (by simp [hlen]) hk (hbel.app hlen)
   simp [hw,nodC]
   exact ⟨hc,kc,B ++ [nodC x],by rw [lc,lb,la,hln],hr,Sl.of rfl rfl rfl⟩
  ·obtain rfl : i = l.length:=by omega
   rw [List.drop_length] at hr
   obtain ⟨rfl,rfl,rfl⟩:=hr
   simp
   exact retR_eq rfl (List.append_assoc _ _ _).symm (List.append_nil _).symm (by simp [hlen]) hk (hbel.app hlen)
end walk
end Go.Proofs.YtejkhflkeoihlaaGreat
namespace Go.Proofs.YtejkhflkeoihlaaGreat
open Go.RowKit Go.Proofs.YtejkhflkeoihlaaGreat.Vf
set_option linter.unusedVariables false
set_option linter.unusedSimpArgs false
set_option maxRecDepth 100000
set_option maxHeartbeats 4000000
def cntV (s : Int) (x : NodD) : Bool × Int:=(true,wr (s + 1))
theorem cnt_run (l : List NodD) : ∀ s,runV cntV (wr s) l = (true,wr (s + l.length)):=by
 induction l with
 | nil=>intro s; simp [runV]
 | cons x l ih =>
  intro s
  rw [runV,if_pos (by rfl)]
  show runV cntV (wr (wr s + 1)) l = _
  rw [wr_add,ih]
  simp only [List.length_cons]
  congr 2
  omega
def cntI (s : Int) (h : List (List AV)) (k : List (Nat × Nat)) : Prop:=h = [[.f (intF s)]]∧k = []
theorem cnt_vis (s : Int) (x : NodD) : Vis cntI 198 [.f (fNod x),.ref 0 0] s (cntV s x).2 (cntV s x).1:=by
 rintro h k ⟨rfl,rfl⟩ e
 exact ⟨_,_,count1_r x s 0 ([[.f (intF s)]] ++ e) [] rfl,⟨rfl,rfl⟩,rfl,Nat.le_refl _,BelC.set (b:=0) (fun z hz=>by simp at hz; subst hz; exact .f _)⟩
theorem count_g (l : List NodD) (hB : NodB l) : Gives Tryz.prog 113 [sl (encL fNod l)] (intF (wr (nodsPre l).length)):=by
 refine Gives.of mixed Tryz.func113 rfl rfl rfl (by kernel_rfl) ?_
 simp
 obtain ⟨h',k',hg,⟨rfl,rfl⟩,-⟩:=pre_r cntV cntI 198 [.ref 0 0] cnt_vis l hB 0 [[.f (intF 0)]] [] ⟨rfl,rfl⟩ []
 have hc : runV cntV 0 (nodsPre l) = (true,wr (nodsPre l).length):=by
  have:=cnt_run (nodsPre l) 0
  rw [show wr 0 = 0 from rfl,Int.zero_add] at this
  exact this
 rw [hc] at hg
 refine call_r hg ?_
 simp
end Go.Proofs.YtejkhflkeoihlaaGreat
namespace Go.Proofs.YtejkhflkeoihlaaGreat
open Go.RowKit Go.Proofs.YtejkhflkeoihlaaGreat.Vf
set_option linter.unusedVariables false
set_option linter.unusedSimpArgs false
set_option maxRecDepth 100000
set_option maxHeartbeats 4000000
theorem nodup_snoc {l : List Int} {t : Int} (h : l.Nodup) (ht : t ∉ l) : (l ++ [t]).Nodup:=by
 rw [List.nodup_append]
 exact ⟨h,by simp,fun x hx y hy=>by
  obtain rfl : y = t:=by simpa using hy
  exact fun e=>ht (e ▸ hx)⟩
theorem nodup_range : ∀ (n : Nat) (l : List Int),l.Nodup→(∀ x ∈ l,0 ≤ x∧x < n)→l.length ≤ n:=by
 intro n
 induction n with
 | zero =>
  intro l _ h
  cases l with
  | nil=>simp
  | cons x l=>have:=h x (List.mem_cons_self ..); omega
 | succ n ih =>
  intro l hd h
  have h1:=ih (l.filter (fun x=>!decide (x = (n : Int)))) (hd.filter _) (fun x hx=>by
   have hx2:=List.mem_filter.1 hx
   have:=h x hx2.1
   have hne : ¬ x = (n : Int):=by simpa using hx2.2
   omega)
  have h2 : ∀ (l : List Int),l.Nodup→l.length ≤ (l.filter (fun x=>!decide (x = (n : Int)))).length + 1:=by
   intro l
   induction l with
   | nil=>intro _; simp
   | cons y l ihl =>
    intro hd
    rw [List.nodup_cons] at hd
    rw [List.filter_cons]
    split
    ·simp only [List.length_cons]; have:=ihl hd.2; omega
    ·rename_i q
     have hy : y = n:=by simpa using q
     have : l.filter (fun x=>!decide (x = (n : Int))) = l:=List.filter_eq_self.2 fun x hx=>by
      simp only [Bool.not_eq_true',decide_eq_false_iff_not]
      intro e
      exact hd.1 (by rw [hy,← e]; exact hx)
     rw [this]
     simp
  have:=h2 l hd
  omega
theorem nodeW (d : PrgD) (x : NodD) (used : List Int) (hu : used.length < 2^62) {c : Cap} : Gives Tryz.prog 117 ([fPrg d,fNod x,.sl (encL intF used) c].map unc) (intF (nodCheckW d x used)):=by
 have:=node_g d x used hu
 rw [fNod_eq] at this ⊢
 exact this
structure CtlS where
 used : List Int
 e : Int
 n : Int
def ctlV (d : PrgD) (s : CtlS) (x : NodD) : Bool × CtlS :=
 if nodCheckW d x s.used ≠ 0 then (false,⟨s.used,nodCheckW d x s.used,s.n⟩) else (true,⟨if nodApplies x then s.used ++ [x.table] else s.used,0,wr (s.n + 1)⟩)
structure CtlI (d : PrgD) (s : CtlS) (h : List (List AV)) (k : List (Nat × Nat)) : Prop where
 nd : s.used.Nodup
 rg : ∀ u ∈ s.used,0 ≤ u∧u < d.tables.l.length
 mem : ∃ u tk,OwnT k (encL intF s.used) 1 u tk∧h = [aPrg d,[.f (intF s.e)],[.f (intF s.n)],[u]]
theorem two_sets {a b c u : List AV} {x y : FV} (r : List (List AV)) (n : Nat) (_ : True:=trivial) : BelC (a :: b :: c :: u :: r) (a :: [.f x] :: [.f y] :: u :: r) n :=
 (BelC.set (h:=a :: b :: c :: u :: r) (b:=1) (cs:=[.f x]) fun z hz=>by simp at hz; subst hz; exact .f _).trans (BelC.set (h:=a :: [.f x] :: c :: u :: r) (b:=2) (cs:=[.f y]) fun z hz=>by simp at hz; subst hz; exact .f _) rfl (Nat.le_refl _)
theorem three_sets {a b c u : List AV} {x y : FV} {l : List FV} {t : Nat} (r : List (List AV)) (n : Nat) (ht : t < n) : BelC (a :: b :: c :: u :: r) (a :: [.f x] :: [.f y] :: [.own l t] :: r) n :=
 (two_sets r n).trans (BelC.set (h:=a :: [.f x] :: [.f y] :: u :: r) (b:=3) (cs:=[.own l t]) fun z hz=>by simp at hz; subst hz; exact .own _ _ ht) rfl (Nat.le_refl _)
theorem ctl_vis (d : PrgD) (hd : d.tables.l.length ≤ 100000) (s : CtlS) (x : NodD) : Vis (CtlI d) 116 [.f (fNod x),.ref 0 0,.ref 3 0,.ref 1 0,.ref 2 0] s (ctlV d s x).2 (ctlV d s x).1:=by
 obtain ⟨used,e,n⟩:=s
 rintro h k ⟨hnd,hrg,u,tk,ho,rfl⟩ ext
 simp only at hnd hrg ho
 have hul : used.length ≤ 100000:=Nat.le_trans (nodup_range _ _ hnd hrg) hd
 by_cases hc : nodCheckW d x used = 0
 case neg =>
  have hV : ctlV d ⟨used,e,n⟩ x = (false,⟨used,nodCheckW d x used,n⟩):=by unfold ctlV; rw [if_pos hc]
  rw [hV]
  refine ⟨[aPrg d,[.f (intF (nodCheckW d x used))],[.f (intF n)],[u]],k,?_,⟨hnd,hrg,u,tk,ho,rfl⟩,rfl,Nat.le_refl _,?_⟩
  ·refine GivesR.of mixed Tryz.func116 rfl rfl rfl (by kernel_rfl) ?_
   rw [fNod_eq]
   obtain ⟨c,hcc⟩:=ownF_is (encL intF used)
   have hfz:=ho.fzA
   rw [hcc] at hfz
   unfold Vf.fzA at hfz
   simp [aPrg,hfz]
   refine call_g (@Gives.weak _ _ [fPrg d,.agg [intF x.kind,intF x.table,sl (encL fEx x.cond.l),sl (encL fNod x.thn.l),sl (encL fNod x.els.l)],.sl (encL intF used) c] _ (by rw [← fNod_eq]; exact nodeW d x used (by omega))) ?_
   simp [hc]
   exact retR_eq rfl (by simp; rfl) (List.append_nil k).symm (by simp) (Nat.le_refl _) (BelC.set (b:=1) fun z hz=>by simp at hz; subst hz; exact .f _)
  ·exact BelC.set (b:=1) fun z hz=>by simp at hz; subst hz; exact .f _
 have hV : ctlV d ⟨used,e,n⟩ x = (true,⟨if nodApplies x then used ++ [x.table] else used,0,wr (n + 1)⟩):=by unfold ctlV; rw [if_neg (by simpa using hc)]
 rw [hV]
 cases ha : nodApplies x with
 | false =>
  refine ⟨[aPrg d,[.f (intF 0)],[.f (intF (wr (n + 1)))],[u]],k,?_,⟨hnd,hrg,u,tk,ho,rfl⟩,rfl,Nat.le_refl _,?_⟩
  ·refine GivesR.of mixed Tryz.func116 rfl rfl rfl (by kernel_rfl) ?_
   rw [fNod_eq]
   obtain ⟨c,hcc⟩:=ownF_is (encL intF used)
   have hfz:=ho.fzA
   rw [hcc] at hfz
   unfold Vf.fzA at hfz
   simp [aPrg,hfz]
   refine call_g (@Gives.weak _ _ [fPrg d,.agg [intF x.kind,intF x.table,sl (encL fEx x.cond.l),sl (encL fNod x.thn.l),sl (encL fNod x.els.l)],.sl (encL intF used) c] _ (by rw [← fNod_eq]; exact nodeW d x used (by omega))) ?_
   simp [hc]
   refine call_g (by rw [← fNod_eq]; exact applies_g x) ?_
   simp [ha]
   exact retR_eq rfl (by simp [wr]; rfl) (List.append_nil k).symm (by simp) (Nat.le_refl _) (two_sets _ _)
  ·exact two_sets _ _
 | true =>
  have hnot : x.table ∉ used∧0 ≤ x.table∧x.table < d.tables.l.length:=by
   have hk : x.kind = 1 ∨ x.kind = 3:=by simpa [nodApplies] using ha
   unfold nodCheckW at hc
   rw [if_pos hk] at hc
   split at hc
   ·cases hc
   ·rename_i h1
    split at hc
    ·cases hc
    ·rename_i h2
     exact ⟨fun hm=>h2 (by simpa using hm),by omega,by omega⟩
  obtain ⟨t',k',e1,ho',hkl,-⟩:=append_own ty29 ty3 (by simp) ho (y:=.f (.sl [intF x.table] .full)) rfl (by simp) (by simp) (by simp; omega) (by simp; omega)
  have htl : t' < k'.length:=ho'.lt (List.append_ne_nil_of_right_ne_nil _ (List.cons_ne_nil _ _))
  refine ⟨[aPrg d,[.f (intF 0)],[.f (intF (wr (n + 1)))],[.own (encL intF used ++ [intF x.table]) t']],k',?_,⟨nodup_snoc hnd hnot.1,?_,_,t',by rw [if_pos rfl,← encL_snoc]; exact ho',rfl⟩,rfl,hkl,?_⟩
  ·refine GivesR.of mixed Tryz.func116 rfl rfl rfl (by kernel_rfl) ?_
   rw [fNod_eq]
   obtain ⟨c,hcc⟩:=ownF_is (encL intF used)
   have hfz:=ho.fzA
   rw [hcc] at hfz
   unfold Vf.fzA at hfz
   simp [aPrg,hfz]
   refine call_g (@Gives.weak _ _ [fPrg d,.agg [intF x.kind,intF x.table,sl (encL fEx x.cond.l),sl (encL fNod x.thn.l),sl (encL fNod x.els.l)],.sl (encL intF used) c] _ (by rw [← fNod_eq]; exact nodeW d x used (by omega))) ?_
   simp [hc]
   refine call_g (by rw [← fNod_eq]; exact applies_g x) ?_
   simp [ha,-opAppend]
   rw [e1]
   simp
   exact retR_eq rfl (by simp [wr]; rfl) (List.append_nil k').symm (by simp) hkl (three_sets _ _ htl)
  ·intro u hu
   simp at hu
   rcases hu with hu | rfl
   ·exact hrg u hu
   ·exact hnot.2
  ·exact three_sets _ _ htl
end Go.Proofs.YtejkhflkeoihlaaGreat
namespace Go.Proofs.YtejkhflkeoihlaaGreat
open Go.RowKit Go.Proofs.YtejkhflkeoihlaaGreat.Vf
set_option linter.unusedVariables false
set_option linter.unusedSimpArgs false
set_option maxRecDepth 100000
set_option maxHeartbeats 4000000
theorem ctl_run (d : PrgD) (l : List NodD) : ∀ (used : List Int) (n : Nat),(runV (ctlV d) ⟨used,0,wr n⟩ l).2.e = (ctlGoW d l used n).2∧((ctlGoW d l used n).2 ≠ 0→(runV (ctlV d) ⟨used,0,wr n⟩ l).2.n = wr (ctlGoW d l used n).1):=by
 induction l with
 | nil=>intro used n; exact ⟨rfl,fun h=>absurd rfl h⟩
 | cons x l ih =>
  intro used n
  rw [runV,ctlGoW]
  by_cases hc : nodCheckW d x used = 0
  ·have hV : ctlV d ⟨used,0,wr n⟩ x = (true,⟨if nodApplies x then used ++ [x.table] else used,0,wr (wr n + 1)⟩):=by unfold ctlV; rw [if_neg (by simpa using hc)]
   have e1 : ∀ a b : Nat × Int,(if nodCheckW d x used ≠ 0 then a else b) = b:=fun a b=>if_neg (fun h=>h hc)
   rw [hV,if_pos (by rfl),e1]
   have:=ih (if nodApplies x then used ++ [x.table] else used) (n + 1)
   rw [show ((n + 1 : Nat) : Int) = (n : Int) + 1 by omega,← wr_add] at this
   exact this
  ·have hV : ctlV d ⟨used,0,wr n⟩ x = (false,⟨used,nodCheckW d x used,wr n⟩):=by unfold ctlV; rw [if_pos hc]
   rw [hV,if_neg (fun h=>by cases h),if_pos hc]
   exact ⟨rfl,fun _=>rfl⟩
theorem ctl_g (d : PrgD) (hd : d.tables.l.length ≤ 100000) (hB : NodB d.control.l) : Gives Tryz.prog 50 [fPrg d] (two (ctlCheckW d)):=by
 refine Gives.of mixed Tryz.func50 rfl rfl rfl (by kernel_rfl) ?_
 simp [fPrg,cPrg]
 refine call_g (count_g d.control.l hB) ?_
 by_cases c1 : 24 < wr (nodsPre d.control.l).length
 ·have hv : ctlCheckW d = (-1,12):=by unfold ctlCheckW; rw [if_pos c1]
  simp [c1,hv]
 simp [c1]
 refine call_g (nest_g d.control.l hB) ?_
 by_cases c2 : 6 < nodsDeepW d.control.l
 ·have hv : ctlCheckW d = (-1,14):=by unfold ctlCheckW; rw [if_neg c1,if_pos c2]
  simp [c2,hv]
 have hv : ctlCheckW d = if (ctlGoW d (nodsPre d.control.l) [] 0).2 ≠ 0 then (wr (ctlGoW d (nodsPre d.control.l) [] 0).1,(ctlGoW d (nodsPre d.control.l) [] 0).2) else (0,0):=by unfold ctlCheckW; rw [if_neg c1,if_neg c2]
 rw [hv]
 simp [c2]
 obtain ⟨h',k',hg,⟨hnd,hrg,u,tk,ho,rfl⟩,-⟩:=pre_r (ctlV d) (CtlI d) 116 [.ref 0 0,.ref 3 0,.ref 1 0,.ref 2 0] (ctl_vis d hd) d.control.l hB ⟨[],0,wr 0⟩ [aPrg d,[.f (intF 0)],[.f (intF (wr 0))],[.f (.sl [] .nil)]] [] ⟨List.nodup_nil,by simp,_,0,.nil,rfl⟩ []
 have hr:=ctl_run d (nodsPre d.control.l) [] 0
 generalize runV (ctlV d) ⟨[],0,wr 0⟩ (nodsPre d.control.l) = r at *
 generalize ctlGoW d (nodsPre d.control.l) [] 0 = q at *
 have hr1 : r.2.e = q.2:=hr.1
 have hr2 : q.2 ≠ 0→r.2.n = wr q.1:=hr.2
 rw [hr1] at hg
 refine call_r hg ?_
 by_cases h0 : q.2 = 0
 ·simp [h0]
 ·rw [hr2 h0]
  simp [h0]
end Go.Proofs.YtejkhflkeoihlaaGreat
