/- Texts of the proof: ES3. -/
import Derived.Test.YtafenffmgpcjcaaGreatES2
import Derived.Test.YtafenffmgpcjcaaGreatES0
namespace Go.Proofs.YtafenffmgpcjcaaGreat
open Go.RowKit Go.Proofs.YtafenffmgpcjcaaGreat.Vf
set_option linter.unusedVariables false
set_option linter.unusedSimpArgs false
set_option maxRecDepth 100000
set_option maxHeartbeats 4000000
theorem isum_append (l m : List Int) : isum (l ++ m) = isum l + isum m:=by
 induction l with
 | nil=>simp [isum]
 | cons a l ih=>simp only [List.cons_append,isum,ih]; omega
theorem widthOf_bd (d : PrgD) (h f : Int) : 0 ≤ widthOf d h f∧widthOf d h f ≤ 32:=by
 rw [widthOf_eq]
 split
 ·omega
 ·rename_i h1
  have:=(badW_not _).1 (by simpa using h1)
  omega
theorem keyBits_bd (d : PrgD) (l : List KeyD) : 0 ≤ keyBits d l∧keyBits d l ≤ 32 * l.length:=by
 unfold keyBits
 induction l with
 | nil=>simp [isum]
 | cons a l ih=>have:=widthOf_bd d a.h a.f; simp only [List.map_cons,isum,List.length_cons]; omega
theorem take_snoc {α : Type} {l : List α} {k : Nat} {x : α} (h : l[k]? = some x) : l.take (k + 1) = l.take k ++ [x]:=by
 rw [List.take_add_one,h]; rfl
theorem keyBits_next {d : PrgD} {l : List KeyD} {k : Nat} {x : KeyD} (h : l[k]? = some x) : keyBits d (l.take (k + 1)) = keyBits d (l.take k) + widthOf d x.h x.f:=by
 rw [take_snoc h]; unfold keyBits; rw [List.map_append,isum_append]; simp [isum]
theorem keyLpm_next {l : List KeyD} {k : Nat} {x : KeyD} (h : l[k]? = some x) : keyLpm (l.take (k + 1)) = keyLpm (l.take k) + if x.kind = 2 then 1 else 0:=by
 rw [take_snoc h]; unfold keyLpm; rw [List.countP_append]; simp [List.countP_cons]
theorem keyLpm_le (l : List KeyD) : keyLpm l ≤ l.length:=List.countP_le_length
def ckI (d : PrgD) (t : TblD) (i : Nat) (s : St) : Prop:=noneT (fun i=>(keyScan d t.keys.l i).isSome) (List.range t.keys.l.length) i∧∃ g,Vf.Sl [(2,.ref 0 0),(6,.f (intF (keyLpm (t.keys.l.take i)))),(7,.f (intF (keyBits d (t.keys.l.take i)))),(12,.f (sl (encL fKey t.keys.l))),(13,.f (intF t.keys.l.length)),(14,.f (intF i))] 44 (aPrg d :: g) [] s
theorem keys_g (d : PrgD) (t : TblD) (hl : t.keys.l.length < 100000) : Gives Tryz.prog 149 [fPrg d,fTbl t] (two (keysCheck d t.keys.l)):=by
 refine Gives.of mixed Tryz.func149 rfl rfl rfl (by kernel_rfl) ?_
 simp [fPrg,cPrg]
 refine forX mixed t.keys.l.length (ckI d t) (by kernel_rfl) ⟨.zero,_,Sl.of rfl rfl rfl⟩ ?_
 rintro i ⟨ts,hh,kk⟩ hi ⟨hno,g,rfl,rfl,f,rfl⟩
 have hkc : keysCheck d t.keys.l = match scan t.keys.l.length (keyScan d t.keys.l) with | some e=>e | none=>if 1 < keyLpm t.keys.l then (-2,7) else if 64 < keyBits d t.keys.l then (-2,10) else (0,0):=rfl
 by_cases hlt : i < t.keys.l.length
 ·obtain ⟨x,hx,hx'⟩:=nth_of hlt
  have hw:=wrap64 (x:=(i : Int) + 1) (by omega) (by omega)
  have hlm:=keyLpm_le (t.keys.l.take i)
  have hbb:=keyBits_bd d (t.keys.l.take i)
  have hti : (t.keys.l.take i).length = i:=by rw [List.length_take]; omega
  have hwb:=widthOf_bd d x.h x.f
  have hwl:=wrap64 (x:=((keyLpm (t.keys.l.take i) : Nat) : Int) + 1) (by omega) (by omega)
  have hwk:=wrap64 (x:=keyBits d (t.keys.l.take i) + widthOf d x.h x.f) (by omega) (by omega)
  have hf : keyScan d t.keys.l i = if widthOf d x.h x.f = 0 then some ((i : Int),8) else if 1 ≤ x.kind∧x.kind ≤ 3 then none else some ((i : Int),11):=by simp only [keyScan,hx']
  have out : ∀ e,keyScan d t.keys.l i = some e→keysCheck d t.keys.l = e:=fun e he=>by rw [hkc,scan_at hno hlt he]
  simp [hlt,hx,aPrg]
  refine call_g (envWidth_g d x.h x.f) ?_
  by_cases h1 : widthOf d x.h x.f = 0
  ·simp [h1,out _ (hf.trans (if_pos h1))]
  rw [if_neg h1] at hf
  have hb':=keyBits_next (d:=d) hx'
  have hl':=keyLpm_next hx'
  by_cases k2 : x.kind = 2
  ·rw [if_pos k2] at hl'
   simp [h1,k2,hw,hwl,hwk]
   exact ⟨hno.next (range_at hlt) (by rw [hf,if_pos (by omega)]; rfl),_,by rw [hb',hl']; exact Sl.of rfl rfl rfl⟩
  rw [if_neg k2] at hl'
  by_cases k1 : x.kind = 1
  ·simp [h1,k1,hw,hwl,hwk]
   exact ⟨hno.next (range_at hlt) (by rw [hf,if_pos (by omega)]; rfl),_,by rw [hb',hl']; exact Sl.of rfl rfl rfl⟩
  by_cases k3 : x.kind = 3
  ·simp [h1,k3,hw,hwl,hwk]
   exact ⟨hno.next (range_at hlt) (by rw [hf,if_pos (by omega)]; rfl),_,by rw [hb',hl']; exact Sl.of rfl rfl rfl⟩
  simp [h1,k1,k2,k3,out _ (hf.trans (if_neg (by omega)))]
 ·obtain rfl : i = t.keys.l.length:=by omega
  rw [hkc,scan_of hno]
  by_cases h1 : 1 < keyLpm t.keys.l
  ·have h1' : 1 < (keyLpm t.keys.l : Int):=by omega
   simp [h1,h1']
  have h1' : ¬ 1 < (keyLpm t.keys.l : Int):=by omega
  by_cases h2 : 64 < keyBits d t.keys.l
  ·simp [h1,h1',h2]
  ·simp [h1,h1',h2]
theorem first_of {α : Type} {p : α→Bool} {l : List α} (h : l.any p = true) : ∃ k : Nat,∃ x,l[k]? = some x∧p x = true∧noneT p l k:=by
 induction l with
 | nil=>simp at h
 | cons a l ih =>
  cases ha : p a with
  | true=>exact ⟨0,a,rfl,ha,.zero⟩
  | false =>
   rw [List.any_cons,ha,Bool.false_or] at h
   obtain ⟨k,x,h1,h2,h3⟩:=ih h
   refine ⟨k + 1,x,by simpa using h1,h2,fun j y hj hy=>?_⟩
   cases j with
   | zero=>simp at hy; rw [← hy]; exact ha
   | succ j=>exact h3 j y (by omega) (by simpa using hy)
theorem idxInt_g (l : List Int) (c : Cap) (v : Int) (hl : l.length < 2^62) : ∃ i : Int,(decide (0 ≤ i) = l.contains v)∧Gives Tryz.prog 210 [.sl (encL intF l) c,intF v] (intF i):=by
 have hc : l.contains v = l.any (fun x=>v == x):=by
  induction l with
  | nil=>rfl
  | cons a l ih=>rw [List.contains_cons,List.any_cons,ih (by simp at hl; omega)]
 rw [hc]
 cases h : l.any (fun x=>v == x) with
 | false =>
  refine ⟨-1,rfl,Gives.of mixed Tryz.func210 rfl rfl rfl (by kernel_rfl) ?_⟩
  simp
  refine forX mixed l.length (fun k s=>Vf.Sl [(0,.f (.sl (encL intF l) c)),(1,.f (intF v)),(7,.f (intF l.length)),(8,.f (intF k))] 19 [] [] s) (by kernel_rfl) (Sl.of rfl rfl rfl) ?_
  rintro k ⟨t,hh,kk⟩ hk ⟨rfl,rfl,f,rfl⟩
  by_cases hlt : k < l.length
  ·obtain ⟨x,hx,hx'⟩:=nth_of hlt
   have hw:=wrap64 (x:=(k : Int) + 1) (by omega) (by omega)
   have hq : ¬ v = x:=by
    have:=List.any_eq_false.1 h x (List.mem_of_getElem? hx')
    simpa using this
   simp [hlt,hx,hq,hw]
   exact Sl.of rfl rfl rfl
  ·obtain rfl : k = l.length:=by omega
   simp
 | true =>
  obtain ⟨m,z,hm,hz,hno⟩:=first_of h
  have hml:=(List.getElem?_eq_some_iff.1 hm).1
  refine ⟨m,by simp,Gives.of mixed Tryz.func210 rfl rfl rfl (by kernel_rfl) ?_⟩
  simp
  refine forX mixed m (fun k s=>Vf.Sl [(0,.f (.sl (encL intF l) c)),(1,.f (intF v)),(7,.f (intF l.length)),(8,.f (intF k))] 19 [] [] s) (by kernel_rfl) (Sl.of rfl rfl rfl) ?_
  rintro k ⟨t,hh,kk⟩ hk ⟨rfl,rfl,f,rfl⟩
  have hlt : k < l.length:=by omega
  obtain ⟨x,hx,hx'⟩:=nth_of hlt
  have hw:=wrap64 (x:=(k : Int) + 1) (by omega) (by omega)
  by_cases hkm : k < m
  ·have hq : ¬ v = x:=by simpa using hno k x hkm hx'
   simp [hlt,hx,hq,hw]
   exact ⟨hkm,Sl.of rfl rfl rfl⟩
  ·obtain rfl : k = m:=by omega
   rw [hm] at hx'
   obtain rfl:=Option.some.inj hx'
   have hz' : v = z:=by simpa using hz
   simp [hlt,hx,hz']
theorem hasInt_g (l : List Int) (c : Cap) (v : Int) (hl : l.length < 2^62) : Gives Tryz.prog 158 [.sl (encL intF l) c,intF v] (boolF (l.contains v)):=by
 refine Gives.of mixed Tryz.func158 rfl rfl rfl (by kernel_rfl) ?_
 simp
 obtain ⟨i,hi,hg⟩:=idxInt_g l c v hl
 refine call_g hg ?_
 simp [hi]
def dpI (d : PrgD) (i : Nat) (s : St) : Prop:=noneT (fun i=>(depScan d i).isSome) (List.range d.dep.l.length) i∧∃ g,Vf.Sl [(1,.ref 0 0),(11,.f (sl (encL intF d.dep.l))),(12,.f (intF d.dep.l.length)),(13,.f (intF i))] 38 (aPrg d :: g) [] s
theorem dep_g (d : PrgD) : Gives Tryz.prog 108 [fPrg d] (two (depCheck d)):=by
 refine Gives.of mixed Tryz.func108 rfl rfl rfl (by kernel_rfl) ?_
 by_cases c1 : 8 < d.dep.l.length
 ·have c1' : 8 < (d.dep.l.length : Int):=by omega
  simp [c1,c1',fPrg,cPrg,depCheck]
 have c1' : ¬ 8 < (d.dep.l.length : Int):=by omega
 have hv : depCheck d = (scan d.dep.l.length (depScan d)).getD (0,0):=by unfold depCheck; rw [if_neg c1]
 rw [hv]
 simp [c1,c1',fPrg,cPrg]
 refine forX mixed d.dep.l.length (dpI d) (by kernel_rfl) ⟨.zero,_,Sl.of rfl rfl rfl⟩ ?_
 rintro i ⟨ts,hh,kk⟩ hi ⟨hno,g,rfl,rfl,f,rfl⟩
 by_cases hlt : i < d.dep.l.length
 ·obtain ⟨x,hx,hx'⟩:=nth_of hlt
  have hw:=wrap64 (x:=(i : Int) + 1) (by omega) (by omega)
  have hf : depScan d i = if x < 0 ∨ (d.headers.l.length : Int) ≤ x then some ((i : Int),8) else if (d.dep.l.take i).contains x then some ((i : Int),7) else none:=by simp only [depScan,hx']
  have out : ∀ e,depScan d i = some e→scan d.dep.l.length (depScan d) = some e:=fun e he=>scan_at hno hlt he
  by_cases c2 : x < 0
  ·simp [hlt,hx,c2,aPrg,out _ (hf.trans (if_pos (.inl c2)))]
  by_cases c3 : (d.headers.l.length : Int) ≤ x
  ·simp [hlt,hx,c2,c3,aPrg,out _ (hf.trans (if_pos (.inr c3)))]
  rw [if_neg (by omega)] at hf
  simp [hlt,hx,c2,c3,aPrg]
  rw [sliceF (enc:=intF) (l:=d.dep.l) (c:=.un) (i:=i) ty29 ty3 (by simp) (fun _=>rfl) (Nat.le_of_lt hlt)]
  simp
  refine call_g (hasInt_g (d.dep.l.take i) .un x (by rw [List.length_take]; omega)) ?_
  cases he : (d.dep.l.take i).contains x with
  | true=>simp [out _ (hf.trans (if_pos he))]
  | false =>
   simp [hw]
   exact ⟨hno.next (range_at hlt) (by rw [hf,if_neg (by rw [he]; decide)]; rfl),_,Sl.of rfl rfl rfl⟩
 ·obtain rfl : i = d.dep.l.length:=by omega
  simp [hlt,scan_of hno]
theorem leads_g (d : PrgD) (st nx : Int) : Gives Tryz.prog 208 [fPrg d,intF st,intF nx] (boolF (leadsD d st nx)):=by
 refine Gives.of mixed Tryz.func208 rfl rfl rfl (by kernel_rfl) ?_
 by_cases c1 : nx = -1
 ·simp [c1,fPrg,cPrg,leadsD]
 by_cases c2 : nx = -2
 ·simp [c1,c2,fPrg,cPrg,leadsD]
 by_cases c3 : st < nx
 ·simp [c1,c2,c3,fPrg,cPrg,leadsD]
 ·simp [c1,c2,c3,fPrg,cPrg,leadsD]
theorem case_g (d : PrgD) (st : Nat) (s : StaD) (c : CaseD) (hs : d.states.l[st]? = some s) : Gives Tryz.prog 207 [fPrg d,intF st,fCase c] (intF (caseCheck d st s c)):=by
 refine Gives.of mixed Tryz.func207 rfl rfl rfl (by kernel_rfl) ?_
 have hlt:=(List.getElem?_eq_some_iff.1 hs).1
 have hx : nth d.states.l st = some s:=hs
 simp [hlt,hx,fPrg,cPrg]
 refine call_g (envWidth_g d s.onh s.onf) ?_
 have hv : caseCheck d st s c = if (!fitsW c.value (widthOf d s.onh s.onf)) || !fitsW c.mask (widthOf d s.onh s.onf) then 9
   else if andNotU c.value c.mask ≠ 0 then 5 else if !leadsD d st c.next then 14 else 0:=rfl
 rw [hv]
 generalize widthOf d s.onh s.onf = W
 simp
 refine call_g (fits_g c.value W) ?_
 cases h1 : fitsW c.value W with
 | false=>simp
 | true =>
 simp
 refine call_g (fits_g c.mask W) ?_
 cases h2 : fitsW c.mask W with
 | false=>simp
 | true =>
 by_cases h3 : andNotU c.value c.mask = 0
 case neg =>
  have h3' : ¬ notI .u32 c.value c.mask = 0:=h3
  simp [h3,h3']
 have h3' : notI .u32 c.value c.mask = 0:=h3
 simp [h3,h3']
 refine call_g (leads_g d st c.next) ?_
 cases h4 : leadsD d st c.next <;> simp
def aSta (s : StaD) (q : Bool) : List AV:=[.f (strF s.name),.f (sl (encL intF s.extract.l)),.f (boolF q),.f (intF s.onh),.f (intF s.onf),.f (sl (encL fCase s.cases.l)),.f (intF s.dfl)]
def noHdr (d : PrgD) (h : Int) : Bool:=decide (h < 0) || decide ((d.headers.l.length : Int) ≤ h)
def stI1 (d : PrgD) (st : Nat) (s : StaD) (i : Nat) (t : St) : Prop:=noneT (noHdr d) s.extract.l i∧∃ g,Vf.Sl [(1,.f (intF st)),(2,.ref 0 0),(6,.ref 1 0),(28,.f (sl (encL intF s.extract.l))),(29,.f (intF s.extract.l.length)),(30,.f (intF i))] 87 (aPrg d :: aSta s s.sel :: g) [] t
def stI2 (d : PrgD) (st : Nat) (s : StaD) (q : Bool) (i : Nat) (t : St) : Prop:=noneT (fun i=>(casesScan d st s i).isSome) (List.range s.cases.l.length) i∧∃ g,Vf.Sl [(1,.f (intF st)),(2,.ref 0 0),(6,.ref 1 0),(65,.f (sl (encL fCase s.cases.l))),(66,.f (intF s.cases.l.length)),(67,.f (intF i))] 87 (aPrg d :: aSta s q :: g) [] t
theorem sta_g (d : PrgD) (st : Nat) (s : StaD) (hs : d.states.l[st]? = some s) : Gives Tryz.prog 151 [fPrg d,intF st] (two (staCheck d st s)):=by
 refine Gives.of mixed Tryz.func151 rfl rfl rfl (by kernel_rfl) ?_
 have hlt:=(List.getElem?_eq_some_iff.1 hs).1
 have hx : nth d.states.l st = some s:=hs
 have hv : staCheck d st s = if 4 < s.extract.l.length ∨ 8 < s.cases.l.length then (-1,12)
  else if s.extract.l.any (noHdr d) then (-1,8)
  else if s.sel = true∧widthOf d s.onh s.onf = 0 then (-1,8)
  else if s.sel = false∧0 < s.cases.l.length then (-1,11)
  else match scan s.cases.l.length (casesScan d st s) with
   | some e=>e
   | none=>if leadsD d st s.dfl then (0,0) else (-1,14):=rfl
 by_cases c1 : 4 < s.extract.l.length
 ·have c1' : 4 < (s.extract.l.length : Int):=by omega
  rw [hv,if_pos (.inl c1)]
  simp [hlt,hx,fPrg,cPrg,c1']
 have c1' : ¬ 4 < (s.extract.l.length : Int):=by omega
 by_cases c2 : 8 < s.cases.l.length
 ·have c2' : 8 < (s.cases.l.length : Int):=by omega
  rw [hv,if_pos (.inr c2)]
  simp [hlt,hx,fPrg,cPrg,c1',c2']
 have c2' : ¬ 8 < (s.cases.l.length : Int):=by omega
 rw [if_neg (by omega)] at hv
 simp [hlt,hx,fPrg,cPrg,c1',c2']
 refine forX mixed s.extract.l.length (stI1 d st s) (by kernel_rfl) ⟨.zero,_,Sl.of rfl rfl rfl⟩ ?_
 rintro i ⟨ts,hh,kk⟩ hi ⟨hno,g,rfl,rfl,f,rfl⟩
 by_cases hil : i < s.extract.l.length
 ·obtain ⟨x,hx1,hx1'⟩:=nth_of hil
  have hw:=wrap64 (x:=(i : Int) + 1) (by omega) (by omega)
  by_cases q1 : x < 0
  ·have : s.extract.l.any (noHdr d) = true:=any_hit hx1' (by simp [noHdr,q1])
   rw [if_pos this] at hv
   simp [hil,hx1,aPrg,aSta,q1,hv]
  by_cases q2 : (d.headers.l.length : Int) ≤ x
  ·have : s.extract.l.any (noHdr d) = true:=any_hit hx1' (by simp [noHdr,q2])
   rw [if_pos this] at hv
   simp [hil,hx1,aPrg,aSta,q1,q2,hv]
  simp [hil,hx1,aPrg,aSta,q1,q2,hw]
  exact ⟨hno.next hx1' (by simp [noHdr,q1,q2]),_,Sl.of rfl rfl rfl⟩
 obtain rfl : i = s.extract.l.length:=by omega
 have ha:=hno.all (by omega)
 rw [if_neg (by rw [ha]; decide)] at hv
 clear hno hi hil ha
 have last : (s.sel = true→¬ widthOf d s.onh s.onf = 0)→(s.sel = false→¬ 0 < s.cases.l.length)→staCheck d st s = match scan s.cases.l.length (casesScan d st s) with
   | some e=>e
   | none=>if leadsD d st s.dfl then (0,0) else (-1,14):=fun h1 h2=>by
  rw [hv,if_neg (fun h=>h1 h.1 h.2),if_neg (fun h=>h2 h.1 h.2)]
 simp [aPrg,aSta]
 cases hsel : s.sel with
 | false =>
  cases h0 : decide (0 < s.cases.l.length) with
  | false =>
   have h0':=of_decide_eq_false h0
   have hl:=last (fun h=>by rw [hsel] at h; cases h) (fun _=>h0')
   simp [h0]
   refine forX mixed s.cases.l.length (stI2 d st s false) (by kernel_rfl) ⟨.zero,_,Sl.of rfl rfl rfl⟩ ?_
   rintro i ⟨ts,hh,kk⟩ hi ⟨hno,g,rfl,rfl,f,rfl⟩
   by_cases hil : i < s.cases.l.length
   ·obtain ⟨x,hx1,hx1'⟩:=nth_of hil
    have hw:=wrap64 (x:=(i : Int) + 1) (by omega) (by omega)
    have hf : casesScan d st s i = if caseCheck d st s x = 0 then none else some ((i : Int),caseCheck d st s x):=by simp only [casesScan,hx1']
    simp [hil,hx1,aPrg,aSta]
    refine call_g (case_g d st s x hs) ?_
    by_cases h2 : caseCheck d st s x = 0
    ·simp [h2,hw]
     exact ⟨hno.next (range_at hil) (by rw [hf,if_pos h2]; rfl),_,Sl.of rfl rfl rfl⟩
    ·rw [scan_at hno hil (hf.trans (if_neg h2))] at hl
     simp [h2,hl]
   ·obtain rfl : i = s.cases.l.length:=by omega
    rw [scan_of hno] at hl
    simp [hil,aPrg,aSta]
    refine call_g (leads_g d st s.dfl) ?_
    cases h4 : leadsD d st s.dfl <;> simp [hl,h4]
  | true =>
   have h0':=of_decide_eq_true h0
   have hV : staCheck d st s = (-1,11):=by rw [hv,if_neg (fun h=>by rw [hsel] at h; cases h.1),if_pos ⟨hsel,h0'⟩]
   simp [h0,hV]
 | true =>
  simp
  refine call_g (envWidth_g d s.onh s.onf) ?_
  by_cases h1 : widthOf d s.onh s.onf = 0
  ·have hV : staCheck d st s = (-1,8):=by rw [hv,if_pos ⟨hsel,h1⟩]
   simp [h1,hV]
  have hl:=last (fun _=>h1) (fun h=>by rw [hsel] at h; cases h)
  simp [h1]
  refine forX mixed s.cases.l.length (stI2 d st s true) (by kernel_rfl) ⟨.zero,_,Sl.of rfl rfl rfl⟩ ?_
  rintro i ⟨ts,hh,kk⟩ hi ⟨hno,g,rfl,rfl,f,rfl⟩
  by_cases hil : i < s.cases.l.length
  ·obtain ⟨x,hx1,hx1'⟩:=nth_of hil
   have hw:=wrap64 (x:=(i : Int) + 1) (by omega) (by omega)
   have hf : casesScan d st s i = if caseCheck d st s x = 0 then none else some ((i : Int),caseCheck d st s x):=by simp only [casesScan,hx1']
   simp [hil,hx1,aPrg,aSta]
   refine call_g (case_g d st s x hs) ?_
   by_cases h2 : caseCheck d st s x = 0
   ·simp [h2,hw]
    exact ⟨hno.next (range_at hil) (by rw [hf,if_pos h2]; rfl),_,Sl.of rfl rfl rfl⟩
   ·rw [scan_at hno hil (hf.trans (if_neg h2))] at hl
    simp [h2,hl]
  ·obtain rfl : i = s.cases.l.length:=by omega
   rw [scan_of hno] at hl
   simp [hil,aPrg,aSta]
   refine call_g (leads_g d st s.dfl) ?_
   cases h4 : leadsD d st s.dfl <;> simp [hl,h4]
theorem applies_g (x : NodD) : Gives Tryz.prog 157 [fNod x] (boolF (nodApplies x)):=by
 refine Gives.of mixed Tryz.func157 rfl rfl rfl (by kernel_rfl) ?_
 rw [fNod_eq]
 unfold nodApplies
 by_cases c1 : x.kind = 1
 ·simp [c1]
 ·by_cases c3 : x.kind = 3
  ·simp [c3]
  ·have e1 : (x.kind == 1) = false:=by simpa using c1
   have e3 : (x.kind == 3) = false:=by simpa using c3
   simp [c1,c3]
def cnI (d : PrgD) (x : NodD) (used : List Int) (i : Nat) (s : St) : Prop:=noneT (fun u=>u == x.table) used i∧∃ g,Vf.Sl [(3,.ref 0 0),(4,.ref 1 0),(12,.f (intF x.kind)),(27,.f (sl (encL intF used))),(28,.f (intF used.length)),(29,.f (intF i))] 66 (aPrg d :: [.f (intF x.kind),.f (intF x.table),.f (sl (encL fEx x.cond.l)),.f (sl (encL fNod x.thn.l)),.f (sl (encL fNod x.els.l))] :: g) [] s
theorem node_g (d : PrgD) (x : NodD) (used : List Int) (hu : used.length < 2^62) : Gives Tryz.prog 156 [fPrg d,fNod x,sl (encL intF used)] (intF (nodCheckW d x used)):=by
 refine Gives.of mixed Tryz.func156 rfl rfl rfl (by kernel_rfl) ?_
 rw [fNod_eq]
 by_cases k2 : x.kind = 2
 ·have hv : nodCheckW d x used = if (exCheck d [] x.cond.l).2 ≠ 0 then (exCheck d [] x.cond.l).2 else if (exCheck d [] x.cond.l).1 ≠ 1 then 10 else 0:=by unfold nodCheckW; rw [if_neg (by omega),if_pos k2]
  rw [hv]
  simp [k2,fPrg,cPrg]
  refine call_g (Gives.weak (exCheck_g d [] x.cond.l)) ?_
  by_cases h1 : (exCheck d [] x.cond.l).2 = 0
  ·by_cases h2 : (exCheck d [] x.cond.l).1 = 1
   ·simp [h1,h2]
   ·simp [h1,h2]
  ·simp [h1]
 by_cases k1 : x.kind = 1 ∨ x.kind = 3
 case neg =>
  have k1a : ¬ x.kind = 1:=fun h=>k1 (.inl h)
  have k1b : ¬ x.kind = 3:=fun h=>k1 (.inr h)
  have hv : nodCheckW d x used = 11:=by unfold nodCheckW; rw [if_neg k1,if_neg k2]
  simp [k1a,k1b,k2,fPrg,cPrg,hv]
 have hv : nodCheckW d x used = if x.table < 0 ∨ (d.tables.l.length : Int) ≤ x.table then 8
  else if used.contains x.table then 7
  else if x.kind = 1∧0 < wr ((x.thn.l.length : Int) + x.els.l.length) then 5 else 0:=by unfold nodCheckW; rw [if_pos k1]
 have hc : used.contains x.table = used.any (fun u=>u == x.table):=by
  clear hu hv
  induction used with
  | nil=>rfl
  | cons a l ih =>
   rw [List.contains_cons,List.any_cons,ih,Bool.beq_comm]
 rw [hc] at hv
 have k1' : ¬ (¬ x.kind = 1∧¬ x.kind = 3):=by omega
 by_cases c1 : x.table < 0
 ·rw [if_pos (.inl c1)] at hv
  rcases k1 with k1 | k1 <;> simp [k1,k2,fPrg,cPrg,hv,c1]
 by_cases c2 : (d.tables.l.length : Int) ≤ x.table
 ·rw [if_pos (.inr c2)] at hv
  rcases k1 with k1 | k1 <;> simp [k1,k2,fPrg,cPrg,hv,c1,c2]
 rw [if_neg (by omega)] at hv
 rcases k1 with k1 | k1
 ·simp [k1,k2,fPrg,cPrg,c1,c2]
  refine forX mixed used.length (cnI d x used) (by kernel_rfl) ⟨.zero,_,by rw [k1]; exact Sl.of rfl rfl rfl⟩ ?_
  rintro i ⟨ts,hh,kk⟩ hi ⟨hno,g,rfl,rfl,f,rfl⟩
  by_cases hil : i < used.length
  ·obtain ⟨u,hx1,hx1'⟩:=nth_of hil
   have hw:=wrap64 (x:=(i : Int) + 1) (by omega) (by omega)
   by_cases hq : u = x.table
   ·rw [if_pos (any_hit hx1' (by simpa using hq))] at hv
    simp [hil,hx1,hq,hv]
   ·simp [hil,hx1,hq,hw]
    exact ⟨hno.next hx1' (by simpa using hq),_,Sl.of rfl rfl rfl⟩
  ·obtain rfl : i = used.length:=by omega
   rw [hno.all (by omega),if_neg (by decide)] at hv
   by_cases h1 : 0 < IntKind.i64.wrap ((x.thn.l.length : Int) + x.els.l.length)
   ·rw [if_pos ⟨k1,h1⟩] at hv
    simp [hil,k1,h1,hv]
   ·rw [if_neg (fun h=>h1 h.2)] at hv
    simp [hil,k1,h1,hv]
 ·simp [k1,k2,fPrg,cPrg,c1,c2]
  refine forX mixed used.length (cnI d x used) (by kernel_rfl) ⟨.zero,_,by rw [k1]; exact Sl.of rfl rfl rfl⟩ ?_
  rintro i ⟨ts,hh,kk⟩ hi ⟨hno,g,rfl,rfl,f,rfl⟩
  by_cases hil : i < used.length
  ·obtain ⟨u,hx1,hx1'⟩:=nth_of hil
   have hw:=wrap64 (x:=(i : Int) + 1) (by omega) (by omega)
   by_cases hq : u = x.table
   ·rw [if_pos (any_hit hx1' (by simpa using hq))] at hv
    simp [hil,hx1,hq,hv]
   ·simp [hil,hx1,hq,hw]
    exact ⟨hno.next hx1' (by simpa using hq),_,Sl.of rfl rfl rfl⟩
  ·obtain rfl : i = used.length:=by omega
   rw [hno.all (by omega),if_neg (by decide)] at hv
   rw [if_neg (fun h=>by have:=h.1; omega)] at hv
   simp [hil,k1,hv]
inductive NodB : List NodD→Prop
 | mk (l : List NodD) (hl : l.length ≤ maxLen) (h1 : ∀ x ∈ l,NodB x.thn.l) (h2 : ∀ x ∈ l,NodB x.els.l) : NodB l
theorem nodDeepW_eq (x : NodD) : nodDeepW x = max (nodsDeepW x.thn.l) (nodsDeepW x.els.l):=by obtain ⟨k,t,c,a,b⟩:=x; rfl
theorem mostW_nonneg (l : List NodD) : 0 ≤ nodsMostW l:=by
 induction l with
 | nil=>simp [nodsMostW]
 | cons x l ih=>rw [nodsMostW]; omega
theorem mostW_snoc (l : List NodD) (x : NodD) : nodsMostW (l ++ [x]) = max (nodsMostW l) (nodDeepW x):=by
 induction l with
 | nil=>have:=mostW_nonneg [x]; simp [nodsMostW] at *; omega
 | cons y l ih=>rw [List.cons_append,nodsMostW,ih,nodsMostW]; omega
theorem deepW_eq {l : List NodD} (h : l ≠ []) : nodsDeepW l = wr (nodsMostW l + 1):=by
 cases l with
 | nil=>exact absurd rfl h
 | cons x l=>rw [nodsDeepW,nodsMostW]
def neI (l : List NodD) (i : Nat) (s : St) : Prop:=∃ g,Vf.Sl [(3,.f (intF (nodsMostW (l.take i)))),(9,.f (sl (encL fNod l))),(10,.f (intF l.length)),(11,.f (intF i))] 26 g [] s
theorem nest_g (l : List NodD) (h : NodB l) : Gives Tryz.prog 153 [sl (encL fNod l)] (intF (nodsDeepW l)):=by
 induction h with
 | mk l hl h1 h2 ih1 ih2 =>
  refine Gives.of mixed Tryz.func153 rfl rfl rfl (by kernel_rfl) ?_
  by_cases c0 : l.length = 0
  ·have : l = []:=List.eq_nil_of_length_eq_zero c0
   subst this
   simp [nodsDeepW]
  have hne : l ≠ []:=fun h=>c0 (by rw [h]; rfl)
  rw [deepW_eq hne]
  simp [c0,hne]
  refine forX mixed l.length (neI l) (by kernel_rfl) ⟨_,Sl.of rfl rfl rfl⟩ ?_
  rintro i ⟨ts,hh,kk⟩ hi ⟨g,rfl,rfl,f,rfl⟩
  by_cases hlt : i < l.length
  ·obtain ⟨x,hx,hx'⟩:=nth_of hlt
   have hm:=List.mem_of_getElem? hx'
   have hw:=wrap64 (x:=(i : Int) + 1) (by omega) (by unfold maxLen at hl; omega)
   have hn : nodsMostW (l.take (i + 1)) = max (nodsMostW (l.take i)) (max (nodsDeepW x.thn.l) (nodsDeepW x.els.l)):=by
    rw [take_snoc hx',mostW_snoc,nodDeepW_eq]
   simp [hlt,hx,fNod_eq]
   refine call_g (ih1 x hm) ?_
   simp
   refine call_g (ih2 x hm) ?_
   rw [ops_max3 (q:=.i64) (a:=nodsMostW (l.take i)) (b:=nodsDeepW x.thn.l) (c:=nodsDeepW x.els.l) rfl rfl rfl]
   simp [hw]
   rw [← hn]
   exact ⟨_,Sl.of rfl rfl rfl⟩
  ·obtain rfl : i = l.length:=by omega
   simp [hlt,wr]
end Go.Proofs.YtafenffmgpcjcaaGreat
namespace Go.Proofs.YtafenffmgpcjcaaGreat
open Go.RowKit Go.Proofs.YtafenffmgpcjcaaGreat.Vf
set_option linter.unusedVariables false
set_option linter.unusedSimpArgs false
set_option maxRecDepth 100000
set_option maxHeartbeats 4000000
theorem count1_r (x : NodD) (n : Int) (b : Nat) (h : List (List AV)) (k : List (Nat × Nat)) (hb : h[b]? = some [.f (intF n)]) : GivesR Tryz.prog 209 [.f (fNod x),.ref b 0] h k (.f (boolF true)) (h.set b [.f (intF (wr (n + 1)))]) k:=by
 refine GivesR.of mixed Tryz.func209 rfl rfl rfl (by kernel_rfl) ?_
 have hbl:=(List.getElem?_eq_some_iff.1 hb).1
 have hb' : ix (h ++ [[.f (intF x.kind),.f (intF x.table),.f (sl (encL fEx x.cond.l)),.f (sl (encL fNod x.thn.l)),.f (sl (encL fNod x.els.l))]]) b = some [.f (intF n)]:=by
  show (h ++ _)[b]? = _
  rw [List.getElem?_append_left hbl]; exact hb
 rw [fNod_eq]
 simp [hb']
 exact retR_eq rfl (List.set_append_left _ _ hbl) (List.append_nil k).symm (by simp) (Nat.le_refl _) (BelC.set fun z hz=>by simp at hz; subst hz; exact .f _)
section walk
variable {S : Type}
def Vis (Inv : S→List (List AV)→List (Nat × Nat)→Prop) (g : FuncId) (args : List AV) (s s' : S) (q : Bool) : Prop :=
 ∀ h k,Inv s h k→∀ e,∃ h' k',GivesR Tryz.prog g args (h ++ e) k (.f (boolF q)) (h' ++ e) k'∧Inv s' h' k'∧h'.length = h.length∧k.length ≤ k'.length∧BelC h h' k'.length
def runV (V : S→NodD→Bool × S) : S→List NodD→Bool × S
 | s,[]=>(true,s)
 | s,x :: l=>if (V s x).1 then runV V (V s x).2 l else (false,(V s x).2)
theorem runV_append (V : S→NodD→Bool × S) (s : S) (a b : List NodD) : runV V s (a ++ b) = if (runV V s a).1 then runV V (runV V s a).2 b else (false,(runV V s a).2):=by
 induction a generalizing s with
 | nil=>simp [runV]
 | cons x a ih =>
  simp only [List.cons_append,runV]
  split
  ·rw [ih]
  ·simp
def nodC (x : NodD) : List AV:=[.f (intF x.kind),.f (intF x.table),.f (sl (encL fEx x.cond.l)),.f (sl (encL fNod x.thn.l)),.f (sl (encL fNod x.els.l))]
def Reach (f : FuncId) (cs : List AV) (e : List (List AV)) (q : Bool) (hT : List (List AV)) (kT : List (Nat × Nat)) : List NodD→List (List AV)→List (List AV)→List (Nat × Nat)→Prop
 | [],B,h,k=>q = true∧h = hT∧k = kT
 | x :: r,B,h,k=>∃ h1 k1 b1,h1.length = h.length∧GivesR Tryz.prog f (.f (fNod x) :: cs) (h ++ (e ++ (B ++ [nodC x]))) k (.f (boolF b1)) (h1 ++ (e ++ (B ++ [nodC x]))) k1 ∧
  ((b1 = false∧q = false∧h1 = hT∧k1 = kT) ∨ (b1 = true∧∃ h2 k2 b2,h2.length = h1.length∧GivesR Tryz.prog 154 [.f (sl (encL fNod x.thn.l)),.fnr f cs] (h1 ++ (e ++ (B ++ [nodC x]))) k1 (.f (boolF b2)) (h2 ++ (e ++ (B ++ [nodC x]))) k2 ∧
    ((b2 = false∧q = false∧h2 = hT∧k2 = kT) ∨ (b2 = true∧∃ h3 k3 b3,h3.length = h2.length∧GivesR Tryz.prog 154 [.f (sl (encL fNod x.els.l)),.fnr f cs] (h2 ++ (e ++ (B ++ [nodC x]))) k2 (.f (boolF b3)) (h3 ++ (e ++ (B ++ [nodC x]))) k3 ∧
      ((b3 = false∧q = false∧h3 = hT∧k3 = kT) ∨ (b3 = true∧Reach f cs e q hT kT r (B ++ [nodC x]) h3 k3))))))
theorem reach_ex (V : S→NodD→Bool × S) (Inv : S→List (List AV)→List (Nat × Nat)→Prop) (f : FuncId) (cs : List AV) (e : List (List AV)) (hV : ∀ s x,Vis Inv f (.f (fNod x) :: cs) s (V s x).2 (V s x).1) : ∀ (l : List NodD)
  (h1 : ∀ x ∈ l,∀ s,Vis Inv 154 [.f (sl (encL fNod x.thn.l)),.fnr f cs] s (runV V s (nodsPre x.thn.l)).2 (runV V s (nodsPre x.thn.l)).1)
  (h2 : ∀ x ∈ l,∀ s,Vis Inv 154 [.f (sl (encL fNod x.els.l)),.fnr f cs] s (runV V s (nodsPre x.els.l)).2 (runV V s (nodsPre x.els.l)).1)
  (B : List (List AV)) (s : S) (h : List (List AV)) (k : List (Nat × Nat)),Inv s h k→∃ hT kT,Reach f cs e (runV V s (nodsPre l)).1 hT kT l B h k∧Inv (runV V s (nodsPre l)).2 hT kT∧hT.length = h.length∧k.length ≤ kT.length∧BelC h hT kT.length
 | [],h1,h2,B,s,h,k,hi=>⟨h,k,⟨rfl,rfl,rfl⟩,hi,rfl,Nat.le_refl _,.refl⟩
 | x :: l,h1,h2,B,s,h,k,hi=>by
  have en : nodsPre (x :: l) = x :: (nodsPre x.thn.l ++ (nodsPre x.els.l ++ nodsPre l)):=by obtain ⟨a,b,c,d,e⟩:=x; simp [nodsPre,nodPre]; rfl
  rw [en]
  obtain ⟨ha,ka,ga,ia,la,na,ba⟩:=hV s x h k hi (e ++ (B ++ [nodC x]))
  cases va : (V s x).1 with
  | false =>
   have er : runV V s (x :: (nodsPre x.thn.l ++ (nodsPre x.els.l ++ nodsPre l))) = (false,(V s x).2):=by rw [runV,if_neg (by rw [va]; decide)]
   rw [er]
   exact ⟨ha,ka,⟨ha,ka,false,la,by rw [va] at ga; exact ga,.inl ⟨rfl,rfl,rfl,rfl⟩⟩,ia,la,na,ba⟩
  | true =>
  have er : runV V s (x :: (nodsPre x.thn.l ++ (nodsPre x.els.l ++ nodsPre l))) = runV V (V s x).2 (nodsPre x.thn.l ++ (nodsPre x.els.l ++ nodsPre l)):=by rw [runV,if_pos va]
  rw [er,runV_append]
  rw [va] at ga
  generalize (V s x).2 = s1 at *
  obtain ⟨hb,kb,gb,ib,lb,nb,bb⟩:=h1 x (.head _) s1 ha ka ia (e ++ (B ++ [nodC x]))
  cases vb : (runV V s1 (nodsPre x.thn.l)).1 with
  | false =>
   rw [if_neg (by decide)]
   exact ⟨hb,kb,⟨ha,ka,true,la,ga,.inr ⟨rfl,hb,kb,false,lb,by rw [vb] at gb; exact gb,.inl ⟨rfl,rfl,rfl,rfl⟩⟩⟩,ib,lb.trans la,Nat.le_trans na nb,ba.trans bb la nb⟩
  | true =>
  rw [if_pos rfl,runV_append]
  rw [vb] at gb
  generalize (runV V s1 (nodsPre x.thn.l)).2 = s2 at *
  obtain ⟨hc,kc,gc,ic,lc,nc,bc⟩:=h2 x (.head _) s2 hb kb ib (e ++ (B ++ [nodC x]))
  cases vc : (runV V s2 (nodsPre x.els.l)).1 with
  | false =>
   rw [if_neg (by decide)]
   exact ⟨hc,kc,⟨ha,ka,true,la,ga,.inr ⟨rfl,hb,kb,true,lb,gb,.inr ⟨rfl,hc,kc,false,lc,by rw [vc] at gc; exact gc,.inl ⟨rfl,rfl,rfl,rfl⟩⟩⟩⟩,ic,lc.trans (lb.trans la),Nat.le_trans na (Nat.le_trans nb nc),(ba.trans bb la nb).trans bc (lb.trans la) nc⟩
  | true =>
  rw [if_pos rfl]
  rw [vc] at gc
  generalize (runV V s2 (nodsPre x.els.l)).2 = s3 at *
  obtain ⟨hT,kT,rT,iT,lT,nT,bT⟩:=reach_ex V Inv f cs e hV l (fun y hy=>h1 y (.tail _ hy)) (fun y hy=>h2 y (.tail _ hy)) (B ++ [nodC x]) s3 hc kc ic
  exact ⟨hT,kT,⟨ha,ka,true,la,ga,.inr ⟨rfl,hb,kb,true,lb,gb,.inr ⟨rfl,hc,kc,true,lc,gc,.inr ⟨rfl,rT⟩⟩⟩⟩,iT,lT.trans (lc.trans (lb.trans la)),Nat.le_trans na (Nat.le_trans nb (Nat.le_trans nc nT)),((ba.trans bb la nb).trans bc (lb.trans la) nc).trans bT (lc.trans (lb.trans la)) nT⟩
def preI (f : FuncId) (cs : List AV) (e : List (List AV)) (q : Bool) (hT : List (List AV)) (kT : List (Nat × Nat)) (l : List NodD) (i : Nat) (s : St) : Prop:=∃ h k B,h.length = hT.length∧Reach f cs e q hT kT (l.drop i) B h k∧Vf.Sl [(1,.fnr f cs),(7,.f (sl (encL fNod l))),(8,.f (intF l.length)),(9,.f (intF i))] 32 (h ++ (e ++ B)) k s
theorem pre_r (V : S→NodD→Bool × S) (Inv : S→List (List AV)→List (Nat × Nat)→Prop) (f : FuncId) (cs : List AV) (hV : ∀ s x,Vis Inv f (.f (fNod x) :: cs) s (V s x).2 (V s x).1) (l : List NodD) (hB : NodB l) :
  ∀ s,Vis Inv 154 [.f (sl (encL fNod l)),.fnr f cs] s (runV V s (nodsPre l)).2 (runV V s (nodsPre l)).1:=by
 induction hB with
 | mk l hl h1 h2 ih1 ih2 =>
  intro s h k hi e
  obtain ⟨hT,kT,hr,hi',hlen,hk,hbel⟩:=reach_ex V Inv f cs e hV l ih1 ih2 [] s h k hi
  refine ⟨hT,kT,?_,hi',hlen,hk,hbel⟩
  generalize (runV V s (nodsPre l)).1 = q at hr
  clear hi hi' ih1 ih2 hV
  refine GivesR.of mixed Tryz.func154 rfl rfl rfl (by kernel_rfl) ?_
  simp
  refine forX mixed l.length (preI f cs e q hT kT l) (by kernel_rfl) ⟨h,k,[],hlen.symm,hr,by rw [List.append_nil]; exact Sl.of rfl rfl rfl⟩ ?_
  rintro i ⟨ts,hh,kk⟩ hi ⟨h,k,B,hln,hr,rfl,rfl,g,rfl⟩
  by_cases hlt : i < l.length
  ·obtain ⟨x,hx,hx'⟩:=nth_of hlt
   have hw:=wrap64 (x:=(i : Int) + 1) (by omega) (by unfold maxLen at hl; omega)
   have hdr : l.drop i = x :: l.drop (i + 1):=by
    obtain ⟨hj,rfl⟩:=List.getElem?_eq_some_iff.1 hx'
    exact List.drop_eq_getElem_cons hj
   rw [hdr] at hr
   obtain ⟨ha,ka,b1,la,g1,hr⟩:=hr
   rw [fNod_eq] at g1
   simp [hlt,hx,fNod_eq]
   refine ⟨_,g1.agg.x,?_⟩
   rintro _ _ _ ⟨rfl,rfl,rfl⟩
   rcases hr with ⟨rfl,rfl,rfl,rfl⟩ | ⟨rfl,hb,kb,b2,lb,g2,hr⟩
   ·simp
    exact retR_eq rfl (List.append_assoc _ _ _).symm (List.append_nil _).symm (by simp [hlen]) hk (hbel.app hlen)
   simp [← la,nodC]
   refine call_r g2 ?_
   rcases hr with ⟨rfl,rfl,rfl,rfl⟩ | ⟨rfl,hc,kc,b3,lc,g3,hr⟩
   ·simp
    exact retR_eq rfl (List.append_assoc _ _ _).symm (List.append_nil _).symm (by simp [hlen]) hk (hbel.app hlen)
   simp [← lb,nodC]
   refine call_r g3 ?_
   rcases hr with ⟨rfl,rfl,rfl,rfl⟩ | ⟨rfl,hr⟩
   ·simp
    exact retR_eq rfl (List.append_assoc _ _ _).symm (List.append_nil _).symm (by simp [hlen]) hk (hbel.app hlen)
   simp [hw,nodC]
   exact ⟨hc,kc,B ++ [nodC x],by rw [lc,lb,la,hln],hr,Sl.of rfl rfl rfl⟩
  ·obtain rfl : i = l.length:=by omega
   rw [List.drop_length] at hr
   obtain ⟨rfl,rfl,rfl⟩:=hr
   simp
   exact retR_eq rfl (List.append_assoc _ _ _).symm (List.append_nil _).symm (by simp [hlen]) hk (hbel.app hlen)
end walk
end Go.Proofs.YtafenffmgpcjcaaGreat
namespace Go.Proofs.YtafenffmgpcjcaaGreat
open Go.RowKit Go.Proofs.YtafenffmgpcjcaaGreat.Vf
set_option linter.unusedVariables false
set_option linter.unusedSimpArgs false
set_option maxRecDepth 100000
set_option maxHeartbeats 4000000
def cntV (s : Int) (x : NodD) : Bool × Int:=(true,wr (s + 1))
theorem cnt_run (l : List NodD) : ∀ s,runV cntV (wr s) l = (true,wr (s + l.length)):=by
 induction l with
 | nil=>intro s; simp [runV]
 | cons x l ih =>
  intro s
  rw [runV,if_pos (by rfl)]
  show runV cntV (wr (wr s + 1)) l = _
  rw [wr_add,ih]
  simp only [List.length_cons]
  congr 2
  omega
def cntI (s : Int) (h : List (List AV)) (k : List (Nat × Nat)) : Prop:=h = [[.f (intF s)]]∧k = []
theorem cnt_vis (s : Int) (x : NodD) : Vis cntI 209 [.f (fNod x),.ref 0 0] s (cntV s x).2 (cntV s x).1:=by
 rintro h k ⟨rfl,rfl⟩ e
 exact ⟨_,_,count1_r x s 0 ([[.f (intF s)]] ++ e) [] rfl,⟨rfl,rfl⟩,rfl,Nat.le_refl _,BelC.set (b:=0) (fun z hz=>by simp at hz; subst hz; exact .f _)⟩
theorem count_g (l : List NodD) (hB : NodB l) : Gives Tryz.prog 152 [sl (encL fNod l)] (intF (wr (nodsPre l).length)):=by
 refine Gives.of mixed Tryz.func152 rfl rfl rfl (by kernel_rfl) ?_
 simp
 obtain ⟨h',k',hg,⟨rfl,rfl⟩,-⟩:=pre_r cntV cntI 209 [.ref 0 0] cnt_vis l hB 0 [[.f (intF 0)]] [] ⟨rfl,rfl⟩ []
 have hc : runV cntV 0 (nodsPre l) = (true,wr (nodsPre l).length):=by
  have:=cnt_run (nodsPre l) 0
  rw [show wr 0 = 0 from rfl,Int.zero_add] at this
  exact this
 rw [hc] at hg
 refine call_r hg ?_
 simp
end Go.Proofs.YtafenffmgpcjcaaGreat
