/- Texts of the proof: S1. -/
import Derived.Test.YtejkhflkeoihlaaGreatVC1
import Derived.Test.YtejkhflkeoihlaaGreatS0
import Derived.WalkKit
import Derived.Handy
import Derived.Test.YtejkhflkeoihlaaGreatProg
import Derived.KernelRfl
namespace Go.Proofs.YtejkhflkeoihlaaGreat
open Go.RowKit Go.Proofs.YtejkhflkeoihlaaGreat.Vf
set_option linter.unusedVariables false
set_option linter.unusedSimpArgs false
structure SL (α : Type) where
 l : List α
structure FldD where
 name : ByteArray
 width : Int
structure HdrD where
 name : ByteArray
 fields : SL FldD
structure RegD where
 name : ByteArray
 width : Int
 size : Int
structure ExD where
 op : Int
 n : Int
 w : Int
structure StD where
 kind : Int
 dh : Int
 df : Int
 reg : Int
 hdr : Int
 index : SL ExD
 value : SL ExD
structure ActD where
 name : ByteArray
 params : SL FldD
 body : SL StD
structure KeyD where
 h : Int
 f : Int
 kind : Int
structure TblD where
 name : ByteArray
 keys : SL KeyD
 acts : SL Int
 dfl : Int
 args : SL Int
 size : Int
structure CaseD where
 value : Int
 mask : Int
 next : Int
structure StaD where
 name : ByteArray
 extract : SL Int
 sel : Bool
 onh : Int
 onf : Int
 cases : SL CaseD
 dfl : Int
inductive NodD where
 | mk (kind table : Int) (cond : List ExD) (thn els : List NodD)
def NodD.kind : NodD→Int | .mk k ..=>k
def NodD.table : NodD→Int | .mk _ t ..=>t
def NodD.cond : NodD→SL ExD | .mk _ _ c ..=>⟨c⟩
def NodD.thn : NodD→SL NodD | .mk _ _ _ t _=>⟨t⟩
def NodD.els : NodD→SL NodD | .mk _ _ _ _ e=>⟨e⟩
structure PrgD where
 name : ByteArray
 headers : SL HdrD
 meta_ : SL FldD
 regs : SL RegD
 acts : SL ActD
 tables : SL TblD
 states : SL StaD
 control : SL NodD
 dep : SL Int
abbrev sl (l : List FV) : FV:=.sl l .un
abbrev u32F (x : Int) : FV:=.sc (.int .u32 x)
abbrev fFld (x : FldD) : FV:=.agg [strF x.name,intF x.width]
abbrev fHdr (x : HdrD) : FV:=.agg [strF x.name,sl (encL fFld x.fields.l)]
abbrev fReg (x : RegD) : FV:=.agg [strF x.name,intF x.width,intF x.size]
abbrev fEx (x : ExD) : FV:=.agg [intF x.op,intF x.n,intF x.w]
abbrev fSt (x : StD) : FV:=.agg [intF x.kind,intF x.dh,intF x.df,intF x.reg,intF x.hdr,sl (encL fEx x.index.l),sl (encL fEx x.value.l)]
abbrev fAct (x : ActD) : FV:=.agg [strF x.name,sl (encL fFld x.params.l),sl (encL fSt x.body.l)]
abbrev fKey (x : KeyD) : FV:=.agg [intF x.h,intF x.f,intF x.kind]
abbrev fTbl (x : TblD) : FV:=.agg [strF x.name,sl (encL fKey x.keys.l),sl (encL intF x.acts.l),intF x.dfl,sl (encL u32F x.args.l),intF x.size]
abbrev fCase (x : CaseD) : FV:=.agg [u32F x.value,u32F x.mask,intF x.next]
abbrev fSta (x : StaD) : FV:=.agg [strF x.name,sl (encL intF x.extract.l),boolF x.sel,intF x.onh,intF x.onf,sl (encL fCase x.cases.l),intF x.dfl]
mutual
def fNod : NodD→FV
 | .mk k t c a b=>.agg [intF k,intF t,sl (encL fEx c),sl (fNods a),sl (fNods b)]
def fNods : List NodD→List FV
 | []=>[]
 | x :: l=>fNod x :: fNods l
end
theorem fNods_eq (l : List NodD) : fNods l = encL fNod l:=by
 induction l with
 | nil=>rfl
 | cons x l ih=>rw [fNods,ih]; rfl
theorem fNod_eq (x : NodD) : fNod x = .agg [intF x.kind,intF x.table,sl (encL fEx x.cond.l),sl (encL fNod x.thn.l),sl (encL fNod x.els.l)]:=by
 obtain ⟨k,t,c,a,b⟩:=x
 rw [fNod,fNods_eq,fNods_eq]; rfl
def cPrg (d : PrgD) : List FV:=[strF d.name,sl (encL fHdr d.headers.l),sl (encL fFld d.meta_.l),sl (encL fReg d.regs.l),sl (encL fAct d.acts.l),sl (encL fTbl d.tables.l),sl (encL fSta d.states.l),sl (encL fNod d.control.l),sl (encL intF d.dep.l)]
def fPrg (d : PrgD) : FV:=.agg (cPrg d)
end Go.Proofs.YtejkhflkeoihlaaGreat
namespace Go.Proofs.YtejkhflkeoihlaaGreat
open Go.Proofs.YtejkhflkeoihlaaGreat.Vf (sEq)
set_option linter.unusedVariables false
def isLet (c : UInt8) : Bool:=(97 ≤ c.toNat && c.toNat ≤ 122) || (65 ≤ c.toNat && c.toNat ≤ 90)
def isDig (c : UInt8) : Bool:=48 ≤ c.toNat && c.toNat ≤ 57
def idc (c : UInt8) : Bool:=isLet c || isDig c || c.toNat == 95
def idLen (l : List UInt8) : Nat:=(l.takeWhile idc).length
def ident (s : ByteArray) : Bool:=0 < s.size && s.size ≤ 16 && isLet (s.data.toList.headD 0) && idLen s.data.toList == s.size
def scan {E : Type} (n : Nat) (f : Nat→Option E) : Option E:=(List.range n).findSome? f
theorem scan_none {E : Type} {n : Nat} {f : Nat→Option E} (h : ∀ i,i < n→f i = none) : scan n f = none :=
 List.findSome?_eq_none_iff.2 fun i hi=>h i (List.mem_range.1 hi)
theorem scan_some {E : Type} {n k : Nat} {f : Nat→Option E} {e : E} (hk : k < n) (h : ∀ i,i < k→f i = none) (hf : f k = some e) : scan n f = some e:=by
 unfold scan
 obtain ⟨m,rfl⟩ : ∃ m,n = k + (m + 1):=⟨n - k - 1,by omega⟩
 rw [List.range_add,List.findSome?_append,List.range_succ_eq_map]
 have h1 : (List.range k).findSome? f = none:=List.findSome?_eq_none_iff.2 fun i hi=>h i (List.mem_range.1 hi)
 rw [h1]
 simp [hf]
def badW (w : Int) : Bool:=decide (w < 1) || decide (32 < w)
def hdrField (l : List FldD) (i : Nat) : Option Int :=
 match l[i]? with
 | none=>none
 | some f=>if !ident f.name then some 6 else if badW f.width then some 10 else if (l.take i).any (fun g=>sEq g.name f.name) then some 7 else none
def isum : List Int→Int
 | []=>0
 | x :: l=>x + isum l
def sumW (l : List FldD) : Int:=isum (l.map (·.width))
def hdrCheck (h : HdrD) : Int :=
 if !ident h.name then 6 else if h.fields.l.length = 0 then 8 else if 12 < h.fields.l.length then 12 else
 match scan h.fields.l.length (hdrField h.fields.l) with
 | some e=>e
 | none=>if sumW h.fields.l % 8 = 0 then 0 else 10
def regCheck (r : RegD) : Int:=if !ident r.name then 6 else if badW r.width then 10 else if 1 ≤ r.size∧r.size ≤ 64 then 0 else 9
def fldsOf (d : PrgD) (h : Int) : List FldD:=if h = -1 then d.meta_.l else if h < 0 ∨ (d.headers.l.length : Int) ≤ h then [] else match d.headers.l[h.toNat]? with | some x=>x.fields.l | none=>[]
def fldAt (d : PrgD) (h i : Int) : Option FldD:=if i < 0 then none else (fldsOf d h)[i.toNat]?
def arity (op : Int) : Int:=if 1 ≤ op∧op ≤ 4 then 0 else if 5 ≤ op∧op ≤ 8 then 1 else if 9 ≤ op∧op ≤ 16 then 2 else if op = 17 then 3 else -1
def wide (w : Int) : Int × Int:=if badW w then (0,10) else (w,0)
def primary (d : PrgD) (ps : List FldD) (x : ExD) : Int × Int :=
 if x.op = 1 then if badW x.w then (0,10) else if x.n < 0 ∨ (2 : Int) ^ x.w.toNat - 1 < x.n then (0,9) else (x.w,0)
 else if x.op = 2 then match fldAt d x.n x.w with | none=>(0,8) | some f=>wide f.width
 else if x.op = 3 then if x.n < 0 then (0,8) else match ps[x.n.toNat]? with | none=>(0,8) | some f=>wide f.width
 else if x.n < 0 ∨ (d.headers.l.length : Int) ≤ x.n then (0,8) else (1,0)
def combine (x : ExD) (a b c : Int) : Int × Int :=
 if (x.op = 6 ∨ x.op = 7)∧(x.n < 0 ∨ 31 < x.n) then (0,9)
 else if x.op = 8 then if x.n < 0 then (0,9) else if badW x.w ∨ a - x.w < x.n then (0,10) else (x.w,0)
 else if x.op = 14 then wide (a + b)
 else if x.op = 17 then if a ≠ 1 ∨ b ≠ c then (0,10) else (b,0)
 else if arity x.op = 2∧a ≠ b then (0,10)
 else if x.op = 15 ∨ x.op = 16 then (1,0) else (a,0)
def exAt (d : PrgD) (ps : List FldD) (n : List ExD) : Nat→Nat→Int × Nat × Int
 | 0,_=>(0,0,3)
 | f + 1,i=>match n[i]? with
  | none=>(0,0,3)
  | some x =>
   if arity x.op < 0 then (0,0,11)
   else if arity x.op = 0 then ((primary d ps x).1,i + 1,(primary d ps x).2)
   else
    let r1:=exAt d ps n f (i + 1)
    if r1.2.2 ≠ 0 then (0,0,r1.2.2)
    else if arity x.op = 1 then ((combine x r1.1 0 0).1,r1.2.1,(combine x r1.1 0 0).2)
    else
     let r2:=exAt d ps n f r1.2.1
     if r2.2.2 ≠ 0 then (0,0,r2.2.2)
     else if arity x.op = 2 then ((combine x r1.1 r2.1 0).1,r2.2.1,(combine x r1.1 r2.1 0).2)
     else
      let r3:=exAt d ps n f r2.2.1
      if r3.2.2 ≠ 0 then (0,0,r3.2.2)
      else ((combine x r1.1 r2.1 r3.1).1,r3.2.1,(combine x r1.1 r2.1 r3.1).2)
def exCheck (d : PrgD) (ps : List FldD) (n : List ExD) : Int × Int :=
 if 24 < n.length then (0,12) else
 let r:=exAt d ps n (n.length + 1) 0
 if r.2.2 ≠ 0 then (0,r.2.2) else if r.2.1 < n.length then (0,4) else (r.1,0)
def actDecl (a : ActD) : Int :=
 if !ident a.name then 6 else if 4 < a.params.l.length ∨ 12 < a.body.l.length then 12 else
 (scan a.params.l.length (hdrField a.params.l)).getD 0
def valCheck (d : PrgD) (ps : List FldD) (n : List ExD) (w : Int) : Int:=if (exCheck d ps n).2 = 0∧(exCheck d ps n).1 ≠ w then 10 else (exCheck d ps n).2
def stCheck (d : PrgD) (ps : List FldD) (s : StD) : Int :=
 if s.kind = 1 then match fldAt d s.dh s.df with | none=>8 | some f=>valCheck d ps s.value.l f.width
 else if s.kind = 2 ∨ s.kind = 3 then if s.hdr < 0 ∨ (d.headers.l.length : Int) ≤ s.hdr then 8 else 0
 else if s.kind = 4 ∨ s.kind = 5 then
  match (if s.reg < 0 then none else d.regs.l[s.reg.toNat]?) with
  | none=>8
  | some r =>
   if s.kind = 4∧(fldAt d s.dh s.df).isNone then 8
   else if (exCheck d ps s.index.l).2 ≠ 0 then (exCheck d ps s.index.l).2
   else if s.kind = 5 then valCheck d ps s.value.l r.width
   else if (match fldAt d s.dh s.df with | none=>0 | some f=>f.width) = r.width then 0 else 10
 else 11
def actCheckA (d : PrgD) (a : ActD) : Int × Int :=
 if actDecl a ≠ 0 then (-1,actDecl a) else
 (scan a.body.l.length fun i=>match a.body.l[i]? with | none=>none | some s=>if stCheck d a.params.l s = 0 then none else some ((i : Int),stCheck d a.params.l s)).getD (0,0)
def fitsW (v w : Int) : Bool:=!badW w && decide (v ≤ (2 : Int) ^ w.toNat - 1)
def widthOf (d : PrgD) (h f : Int) : Int:=match fldAt d h f with | none=>0 | some x=>if badW x.width then 0 else x.width
def callCheck (d : PrgD) (act : Int) (args : List Int) : Int :=
 match (if act < 0 then none else d.acts.l[act.toNat]?) with
 | none=>8
 | some a=>if args.length ≠ a.params.l.length then 2 else
  if (List.range args.length).all fun i=>match args[i]?,a.params.l[i]? with | some v,some f=>fitsW v f.width | _,_=>true then 0 else 9
def keyScan (d : PrgD) (l : List KeyD) (i : Nat) : Option (Int × Int) :=
 match l[i]? with
 | none=>none
 | some k=>if widthOf d k.h k.f = 0 then some ((i : Int),8) else if 1 ≤ k.kind∧k.kind ≤ 3 then none else some ((i : Int),11)
def keyBits (d : PrgD) (l : List KeyD) : Int:=isum (l.map fun k=>widthOf d k.h k.f)
def keyLpm (l : List KeyD) : Nat:=l.countP fun k=>k.kind == 2
def keysCheck (d : PrgD) (l : List KeyD) : Int × Int :=
 match scan l.length (keyScan d l) with
 | some e=>e
 | none=>if 1 < keyLpm l then (-2,7) else if 64 < keyBits d l then (-2,10) else (0,0)
def actScan (d : PrgD) (l : List Int) (i : Nat) : Option Int :=
 match l[i]? with
 | none=>none
 | some a=>if a < 0 ∨ (d.acts.l.length : Int) ≤ a then some 8 else if (l.take i).contains a then some 7 else none
def tblActs (d : PrgD) (t : TblD) : Int :=
 match scan t.acts.l.length (actScan d t.acts.l) with
 | some e=>e
 | none=>if !t.acts.l.contains t.dfl then 8 else callCheck d t.dfl t.args.l
def tblCheckA (d : PrgD) (t : TblD) : Int × Int :=
 if !ident t.name then (-1,6) else if 6 < t.keys.l.length ∨ 16 < t.acts.l.length then (-1,12) else if t.size < 1 ∨ 256 < t.size then (-1,9)
 else if (keysCheck d t.keys.l).2 ≠ 0 then keysCheck d t.keys.l else if tblActs d t ≠ 0 then (-3,tblActs d t) else (0,0)
end Go.Proofs.YtejkhflkeoihlaaGreat
namespace Go.Proofs.YtejkhflkeoihlaaGreat
open Go.Proofs.YtejkhflkeoihlaaGreat.Vf (sEq)
set_option linter.unusedVariables false
def leadsD (d : PrgD) (st nx : Int) : Bool:=nx == -1 || nx == -2 || (decide (st < nx) && decide (nx < d.states.l.length))
def andNotU (a b : Int) : Int:=Go.Proofs.YtejkhflkeoihlaaGreat.Vf.notI .u32 a b
def caseCheck (d : PrgD) (st : Int) (s : StaD) (c : CaseD) : Int :=
 if (!fitsW c.value (widthOf d s.onh s.onf)) || !fitsW c.mask (widthOf d s.onh s.onf) then 9
 else if andNotU c.value c.mask ≠ 0 then 5
 else if !leadsD d st c.next then 14 else 0
def casesScan (d : PrgD) (st : Int) (s : StaD) (i : Nat) : Option (Int × Int) :=
 match s.cases.l[i]? with
 | none=>none
 | some c=>if caseCheck d st s c = 0 then none else some ((i : Int),caseCheck d st s c)
def staCheck (d : PrgD) (st : Int) (s : StaD) : Int × Int :=
 if 4 < s.extract.l.length ∨ 8 < s.cases.l.length then (-1,12)
 else if s.extract.l.any (fun h=>decide (h < 0) || decide ((d.headers.l.length : Int) ≤ h)) then (-1,8)
 else if s.sel = true∧widthOf d s.onh s.onf = 0 then (-1,8)
 else if s.sel = false∧0 < s.cases.l.length then (-1,11)
 else match scan s.cases.l.length (casesScan d st s) with
  | some e=>e
  | none=>if leadsD d st s.dfl then (0,0) else (-1,14)
def staScan (d : PrgD) (i : Nat) : Option (Int × Int × Int) :=
 match d.states.l[i]? with
 | none=>none
 | some s=>if !ident s.name then some ((i : Int),-1,6) else if (d.states.l.take i).any (fun t=>sEq t.name s.name) then some ((i : Int),-1,7)
  else if (staCheck d i s).2 = 0 then none else some ((i : Int),(staCheck d i s).1,(staCheck d i s).2)
def parCheck (d : PrgD) : Int × Int × Int :=
 if d.states.l.length = 0 then (-1,-1,8) else if 12 < d.states.l.length then (-1,-1,12) else (scan d.states.l.length (staScan d)).getD (0,0,0)
mutual
def nodPre : NodD→List NodD
 | .mk k t c tl el=>.mk k t c tl el :: (nodsPre tl ++ nodsPre el)
def nodsPre : List NodD→List NodD
 | []=>[]
 | x :: l=>nodPre x ++ nodsPre l
end
def nodApplies (x : NodD) : Bool:=x.kind == 1 || x.kind == 3
def nodCheck (d : PrgD) (x : NodD) (used : List Int) : Int :=
 if x.kind = 1 ∨ x.kind = 3 then
  if x.table < 0 ∨ (d.tables.l.length : Int) ≤ x.table then 8
  else if used.contains x.table then 7
  else if x.kind = 1∧0 < x.thn.l.length + x.els.l.length then 5 else 0
 else if x.kind = 2 then
  if (exCheck d [] x.cond.l).2 ≠ 0 then (exCheck d [] x.cond.l).2 else if (exCheck d [] x.cond.l).1 ≠ 1 then 10 else 0
 else 11
def ctlGo (d : PrgD) : List NodD→List Int→Nat→Nat × Int
 | [],_,n=>(n,0)
 | x :: l,used,n=>if nodCheck d x used ≠ 0 then (n,nodCheck d x used) else ctlGo d l (if nodApplies x then used ++ [x.table] else used) (n + 1)
def depScan (d : PrgD) (i : Nat) : Option (Int × Int) :=
 match d.dep.l[i]? with
 | none=>none
 | some h=>if h < 0 ∨ (d.headers.l.length : Int) ≤ h then some ((i : Int),8) else if (d.dep.l.take i).contains h then some ((i : Int),7) else none
def depCheck (d : PrgD) : Int × Int:=if 8 < d.dep.l.length then (-1,12) else (scan d.dep.l.length (depScan d)).getD (0,0)
def actCheck (d : PrgD) (i : Int) : Int × Int:=match (if i < 0 then none else d.acts.l[i.toNat]?) with | none=>(-1,8) | some a=>actCheckA d a
def tblCheck (d : PrgD) (i : Int) : Int × Int:=match (if i < 0 then none else d.tables.l[i.toNat]?) with | none=>(-1,8) | some t=>tblCheckA d t
abbrev Diag:=Int × Int × Int × Int
def req (code part item sub : Int) : Option Diag:=if code = 0 then none else some (code,part,item,sub)
def dupS (l : List ByteArray) (i : Nat) : Int:=match l[i]? with | none=>0 | some s=>if (l.take i).any (fun t=>sEq t s) then 7 else 0
def firstD : List (Option Diag)→Option Diag
 | []=>none
 | x :: l=>match x with | some e=>some e | none=>firstD l
def metaName : ByteArray := "meta".toUTF8
def prgLimits (d : PrgD) : Option Diag :=
 firstD [req (if ident d.name then 0 else 6) 0 0 0,req (if 8 < d.headers.l.length then 12 else 0) 0 1 0,req (if 4 < d.regs.l.length then 12 else 0) 0 3 0,
  req (if 16 < d.acts.l.length then 12 else 0) 0 4 0,req (if 12 < d.tables.l.length then 12 else 0) 0 5 0]
def prgHdr (d : PrgD) (i : Nat) : Option Diag :=
 match d.headers.l[i]? with
 | none=>none
 | some h=>firstD [req (hdrCheck h) 1 i 0,req (if sEq h.name metaName then 6 else 0) 1 i 0,req (dupS (d.headers.l.map (·.name)) i) 1 i 0]
def prgMeta (d : PrgD) (i : Nat) : Option Diag :=
 match d.meta_.l[i]? with
 | none=>none
 | some f=>firstD [req (if ident f.name then 0 else 6) 2 i 0,req (if badW f.width then 10 else 0) 2 i 0,req (dupS (d.meta_.l.map (·.name)) i) 2 i 0]
def metaIs (l : List FldD) (i : Nat) (s : ByteArray) (w : Int) : Bool:=match l[i]? with | none=>false | some f=>sEq f.name s && f.width == w
def prgMetas (d : PrgD) : Option Diag :=
 firstD [req (if 12 < d.meta_.l.length then 12 else 0) 2 0 0,scan d.meta_.l.length (prgMeta d),
  req (if metaIs d.meta_.l 0 "in".toUTF8 8 then 0 else 5) 2 0 0, req (if metaIs d.meta_.l 1 "out".toUTF8 8 then 0 else 5) 2 1 0, req (if metaIs d.meta_.l 2 "drop".toUTF8 1 then 0 else 5) 2 2 0]
def prgReg (d : PrgD) (i : Nat) : Option Diag :=
 match d.regs.l[i]? with
 | none=>none
 | some r=>firstD [req (regCheck r) 3 i 0,req (dupS (d.regs.l.map (·.name)) i) 3 i 0]
def prgAct (d : PrgD) (i : Nat) : Option Diag:=firstD [req (actCheck d i).2 4 i (actCheck d i).1,req (dupS (d.acts.l.map (·.name)) i) 4 i 0]
def prgTbl (d : PrgD) (i : Nat) : Option Diag:=firstD [req (tblCheck d i).2 5 i (tblCheck d i).1,req (dupS (d.tables.l.map (·.name)) i) 5 i 0]
def prgObjs (d : PrgD) : Option Diag:=firstD [scan d.regs.l.length (prgReg d),scan d.acts.l.length (prgAct d),scan d.tables.l.length (prgTbl d)]
def wr (x : Int) : Int:=IntKind.i64.wrap x
theorem wr_id {x : Int} (h0 : -9223372036854775808 ≤ x) (h1 : x ≤ 9223372036854775807) : wr x = x:=by
 unfold wr
 simp [IntKind.wrap,IntKind.bits,IntKind.signed]
 omega
def nodCheckW (d : PrgD) (x : NodD) (used : List Int) : Int :=
 if x.kind = 1 ∨ x.kind = 3 then
  if x.table < 0 ∨ (d.tables.l.length : Int) ≤ x.table then 8
  else if used.contains x.table then 7
  else if x.kind = 1∧0 < wr ((x.thn.l.length : Int) + x.els.l.length) then 5 else 0
 else if x.kind = 2 then
  if (exCheck d [] x.cond.l).2 ≠ 0 then (exCheck d [] x.cond.l).2 else if (exCheck d [] x.cond.l).1 ≠ 1 then 10 else 0
 else 11
def ctlGoW (d : PrgD) : List NodD→List Int→Nat→Nat × Int
 | [],_,n=>(n,0)
 | x :: l,used,n=>if nodCheckW d x used ≠ 0 then (n,nodCheckW d x used) else ctlGoW d l (if nodApplies x then used ++ [x.table] else used) (n + 1)
mutual
def nodDeepW : NodD→Int
 | .mk _ _ _ tl el=>max (nodsDeepW tl) (nodsDeepW el)
def nodsMostW : List NodD→Int
 | []=>0
 | x :: l=>max (nodDeepW x) (nodsMostW l)
def nodsDeepW : List NodD→Int
 | []=>0
 | x :: l=>wr (max (nodDeepW x) (nodsMostW l) + 1)
end
def ctlCheckW (d : PrgD) : Int × Int :=
 if 24 < wr (nodsPre d.control.l).length then (-1,12)
 else if 6 < nodsDeepW d.control.l then (-1,14)
 else if (ctlGoW d (nodsPre d.control.l) [] 0).2 ≠ 0 then (wr (ctlGoW d (nodsPre d.control.l) [] 0).1,(ctlGoW d (nodsPre d.control.l) [] 0).2) else (0,0)
def prgFlowW (d : PrgD) : Option Diag:=firstD [req (parCheck d).2.2 6 (parCheck d).1 (parCheck d).2.1,req (ctlCheckW d).2 7 (ctlCheckW d).1 0,req (depCheck d).2 8 (depCheck d).1 0]
def prgCheckW (d : PrgD) : Diag:=(firstD [prgLimits d,scan d.headers.l.length (prgHdr d),prgMetas d,prgObjs d,prgFlowW d]).getD (0,0,0,0)
theorem wr_add (x y : Int) : wr (wr x + y) = wr (x + y):=by
 unfold wr
 simp [IntKind.wrap,IntKind.bits,IntKind.signed]
 omega
end Go.Proofs.YtejkhflkeoihlaaGreat
namespace Go.Proofs.YtejkhflkeoihlaaGreat
open Go.RowKit Go.Proofs.YtejkhflkeoihlaaGreat.Vf
set_option linter.unusedVariables false
set_option linter.unusedSimpArgs false
set_option maxRecDepth 100000
set_option maxHeartbeats 4000000
attribute [simp] opPure_len opPure_index opBuild placesA fillA opBuildSlice zeroRow chunk Ty.agg
@[simp] theorem len_s {s : ByteArray} : lenP Tryz.prog 9 (.f (strF s)) = some (.f (intF s.size)):=lenP_str (by kernel_rfl)
theorem size_len (s : ByteArray) : s.size = s.data.toList.length:=Lib.size_eq s
theorem idx_s {s : ByteArray} {i : Nat} {b : UInt8} (hb : s.data.toList[i]? = some b) : idxP Tryz.prog 9 (.f (strF s)) (.f (intF i)) = some (.f (.sc (.int .u8 b.toNat))):=idxP_str (by kernel_rfl) hb
theorem let_g (c : UInt8) : Gives Tryz.prog 256 [.sc (.int .u8 c.toNat)] (boolF (isLet c)):=by
 refine Gives.of mixed Tryz.func256 rfl rfl rfl (by kernel_rfl) ?_
 by_cases c1 : (97 : Int) ≤ c.toNat <;> by_cases c2 : (c.toNat : Int) ≤ 122 <;> by_cases c3 : (65 : Int) ≤ c.toNat <;> by_cases c4 : (c.toNat : Int) ≤ 90 <;> simp [c1,c2,c3,c4,isLet] <;> omega
theorem dig_g (c : UInt8) : Gives Tryz.prog 259 [.sc (.int .u8 c.toNat)] (boolF (isDig c)):=by
 refine Gives.of mixed Tryz.func259 rfl rfl rfl (by kernel_rfl) ?_
 by_cases c1 : (48 : Int) ≤ c.toNat <;> by_cases c2 : (c.toNat : Int) ≤ 57 <;> simp [c1,c2,isDig] <;> omega
theorem idc_g (c : UInt8) : Gives Tryz.prog 258 [.sc (.int .u8 c.toNat)] (boolF (idc c)):=by
 refine Gives.of mixed Tryz.func258 rfl rfl rfl (by kernel_rfl) ?_
 simp
 refine call_g (let_g c) ?_
 cases h1 : isLet c with
 | true=>simp [idc,h1]
 | false =>
  simp
  refine call_g (dig_g c) ?_
  cases h2 : isDig c with
  | true=>simp [idc,h1,h2]
  | false =>
   by_cases h3 : (c.toNat : Int) = 95 <;> simp [idc,h1,h2,h3] <;> omega
theorem tw_len {α : Type} {p : α→Bool} {l : List α} {i : Nat} (h : noneT (fun x=>!p x) l i) (hi : i ≤ l.length) (hs : ∀ x,l[i]? = some x→p x = false) : (i : Int) = (l.takeWhile p).length:=by
 suffices hh : (l.takeWhile p).length = i by rw [hh]
 induction l generalizing i with
 | nil=>simp at hi; subst hi; rfl
 | cons a l ih =>
  cases i with
  | zero=>simp [List.takeWhile_cons,hs a rfl]
  | succ i =>
   have ha : p a = true:=by simpa using h 0 a (by omega) rfl
   rw [List.takeWhile_cons,if_pos ha,List.length_cons,ih (i:=i) (fun j x hj hx=>h (j + 1) x (by omega) (by simpa using hx)) (by simpa using hi) (fun x hx=>hs x (by simpa using hx))]
theorem extent_g (s : ByteArray) (hs : s.size < 2^62) : Gives Tryz.prog 257 [strF s,.fn 258 []] (intF (idLen s.data.toList)):=by
 refine Gives.of mixed Tryz.func257 rfl rfl rfl (by kernel_rfl) ?_
 have hsz:=size_len s
 simp
 refine forX mixed s.size (fun i st=>noneT (fun c=>!idc c) s.data.toList i∧Vf.Sl [(0,.f (strF s)),(1,.f (.fn 258 [])),(5,.f (intF i))] 20 [] [] st) (by kernel_rfl) ⟨.zero,Sl.of rfl rfl rfl⟩ ?_
 rintro i ⟨ts,h,kk⟩ hi ⟨hn,rfl,rfl,f,rfl⟩
 by_cases hlt : i < s.size
 ·obtain ⟨c,hc,hc'⟩:=nth_of (show i < s.data.toList.length by omega)
  have hw:=wrap64 (x:=(i : Int) + 1) (by omega) (by omega)
  simp [hlt,idx_s hc']
  refine call_g (idc_g c) ?_
  cases hx : idc c with
  | true =>
   simp [hw,hlt]
   exact ⟨hn.next hc' (by simp [hx]),Sl.of rfl rfl rfl⟩
  | false =>
   simp
   exact tw_len hn (by omega) (fun x hx'=>by rw [hc'] at hx'; obtain rfl:=Option.some.inj hx'; exact hx)
 ·simp [hlt]
  exact tw_len hn (by omega) (fun x hx'=>by rw [List.getElem?_eq_none (by omega)] at hx'; cases hx')
theorem ident_g (s : ByteArray) (hs : s.size < 2^62) : Gives Tryz.prog 188 [strF s] (boolF (ident s)):=by
 refine Gives.of mixed Tryz.func188 rfl rfl rfl (by kernel_rfl) ?_
 have hsz:=size_len s
 by_cases c1 : s.size = 0
 ·simp [c1,ident]
 by_cases c2 : (16 : Int) < s.size
 ·simp [c1,c2,ident]; omega
 obtain ⟨c,hc,hc'⟩:=nth_of (show 0 < s.data.toList.length by omega)
 have h0 : idxP Tryz.prog 9 (.f (strF s)) (.f (intF 0)) = some (.f (.sc (.int .u8 c.toNat))):=idx_s (i:=0) hc'
 have hd : s.data.toList.headD 0 = c:=by
  cases h : s.data.toList with
  | nil=>rw [h] at hc'; cases hc'
  | cons a l=>rw [h] at hc'; simpa using hc'
 have c1' : 0 < s.size:=by omega
 have c2' : s.size ≤ 16:=by omega
 have hI : ident s = (isLet c && decide ((idLen s.data.toList : Int) = s.size)):=by
  unfold ident
  rw [hd,decide_eq_true c1',decide_eq_true c2']
  simp only [Bool.true_and]
  congr 1
  rw [Bool.eq_iff_iff,beq_iff_eq,decide_eq_true_eq]
  omega
 simp [c1,c2,h0]
 refine call_g (let_g c) ?_
 cases h1 : isLet c with
 | false=>simp [hI,h1]
 | true =>
  simp
  refine call_g (extent_g s hs) ?_
  simp [hI,h1]
end Go.Proofs.YtejkhflkeoihlaaGreat
namespace Go.Proofs.YtejkhflkeoihlaaGreat
open Go.RowKit Go.Proofs.YtejkhflkeoihlaaGreat.Vf
set_option linter.unusedVariables false
set_option linter.unusedSimpArgs false
set_option maxRecDepth 100000
set_option maxHeartbeats 4000000
theorem uFld : runPure Tryz.prog (underlying 164) = some (.struct #[⟨ "Name", 9, 0, false, "", "", 0⟩, ⟨ "Width", 3, 1, false, "", "", 16⟩]) := by kernel_rfl
theorem eqFld0 {T : TV} {x y : Operand} {a b : ByteArray} {c d : Int} : opBin Tryz.prog T .eql 164 x y (.agg [.f (strF a),.f (intF c)]) (.agg [.f (strF b),.f (intF d)]) = some (.f (.sc (.bool (sEq a b && decide (c = d)))))∧opBin Tryz.prog T .neq 164 x y (.agg [.f (strF a),.f (intF c)]) (.agg [.f (strF b),.f (intF d)]) = some (.f (.sc (.bool (!(sEq a b && decide (c = d)))))):=by
 rw [← beq_bytes]
 exact opBin_eq (by kernel_rfl) rfl rfl (pureEq2 9999 uFld (by kernel_rfl) (by decide) (by decide) (by kernel_rfl) (by kernel_rfl) (by kernel_rfl) (by kernel_rfl) (pureEqStr 9998 (by kernel_rfl)) (pureEqInt (k':=.i64) 9998 (by kernel_rfl)))
@[simp] theorem eqFld {T : TV} {x y : Operand} {a b : ByteArray} {c d : Int} : opBin Tryz.prog T .eql 164 x y (.agg [.f (strF a),.f (intF c)]) (.agg [.f (strF b),.f (intF d)]) = some (.f (.sc (.bool (sEq a b && decide (c = d))))):=eqFld0.1
@[simp] theorem neqFld {T : TV} {x y : Operand} {a b : ByteArray} {c d : Int} : opBin Tryz.prog T .neq 164 x y (.agg [.f (strF a),.f (intF c)]) (.agg [.f (strF b),.f (intF d)]) = some (.f (.sc (.bool (!(sEq a b && decide (c = d)))))):=eqFld0.2
theorem wInv_g (w : Int) : Gives Tryz.prog 101 [intF w] (boolF (badW w)):=by
 refine Gives.of mixed Tryz.func101 rfl rfl rfl (by kernel_rfl) ?_
 by_cases c1 : w < 1 <;> by_cases c2 : 32 < w <;> simp [c1,c2,badW]
theorem when_g (q : Bool) (e : Int) : Gives Tryz.prog 93 [boolF q,intF e] (intF (if q then e else 0)):=by
 refine Gives.of mixed Tryz.func93 rfl rfl rfl (by kernel_rfl) ?_
 cases q <;> simp
theorem sum_g (l : List Int) (c : Cap) (hl : l.length < 100000) (hx : ∀ x ∈ l,-100000 ≤ x∧x ≤ 100000) : Gives Tryz.prog 189 [.sl (encL intF l) c] (intF (isum l)):=by
 refine Gives.of mixed Tryz.func189 rfl rfl rfl (by kernel_rfl) ?_
 simp
 have hb : ∀ k,k ≤ l.length→-100000 * (k : Int) ≤ isum (l.take k)∧isum (l.take k) ≤ 100000 * k:=by
  intro k
  induction l generalizing k with
  | nil=>intro hk; simp at hk; subst hk; simp [isum]
  | cons a l ih =>
   intro hk
   cases k with
   | zero=>simp [isum]
   | succ k =>
    have h1:=ih (by simp at hl; omega) (fun x h=>hx x (.tail _ h)) k (by simpa using hk)
    have h2:=hx a (.head _)
    simp only [List.take_succ_cons,isum]
    omega
 have hs : ∀ k x,l[k]? = some x→isum (l.take (k + 1)) = isum (l.take k) + x:=by
  intro k x hk
  clear hb hx hl
  induction l generalizing k with
  | nil=>simp at hk
  | cons a l ih =>
   cases k with
   | zero=>simp at hk; simp [isum,hk]
   | succ k=>have:=ih k (by simpa using hk); simp only [List.take_succ_cons,isum,this]; omega
 refine forX mixed l.length (fun k s=>Vf.Sl [(3,.f (intF (isum (l.take k)))),(6,.f (.sl (encL intF l) c)),(7,.f (intF l.length)),(8,.f (intF k))] 17 [] [] s) (by kernel_rfl) (Sl.of rfl rfl rfl) ?_
 rintro k ⟨t,h,kk⟩ hk ⟨rfl,rfl,f,rfl⟩
 by_cases hlt : k < l.length
 ·obtain ⟨x,hx1,hx'⟩:=nth_of hlt
  have hw:=wrap64 (x:=(k : Int) + 1) (by omega) (by omega)
  have b1:=hb k hk
  have b2:=hx x (List.mem_of_getElem? hx')
  have hw2:=wrap64 (x:=isum (l.take k) + x) (by omega) (by omega)
  simp [hlt,hx1,hw,hw2]
  rw [← hs k x hx']
  exact Sl.of rfl rfl rfl
 ·obtain rfl : k = l.length:=by omega
  simp
def widI (h : HdrD) (i : Nat) (s : St) : Prop:=∃ g k x tk,OwnT k (encL intF (mapTo (·.width) h.fields.l i)) 1 x tk∧Vf.Sl [(3,x),(7,.f (sl (encL fFld h.fields.l))),(8,.f (intF h.fields.l.length)),(9,.f (intF i))] 20 g k s
theorem widths_g (h : HdrD) (hl : h.fields.l.length < 100000) : Gives Tryz.prog 190 [fHdr h] (ownF (encL intF (h.fields.l.map (·.width)))):=by
 refine Gives.of mixed Tryz.func190 rfl rfl rfl (by kernel_rfl) ?_
 simp
 refine forX mixed h.fields.l.length (widI h) (by kernel_rfl) ⟨_,_,_,0,.nil,Sl.of rfl rfl rfl⟩ ?_
 rintro i ⟨ts,hh,kk⟩ hi ⟨g,k,x,tk,ho,rfl,rfl,f,rfl⟩
 by_cases hlt : i < h.fields.l.length
 ·obtain ⟨l,hl1,hl'⟩:=nth_of hlt
  have hw:=wrap64 (x:=(i : Int) + 1) (by omega) (by omega)
  simp [hlt,hl1,hw,-opAppend]
  obtain ⟨t',k',e,ho',_⟩:=append_own ty29 ty3 (by simp) ho (y:=.f (.sl [intF l.width] .full)) rfl (by simp) (by simp) (by have:=mapTo_le (f:=fun x : FldD=>x.width) (l:=h.fields.l) (i:=i); simp; omega) (by have:=mapTo_le (f:=fun x : FldD=>x.width) (l:=h.fields.l) (i:=i); simp; omega)
  rw [e]
  simp [hw]
  exact ⟨_,_,_,_,by rw [mapTo_next hl',← encL_snoc]; exact ho',Sl.of rfl rfl rfl⟩
 ·obtain rfl : i = h.fields.l.length:=by omega
  simp [hlt]
  rw [ho.ret,mapTo_all]
def okWs (l : List Int) : Bool:=l.all fun w=>!badW w
theorem bvalid_g (l : List Int) (c : Cap) (hl : l.length < 2^62) : Gives Tryz.prog 227 [.sl (encL intF l) c] (boolF (okWs l)):=by
 refine Gives.of mixed Tryz.func227 rfl rfl rfl (by kernel_rfl) ?_
 simp
 refine forX mixed l.length (fun k s=>noneT badW l k∧Vf.Sl [(5,.f (.sl (encL intF l) c)),(6,.f (intF l.length)),(7,.f (intF k))] 18 [] [] s) (by kernel_rfl) ⟨.zero,Sl.of rfl rfl rfl⟩ ?_
 rintro k ⟨t,h,kk⟩ hk ⟨hn,rfl,rfl,f,rfl⟩
 by_cases hlt : k < l.length
 ·obtain ⟨x,hx,hx'⟩:=nth_of hlt
  have hw:=wrap64 (x:=(k : Int) + 1) (by omega) (by omega)
  have hit : badW x = true→okWs l = false:=fun h=>by
   have:=any_hit hx' h
   unfold okWs
   rw [List.all_eq_false]
   obtain ⟨y,hy,h2⟩:=List.any_eq_true.1 this
   exact ⟨y,hy,by simp [h2]⟩
  by_cases c1 : x < 1
  ·simp [hlt,hx,c1,hit (by simp [badW,c1])]
  ·by_cases c2 : 32 < x
   ·simp [hlt,hx,c1,c2,hit (by simp [badW,c2])]
   ·simp [hlt,hx,c1,c2,hw]
    exact ⟨hn.next hx' (by simp [badW,c1,c2]),Sl.of rfl rfl rfl⟩
 ·have:=hn.all hlt
  have : okWs l = true:=by
   unfold okWs
   rw [List.all_eq_true]
   intro x hx
   have:=List.any_eq_false.1 this x hx
   simpa using this
  simp [hlt,this]
def maskM (w : Int) : Int:=if badW w then 0 else 2 ^ w.toNat - 1
theorem mask_shr {w : Int} (h : badW w = false) : shrI .u32 4294967295 (32 - w) = 2 ^ w.toNat - 1:=by
 simp only [badW,Bool.or_eq_false_iff,decide_eq_false_iff_not] at h
 obtain ⟨n,rfl⟩ : ∃ n : Nat,w = n:=⟨w.toNat,by omega⟩
 have h1 : n ≤ 32:=by omega
 have h2 : 1 ≤ n:=by omega
 clear h
 have : ∀ n : Nat,n ≤ 32→shrI .u32 4294967295 (32 - (n : Int)) = 2 ^ (n : Int).toNat - 1:=by decide
 exact this n h1
theorem mask_g (w : Int) : Gives Tryz.prog 158 [intF w] (u32F (maskM w)):=by
 refine Gives.of mixed Tryz.func158 rfl rfl rfl (by kernel_rfl) ?_
 simp
 refine call_g (bvalid_g [w] .full (by simp)) ?_
 have e : okWs [w] = !badW w:=by simp [okWs]
 rw [e]
 cases h : badW w with
 | true=>simp [maskM,h]
 | false =>
  have h':=h
  simp only [badW,Bool.or_eq_false_iff,decide_eq_false_iff_not] at h'
  have hw:=wrap64 (x:=32 - w) (by omega) (by omega)
  have h3 : ¬ (32 - w < 0):=by omega
  simp [hw,h3,maskM,h,mask_shr h]
end Go.Proofs.YtejkhflkeoihlaaGreat
namespace Go.Proofs.YtejkhflkeoihlaaGreat
open Go.RowKit Go.Proofs.YtejkhflkeoihlaaGreat.Vf
set_option linter.unusedVariables false
set_option linter.unusedSimpArgs false
set_option maxRecDepth 100000
set_option maxHeartbeats 4000000
theorem mask_zero {w : Int} : maskM w = 0 ↔ badW w = true:=by
 unfold maskM
 cases h : badW w with
 | true=>simp
 | false =>
  simp only [badW,Bool.or_eq_false_iff,decide_eq_false_iff_not] at h
  have : (2 : Int) ^ w.toNat ≥ 2:=by
   obtain ⟨n,hn⟩ : ∃ n,w.toNat = n + 1:=⟨w.toNat - 1,by omega⟩
   rw [hn,Int.pow_succ]
   have : (0 : Int) < 2 ^ n:=Int.pow_pos (by decide)
   omega
  simp
  omega
theorem sized_g (r : RegD) : Gives Tryz.prog 192 [fReg r] (boolF (decide (1 ≤ r.size) && decide (r.size ≤ 64))):=by
 refine Gives.of mixed Tryz.func192 rfl rfl rfl (by kernel_rfl) ?_
 by_cases c1 : 1 ≤ r.size <;> by_cases c2 : r.size ≤ 64 <;> simp [c1,c2]
theorem reg_g (r : RegD) (hn : r.name.size < 2^62) : Gives Tryz.prog 104 [fReg r] (intF (regCheck r)):=by
 refine Gives.of mixed Tryz.func104 rfl rfl rfl (by kernel_rfl) ?_
 simp
 refine call_g (ident_g r.name hn) ?_
 cases h1 : ident r.name with
 | false=>simp [regCheck,h1]
 | true =>
  simp
  refine call_g (mask_g r.width) ?_
  cases h2 : badW r.width with
  | true=>simp [mask_zero.2 h2,regCheck,h1,h2]
  | false =>
   have : ¬ maskM r.width = 0:=fun h=>by rw [mask_zero.1 h] at h2; cases h2
   simp [this]
   refine call_g (sized_g r) ?_
   by_cases c1 : 1 ≤ r.size <;> by_cases c2 : r.size ≤ 64 <;> simp [c1,c2,regCheck,h1,h2]
def cHdr (h : HdrD) : List AV:=[.f (strF h.name),.f (sl (encL fFld h.fields.l))]
def fldHit (l : List FldD) (i : Nat) : Bool:=(hdrField l i).isSome
def hck1 (h : HdrD) (i : Nat) (s : St) : Prop:=noneT (fldHit h.fields.l) (List.range h.fields.l.length) i∧∃ g,Vf.Sl [(1,.ref 0 0),(23,.f (sl (encL fFld h.fields.l))),(24,.f (intF h.fields.l.length)),(25,.f (intF i))] 64 (cHdr h :: g) [] s
def hck2 (h : HdrD) (i : Nat) (x : FldD) (g : List (List AV)) (k : Nat) (s : St) : Prop:=noneT (fun y=>sEq y.name x.name) (h.fields.l.take i) k∧∃ g2,Vf.Sl [(1,.ref 0 0),(3,.f (intF i)),(4,.ref (g.length + 1) 0),(23,.f (sl (encL fFld h.fields.l))),(24,.f (intF h.fields.l.length)),(25,.f (intF i)),(45,.f (sl (encL fFld (h.fields.l.take i)))),(46,.f (intF i)),(47,.f (intF k))] 64 (cHdr h :: (g ++ [.f (strF x.name),.f (intF x.width)] :: g2)) [] s
theorem range_at {n j : Nat} (h : j < n) : (List.range n)[j]? = some j:=List.getElem?_range h
theorem scan_of {E : Type} {n : Nat} {f : Nat→Option E} (h : noneT (fun i=>(f i).isSome) (List.range n) n) : scan n f = none :=
 scan_none fun i hi=>by simpa using h i i hi (range_at hi)
theorem scan_at {E : Type} {n k : Nat} {f : Nat→Option E} {e : E} (h : noneT (fun i=>(f i).isSome) (List.range n) k) (hk : k < n) (he : f k = some e) : scan n f = some e :=
 scan_some hk (fun i hi=>by simpa using h i i hi (range_at (by omega))) he
theorem sliceF {t e : TypeId} {T : TV} {α : Type} {enc : α→FV} {s b : Nat} {z : List AV} {ety : Ty} (ht : T t = some ⟨s,b,.slice e,z⟩) (he : T e = some ety) (hz : ety.size ≠ 0) (hc : ∀ x,(enc x).cells.length = ety.size) {l : List α} {c : Cap} {i : Nat} (hi : i ≤ l.length) :
  opSlice T t (.f (.sl (encL enc l) c)) none (some (.f (.sc (.int .i64 i)))) none = some (.f (sl (encL enc (l.take i)))):=by
 simp only [opSlice,ht,he,optIdx,idx,Int.natCast_nonneg,if_true,Int.toNat_natCast]
 rw [if_pos ⟨by omega,by simpa using hi,by simp [encL,hc],hz⟩]
 simp
theorem isum_small {l : List Int} (h : ∀ x ∈ l,1 ≤ x∧x ≤ 32) : 0 ≤ isum l∧isum l ≤ 32 * l.length:=by
 induction l with
 | nil=>simp [isum]
 | cons a l ih =>
  have h1:=ih fun x hx=>h x (.tail _ hx)
  have h2:=h a (.head _)
  simp only [isum,List.length_cons]
  omega
theorem hdr_g (h : HdrD) (hn : h.name.size < 2^62) (hs : ∀ x ∈ h.fields.l,x.name.size < 2^62) : Gives Tryz.prog 97 [fHdr h] (intF (hdrCheck h)):=by
 refine Gives.of mixed Tryz.func97 rfl rfl rfl (by kernel_rfl) ?_
 simp
 refine call_g (ident_g h.name hn) ?_
 cases h1 : ident h.name with
 | false=>simp [hdrCheck,h1]
 | true =>
 by_cases c1 : h.fields.l.length = 0
 ·simp [hdrCheck,h1,c1]
 by_cases c2 : 12 < (h.fields.l.length : Int)
 ·have c2' : 12 < h.fields.l.length:=by omega
  simp [hdrCheck,h1,c1,c2,c2']
 have c2' : ¬ 12 < h.fields.l.length:=by omega
 simp [c1,c2]
 refine forX mixed h.fields.l.length (hck1 h) (by kernel_rfl) ⟨.zero,[],Sl.of rfl rfl rfl⟩ ?_
 rintro i ⟨ts,hh,kk⟩ hi ⟨hno,g,rfl,rfl,f,rfl⟩
 by_cases hlt : i < h.fields.l.length
 ·obtain ⟨x,hx,hx'⟩:=nth_of hlt
  have hw:=wrap64 (x:=(i : Int) + 1) (by omega) (by omega)
  have hf : hdrField h.fields.l i = if !ident x.name then some 6 else if badW x.width then some 10 else if (h.fields.l.take i).any (fun g=>sEq g.name x.name) then some 7 else none:=by simp [hdrField,hx']
  have out : ∀ e,hdrField h.fields.l i = some e→hdrCheck h = e:=fun e he=>by
   simp only [hdrCheck,h1,c1,c2',scan_at hno hlt he,Bool.not_true,Bool.false_eq_true,if_false]
  simp [hlt,hx,cHdr]
  refine call_g (ident_g x.name (hs x (List.mem_of_getElem? hx'))) ?_
  cases i1 : ident x.name with
  | false=>simp [out 6 (by rw [hf,i1]; rfl)]
  | true =>
  by_cases w1 : x.width < 1
  ·simp [w1,out 10 (by rw [hf,i1]; simp [badW,w1])]
  by_cases w2 : 32 < x.width
  ·simp [w1,w2,out 10 (by rw [hf,i1]; simp [badW,w2])]
  have wb : badW x.width = false:=by simp [badW,w1,w2]
  have hmin : min i h.fields.l.length = i:=by omega
  simp [w1,w2]
  rw [sliceF (enc:=fFld) (l:=h.fields.l) (c:=.un) (i:=i) ty23 ty164 (by simp) (fun _=>rfl) (Nat.le_of_lt hlt)]
  simp [hmin]
  refine forX mixed i (hck2 h i x g) (by kernel_rfl) ⟨.zero,[],Sl.of rfl rfl rfl⟩ ?_
  rintro k ⟨ts,hh,kk⟩ hk ⟨hno2,g2,rfl,rfl,f,rfl⟩
  by_cases hkt : k < i
  ·obtain ⟨y,hy,hy'⟩:=nth_of (show k < (h.fields.l.take i).length by simp; omega)
   have hw':=wrap64 (x:=(k : Int) + 1) (by omega) (by omega)
   cases he : sEq y.name x.name with
   | true =>
    have:=any_hit (p:=fun y : FldD=>sEq y.name x.name) hy' he
    simp [hkt,hy,cHdr,he,hw',hw]
    exact (out 7 (by rw [hf,i1,wb,this]; rfl)).symm
   | false =>
    simp [hkt,hy,cHdr,he,hw',hw]
    exact ⟨hno2.next hy' he,_,Sl.of rfl rfl rfl⟩
  ·obtain rfl : k = i:=by omega
   have:=hno2.all (by simp; omega)
   simp [cHdr,hw]
   exact ⟨hno.next (range_at hlt) (by simp [fldHit,hf,i1,wb,this]),_,Sl.of rfl rfl rfl⟩
 ·obtain rfl : i = h.fields.l.length:=by omega
  have hsc:=scan_of hno
  have hall : ∀ x ∈ h.fields.l,badW x.width = false:=fun x hx=>by
   obtain ⟨j,hj,rfl⟩:=List.getElem_of_mem hx
   have:=hno j j hj (range_at hj)
   simp only [fldHit,hdrField,List.getElem?_eq_getElem hj] at this
   cases hb : badW (h.fields.l[j]).width with
   | false=>rfl
   | true=>rw [hb] at this; revert this; cases ident (h.fields.l[j]).name <;> simp
  have hr : ∀ x ∈ h.fields.l.map (·.width),1 ≤ x∧x ≤ 32:=fun x hx=>by
   obtain ⟨y,hy,rfl⟩:=List.mem_map.1 hx
   have:=hall y hy
   simp only [badW,Bool.or_eq_false_iff,decide_eq_false_iff_not] at this
   omega
  simp [hlt,cHdr]
  refine call_g (widths_g h (by omega)) ?_
  obtain ⟨c,hc⟩ : ∃ c,ownF (encL intF (h.fields.l.map (·.width))) = .sl (encL intF (h.fields.l.map (·.width))) c:=by
   unfold ownF
   split
   ·rename_i hq; rw [hq]; exact ⟨_,rfl⟩
   ·exact ⟨_,rfl⟩
  rw [hc]
  try simp
  refine call_g (sum_g _ c (by simp; omega) (fun x hx=>by have:=hr x hx; omega)) ?_
  have hb:=isum_small hr
  have hmod : (isum (h.fields.l.map (·.width))).tmod 8 = sumW h.fields.l % 8:=Int.tmod_eq_emod_of_nonneg hb.1
  have hch : hdrCheck h = if sumW h.fields.l % 8 = 0 then 0 else 10:=by
   simp only [hdrCheck,h1,c1,c2',hsc,Bool.not_true,Bool.false_eq_true,if_false]
  by_cases hz : sumW h.fields.l % 8 = 0
  ·simp [hmod,hz,hch]
  ·simp [hmod,hz,hch]
end Go.Proofs.YtejkhflkeoihlaaGreat
namespace Go.Proofs.YtejkhflkeoihlaaGreat
open Go.RowKit
set_option linter.unusedVariables false
abbrev failV (c p i s : Int) : Value:=.iface 125 (.agg #[.int .i64 c,.int .i64 p,.int .i64 i,.int .i64 s])
theorem require_no (p i s : Int) (w : World) : Calls Tryz.prog 92 #[.int .i64 0,.int .i64 p,.int .i64 i,.int .i64 s] w fun e w'=>e = .returned (.tuple #[])∧w = w':=by
 go_enter Tryz.func92,Tryz.ntmps92
 go_wp2_with fail
 go_returns
 exact ⟨rfl,rfl⟩
theorem require_yes (c p i s : Int) (hc : c ≠ 0) (w : World) : Calls Tryz.prog 92 #[.int .i64 c,.int .i64 p,.int .i64 i,.int .i64 s] w fun e w'=>e = .panicked [{ v:=failV c p i s,recovered:=false }]∧w = w':=by
 have hc1 : (c != 0) = true:=by simp [hc]
 clear hc
 go_enter Tryz.func92,Tryz.ntmps92
 go_wp2_with fail
 exact ⟨rfl,rfl,rfl⟩
end Go.Proofs.YtejkhflkeoihlaaGreat
namespace Go.Proofs.YtejkhflkeoihlaaGreat
open Go.RowKit Go.Proofs.YtejkhflkeoihlaaGreat.Vf
set_option linter.unusedVariables false
set_option linter.unusedSimpArgs false
set_option maxRecDepth 100000
set_option maxHeartbeats 4000000
theorem ownF_is (l : List FV) : ∃ c,ownF l = .sl l c:=by
 unfold ownF
 split
 ·rename_i h; subst h; exact ⟨_,rfl⟩
 ·exact ⟨_,rfl⟩
theorem nmHdr_g (x : HdrD) : Gives Tryz.prog 96 [fHdr x] (strF x.name):=by
 refine Gives.of mixed Tryz.func96 rfl rfl rfl (by kernel_rfl) ?_
 simp
def nmsHdrI (l : List HdrD) (i : Nat) (s : St) : Prop:=∃ g k x tk,OwnT k (encL strF (mapTo (·.name) l i)) 1 x tk∧Vf.Sl [(1,.f (.fn 96 [])),(5,x),(8,.f (sl (encL fHdr l))),(9,.f (intF l.length)),(10,.f (intF i))] 22 g k s
theorem nmsHdr_g (l : List HdrD) (hl : l.length < 100000) : Gives Tryz.prog 95 [sl (encL fHdr l),.fn 96 []] (ownF (encL strF (l.map (·.name)))):=by
 refine Gives.of mixed Tryz.func95 rfl rfl rfl (by kernel_rfl) ?_
 simp
 refine forX mixed l.length (nmsHdrI l) (by kernel_rfl) ⟨_,_,_,0,.nil,Sl.of rfl rfl rfl⟩ ?_
 rintro i ⟨ts,hh,kk⟩ hi ⟨g,k,x,tk,ho,rfl,rfl,f,rfl⟩
 by_cases hlt : i < l.length
 ·obtain ⟨a,ha,ha'⟩:=nth_of hlt
  have hw:=wrap64 (x:=(i : Int) + 1) (by omega) (by omega)
  have hle:=mapTo_le (f:=fun x : HdrD=>x.name) (l:=l) (i:=i)
  simp [hlt,ha,hw,-opAppend]
  refine call_g (nmHdr_g a) ?_
  simp [-opAppend]
  obtain ⟨t',k',e,ho',_⟩:=append_own ty223 ty9 (by simp) ho (y:=.f (.sl [strF a.name] .full)) rfl (by simp) (by simp) (by simp; omega) (by simp; omega)
  rw [e]
  simp [hw]
  exact ⟨_,_,_,_,by rw [mapTo_next ha',← encL_snoc]; exact ho',Sl.of rfl rfl rfl⟩
 ·obtain rfl : i = l.length:=by omega
  simp [hlt]
  rw [ho.ret,mapTo_all]
theorem nmFld_g (x : FldD) : Gives Tryz.prog 100 [fFld x] (strF x.name):=by
 refine Gives.of mixed Tryz.func100 rfl rfl rfl (by kernel_rfl) ?_
 simp
def nmsFldI (l : List FldD) (i : Nat) (s : St) : Prop:=∃ g k x tk,OwnT k (encL strF (mapTo (·.name) l i)) 1 x tk∧Vf.Sl [(1,.f (.fn 100 [])),(5,x),(8,.f (sl (encL fFld l))),(9,.f (intF l.length)),(10,.f (intF i))] 22 g k s
theorem nmsFld_g (l : List FldD) (hl : l.length < 100000) : Gives Tryz.prog 99 [sl (encL fFld l),.fn 100 []] (ownF (encL strF (l.map (·.name)))):=by
 refine Gives.of mixed Tryz.func99 rfl rfl rfl (by kernel_rfl) ?_
 simp
 refine forX mixed l.length (nmsFldI l) (by kernel_rfl) ⟨_,_,_,0,.nil,Sl.of rfl rfl rfl⟩ ?_
 rintro i ⟨ts,hh,kk⟩ hi ⟨g,k,x,tk,ho,rfl,rfl,f,rfl⟩
 by_cases hlt : i < l.length
 ·obtain ⟨a,ha,ha'⟩:=nth_of hlt
  have hw:=wrap64 (x:=(i : Int) + 1) (by omega) (by omega)
  have hle:=mapTo_le (f:=fun x : FldD=>x.name) (l:=l) (i:=i)
  simp [hlt,ha,hw,-opAppend]
  refine call_g (nmFld_g a) ?_
  simp [-opAppend]
  obtain ⟨t',k',e,ho',_⟩:=append_own ty223 ty9 (by simp) ho (y:=.f (.sl [strF a.name] .full)) rfl (by simp) (by simp) (by simp; omega) (by simp; omega)
  rw [e]
  simp [hw]
  exact ⟨_,_,_,_,by rw [mapTo_next ha',← encL_snoc]; exact ho',Sl.of rfl rfl rfl⟩
 ·obtain rfl : i = l.length:=by omega
  simp [hlt]
  rw [ho.ret,mapTo_all]
theorem nmReg_g (x : RegD) : Gives Tryz.prog 103 [fReg x] (strF x.name):=by
 refine Gives.of mixed Tryz.func103 rfl rfl rfl (by kernel_rfl) ?_
 simp
def nmsRegI (l : List RegD) (i : Nat) (s : St) : Prop:=∃ g k x tk,OwnT k (encL strF (mapTo (·.name) l i)) 1 x tk∧Vf.Sl [(1,.f (.fn 103 [])),(5,x),(8,.f (sl (encL fReg l))),(9,.f (intF l.length)),(10,.f (intF i))] 22 g k s
theorem nmsReg_g (l : List RegD) (hl : l.length < 100000) : Gives Tryz.prog 102 [sl (encL fReg l),.fn 103 []] (ownF (encL strF (l.map (·.name)))):=by
 refine Gives.of mixed Tryz.func102 rfl rfl rfl (by kernel_rfl) ?_
 simp
 refine forX mixed l.length (nmsRegI l) (by kernel_rfl) ⟨_,_,_,0,.nil,Sl.of rfl rfl rfl⟩ ?_
 rintro i ⟨ts,hh,kk⟩ hi ⟨g,k,x,tk,ho,rfl,rfl,f,rfl⟩
 by_cases hlt : i < l.length
 ·obtain ⟨a,ha,ha'⟩:=nth_of hlt
  have hw:=wrap64 (x:=(i : Int) + 1) (by omega) (by omega)
  have hle:=mapTo_le (f:=fun x : RegD=>x.name) (l:=l) (i:=i)
  simp [hlt,ha,hw,-opAppend]
  refine call_g (nmReg_g a) ?_
  simp [-opAppend]
  obtain ⟨t',k',e,ho',_⟩:=append_own ty223 ty9 (by simp) ho (y:=.f (.sl [strF a.name] .full)) rfl (by simp) (by simp) (by simp; omega) (by simp; omega)
  rw [e]
  simp [hw]
  exact ⟨_,_,_,_,by rw [mapTo_next ha',← encL_snoc]; exact ho',Sl.of rfl rfl rfl⟩
 ·obtain rfl : i = l.length:=by omega
  simp [hlt]
  rw [ho.ret,mapTo_all]
theorem nmAct_g (x : ActD) : Gives Tryz.prog 106 [fAct x] (strF x.name):=by
 refine Gives.of mixed Tryz.func106 rfl rfl rfl (by kernel_rfl) ?_
 simp
def nmsActI (l : List ActD) (i : Nat) (s : St) : Prop:=∃ g k x tk,OwnT k (encL strF (mapTo (·.name) l i)) 1 x tk∧Vf.Sl [(1,.f (.fn 106 [])),(5,x),(8,.f (sl (encL fAct l))),(9,.f (intF l.length)),(10,.f (intF i))] 22 g k s
theorem nmsAct_g (l : List ActD) (hl : l.length < 100000) : Gives Tryz.prog 105 [sl (encL fAct l),.fn 106 []] (ownF (encL strF (l.map (·.name)))):=by
 refine Gives.of mixed Tryz.func105 rfl rfl rfl (by kernel_rfl) ?_
 simp
 refine forX mixed l.length (nmsActI l) (by kernel_rfl) ⟨_,_,_,0,.nil,Sl.of rfl rfl rfl⟩ ?_
 rintro i ⟨ts,hh,kk⟩ hi ⟨g,k,x,tk,ho,rfl,rfl,f,rfl⟩
 by_cases hlt : i < l.length
 ·obtain ⟨a,ha,ha'⟩:=nth_of hlt
  have hw:=wrap64 (x:=(i : Int) + 1) (by omega) (by omega)
  have hle:=mapTo_le (f:=fun x : ActD=>x.name) (l:=l) (i:=i)
  simp [hlt,ha,hw,-opAppend]
  refine call_g (nmAct_g a) ?_
  simp [-opAppend]
  obtain ⟨t',k',e,ho',_⟩:=append_own ty223 ty9 (by simp) ho (y:=.f (.sl [strF a.name] .full)) rfl (by simp) (by simp) (by simp; omega) (by simp; omega)
  rw [e]
  simp [hw]
  exact ⟨_,_,_,_,by rw [mapTo_next ha',← encL_snoc]; exact ho',Sl.of rfl rfl rfl⟩
 ·obtain rfl : i = l.length:=by omega
  simp [hlt]
  rw [ho.ret,mapTo_all]
theorem nmTbl_g (x : TblD) : Gives Tryz.prog 109 [fTbl x] (strF x.name):=by
 refine Gives.of mixed Tryz.func109 rfl rfl rfl (by kernel_rfl) ?_
 simp
def nmsTblI (l : List TblD) (i : Nat) (s : St) : Prop:=∃ g k x tk,OwnT k (encL strF (mapTo (·.name) l i)) 1 x tk∧Vf.Sl [(1,.f (.fn 109 [])),(5,x),(8,.f (sl (encL fTbl l))),(9,.f (intF l.length)),(10,.f (intF i))] 22 g k s
theorem nmsTbl_g (l : List TblD) (hl : l.length < 100000) : Gives Tryz.prog 108 [sl (encL fTbl l),.fn 109 []] (ownF (encL strF (l.map (·.name)))):=by
 refine Gives.of mixed Tryz.func108 rfl rfl rfl (by kernel_rfl) ?_
 simp
 refine forX mixed l.length (nmsTblI l) (by kernel_rfl) ⟨_,_,_,0,.nil,Sl.of rfl rfl rfl⟩ ?_
 rintro i ⟨ts,hh,kk⟩ hi ⟨g,k,x,tk,ho,rfl,rfl,f,rfl⟩
 by_cases hlt : i < l.length
 ·obtain ⟨a,ha,ha'⟩:=nth_of hlt
  have hw:=wrap64 (x:=(i : Int) + 1) (by omega) (by omega)
  have hle:=mapTo_le (f:=fun x : TblD=>x.name) (l:=l) (i:=i)
  simp [hlt,ha,hw,-opAppend]
  refine call_g (nmTbl_g a) ?_
  simp [-opAppend]
  obtain ⟨t',k',e,ho',_⟩:=append_own ty223 ty9 (by simp) ho (y:=.f (.sl [strF a.name] .full)) rfl (by simp) (by simp) (by simp; omega) (by simp; omega)
  rw [e]
  simp [hw]
  exact ⟨_,_,_,_,by rw [mapTo_next ha',← encL_snoc]; exact ho',Sl.of rfl rfl rfl⟩
 ·obtain rfl : i = l.length:=by omega
  simp [hlt]
  rw [ho.ret,mapTo_all]
theorem idn_g (s : ByteArray) (hs : s.size < 2^62) : Gives Tryz.prog 94 [strF s] (boolF (!ident s)):=by
 refine Gives.of mixed Tryz.func94 rfl rfl rfl (by kernel_rfl) ?_
 simp
 refine call_g (ident_g s hs) ?_
 simp
def hasS (l : List ByteArray) (s : ByteArray) : Bool:=l.any fun t=>sEq s t
theorem index_s (l : List ByteArray) (s : ByteArray) (c : Cap) (hl : l.length < 2^62) : ∃ r : Int,Gives Tryz.prog 260 [.sl (encL strF l) c,strF s] (intF r)∧(0 ≤ r ↔ hasS l s = true):=by
 refine ⟨if hasS l s then ((l.findIdx fun t=>sEq s t : Nat) : Int) else -1,?_,?_⟩
 case refine_2=>split <;> simp_all
 refine Gives.of mixed Tryz.func260 rfl rfl rfl (by kernel_rfl) ?_
 simp
 refine forX mixed l.length (fun k st=>noneT (fun t=>sEq s t) l k∧Vf.Sl [(0,.f (.sl (encL strF l) c)),(1,.f (strF s)),(6,.f (.sl (encL strF l) c)),(7,.f (intF l.length)),(8,.f (intF k))] 19 [] [] st) (by kernel_rfl) ⟨.zero,Sl.of rfl rfl rfl⟩ ?_
 rintro k ⟨t,h,kk⟩ hk ⟨hn,rfl,rfl,f,rfl⟩
 by_cases hlt : k < l.length
 ·obtain ⟨x,hx,hx'⟩:=nth_of hlt
  have hw:=wrap64 (x:=(k : Int) + 1) (by omega) (by omega)
  cases he : sEq s x with
  | true =>
   have h1 : hasS l s = true:=any_hit (p:=fun t=>sEq s t) hx' he
   have h2 : l.findIdx (fun t=>sEq s t) = k:=by
    have hk1 : l[k] = x:=by rw [List.getElem?_eq_getElem hlt] at hx'; simpa using hx'
    exact (List.findIdx_eq hlt).2 ⟨by rw [hk1]; exact he,fun j hj=>by
     have:=hn j l[j] hj (List.getElem?_eq_getElem _)
     simpa using this⟩
   simp [hlt,hx,he,h1,h2]
  | false =>
   simp [hlt,hx,he,hw]
   exact ⟨hn.next hx' he,Sl.of rfl rfl rfl⟩
 ·have h1 : hasS l s = false:=hn.all hlt
  simp [hlt,h1]
theorem has_s (l : List ByteArray) (s : ByteArray) (c : Cap) (hl : l.length < 2^62) : Gives Tryz.prog 191 [.sl (encL strF l) c,strF s] (boolF (hasS l s)):=by
 refine Gives.of mixed Tryz.func191 rfl rfl rfl (by kernel_rfl) ?_
 obtain ⟨r,h1,h2⟩:=index_s l s c hl
 simp
 refine call_g (h1) ?_
 by_cases h : 0 ≤ r
 ·simp [h,h2.1 h]
 ·have : hasS l s = false:=by simpa using fun q=>h (h2.2 q)
  simp [h,this]
theorem repeated_g (l : List ByteArray) (i : Nat) (s : ByteArray) (c : Cap) (hl : l.length < 2^62) (hi : l[i]? = some s) : Gives Tryz.prog 98 [.sl (encL strF l) c,intF i] (boolF (hasS (l.take i) s)):=by
 refine Gives.of mixed Tryz.func98 rfl rfl rfl (by kernel_rfl) ?_
 have hlt : i < l.length:=(List.getElem?_eq_some_iff.1 hi).1
 have hn : nth l i = some s:=hi
 simp
 rw [sliceF (enc:=strF) (l:=l) (c:=c) (i:=i) ty223 ty9 (by simp) (fun _=>rfl) (Nat.le_of_lt hlt)]
 simp [hlt,hn]
 refine call_g (has_s (l.take i) s .un (by simp; omega)) ?_
 simp
theorem req_body : HasBody Tryz.prog 92:=⟨_,Tryz.func92,rfl,by decide⟩
theorem req0_g (p i s : Int) : Gives Tryz.prog 92 [intF 0,intF p,intF i,intF s] (.tup []) :=
 Gives.of_sc (vs:=[.int .i64 0,.int .i64 p,.int .i64 i,.int .i64 s]) req_body (fun w=>(require_no p i s w).mono fun e w' h=>⟨h.1,by rw [← h.2]; exact Below.refl _ _⟩) (fun w F=>.tup [] #[] (fun _=>undef) rfl (by simp) (by simp))
theorem req1_p (c p i s : Int) (hc : c ≠ 0) : Panics Tryz.prog 92 [intF c,intF p,intF i,intF s] (failV c p i s) :=
 Panics.of_sc (vs:=[.int .i64 c,.int .i64 p,.int .i64 i,.int .i64 s]) req_body (fun w=>(require_yes c p i s hc w).mono fun e w' h=>⟨h.1,by rw [← h.2]; exact Below.refl _ _⟩)
end Go.Proofs.YtejkhflkeoihlaaGreat
namespace Go.Proofs.YtejkhflkeoihlaaGreat
open Go.RowKit Go.Proofs.YtejkhflkeoihlaaGreat.Vf
set_option linter.unusedVariables false
set_option linter.unusedSimpArgs false
set_option maxRecDepth 100000
set_option maxHeartbeats 4000000
def diagO : Option Diag→Out
 | none=>.ret (.tup [])
 | some (c,p,i,s)=>.pan (failV c p i s)
structure NmOk (d : PrgD) : Prop where
 nm : d.name.size < 2^62
 headers : ∀ h ∈ d.headers.l,h.name.size < 2^62∧∀ x ∈ h.fields.l,x.name.size < 2^62
 meta_ : ∀ x ∈ d.meta_.l,x.name.size < 2^62
 regs : ∀ x ∈ d.regs.l,x.name.size < 2^62
 acts : ∀ x ∈ d.acts.l,x.name.size < 2^62∧∀ y ∈ x.params.l,y.name.size < 2^62
 tables : ∀ x ∈ d.tables.l,x.name.size < 2^62
 states : ∀ x ∈ d.states.l,x.name.size < 2^62
theorem limits_g (d : PrgD) (hn : NmOk d) : Outs Tryz.prog 44 [fPrg d] (diagO (prgLimits d)):=by
 refine Outs.of mixed Tryz.func44 rfl rfl rfl (by kernel_rfl) ?_
 simp [fPrg,cPrg]
 refine call_g (idn_g d.name hn.nm) ?_
 simp
 refine call_g (when_g _ 6) ?_
 simp
 cases h1 : ident d.name with
 | false=>exact call_p (req1_p 6 0 0 0 (by decide)) (by simp [prgLimits,firstD,req,h1,diagO])
 | true =>
 refine call_g (req0_g 0 0 0) ?_
 simp
 refine call_g (when_g _ 12) ?_
 simp
 by_cases c1 : 8 < d.headers.l.length
 ·have c1' : 8 < (d.headers.l.length : Int):=by omega
  simp only [c1',if_true]
  exact call_p (req1_p 12 0 1 0 (by decide)) (by simp [prgLimits,firstD,req,h1,diagO,c1])
 have c1' : ¬ 8 < (d.headers.l.length : Int):=by omega
 simp only [c1',if_false]
 refine call_g (req0_g 0 1 0) ?_
 simp
 refine call_g (when_g _ 12) ?_
 simp
 by_cases c2 : 4 < d.regs.l.length
 ·have c2' : 4 < (d.regs.l.length : Int):=by omega
  simp only [c2',if_true]
  exact call_p (req1_p 12 0 3 0 (by decide)) (by simp [prgLimits,firstD,req,h1,diagO,c1,c2])
 have c2' : ¬ 4 < (d.regs.l.length : Int):=by omega
 simp only [c2',if_false]
 refine call_g (req0_g 0 3 0) ?_
 simp
 refine call_g (when_g _ 12) ?_
 simp
 by_cases c3 : 16 < d.acts.l.length
 ·have c3' : 16 < (d.acts.l.length : Int):=by omega
  simp only [c3',if_true]
  exact call_p (req1_p 12 0 4 0 (by decide)) (by simp [prgLimits,firstD,req,h1,diagO,c1,c2,c3])
 have c3' : ¬ 16 < (d.acts.l.length : Int):=by omega
 simp only [c3',if_false]
 refine call_g (req0_g 0 4 0) ?_
 simp
 refine call_g (when_g _ 12) ?_
 simp
 by_cases c4 : 12 < d.tables.l.length
 ·have c4' : 12 < (d.tables.l.length : Int):=by omega
  simp only [c4',if_true]
  exact call_p (req1_p 12 0 5 0 (by decide)) (by simp [prgLimits,firstD,req,h1,diagO,c1,c2,c3,c4])
 have c4' : ¬ 12 < (d.tables.l.length : Int):=by omega
 simp only [c4',if_false]
 refine call_g (req0_g 0 5 0) ?_
 simp [prgLimits,firstD,req,h1,diagO,c1,c2,c3,c4]
end Go.Proofs.YtejkhflkeoihlaaGreat
