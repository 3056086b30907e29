/- Texts of the proof: ES0. -/
import Derived.Test.YtafenffmgpcjcaaGreatEVB1
import Derived.Test.YtafenffmgpcjcaaGreatProg
import Derived.KernelRfl
import Derived.Test.YtafenffmgpcjcaaGreatEVC1
import Derived.WalkKit
import Derived.Handy
namespace Go.Proofs.YtafenffmgpcjcaaGreat
open Go.RowKit Go.Proofs.YtafenffmgpcjcaaGreat.Vf
set_option maxRecDepth 100000
theorem mixed : Tryz.prog.follows .mixedOrders = true:=by kernel_rfl
@[simp] theorem ty3 : tyOf Tryz.prog 3 = some ⟨1,8,.other,[.f (.sc (.int .i64 (0)))]⟩:=by kernel_rfl
@[simp] theorem ty4 : tyOf Tryz.prog 4 = some ⟨1,1,.other,[.f (.sc (.bool false))]⟩:=by kernel_rfl
@[simp] theorem ty9 : tyOf Tryz.prog 9 = some ⟨1,16,.other,[.f (.sc (.string ⟨#[]⟩))]⟩:=by kernel_rfl
@[simp] theorem ty22 : tyOf Tryz.prog 22 = some ⟨1,24,.slice 118,[.f (.sl [] .nil)]⟩:=by kernel_rfl
@[simp] theorem ty23 : tyOf Tryz.prog 23 = some ⟨1,24,.slice 124,[.f (.sl [] .nil)]⟩:=by kernel_rfl
@[simp] theorem ty24 : tyOf Tryz.prog 24 = some ⟨1,24,.slice 120,[.f (.sl [] .nil)]⟩:=by kernel_rfl
@[simp] theorem ty25 : tyOf Tryz.prog 25 = some ⟨1,24,.slice 114,[.f (.sl [] .nil)]⟩:=by kernel_rfl
@[simp] theorem ty26 : tyOf Tryz.prog 26 = some ⟨1,24,.slice 69,[.f (.sl [] .nil)]⟩:=by kernel_rfl
@[simp] theorem ty27 : tyOf Tryz.prog 27 = some ⟨1,24,.slice 74,[.f (.sl [] .nil)]⟩:=by kernel_rfl
@[simp] theorem ty28 : tyOf Tryz.prog 28 = some ⟨1,24,.slice 122,[.f (.sl [] .nil)]⟩:=by kernel_rfl
@[simp] theorem ty29 : tyOf Tryz.prog 29 = some ⟨1,24,.slice 3,[.f (.sl [] .nil)]⟩:=by kernel_rfl
@[simp] theorem ty31 : tyOf Tryz.prog 31 = some ⟨9,208,.struct [(0,9),(1,22),(2,23),(3,24),(4,25),(5,26),(6,27),(7,28),(8,29)],[.f (.sc (.string ⟨#[]⟩)),.f (.sl [] .nil),.f (.sl [] .nil),.f (.sl [] .nil),.f (.sl [] .nil),.f (.sl [] .nil),.f (.sl [] .nil),.f (.sl [] .nil),.f (.sl [] .nil)]⟩:=by kernel_rfl
@[simp] theorem ty33 : tyOf Tryz.prog 33 = some ⟨8,64,.struct [(0,3),(1,3),(2,3),(3,3),(4,3),(5,3),(6,3),(7,3)],[.f (.sc (.int .i64 (0))),.f (.sc (.int .i64 (0))),.f (.sc (.int .i64 (0))),.f (.sc (.int .i64 (0))),.f (.sc (.int .i64 (0))),.f (.sc (.int .i64 (0))),.f (.sc (.int .i64 (0))),.f (.sc (.int .i64 (0)))]⟩:=by kernel_rfl
@[simp] theorem ty36 : tyOf Tryz.prog 36 = some ⟨1,8,.other,[.f (.sc (.int .i64 (0)))]⟩:=by kernel_rfl
@[simp] theorem ty40 : tyOf Tryz.prog 40 = some ⟨5,72,.struct [(0,3),(1,29),(2,3),(3,36),(4,29)],[.f (.sc (.int .i64 (0))),.f (.sl [] .nil),.f (.sc (.int .i64 (0))),.f (.sc (.int .i64 (0))),.f (.sl [] .nil)]⟩:=by kernel_rfl
@[simp] theorem ty47 : tyOf Tryz.prog 47 = some ⟨2,16,.struct [(0,3),(1,3)],[.f (.sc (.int .i64 (0))),.f (.sc (.int .i64 (0)))]⟩:=by kernel_rfl
@[simp] theorem ty52 : tyOf Tryz.prog 52 = some ⟨1,24,.slice 57,[.f (.sl [] .nil)]⟩:=by kernel_rfl
@[simp] theorem ty54 : tyOf Tryz.prog 54 = some ⟨1,24,.slice 126,[.f (.sl [] .nil)]⟩:=by kernel_rfl
@[simp] theorem ty55 : tyOf Tryz.prog 55 = some ⟨1,24,.slice 174,[.f (.sl [] .nil)]⟩:=by kernel_rfl
@[simp] theorem ty57 : tyOf Tryz.prog 57 = some ⟨3,56,.struct [(0,3),(1,54),(2,55)],[.f (.sc (.int .i64 (0))),.f (.sl [] .nil),.f (.sl [] .nil)]⟩:=by kernel_rfl
@[simp] theorem ty58 : tyOf Tryz.prog 58 = some ⟨1,24,.slice 29,[.f (.sl [] .nil)]⟩:=by kernel_rfl
@[simp] theorem ty64 : tyOf Tryz.prog 64 = some ⟨1,24,.slice 128,[.f (.sl [] .nil)]⟩:=by kernel_rfl
@[simp] theorem ty65 : tyOf Tryz.prog 65 = some ⟨1,24,.slice 197,[.f (.sl [] .nil)]⟩:=by kernel_rfl
@[simp] theorem ty67 : tyOf Tryz.prog 67 = some ⟨2,32,.struct [(0,3),(1,65)],[.f (.sc (.int .i64 (0))),.f (.sl [] .nil)]⟩:=by kernel_rfl
@[simp] theorem ty69 : tyOf Tryz.prog 69 = some ⟨6,104,.struct [(0,9),(1,64),(2,29),(3,67),(5,3)],[.f (.sc (.string ⟨#[]⟩)),.f (.sl [] .nil),.f (.sl [] .nil),.f (.sc (.int .i64 (0))),.f (.sl [] .nil),.f (.sc (.int .i64 (0)))]⟩:=by kernel_rfl
@[simp] theorem ty71 : tyOf Tryz.prog 71 = some ⟨2,16,.struct [(0,3),(1,3)],[.f (.sc (.int .i64 (0))),.f (.sc (.int .i64 (0)))]⟩:=by kernel_rfl
@[simp] theorem ty72 : tyOf Tryz.prog 72 = some ⟨1,24,.slice 246,[.f (.sl [] .nil)]⟩:=by kernel_rfl
@[simp] theorem ty74 : tyOf Tryz.prog 74 = some ⟨7,96,.struct [(0,9),(1,29),(2,4),(3,71),(5,72),(6,3)],[.f (.sc (.string ⟨#[]⟩)),.f (.sl [] .nil),.f (.sc (.bool false)),.f (.sc (.int .i64 (0))),.f (.sc (.int .i64 (0))),.f (.sl [] .nil),.f (.sc (.int .i64 (0)))]⟩:=by kernel_rfl
@[simp] theorem ty77 : tyOf Tryz.prog 77 = some ⟨5,40,.array 5 3,[.f (.sc (.int .i64 (0))),.f (.sc (.int .i64 (0))),.f (.sc (.int .i64 (0))),.f (.sc (.int .i64 (0))),.f (.sc (.int .i64 (0)))]⟩:=by kernel_rfl
@[simp] theorem ty80 : tyOf Tryz.prog 80 = some ⟨4,32,.struct [(0,36),(1,3),(2,3),(3,3)],[.f (.sc (.int .i64 (0))),.f (.sc (.int .i64 (0))),.f (.sc (.int .i64 (0))),.f (.sc (.int .i64 (0)))]⟩:=by kernel_rfl
@[simp] theorem ty89 : tyOf Tryz.prog 89 = some ⟨1,24,.slice 47,[.f (.sl [] .nil)]⟩:=by kernel_rfl
@[simp] theorem ty99 : tyOf Tryz.prog 99 = some ⟨11,136,.struct [(0,33),(8,52),(9,89),(10,58)],[.f (.sc (.int .i64 (0))),.f (.sc (.int .i64 (0))),.f (.sc (.int .i64 (0))),.f (.sc (.int .i64 (0))),.f (.sc (.int .i64 (0))),.f (.sc (.int .i64 (0))),.f (.sc (.int .i64 (0))),.f (.sc (.int .i64 (0))),.f (.sl [] .nil),.f (.sl [] .nil),.f (.sl [] .nil)]⟩:=by kernel_rfl
@[simp] theorem ty101 : tyOf Tryz.prog 101 = some ⟨4,32,.struct [(0,3),(1,3),(2,47)],[.f (.sc (.int .i64 (0))),.f (.sc (.int .i64 (0))),.f (.sc (.int .i64 (0))),.f (.sc (.int .i64 (0)))]⟩:=by kernel_rfl
@[simp] theorem ty110 : tyOf Tryz.prog 110 = some ⟨1,24,.slice 4,[.f (.sl [] .nil)]⟩:=by kernel_rfl
@[simp] theorem ty112 : tyOf Tryz.prog 112 = some ⟨1,24,.slice 116,[.f (.sl [] .nil)]⟩:=by kernel_rfl
@[simp] theorem ty114 : tyOf Tryz.prog 114 = some ⟨3,64,.struct [(0,9),(1,23),(2,112)],[.f (.sc (.string ⟨#[]⟩)),.f (.sl [] .nil),.f (.sl [] .nil)]⟩:=by kernel_rfl
@[simp] theorem ty116 : tyOf Tryz.prog 116 = some ⟨7,88,.struct [(0,3),(1,71),(3,3),(4,3),(5,54),(6,54)],[.f (.sc (.int .i64 (0))),.f (.sc (.int .i64 (0))),.f (.sc (.int .i64 (0))),.f (.sc (.int .i64 (0))),.f (.sc (.int .i64 (0))),.f (.sl [] .nil),.f (.sl [] .nil)]⟩:=by kernel_rfl
@[simp] theorem ty118 : tyOf Tryz.prog 118 = some ⟨2,40,.struct [(0,9),(1,23)],[.f (.sc (.string ⟨#[]⟩)),.f (.sl [] .nil)]⟩:=by kernel_rfl
@[simp] theorem ty120 : tyOf Tryz.prog 120 = some ⟨3,32,.struct [(0,9),(1,3),(2,3)],[.f (.sc (.string ⟨#[]⟩)),.f (.sc (.int .i64 (0))),.f (.sc (.int .i64 (0)))]⟩:=by kernel_rfl
@[simp] theorem ty122 : tyOf Tryz.prog 122 = some ⟨5,88,.struct [(0,3),(1,3),(2,54),(3,28),(4,28)],[.f (.sc (.int .i64 (0))),.f (.sc (.int .i64 (0))),.f (.sl [] .nil),.f (.sl [] .nil),.f (.sl [] .nil)]⟩:=by kernel_rfl
@[simp] theorem ty124 : tyOf Tryz.prog 124 = some ⟨2,24,.struct [(0,9),(1,3)],[.f (.sc (.string ⟨#[]⟩)),.f (.sc (.int .i64 (0)))]⟩:=by kernel_rfl
@[simp] theorem ty126 : tyOf Tryz.prog 126 = some ⟨3,24,.struct [(0,3),(1,3),(2,3)],[.f (.sc (.int .i64 (0))),.f (.sc (.int .i64 (0))),.f (.sc (.int .i64 (0)))]⟩:=by kernel_rfl
@[simp] theorem ty128 : tyOf Tryz.prog 128 = some ⟨3,24,.struct [(0,71),(2,3)],[.f (.sc (.int .i64 (0))),.f (.sc (.int .i64 (0))),.f (.sc (.int .i64 (0)))]⟩:=by kernel_rfl
@[simp] theorem ty135 : tyOf Tryz.prog 135 = some ⟨64,512,.array 16 101,[.f (.sc (.int .i64 (0))),.f (.sc (.int .i64 (0))),.f (.sc (.int .i64 (0))),.f (.sc (.int .i64 (0))),.f (.sc (.int .i64 (0))),.f (.sc (.int .i64 (0))),.f (.sc (.int .i64 (0))),.f (.sc (.int .i64 (0))),.f (.sc (.int .i64 (0))),.f (.sc (.int .i64 (0))),.f (.sc (.int .i64 (0))),.f (.sc (.int .i64 (0))),.f (.sc (.int .i64 (0))),.f (.sc (.int .i64 (0))),.f (.sc (.int .i64 (0))),.f (.sc (.int .i64 (0))),.f (.sc (.int .i64 (0))),.f (.sc (.int .i64 (0))),.f (.sc (.int .i64 (0))),.f (.sc (.int .i64 (0))),.f (.sc (.int .i64 (0))),.f (.sc (.int .i64 (0))),.f (.sc (.int .i64 (0))),.f (.sc (.int .i64 (0))),.f (.sc (.int .i64 (0))),.f (.sc (.int .i64 (0))),.f (.sc (.int .i64 (0))),.f (.sc (.int .i64 (0))),.f (.sc (.int .i64 (0))),.f (.sc (.int .i64 (0))),.f (.sc (.int .i64 (0))),.f (.sc (.int .i64 (0))),.f (.sc (.int .i64 (0))),.f (.sc (.int .i64 (0))),.f (.sc (.int .i64 (0))),.f (.sc (.int .i64 (0))),.f (.sc (.int .i64 (0))),.f (.sc (.int .i64 (0))),.f (.sc (.int .i64 (0))),.f (.sc (.int .i64 (0))),.f (.sc (.int .i64 (0))),.f (.sc (.int .i64 (0))),.f (.sc (.int .i64 (0))),.f (.sc (.int .i64 (0))),.f (.sc (.int .i64 (0))),.f (.sc (.int .i64 (0))),.f (.sc (.int .i64 (0))),.f (.sc (.int .i64 (0))),.f (.sc (.int .i64 (0))),.f (.sc (.int .i64 (0))),.f (.sc (.int .i64 (0))),.f (.sc (.int .i64 (0))),.f (.sc (.int .i64 (0))),.f (.sc (.int .i64 (0))),.f (.sc (.int .i64 (0))),.f (.sc (.int .i64 (0))),.f (.sc (.int .i64 (0))),.f (.sc (.int .i64 (0))),.f (.sc (.int .i64 (0))),.f (.sc (.int .i64 (0))),.f (.sc (.int .i64 (0))),.f (.sc (.int .i64 (0))),.f (.sc (.int .i64 (0))),.f (.sc (.int .i64 (0)))]⟩:=by kernel_rfl
@[simp] theorem ty152 : tyOf Tryz.prog 152 = some ⟨1,24,.slice 9,[.f (.sl [] .nil)]⟩:=by kernel_rfl
@[simp] theorem ty160 : tyOf Tryz.prog 160 = some ⟨6,72,.array 3 124,[.f (.sc (.string ⟨#[]⟩)),.f (.sc (.int .i64 (0))),.f (.sc (.string ⟨#[]⟩)),.f (.sc (.int .i64 (0))),.f (.sc (.string ⟨#[]⟩)),.f (.sc (.int .i64 (0)))]⟩:=by kernel_rfl
@[simp] theorem ty171 : tyOf Tryz.prog 171 = some ⟨1,8,.other,[.f (.sc .nilFunc)]⟩:=by kernel_rfl
@[simp] theorem ty174 : tyOf Tryz.prog 174 = some ⟨2,16,.struct [(0,3),(1,4)],[.f (.sc (.int .i64 (0))),.f (.sc (.bool false))]⟩:=by kernel_rfl
@[simp] theorem ty178 : tyOf Tryz.prog 178 = some ⟨1,24,.slice 110,[.f (.sl [] .nil)]⟩:=by kernel_rfl
@[simp] theorem ty185 : tyOf Tryz.prog 185 = some ⟨10,232,.struct [(0,31),(9,23)],[.f (.sc (.string ⟨#[]⟩)),.f (.sl [] .nil),.f (.sl [] .nil),.f (.sl [] .nil),.f (.sl [] .nil),.f (.sl [] .nil),.f (.sl [] .nil),.f (.sl [] .nil),.f (.sl [] .nil),.f (.sl [] .nil)]⟩:=by kernel_rfl
@[simp] theorem ty187 : tyOf Tryz.prog 187 = some ⟨1,24,.slice 71,[.f (.sl [] .nil)]⟩:=by kernel_rfl
@[simp] theorem ty197 : tyOf Tryz.prog 197 = some ⟨1,4,.other,[.f (.sc (.int .u32 (0)))]⟩:=by kernel_rfl
@[simp] theorem ty201 : tyOf Tryz.prog 201 = some ⟨10,232,.struct [(0,31),(9,23)],[.f (.sc (.string ⟨#[]⟩)),.f (.sl [] .nil),.f (.sl [] .nil),.f (.sl [] .nil),.f (.sl [] .nil),.f (.sl [] .nil),.f (.sl [] .nil),.f (.sl [] .nil),.f (.sl [] .nil),.f (.sl [] .nil)]⟩:=by kernel_rfl
@[simp] theorem ty203 : tyOf Tryz.prog 203 = some ⟨10,232,.struct [(0,201)],[.f (.sc (.string ⟨#[]⟩)),.f (.sl [] .nil),.f (.sl [] .nil),.f (.sl [] .nil),.f (.sl [] .nil),.f (.sl [] .nil),.f (.sl [] .nil),.f (.sl [] .nil),.f (.sl [] .nil),.f (.sl [] .nil)]⟩:=by kernel_rfl
@[simp] theorem ty212 : tyOf Tryz.prog 212 = some ⟨1,8,.other,[.f (.sc (.pointer none))]⟩:=by kernel_rfl
@[simp] theorem ty214 : tyOf Tryz.prog 214 = some ⟨10,232,.struct [(0,31),(9,29)],[.f (.sc (.string ⟨#[]⟩)),.f (.sl [] .nil),.f (.sl [] .nil),.f (.sl [] .nil),.f (.sl [] .nil),.f (.sl [] .nil),.f (.sl [] .nil),.f (.sl [] .nil),.f (.sl [] .nil),.f (.sl [] .nil)]⟩:=by kernel_rfl
@[simp] theorem ty232 : tyOf Tryz.prog 232 = some ⟨3,72,.struct [(0,187),(1,29),(2,29)],[.f (.sl [] .nil),.f (.sl [] .nil),.f (.sl [] .nil)]⟩:=by kernel_rfl
@[simp] theorem ty246 : tyOf Tryz.prog 246 = some ⟨3,16,.struct [(0,197),(1,197),(2,3)],[.f (.sc (.int .u32 (0))),.f (.sc (.int .u32 (0))),.f (.sc (.int .i64 (0)))]⟩:=by kernel_rfl
@[simp] theorem ty257 : tyOf Tryz.prog 257 = some ⟨3,72,.struct [(0,187),(1,29),(2,29)],[.f (.sl [] .nil),.f (.sl [] .nil),.f (.sl [] .nil)]⟩:=by kernel_rfl
@[simp] theorem ty283 : tyOf Tryz.prog 283 = some ⟨3,24,.array 3 3,[.f (.sc (.int .i64 (0))),.f (.sc (.int .i64 (0))),.f (.sc (.int .i64 (0)))]⟩:=by kernel_rfl
@[simp] theorem ty286 : tyOf Tryz.prog 286 = some ⟨4,32,.array 4 3,[.f (.sc (.int .i64 (0))),.f (.sc (.int .i64 (0))),.f (.sc (.int .i64 (0))),.f (.sc (.int .i64 (0)))]⟩:=by kernel_rfl
set_option linter.unusedVariables false
set_option linter.unusedSimpArgs false
structure SL (α : Type) where
 l : List α
structure FldD where
 name : ByteArray
 width : Int
structure HdrD where
 name : ByteArray
 fields : SL FldD
structure RegD where
 name : ByteArray
 width : Int
 size : Int
structure ExD where
 op : Int
 n : Int
 w : Int
structure StD where
 kind : Int
 dh : Int
 df : Int
 reg : Int
 hdr : Int
 index : SL ExD
 value : SL ExD
structure ActD where
 name : ByteArray
 params : SL FldD
 body : SL StD
structure KeyD where
 h : Int
 f : Int
 kind : Int
structure TblD where
 name : ByteArray
 keys : SL KeyD
 acts : SL Int
 dfl : Int
 args : SL Int
 size : Int
structure CaseD where
 value : Int
 mask : Int
 next : Int
structure StaD where
 name : ByteArray
 extract : SL Int
 sel : Bool
 onh : Int
 onf : Int
 cases : SL CaseD
 dfl : Int
inductive NodD where
 | mk (kind table : Int) (cond : List ExD) (thn els : List NodD)
def NodD.kind : NodD→Int | .mk k ..=>k
def NodD.table : NodD→Int | .mk _ t ..=>t
def NodD.cond : NodD→SL ExD | .mk _ _ c ..=>⟨c⟩
def NodD.thn : NodD→SL NodD | .mk _ _ _ t _=>⟨t⟩
def NodD.els : NodD→SL NodD | .mk _ _ _ _ e=>⟨e⟩
structure PrgD where
 name : ByteArray
 headers : SL HdrD
 meta_ : SL FldD
 regs : SL RegD
 acts : SL ActD
 tables : SL TblD
 states : SL StaD
 control : SL NodD
 dep : SL Int
abbrev sl (l : List FV) : FV:=.sl l .un
abbrev u32F (x : Int) : FV:=.sc (.int .u32 x)
abbrev fFld (x : FldD) : FV:=.agg [strF x.name,intF x.width]
abbrev fHdr (x : HdrD) : FV:=.agg [strF x.name,sl (encL fFld x.fields.l)]
abbrev fReg (x : RegD) : FV:=.agg [strF x.name,intF x.width,intF x.size]
abbrev fEx (x : ExD) : FV:=.agg [intF x.op,intF x.n,intF x.w]
abbrev fSt (x : StD) : FV:=.agg [intF x.kind,intF x.dh,intF x.df,intF x.reg,intF x.hdr,sl (encL fEx x.index.l),sl (encL fEx x.value.l)]
abbrev fAct (x : ActD) : FV:=.agg [strF x.name,sl (encL fFld x.params.l),sl (encL fSt x.body.l)]
abbrev fKey (x : KeyD) : FV:=.agg [intF x.h,intF x.f,intF x.kind]
abbrev fTbl (x : TblD) : FV:=.agg [strF x.name,sl (encL fKey x.keys.l),sl (encL intF x.acts.l),intF x.dfl,sl (encL u32F x.args.l),intF x.size]
abbrev fCase (x : CaseD) : FV:=.agg [u32F x.value,u32F x.mask,intF x.next]
abbrev fSta (x : StaD) : FV:=.agg [strF x.name,sl (encL intF x.extract.l),boolF x.sel,intF x.onh,intF x.onf,sl (encL fCase x.cases.l),intF x.dfl]
mutual
def fNod : NodD→FV
 | .mk k t c a b=>.agg [intF k,intF t,sl (encL fEx c),sl (fNods a),sl (fNods b)]
def fNods : List NodD→List FV
 | []=>[]
 | x :: l=>fNod x :: fNods l
end
theorem fNods_eq (l : List NodD) : fNods l = encL fNod l:=by
 induction l with
 | nil=>rfl
 | cons x l ih=>rw [fNods,ih]; rfl
theorem fNod_eq (x : NodD) : fNod x = .agg [intF x.kind,intF x.table,sl (encL fEx x.cond.l),sl (encL fNod x.thn.l),sl (encL fNod x.els.l)]:=by
 obtain ⟨k,t,c,a,b⟩:=x
 rw [fNod,fNods_eq,fNods_eq]; rfl
def cPrg (d : PrgD) : List FV:=[strF d.name,sl (encL fHdr d.headers.l),sl (encL fFld d.meta_.l),sl (encL fReg d.regs.l),sl (encL fAct d.acts.l),sl (encL fTbl d.tables.l),sl (encL fSta d.states.l),sl (encL fNod d.control.l),sl (encL intF d.dep.l)]
def fPrg (d : PrgD) : FV:=.agg (cPrg d)
end Go.Proofs.YtafenffmgpcjcaaGreat
namespace Go.Proofs.YtafenffmgpcjcaaGreat
open Go.Proofs.YtafenffmgpcjcaaGreat.Vf (sEq)
set_option linter.unusedVariables false
def isLet (c : UInt8) : Bool:=(97 ≤ c.toNat && c.toNat ≤ 122) || (65 ≤ c.toNat && c.toNat ≤ 90)
def isDig (c : UInt8) : Bool:=48 ≤ c.toNat && c.toNat ≤ 57
def idc (c : UInt8) : Bool:=isLet c || isDig c || c.toNat == 95
def idLen (l : List UInt8) : Nat:=(l.takeWhile idc).length
def ident (s : ByteArray) : Bool:=0 < s.size && s.size ≤ 16 && isLet (s.data.toList.headD 0) && idLen s.data.toList == s.size
def scan {E : Type} (n : Nat) (f : Nat→Option E) : Option E:=(List.range n).findSome? f
theorem scan_none {E : Type} {n : Nat} {f : Nat→Option E} (h : ∀ i,i < n→f i = none) : scan n f = none :=
 List.findSome?_eq_none_iff.2 fun i hi=>h i (List.mem_range.1 hi)
theorem scan_some {E : Type} {n k : Nat} {f : Nat→Option E} {e : E} (hk : k < n) (h : ∀ i,i < k→f i = none) (hf : f k = some e) : scan n f = some e:=by
 unfold scan
 obtain ⟨m,rfl⟩ : ∃ m,n = k + (m + 1):=⟨n - k - 1,by omega⟩
 rw [List.range_add,List.findSome?_append,List.range_succ_eq_map]
 have h1 : (List.range k).findSome? f = none:=List.findSome?_eq_none_iff.2 fun i hi=>h i (List.mem_range.1 hi)
 rw [h1]
 simp [hf]
def badW (w : Int) : Bool:=decide (w < 1) || decide (32 < w)
def hdrField (l : List FldD) (i : Nat) : Option Int :=
 match l[i]? with
 | none=>none
 | some f=>if !ident f.name then some 6 else if badW f.width then some 10 else if (l.take i).any (fun g=>sEq g.name f.name) then some 7 else none
def isum : List Int→Int
 | []=>0
 | x :: l=>x + isum l
def sumW (l : List FldD) : Int:=isum (l.map (·.width))
def hdrCheck (h : HdrD) : Int :=
 if !ident h.name then 6 else if h.fields.l.length = 0 then 8 else if 12 < h.fields.l.length then 12 else
 match scan h.fields.l.length (hdrField h.fields.l) with
 | some e=>e
 | none=>if sumW h.fields.l % 8 = 0 then 0 else 10
def regCheck (r : RegD) : Int:=if !ident r.name then 6 else if badW r.width then 10 else if 1 ≤ r.size∧r.size ≤ 64 then 0 else 9
def fldsOf (d : PrgD) (h : Int) : List FldD:=if h = -1 then d.meta_.l else if h < 0 ∨ (d.headers.l.length : Int) ≤ h then [] else match d.headers.l[h.toNat]? with | some x=>x.fields.l | none=>[]
def fldAt (d : PrgD) (h i : Int) : Option FldD:=if i < 0 then none else (fldsOf d h)[i.toNat]?
def arity (op : Int) : Int:=if 1 ≤ op∧op ≤ 4 then 0 else if 5 ≤ op∧op ≤ 8 then 1 else if 9 ≤ op∧op ≤ 16 then 2 else if op = 17 then 3 else -1
def wide (w : Int) : Int × Int:=if badW w then (0,10) else (w,0)
def primary (d : PrgD) (ps : List FldD) (x : ExD) : Int × Int :=
 if x.op = 1 then if badW x.w then (0,10) else if x.n < 0 ∨ (2 : Int) ^ x.w.toNat - 1 < x.n then (0,9) else (x.w,0)
 else if x.op = 2 then match fldAt d x.n x.w with | none=>(0,8) | some f=>wide f.width
 else if x.op = 3 then if x.n < 0 then (0,8) else match ps[x.n.toNat]? with | none=>(0,8) | some f=>wide f.width
 else if x.n < 0 ∨ (d.headers.l.length : Int) ≤ x.n then (0,8) else (1,0)
def combine (x : ExD) (a b c : Int) : Int × Int :=
 if (x.op = 6 ∨ x.op = 7)∧(x.n < 0 ∨ 31 < x.n) then (0,9)
 else if x.op = 8 then if x.n < 0 then (0,9) else if badW x.w ∨ a - x.w < x.n then (0,10) else (x.w,0)
 else if x.op = 14 then wide (a + b)
 else if x.op = 17 then if a ≠ 1 ∨ b ≠ c then (0,10) else (b,0)
 else if arity x.op = 2∧a ≠ b then (0,10)
 else if x.op = 15 ∨ x.op = 16 then (1,0) else (a,0)
def exAt (d : PrgD) (ps : List FldD) (n : List ExD) : Nat→Nat→Int × Nat × Int
 | 0,_=>(0,0,3)
 | f + 1,i=>match n[i]? with
  | none=>(0,0,3)
  | some x =>
   if arity x.op < 0 then (0,0,11)
   else if arity x.op = 0 then ((primary d ps x).1,i + 1,(primary d ps x).2)
   else
    let r1:=exAt d ps n f (i + 1)
    if r1.2.2 ≠ 0 then (0,0,r1.2.2)
    else if arity x.op = 1 then ((combine x r1.1 0 0).1,r1.2.1,(combine x r1.1 0 0).2)
    else
     let r2:=exAt d ps n f r1.2.1
     if r2.2.2 ≠ 0 then (0,0,r2.2.2)
     else if arity x.op = 2 then ((combine x r1.1 r2.1 0).1,r2.2.1,(combine x r1.1 r2.1 0).2)
     else
      let r3:=exAt d ps n f r2.2.1
      if r3.2.2 ≠ 0 then (0,0,r3.2.2)
      else ((combine x r1.1 r2.1 r3.1).1,r3.2.1,(combine x r1.1 r2.1 r3.1).2)
def exCheck (d : PrgD) (ps : List FldD) (n : List ExD) : Int × Int :=
 if 24 < n.length then (0,12) else
 let r:=exAt d ps n (n.length + 1) 0
 if r.2.2 ≠ 0 then (0,r.2.2) else if r.2.1 < n.length then (0,4) else (r.1,0)
def actDecl (a : ActD) : Int :=
 if !ident a.name then 6 else if 4 < a.params.l.length ∨ 12 < a.body.l.length then 12 else
 (scan a.params.l.length (hdrField a.params.l)).getD 0
def valCheck (d : PrgD) (ps : List FldD) (n : List ExD) (w : Int) : Int:=if (exCheck d ps n).2 = 0∧(exCheck d ps n).1 ≠ w then 10 else (exCheck d ps n).2
def stCheck (d : PrgD) (ps : List FldD) (s : StD) : Int :=
 if s.kind = 1 then match fldAt d s.dh s.df with | none=>8 | some f=>valCheck d ps s.value.l f.width
 else if s.kind = 2 ∨ s.kind = 3 then if s.hdr < 0 ∨ (d.headers.l.length : Int) ≤ s.hdr then 8 else 0
 else if s.kind = 4 ∨ s.kind = 5 then
  match (if s.reg < 0 then none else d.regs.l[s.reg.toNat]?) with
  | none=>8
  | some r =>
   if s.kind = 4∧(fldAt d s.dh s.df).isNone then 8
   else if (exCheck d ps s.index.l).2 ≠ 0 then (exCheck d ps s.index.l).2
   else if s.kind = 5 then valCheck d ps s.value.l r.width
   else if (match fldAt d s.dh s.df with | none=>0 | some f=>f.width) = r.width then 0 else 10
 else 11
def actCheckA (d : PrgD) (a : ActD) : Int × Int :=
 if actDecl a ≠ 0 then (-1,actDecl a) else
 (scan a.body.l.length fun i=>match a.body.l[i]? with | none=>none | some s=>if stCheck d a.params.l s = 0 then none else some ((i : Int),stCheck d a.params.l s)).getD (0,0)
def fitsW (v w : Int) : Bool:=!badW w && decide (v ≤ (2 : Int) ^ w.toNat - 1)
def widthOf (d : PrgD) (h f : Int) : Int:=match fldAt d h f with | none=>0 | some x=>if badW x.width then 0 else x.width
def callCheck (d : PrgD) (act : Int) (args : List Int) : Int :=
 match (if act < 0 then none else d.acts.l[act.toNat]?) with
 | none=>8
 | some a=>if args.length ≠ a.params.l.length then 2 else
  if (List.range args.length).all fun i=>match args[i]?,a.params.l[i]? with | some v,some f=>fitsW v f.width | _,_=>true then 0 else 9
def keyScan (d : PrgD) (l : List KeyD) (i : Nat) : Option (Int × Int) :=
 match l[i]? with
 | none=>none
 | some k=>if widthOf d k.h k.f = 0 then some ((i : Int),8) else if 1 ≤ k.kind∧k.kind ≤ 3 then none else some ((i : Int),11)
def keyBits (d : PrgD) (l : List KeyD) : Int:=isum (l.map fun k=>widthOf d k.h k.f)
def keyLpm (l : List KeyD) : Nat:=l.countP fun k=>k.kind == 2
def keysCheck (d : PrgD) (l : List KeyD) : Int × Int :=
 match scan l.length (keyScan d l) with
 | some e=>e
 | none=>if 1 < keyLpm l then (-2,7) else if 64 < keyBits d l then (-2,10) else (0,0)
def actScan (d : PrgD) (l : List Int) (i : Nat) : Option Int :=
 match l[i]? with
 | none=>none
 | some a=>if a < 0 ∨ (d.acts.l.length : Int) ≤ a then some 8 else if (l.take i).contains a then some 7 else none
def tblActs (d : PrgD) (t : TblD) : Int :=
 match scan t.acts.l.length (actScan d t.acts.l) with
 | some e=>e
 | none=>if !t.acts.l.contains t.dfl then 8 else callCheck d t.dfl t.args.l
def tblCheckA (d : PrgD) (t : TblD) : Int × Int :=
 if !ident t.name then (-1,6) else if 6 < t.keys.l.length ∨ 16 < t.acts.l.length then (-1,12) else if t.size < 1 ∨ 256 < t.size then (-1,9)
 else if (keysCheck d t.keys.l).2 ≠ 0 then keysCheck d t.keys.l else if tblActs d t ≠ 0 then (-3,tblActs d t) else (0,0)
def leadsD (d : PrgD) (st nx : Int) : Bool:=nx == -1 || nx == -2 || (decide (st < nx) && decide (nx < d.states.l.length))
def andNotU (a b : Int) : Int:=Go.Proofs.YtafenffmgpcjcaaGreat.Vf.notI .u32 a b
def caseCheck (d : PrgD) (st : Int) (s : StaD) (c : CaseD) : Int :=
 if (!fitsW c.value (widthOf d s.onh s.onf)) || !fitsW c.mask (widthOf d s.onh s.onf) then 9
 else if andNotU c.value c.mask ≠ 0 then 5
 else if !leadsD d st c.next then 14 else 0
def casesScan (d : PrgD) (st : Int) (s : StaD) (i : Nat) : Option (Int × Int) :=
 match s.cases.l[i]? with
 | none=>none
 | some c=>if caseCheck d st s c = 0 then none else some ((i : Int),caseCheck d st s c)
def staCheck (d : PrgD) (st : Int) (s : StaD) : Int × Int :=
 if 4 < s.extract.l.length ∨ 8 < s.cases.l.length then (-1,12)
 else if s.extract.l.any (fun h=>decide (h < 0) || decide ((d.headers.l.length : Int) ≤ h)) then (-1,8)
 else if s.sel = true∧widthOf d s.onh s.onf = 0 then (-1,8)
 else if s.sel = false∧0 < s.cases.l.length then (-1,11)
 else match scan s.cases.l.length (casesScan d st s) with
  | some e=>e
  | none=>if leadsD d st s.dfl then (0,0) else (-1,14)
def staScan (d : PrgD) (i : Nat) : Option (Int × Int × Int) :=
 match d.states.l[i]? with
 | none=>none
 | some s=>if !ident s.name then some ((i : Int),-1,6) else if (d.states.l.take i).any (fun t=>sEq t.name s.name) then some ((i : Int),-1,7)
  else if (staCheck d i s).2 = 0 then none else some ((i : Int),(staCheck d i s).1,(staCheck d i s).2)
def parCheck (d : PrgD) : Int × Int × Int :=
 if d.states.l.length = 0 then (-1,-1,8) else if 12 < d.states.l.length then (-1,-1,12) else (scan d.states.l.length (staScan d)).getD (0,0,0)
mutual
def nodPre : NodD→List NodD
 | .mk k t c tl el=>.mk k t c tl el :: (nodsPre tl ++ nodsPre el)
def nodsPre : List NodD→List NodD
 | []=>[]
 | x :: l=>nodPre x ++ nodsPre l
end
def nodApplies (x : NodD) : Bool:=x.kind == 1 || x.kind == 3
def nodCheck (d : PrgD) (x : NodD) (used : List Int) : Int :=
 if x.kind = 1 ∨ x.kind = 3 then
  if x.table < 0 ∨ (d.tables.l.length : Int) ≤ x.table then 8
  else if used.contains x.table then 7
  else if x.kind = 1∧0 < x.thn.l.length + x.els.l.length then 5 else 0
 else if x.kind = 2 then
  if (exCheck d [] x.cond.l).2 ≠ 0 then (exCheck d [] x.cond.l).2 else if (exCheck d [] x.cond.l).1 ≠ 1 then 10 else 0
 else 11
def ctlGo (d : PrgD) : List NodD→List Int→Nat→Nat × Int
 | [],_,n=>(n,0)
 | x :: l,used,n=>if nodCheck d x used ≠ 0 then (n,nodCheck d x used) else ctlGo d l (if nodApplies x then used ++ [x.table] else used) (n + 1)
def depScan (d : PrgD) (i : Nat) : Option (Int × Int) :=
 match d.dep.l[i]? with
 | none=>none
 | some h=>if h < 0 ∨ (d.headers.l.length : Int) ≤ h then some ((i : Int),8) else if (d.dep.l.take i).contains h then some ((i : Int),7) else none
def depCheck (d : PrgD) : Int × Int:=if 8 < d.dep.l.length then (-1,12) else (scan d.dep.l.length (depScan d)).getD (0,0)
def actCheck (d : PrgD) (i : Int) : Int × Int:=match (if i < 0 then none else d.acts.l[i.toNat]?) with | none=>(-1,8) | some a=>actCheckA d a
def tblCheck (d : PrgD) (i : Int) : Int × Int:=match (if i < 0 then none else d.tables.l[i.toNat]?) with | none=>(-1,8) | some t=>tblCheckA d t
abbrev Diag:=Int × Int × Int × Int
def req (code part item sub : Int) : Option Diag:=if code = 0 then none else some (code,part,item,sub)
def dupS (l : List ByteArray) (i : Nat) : Int:=match l[i]? with | none=>0 | some s=>if (l.take i).any (fun t=>sEq t s) then 7 else 0
def firstD : List (Option Diag)→Option Diag
 | []=>none
 | x :: l=>match x with | some e=>some e | none=>firstD l
def metaName : ByteArray := "meta".toUTF8
def prgLimits (d : PrgD) : Option Diag :=
 firstD [req (if ident d.name then 0 else 6) 0 0 0,req (if 8 < d.headers.l.length then 12 else 0) 0 1 0,req (if 4 < d.regs.l.length then 12 else 0) 0 3 0,
  req (if 16 < d.acts.l.length then 12 else 0) 0 4 0,req (if 12 < d.tables.l.length then 12 else 0) 0 5 0]
def prgHdr (d : PrgD) (i : Nat) : Option Diag :=
 match d.headers.l[i]? with
 | none=>none
 | some h=>firstD [req (hdrCheck h) 1 i 0,req (if sEq h.name metaName then 6 else 0) 1 i 0,req (dupS (d.headers.l.map (·.name)) i) 1 i 0]
def prgMeta (d : PrgD) (i : Nat) : Option Diag :=
 match d.meta_.l[i]? with
 | none=>none
 | some f=>firstD [req (if ident f.name then 0 else 6) 2 i 0,req (if badW f.width then 10 else 0) 2 i 0,req (dupS (d.meta_.l.map (·.name)) i) 2 i 0]
def metaIs (l : List FldD) (i : Nat) (s : ByteArray) (w : Int) : Bool:=match l[i]? with | none=>false | some f=>sEq f.name s && f.width == w
def prgMetas (d : PrgD) : Option Diag :=
 firstD [req (if 12 < d.meta_.l.length then 12 else 0) 2 0 0,scan d.meta_.l.length (prgMeta d),
  req (if metaIs d.meta_.l 0 "in".toUTF8 8 then 0 else 5) 2 0 0, req (if metaIs d.meta_.l 1 "out".toUTF8 8 then 0 else 5) 2 1 0, req (if metaIs d.meta_.l 2 "drop".toUTF8 1 then 0 else 5) 2 2 0]
def prgReg (d : PrgD) (i : Nat) : Option Diag :=
 match d.regs.l[i]? with
 | none=>none
 | some r=>firstD [req (regCheck r) 3 i 0,req (dupS (d.regs.l.map (·.name)) i) 3 i 0]
def prgAct (d : PrgD) (i : Nat) : Option Diag:=firstD [req (actCheck d i).2 4 i (actCheck d i).1,req (dupS (d.acts.l.map (·.name)) i) 4 i 0]
def prgTbl (d : PrgD) (i : Nat) : Option Diag:=firstD [req (tblCheck d i).2 5 i (tblCheck d i).1,req (dupS (d.tables.l.map (·.name)) i) 5 i 0]
def prgObjs (d : PrgD) : Option Diag:=firstD [scan d.regs.l.length (prgReg d),scan d.acts.l.length (prgAct d),scan d.tables.l.length (prgTbl d)]
def wr (x : Int) : Int:=IntKind.i64.wrap x
theorem wr_id {x : Int} (h0 : -9223372036854775808 ≤ x) (h1 : x ≤ 9223372036854775807) : wr x = x:=by
 unfold wr
 simp [IntKind.wrap,IntKind.bits,IntKind.signed]
 omega
def nodCheckW (d : PrgD) (x : NodD) (used : List Int) : Int :=
 if x.kind = 1 ∨ x.kind = 3 then
  if x.table < 0 ∨ (d.tables.l.length : Int) ≤ x.table then 8
  else if used.contains x.table then 7
  else if x.kind = 1∧0 < wr ((x.thn.l.length : Int) + x.els.l.length) then 5 else 0
 else if x.kind = 2 then
  if (exCheck d [] x.cond.l).2 ≠ 0 then (exCheck d [] x.cond.l).2 else if (exCheck d [] x.cond.l).1 ≠ 1 then 10 else 0
 else 11
def ctlGoW (d : PrgD) : List NodD→List Int→Nat→Nat × Int
 | [],_,n=>(n,0)
 | x :: l,used,n=>if nodCheckW d x used ≠ 0 then (n,nodCheckW d x used) else ctlGoW d l (if nodApplies x then used ++ [x.table] else used) (n + 1)
mutual
def nodDeepW : NodD→Int
 | .mk _ _ _ tl el=>max (nodsDeepW tl) (nodsDeepW el)
def nodsMostW : List NodD→Int
 | []=>0
 | x :: l=>max (nodDeepW x) (nodsMostW l)
def nodsDeepW : List NodD→Int
 | []=>0
 | x :: l=>wr (max (nodDeepW x) (nodsMostW l) + 1)
end
def ctlCheckW (d : PrgD) : Int × Int :=
 if 24 < wr (nodsPre d.control.l).length then (-1,12)
 else if 6 < nodsDeepW d.control.l then (-1,14)
 else if (ctlGoW d (nodsPre d.control.l) [] 0).2 ≠ 0 then (wr (ctlGoW d (nodsPre d.control.l) [] 0).1,(ctlGoW d (nodsPre d.control.l) [] 0).2) else (0,0)
def prgFlowW (d : PrgD) : Option Diag:=firstD [req (parCheck d).2.2 6 (parCheck d).1 (parCheck d).2.1,req (ctlCheckW d).2 7 (ctlCheckW d).1 0,req (depCheck d).2 8 (depCheck d).1 0]
def prgCheckW (d : PrgD) : Diag:=(firstD [prgLimits d,scan d.headers.l.length (prgHdr d),prgMetas d,prgObjs d,prgFlowW d]).getD (0,0,0,0)
theorem wr_add (x y : Int) : wr (wr x + y) = wr (x + y):=by
 unfold wr
 simp [IntKind.wrap,IntKind.bits,IntKind.signed]
 omega
set_option linter.unusedSimpArgs false
theorem scan_P {E : Type} {n : Nat} {f : Nat→Option E} {P : E→Prop} (h : ∀ i e,f i = some e→P e) (e : E) (he : scan n f = some e) : P e:=by
 obtain ⟨i,_,hi⟩:=List.exists_of_findSome?_eq_some he
 exact h i e hi
theorem getD_all {E : Type} {o : Option E} {z : E} {P : E→Prop} (h : ∀ e,o = some e→P e) (hz : P z) : P (o.getD z):=by
 cases o with
 | none=>exact hz
 | some e=>exact h e rfl
theorem hf_le {l : List FldD} {i : Nat} (e : Int) (h : hdrField l i = some e) : e ≤ 16:=by
 unfold hdrField at h
 (repeat' split at h) <;> simp at h <;> omega
theorem hdrCheck_le (h : HdrD) : hdrCheck h ≤ 16:=by
 unfold hdrCheck
 repeat' split
 all_goals first
  | decide
  | exact scan_P (P:=(· ≤ 16)) (fun _=>hf_le) _ (by assumption)
theorem regCheck_le (r : RegD) : regCheck r ≤ 16:=by
 unfold regCheck
 repeat' split
 all_goals decide
theorem wide_le (w : Int) : (wide w).2 ≤ 16:=by
 unfold wide
 split <;> simp
theorem primary_le (d : PrgD) (ps : List FldD) (x : ExD) : (primary d ps x).2 ≤ 16:=by
 unfold primary
 repeat' split
 all_goals first
  | (simp; done)
  | exact wide_le _
theorem combine_le (x : ExD) (a b c : Int) : (combine x a b c).2 ≤ 16:=by
 unfold combine
 repeat' split
 all_goals first
  | (simp; done)
  | exact wide_le _
theorem exAt_le (d : PrgD) (ps : List FldD) (n : List ExD) : ∀ f i,(exAt d ps n f i).2.2 ≤ 16
 | 0,i=>by simp [exAt]
 | f + 1,i=>by
  have ih:=exAt_le d ps n f
  simp only [exAt]
  repeat' split
  all_goals first
   | (simp; done)
   | exact primary_le _ _ _
   | exact combine_le _ _ _ _
   | exact ih _
theorem exCheck_le (d : PrgD) (ps : List FldD) (n : List ExD) : (exCheck d ps n).2 ≤ 16:=by
 simp only [exCheck]
 repeat' split
 all_goals first
  | (simp; done)
  | exact exAt_le _ _ _ _ _
theorem actDecl_le (a : ActD) : actDecl a ≤ 16:=by
 unfold actDecl
 repeat' split
 all_goals first
  | decide
  | exact getD_all (P:=(· ≤ 16)) (scan_P fun _=>hf_le) (by decide)
theorem valCheck_le (d : PrgD) (ps : List FldD) (n : List ExD) (w : Int) : valCheck d ps n w ≤ 16:=by
 unfold valCheck
 split
 ·decide
 ·exact exCheck_le _ _ _
theorem stCheck_le (d : PrgD) (ps : List FldD) (s : StD) : stCheck d ps s ≤ 16:=by
 unfold stCheck
 repeat' split
 all_goals first
  | decide
  | exact valCheck_le _ _ _ _
  | exact exCheck_le _ _ _
theorem actCheckA_le (d : PrgD) (a : ActD) : (actCheckA d a).2 ≤ 16:=by
 unfold actCheckA
 split
 ·exact actDecl_le a
 ·refine getD_all (P:=fun e : Int × Int=>e.2 ≤ 16) (scan_P fun i e h=>?_) (by decide)
  (repeat' split at h) <;> simp at h
  rw [← h]
  exact stCheck_le _ _ _
theorem callCheck_le (d : PrgD) (act : Int) (args : List Int) : callCheck d act args ≤ 16:=by
 unfold callCheck
 repeat' split
 all_goals decide
theorem keysCheck_le (d : PrgD) (l : List KeyD) : (keysCheck d l).2 ≤ 16:=by
 unfold keysCheck
 split
 case h_1 e he =>
  refine scan_P (P:=fun e : Int × Int=>e.2 ≤ 16) (fun i e h=>?_) e he
  unfold keyScan at h
  (repeat' split at h) <;> simp at h <;> rw [← h] <;> simp
 ·repeat' split
  all_goals decide
theorem tblActs_le (d : PrgD) (t : TblD) : tblActs d t ≤ 16:=by
 unfold tblActs
 split
 case h_1 e he =>
  refine scan_P (P:=fun e : Int=>e ≤ 16) (fun i e h=>?_) e he
  unfold actScan at h
  (repeat' split at h) <;> simp at h <;> omega
 ·split
  ·decide
  ·exact callCheck_le _ _ _
theorem tblCheckA_le (d : PrgD) (t : TblD) : (tblCheckA d t).2 ≤ 16:=by
 unfold tblCheckA
 repeat' split
 all_goals first
  | decide
  | exact keysCheck_le _ _
  | exact tblActs_le _ _
theorem caseCheck_le (d : PrgD) (st : Int) (s : StaD) (c : CaseD) : caseCheck d st s c ≤ 16:=by
 unfold caseCheck
 repeat' split
 all_goals decide
theorem staCheck_le (d : PrgD) (st : Int) (s : StaD) : (staCheck d st s).2 ≤ 16:=by
 unfold staCheck
 repeat' split
 all_goals first
  | decide
  | skip
 rename_i e he
 refine scan_P (P:=fun e : Int × Int=>e.2 ≤ 16) (fun i e h=>?_) e he
 unfold casesScan at h
 (repeat' split at h) <;> simp at h
 rw [← h]
 exact caseCheck_le _ _ _ _
theorem parCheck_le (d : PrgD) : (parCheck d).2.2 ≤ 16:=by
 unfold parCheck
 repeat' split
 ·decide
 ·decide
 ·refine getD_all (P:=fun e : Int × Int × Int=>e.2.2 ≤ 16) (scan_P fun i e h=>?_) (by decide)
  unfold staScan at h
  (repeat' split at h) <;> simp at h <;> rw [← h] <;> first
   | exact staCheck_le _ _ _
   | simp
theorem nodCheckW_le (d : PrgD) (x : NodD) (u : List Int) : nodCheckW d x u ≤ 16:=by
 unfold nodCheckW
 repeat' split
 all_goals first
  | decide
  | exact exCheck_le _ _ _
theorem ctlGoW_le (d : PrgD) : ∀ l u n,(ctlGoW d l u n).2 ≤ 16
 | [],_,n=>by simp [ctlGoW]
 | x :: l,u,n=>by
  rw [ctlGoW]
  split
  ·exact nodCheckW_le d x u
  ·exact ctlGoW_le d l _ _
theorem ctlCheckW_le (d : PrgD) : (ctlCheckW d).2 ≤ 16:=by
 unfold ctlCheckW
 repeat' split
 all_goals first
  | decide
  | exact ctlGoW_le _ _ _ _
theorem depCheck_le (d : PrgD) : (depCheck d).2 ≤ 16:=by
 unfold depCheck
 split
 ·decide
 ·refine getD_all (P:=fun e : Int × Int=>e.2 ≤ 16) (scan_P fun i e h=>?_) (by decide)
  unfold depScan at h
  (repeat' split at h) <;> simp at h <;> rw [← h] <;> simp
theorem actCheck_le (d : PrgD) (i : Int) : (actCheck d i).2 ≤ 16:=by
 unfold actCheck
 repeat' split
 all_goals first
  | decide
  | exact actCheckA_le _ _
theorem tblCheck_le (d : PrgD) (i : Int) : (tblCheck d i).2 ≤ 16:=by
 unfold tblCheck
 repeat' split
 all_goals first
  | decide
  | exact tblCheckA_le _ _
theorem dupS_le (l : List ByteArray) (i : Nat) : dupS l i ≤ 16:=by
 unfold dupS
 repeat' split
 all_goals decide
def O16 (o : Option Diag) : Prop:=∀ e,o = some e→e.1 ≤ 16
theorem req_16 {c p i s : Int} (h : c ≤ 16) : O16 (req c p i s):=fun e he=>by
 unfold req at he
 split at he
 ·cases he
 ·rw [← Option.some.inj he]; exact h
theorem first_nil : O16 (firstD []):=fun e he=>by cases he
theorem first_cons {x : Option Diag} {l : List (Option Diag)} (h : O16 x) (hl : O16 (firstD l)) : O16 (firstD (x :: l)):=by
 cases x with
 | none=>exact hl
 | some e=>exact h
theorem scan_16 {n : Nat} {f : Nat→Option Diag} (h : ∀ i,O16 (f i)) : O16 (scan n f):=scan_P h
theorem if_16 (c : Prop) [Decidable c] {a b : Int} (ha : a ≤ 16) (hb : b ≤ 16) : (if c then a else b) ≤ 16:=by split <;> assumption
theorem prg_16 (d : PrgD) : (prgCheckW d).1 ≤ 16:=by
 unfold prgCheckW
 refine getD_all (P:=fun e : Diag=>e.1 ≤ 16) (?_ : O16 _) (by decide)
 refine first_cons ?_ (first_cons (scan_16 fun i=>?_) (first_cons ?_ (first_cons ?_ (first_cons ?_ first_nil))))
 ·refine first_cons (req_16 ?_) (first_cons (req_16 ?_) (first_cons (req_16 ?_) (first_cons (req_16 ?_) (first_cons (req_16 ?_) first_nil))))
  all_goals exact if_16 _ (by decide) (by decide)
 ·unfold prgHdr
  split
  ·exact fun e h=>by cases h
  ·exact first_cons (req_16 (hdrCheck_le _)) (first_cons (req_16 (if_16 _ (by decide) (by decide))) (first_cons (req_16 (dupS_le _ _)) first_nil))
 ·refine first_cons (req_16 (if_16 _ (by decide) (by decide))) (first_cons (scan_16 fun i=>?_) (first_cons (req_16 ?_) (first_cons (req_16 ?_) (first_cons (req_16 ?_) first_nil))))
  ·unfold prgMeta
   split
   ·exact fun e h=>by cases h
   ·exact first_cons (req_16 (if_16 _ (by decide) (by decide))) (first_cons (req_16 (if_16 _ (by decide) (by decide))) (first_cons (req_16 (dupS_le _ _)) first_nil))
  all_goals exact if_16 _ (by decide) (by decide)
 ·refine first_cons (scan_16 fun i=>?_) (first_cons (scan_16 fun i=>?_) (first_cons (scan_16 fun i=>?_) first_nil))
  ·unfold prgReg
   split
   ·exact fun e h=>by cases h
   ·exact first_cons (req_16 (regCheck_le _)) (first_cons (req_16 (dupS_le _ _)) first_nil)
  ·exact first_cons (req_16 (actCheck_le _ _)) (first_cons (req_16 (dupS_le _ _)) first_nil)
  ·exact first_cons (req_16 (tblCheck_le _ _)) (first_cons (req_16 (dupS_le _ _)) first_nil)
 ·exact first_cons (req_16 (parCheck_le _)) (first_cons (req_16 (ctlCheckW_le _)) (first_cons (req_16 (depCheck_le _)) first_nil))
end Go.Proofs.YtafenffmgpcjcaaGreat
namespace Go.Proofs.YtafenffmgpcjcaaGreat
open Go.RowKit
set_option linter.unusedVariables false
abbrev failV (c p i s : Int) : Value:=.iface 130 (.agg #[.int .i64 c,.int .i64 p,.int .i64 i,.int .i64 s])
theorem require_no (p i s : Int) (w : World) : Calls Tryz.prog 87 #[.int .i64 0,.int .i64 p,.int .i64 i,.int .i64 s] w fun e w'=>e = .returned (.tuple #[])∧w = w':=by
 go_enter Tryz.func87,Tryz.ntmps87
 go_wp2_with fail
 go_returns
 exact ⟨rfl,rfl⟩
theorem require_yes (c p i s : Int) (hc : c ≠ 0) (w : World) : Calls Tryz.prog 87 #[.int .i64 c,.int .i64 p,.int .i64 i,.int .i64 s] w fun e w'=>e = .panicked [{ v:=failV c p i s,recovered:=false }]∧w = w':=by
 have hc1 : (c != 0) = true:=by simp [hc]
 clear hc
 go_enter Tryz.func87,Tryz.ntmps87
 go_wp2_with fail
 exact ⟨rfl,rfl,rfl⟩
set_option linter.unusedSimpArgs false
end Go.Proofs.YtafenffmgpcjcaaGreat
namespace Go.Proofs.YtafenffmgpcjcaaGreat
open Go.RowKit Go.Proofs.YtafenffmgpcjcaaGreat.Vf
set_option linter.unusedVariables false
set_option linter.unusedSimpArgs false
set_option maxRecDepth 100000
set_option maxHeartbeats 4000000
attribute [simp] opPure_len opPure_index opBuild placesA fillA opBuildSlice zeroRow chunk Ty.agg
@[simp] theorem len_s {s : ByteArray} : lenP Tryz.prog 9 (.f (strF s)) = some (.f (intF s.size)):=lenP_str (by kernel_rfl)
theorem size_len (s : ByteArray) : s.size = s.data.toList.length:=Lib.size_eq s
theorem idx_s {s : ByteArray} {i : Nat} {b : UInt8} (hb : s.data.toList[i]? = some b) : idxP Tryz.prog 9 (.f (strF s)) (.f (intF i)) = some (.f (.sc (.int .u8 b.toNat))):=idxP_str (by kernel_rfl) hb
theorem let_g (c : UInt8) : Gives Tryz.prog 194 [.sc (.int .u8 c.toNat)] (boolF (isLet c)):=by
 refine Gives.of mixed Tryz.func194 rfl rfl rfl (by kernel_rfl) ?_
 by_cases c1 : (97 : Int) ≤ c.toNat <;> by_cases c2 : (c.toNat : Int) ≤ 122 <;> by_cases c3 : (65 : Int) ≤ c.toNat <;> by_cases c4 : (c.toNat : Int) ≤ 90 <;> simp [c1,c2,c3,c4,isLet] <;> omega
theorem dig_g (c : UInt8) : Gives Tryz.prog 197 [.sc (.int .u8 c.toNat)] (boolF (isDig c)):=by
 refine Gives.of mixed Tryz.func197 rfl rfl rfl (by kernel_rfl) ?_
 by_cases c1 : (48 : Int) ≤ c.toNat <;> by_cases c2 : (c.toNat : Int) ≤ 57 <;> simp [c1,c2,isDig] <;> omega
theorem idc_g (c : UInt8) : Gives Tryz.prog 196 [.sc (.int .u8 c.toNat)] (boolF (idc c)):=by
 refine Gives.of mixed Tryz.func196 rfl rfl rfl (by kernel_rfl) ?_
 simp
 refine call_g (let_g c) ?_
 cases h1 : isLet c with
 | true=>simp [idc,h1]
 | false =>
  simp
  refine call_g (dig_g c) ?_
  cases h2 : isDig c with
  | true=>simp [idc,h1,h2]
  | false =>
   by_cases h3 : (c.toNat : Int) = 95 <;> simp [idc,h1,h2,h3] <;> omega
theorem tw_len {α : Type} {p : α→Bool} {l : List α} {i : Nat} (h : noneT (fun x=>!p x) l i) (hi : i ≤ l.length) (hs : ∀ x,l[i]? = some x→p x = false) : (i : Int) = (l.takeWhile p).length:=by
 suffices hh : (l.takeWhile p).length = i by rw [hh]
 induction l generalizing i with
 | nil=>simp at hi; subst hi; rfl
 | cons a l ih =>
  cases i with
  | zero=>simp [List.takeWhile_cons,hs a rfl]
  | succ i =>
   have ha : p a = true:=by simpa using h 0 a (by omega) rfl
   rw [List.takeWhile_cons,if_pos ha,List.length_cons,ih (i:=i) (fun j x hj hx=>h (j + 1) x (by omega) (by simpa using hx)) (by simpa using hi) (fun x hx=>hs x (by simpa using hx))]
theorem extent_g (s : ByteArray) (hs : s.size < 2^62) : Gives Tryz.prog 195 [strF s,.fn 196 []] (intF (idLen s.data.toList)):=by
 refine Gives.of mixed Tryz.func195 rfl rfl rfl (by kernel_rfl) ?_
 have hsz:=size_len s
 simp
 refine forX mixed s.size (fun i st=>noneT (fun c=>!idc c) s.data.toList i∧Vf.Sl [(0,.f (strF s)),(1,.f (.fn 196 [])),(5,.f (intF i))] 20 [] [] st) (by kernel_rfl) ⟨.zero,Sl.of rfl rfl rfl⟩ ?_
 rintro i ⟨ts,h,kk⟩ hi ⟨hn,rfl,rfl,f,rfl⟩
 by_cases hlt : i < s.size
 ·obtain ⟨c,hc,hc'⟩:=nth_of (show i < s.data.toList.length by omega)
  have hw:=wrap64 (x:=(i : Int) + 1) (by omega) (by omega)
  simp [hlt,idx_s hc']
  refine call_g (idc_g c) ?_
  cases hx : idc c with
  | true =>
   simp [hw,hlt]
   exact ⟨hn.next hc' (by simp [hx]),Sl.of rfl rfl rfl⟩
  | false =>
   simp
   exact tw_len hn (by omega) (fun x hx'=>by rw [hc'] at hx'; obtain rfl:=Option.some.inj hx'; exact hx)
 ·simp [hlt]
  exact tw_len hn (by omega) (fun x hx'=>by rw [List.getElem?_eq_none (by omega)] at hx'; cases hx')
theorem ident_g (s : ByteArray) (hs : s.size < 2^62) : Gives Tryz.prog 141 [strF s] (boolF (ident s)):=by
 refine Gives.of mixed Tryz.func141 rfl rfl rfl (by kernel_rfl) ?_
 have hsz:=size_len s
 by_cases c1 : s.size = 0
 ·simp [c1,ident]
 by_cases c2 : (16 : Int) < s.size
 ·simp [c1,c2,ident]; omega
 obtain ⟨c,hc,hc'⟩:=nth_of (show 0 < s.data.toList.length by omega)
 have h0 : idxP Tryz.prog 9 (.f (strF s)) (.f (intF 0)) = some (.f (.sc (.int .u8 c.toNat))):=idx_s (i:=0) hc'
 have hd : s.data.toList.headD 0 = c:=by
  cases h : s.data.toList with
  | nil=>rw [h] at hc'; cases hc'
  | cons a l=>rw [h] at hc'; simpa using hc'
 have c1' : 0 < s.size:=by omega
 have c2' : s.size ≤ 16:=by omega
 have hI : ident s = (isLet c && decide ((idLen s.data.toList : Int) = s.size)):=by
  unfold ident
  rw [hd,decide_eq_true c1',decide_eq_true c2']
  simp only [Bool.true_and]
  congr 1
  rw [Bool.eq_iff_iff,beq_iff_eq,decide_eq_true_eq]
  omega
 simp [c1,c2,h0]
 refine call_g (let_g c) ?_
 cases h1 : isLet c with
 | false=>simp [hI,h1]
 | true =>
  simp
  refine call_g (extent_g s hs) ?_
  simp [hI,h1]
end Go.Proofs.YtafenffmgpcjcaaGreat
