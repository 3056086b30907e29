/- Texts of the proof: EA1. -/
import Derived.Below
import Derived.Orders
import Derived.Laws.Append
import Derived.Laws.Cells
import Derived.Tactics
import Derived.Laws.MakeOwn
namespace Go.Proofs.YtejkhflkeoihlaaGreat.Ve
open Go.RowKit
set_option linter.unusedVariables false
set_option linter.unusedSimpArgs false
inductive EV where
 | i (k : IntKind) (n : Int)
 | b (q : Bool)
 | s (l : List Nat)
 | sc (v : Value)
 | ref (b o : Nat)
 | sl (b o len cap : Nat)
 | mp (b : Nat)
 | fn (f : Fn) (fi cs : List EV)
 | ifc (t : TypeId) (v : EV)
 | agg (cs : List EV)
 | tup (cs : List EV)
 deriving Inhabited
structure EE where
 key : EV
 val : EV
 born : Nat
inductive EO where
 | cells (cs : List EV) (e : TypeId) (el : Bool)
 | map (es : List EE) (clock : Nat)
 | dead
noncomputable def forceN {α : Type} (n : Nat) (k : Nat→α) : α:=@Nat.rec (fun _=>α) (k 0) (fun m _=>k (Nat.succ m)) n
noncomputable def forceI {α : Type} (z : Int) (k : Int→α) : α:=@Int.rec (fun _=>α) (fun m=>forceN m fun m=>k (.ofNat m)) (fun m=>forceN m fun m=>k (.negSucc m)) z
inductive Tr (α : Type) where
 | leaf
 | node (l : Tr α) (v : Option α) (r : Tr α)
noncomputable def ifT {α : Type} (q : Bool) (a b : α) : α:=@Bool.rec (fun _=>α) b a q
noncomputable def Tr.get {α : Type} (t : Tr α) : Nat→Option α :=
 @Tr.rec α (fun _=>Nat→Option α) (fun _=>none) (fun _ v _ fl fr n=>@Nat.rec (fun _=>Option α) v (fun m _=>@Nat.rec (fun _=>Option α) (fl (Nat.div m 2)) (fun _ _=>fr (Nat.div m 2)) (Nat.mod m 2)) n) t
noncomputable def Tr.setK {α β : Type} (f : Nat) : Tr α→Nat→α→(Tr α→β)→β :=
 @Nat.rec (fun _=>Tr α→Nat→α→(Tr α→β)→β) (fun t _ _ k=>k t)
  (fun _ ih t n x k=>@Nat.rec (fun _=>β)
   (@Tr.rec α (fun _=>β) (k (.node .leaf (some x) .leaf)) (fun l _ r _ _=>k (.node l (some x) r)) t)
   (fun m _=>@Nat.rec (fun _=>β)
    (@Tr.rec α (fun _=>β) (ih .leaf (Nat.div m 2) x fun l=>k (.node l none .leaf)) (fun l v r _ _=>ih l (Nat.div m 2) x fun l=>k (.node l v r)) t)
    (fun _ _=>@Tr.rec α (fun _=>β) (ih .leaf (Nat.div m 2) x fun r=>k (.node .leaf none r)) (fun l v r _ _=>ih r (Nat.div m 2) x fun r=>k (.node l v r)) t) (Nat.mod m 2)) n) f
structure EW where
 h : Tr EO
 n : Nat
noncomputable def EW.get (w : EW) (b : Nat) : EO:=@Option.rec EO (fun _=>EO) .dead (fun o=>o) (w.h.get b)
noncomputable def EW.putK {β : Type} (w : EW) (b : Nat) (o : EO) (k : EW→β) : β:=w.h.setK (Nat.succ b) b o fun h=>k ⟨h,w.n⟩
noncomputable def EW.newK {β : Type} (w : EW) (o : EO) (k : Nat→EW→β) : β:=w.h.setK (Nat.succ w.n) w.n o fun h=>forceN (Nat.succ w.n) fun n=>k w.n ⟨h,n⟩
structure N4 (α : Type) where
 a : α
 b : α
 c : α
 d : α
def SlT : Nat→Type
 | 0=>EV
 | k + 1=>N4 (SlT k)
def undefE : EV:=.sc undef
def empT : (k : Nat)→SlT k
 | 0=>undefE
 | k + 1=>(⟨empT k,empT k,empT k,empT k⟩ : N4 (SlT k))
abbrev Sl:=SlT 4
structure GetK (k : Nat) where
 f : SlT k→EV
structure SetK (k : Nat) where
 f : SlT k→EV→SlT k
structure Get where
 f : Sl→EV
structure Set' where
 f : Sl→EV→Sl
def getK : (k : Nat)→Nat→GetK k
 | 0,_=>⟨fun t=>t⟩
 | k + 1,i=>match getK k (i / 4) with
  | ⟨g⟩=>match i % 4 with
   | 0=>⟨fun t=>g (N4.a (α:=SlT k) t)⟩
   | 1=>⟨fun t=>g (N4.b (α:=SlT k) t)⟩
   | 2=>⟨fun t=>g (N4.c (α:=SlT k) t)⟩
   | _=>⟨fun t=>g (N4.d (α:=SlT k) t)⟩
def setK : (k : Nat)→Nat→SetK k
 | 0,_=>⟨fun _ x=>x⟩
 | k + 1,i=>match setK k (i / 4) with
  | ⟨g⟩=>match i % 4 with
   | 0=>⟨fun t x=>N4.mk (α:=SlT k) (g (N4.a (α:=SlT k) t) x) (N4.b (α:=SlT k) t) (N4.c (α:=SlT k) t) (N4.d (α:=SlT k) t)⟩
   | 1=>⟨fun t x=>N4.mk (α:=SlT k) (N4.a (α:=SlT k) t) (g (N4.b (α:=SlT k) t) x) (N4.c (α:=SlT k) t) (N4.d (α:=SlT k) t)⟩
   | 2=>⟨fun t x=>N4.mk (α:=SlT k) (N4.a (α:=SlT k) t) (N4.b (α:=SlT k) t) (g (N4.c (α:=SlT k) t) x) (N4.d (α:=SlT k) t)⟩
   | _=>⟨fun t x=>N4.mk (α:=SlT k) (N4.a (α:=SlT k) t) (N4.b (α:=SlT k) t) (N4.c (α:=SlT k) t) (g (N4.d (α:=SlT k) t) x)⟩
def getC (i : Nat) : Get:=match Nat.blt i 256 with
 | true=>match getK 4 i with | ⟨g⟩=>⟨g⟩
 | false=>⟨fun _=>undefE⟩
def setC (i : Nat) : Set':=match setK 4 i with | ⟨g⟩=>⟨g⟩
inductive Q where
 | no
 | ok (x : EV) (w : EW)
inductive A' where
 | no
 | ok (o : EO) (v : Nat→EV)
abbrev Df:=List (FuncId × List EV)
inductive Rs where
 | no
 | nrm (t : Sl) (d : Df) (w : EW)
 | ext (id : Nat) (t : Sl) (d : Df) (w : EW)
 | gto (l : Nat) (t : Sl) (d : Df) (w : EW)
 | ret (t : Sl) (d : Df) (w : EW)
noncomputable def onRefE (x : EV) (f : Nat→Nat→Option EV) : Option EV:=@EV.rec (fun _=>Option EV) (fun _=>PUnit) (fun _ _=>none) (fun _=>none) (fun _=>none) (fun _=>none) f (fun _ _ _ _=>none) (fun _=>none) (fun _ _ _ _ _=>none) (fun _ _ _=>none) (fun _ _=>none) (fun _ _=>none) PUnit.unit (fun _ _ _ _=>PUnit.unit) x
noncomputable def onSlE (x : EV) (f : Nat→Nat→Nat→Nat→Option EV) : Option EV:=@EV.rec (fun _=>Option EV) (fun _=>PUnit) (fun _ _=>none) (fun _=>none) (fun _=>none) (fun _=>none) (fun _ _=>none) f (fun _=>none) (fun _ _ _ _ _=>none) (fun _ _ _=>none) (fun _ _=>none) (fun _ _=>none) PUnit.unit (fun _ _ _ _=>PUnit.unit) x
noncomputable def onIE (x : EV) (f : IntKind→Int→Option EV) : Option EV:=@EV.rec (fun _=>Option EV) (fun _=>PUnit) f (fun _=>none) (fun _=>none) (fun _=>none) (fun _ _=>none) (fun _ _ _ _=>none) (fun _=>none) (fun _ _ _ _ _=>none) (fun _ _ _=>none) (fun _ _=>none) (fun _ _=>none) PUnit.unit (fun _ _ _ _=>PUnit.unit) x
noncomputable def onNE (x : EV) (f : Nat→Option EV) : Option EV:=@EV.rec (fun _=>Option EV) (fun _=>PUnit) (fun k n=>(@Int.rec (fun _=>Option EV) f (fun _=>none) n)) (fun _=>none) (fun _=>none) (fun _=>none) (fun _ _=>none) (fun _ _ _ _=>none) (fun _=>none) (fun _ _ _ _ _=>none) (fun _ _ _=>none) (fun _ _=>none) (fun _ _=>none) PUnit.unit (fun _ _ _ _=>PUnit.unit) x
noncomputable def onBE (x : EV) (f : Bool→Option EV) : Option EV:=@EV.rec (fun _=>Option EV) (fun _=>PUnit) (fun _ _=>none) f (fun _=>none) (fun _=>none) (fun _ _=>none) (fun _ _ _ _=>none) (fun _=>none) (fun _ _ _ _ _=>none) (fun _ _ _=>none) (fun _ _=>none) (fun _ _=>none) PUnit.unit (fun _ _ _ _=>PUnit.unit) x
noncomputable def onSE (x : EV) (f : List Nat→Option EV) : Option EV:=@EV.rec (fun _=>Option EV) (fun _=>PUnit) (fun _ _=>none) (fun _=>none) f (fun _=>none) (fun _ _=>none) (fun _ _ _ _=>none) (fun _=>none) (fun _ _ _ _ _=>none) (fun _ _ _=>none) (fun _ _=>none) (fun _ _=>none) PUnit.unit (fun _ _ _ _=>PUnit.unit) x
noncomputable def onRefQ (x : EV) (f : Nat→Nat→Q) : Q:=@EV.rec (fun _=>Q) (fun _=>PUnit) (fun _ _=>.no) (fun _=>.no) (fun _=>.no) (fun _=>.no) f (fun _ _ _ _=>.no) (fun _=>.no) (fun _ _ _ _ _=>.no) (fun _ _ _=>.no) (fun _ _=>.no) (fun _ _=>.no) PUnit.unit (fun _ _ _ _=>PUnit.unit) x
noncomputable def onBR (x : EV) (f : Bool→Rs) : Rs:=@EV.rec (fun _=>Rs) (fun _=>PUnit) (fun _ _=>.no) f (fun _=>.no) (fun _=>.no) (fun _ _=>.no) (fun _ _ _ _=>.no) (fun _=>.no) (fun _ _ _ _ _=>.no) (fun _ _ _=>.no) (fun _ _=>.no) (fun _ _=>.no) PUnit.unit (fun _ _ _ _=>PUnit.unit) x
noncomputable def onAggE (x : EV) (f : List EV→Option EV) : Option EV:=@EV.rec (fun _=>Option EV) (fun _=>PUnit) (fun _ _=>none) (fun _=>none) (fun _=>none) (fun _=>none) (fun _ _=>none) (fun _ _ _ _=>none) (fun _=>none) (fun _ _ _ _ _=>none) (fun _ _ _=>none) (fun cs _=>f cs) (fun _ _=>none) PUnit.unit (fun _ _ _ _=>PUnit.unit) x
noncomputable def onAggQ (x : EV) (f : List EV→Q) : Q:=@EV.rec (fun _=>Q) (fun _=>PUnit) (fun _ _=>.no) (fun _=>.no) (fun _=>.no) (fun _=>.no) (fun _ _=>.no) (fun _ _ _ _=>.no) (fun _=>.no) (fun _ _ _ _ _=>.no) (fun _ _ _=>.no) (fun cs _=>f cs) (fun _ _=>.no) PUnit.unit (fun _ _ _ _=>PUnit.unit) x
noncomputable def onAgg {α : Type} (d : α) (x : EV) (f : List EV→α) : α:=@EV.rec (fun _=>α) (fun _=>PUnit) (fun _ _=>d) (fun _=>d) (fun _=>d) (fun _=>d) (fun _ _=>d) (fun _ _ _ _=>d) (fun _=>d) (fun _ _ _ _ _=>d) (fun _ _ _=>d) (fun cs _=>f cs) (fun _ _=>d) PUnit.unit (fun _ _ _ _=>PUnit.unit) x
def oneV : Value→Bool
 | .agg _=>false
 | .tuple _=>false
 | _=>true
noncomputable def isOne (x : EV) : Bool:=@EV.rec (fun _=>Bool) (fun _=>PUnit) (fun _ _=>true) (fun _=>true) (fun _=>true) oneV (fun _ _=>true) (fun _ _ _ _=>true) (fun _=>true) (fun _ _ _ _ _=>true) (fun _ _ _=>true) (fun _ _=>false) (fun _ _=>false) PUnit.unit (fun _ _ _ _=>PUnit.unit) x
noncomputable def onCellsE (x : EO) (f : List EV→Option EV) : Option EV:=@EO.rec (fun _=>Option EV) (fun cs _ _=>f cs) (fun _ _=>none) none x
noncomputable def onCellsQ (x : EO) (f : List EV→TypeId→Bool→Q) : Q:=@EO.rec (fun _=>Q) f (fun _ _=>.no) .no x
noncomputable def thenQ (q : Q) (f : EV→EW→Q) : Q:=@Q.rec (fun _=>Q) .no f q
noncomputable def ifE (q : Bool) (x : Option EV) : Option EV:=@Bool.rec (fun _=>Option EV) none x q
noncomputable def ifQ (q : Bool) (x : Q) : Q:=@Bool.rec (fun _=>Q) .no x q
inductive TD where
 | slice (e : TypeId) | array (n : Nat) (e : TypeId) | struct (fs : List (Nat × TypeId)) | map (k e : TypeId) | ptr (e : TypeId) | int (k : IntKind) | string | iface (ms : Array (String × TypeId)) | bool | func | other
structure Ty where
 size : Nat
 bytes : Nat
 d : TD
 z : List EV
def Ty.agg (t : Ty) : Bool:=match t.d with | .struct _=>true | .array _ _=>true | _=>false
def tdOf : TypeDesc→TD
 | .slice e=>.slice e
 | .array n e=>.array n e
 | .struct fs=>.struct (fs.toList.map fun f=>(f.offset,f.type))
 | .map k e=>.map k e
 | .pointer e=>.ptr e
 | .int k=>.int k
 | .string=>.string
 | .interface ms=>.iface ms
 | .bool=>.bool
 | .func _ _ _=>.func
 | _=>.other
noncomputable def ofVal (v : Value) : EV:=@Value.rec (fun _=>EV) (fun _=>PUnit) (fun _=>PUnit) (fun q=>.b q) (fun k n=>.i k n) (fun k n=>.sc (.float k n)) (fun k x y=>.sc (.complex k x y))
 (fun s=>.s (s.data.toList.map UInt8.toNat)) (fun a=>.sc (.pointer a)) (fun a l c=>.sc (.slice a l c)) (fun r=>.sc (.map r)) (fun r=>.sc (.chan r)) (fun f a c _ _=>.sc (.func f a c)) (.sc .nilFunc)
 (fun t v _=>.sc (.iface t v)) (.sc .nilIface) (fun a _=>match a.toList with | []=>.agg [] | _=>.sc (.agg a)) (fun a _=>.sc (.tuple a)) (fun _ _=>PUnit.unit) PUnit.unit (fun _ _ _ _=>PUnit.unit) v
noncomputable def nthL {α : Type} (l : List α) : Nat→Option α :=
 @List.rec α (fun _=>Nat→Option α) (fun _=>none) (fun x _ ih n=>@Nat.rec (fun _=>Option α) (some x) (fun m _=>ih m) n) l
noncomputable def infoL (P : Program) (t : TypeId) : Option TypeInfo:=nthL P.types.toList t
noncomputable def descL (P : Program) (i : TypeInfo) : Option TypeDesc:=match i.desc with
 | .named _ u=>match infoL P u with | some j=>some j.desc | none=>none
 | d=>some d
def aggV : Value→Bool
 | .agg _=>true
 | _=>false
def aggD : TD→Bool
 | .struct _=>true
 | .array _ _=>true
 | _=>false
noncomputable def tyOf (P : Program) (t : TypeId) : Option Ty :=
 match infoL P t with
 | some i=>match descL P i,i.zero with
  | some d,some z=>ifT (Nat.beq z.cells.size i.size && (z.cells.toList.map ofVal).all isOne && (aggV z == aggD (tdOf d))) (forceN i.size fun n=>some ⟨n,i.bytes,tdOf d,z.cells.toList.map ofVal⟩) none
  | _,_=>none
 | none=>none
def strV (l : List Nat) : Value:=.string ⟨(l.map UInt8.ofNat).toArray⟩
mutual
def EV.val : EV→Option Value
 | .i k n=>some (.int k n)
 | .b q=>some (.bool q)
 | .s l=>some (strV l)
 | .sc v=>some v
 | .ref _ _=>none
 | .sl _ _ _ _=>none
 | .mp _=>none
 | .fn _ _ _=>none
 | .ifc t v=>match v.val with | some u=>some (.iface t u) | none=>none
 | .agg cs=>match vals cs with | some vs=>some (.agg vs.toArray) | none=>none
 | .tup cs=>match vals cs with | some vs=>some (.tuple vs.toArray) | none=>none
def vals : List EV→Option (List Value)
 | []=>some []
 | x :: xs=>match x.val with
  | some v=>match vals xs with | some vs=>some (v :: vs) | none=>none
  | none=>none
end
noncomputable def opdC : Operand→Get
 | .tmp i=>getC i
 | .const v=>⟨fun _=>ofVal v⟩
 | .global g=>⟨fun _=>.sc (.pointer (some ⟨g,0,none⟩))⟩
 | .func f=>⟨fun _=>.sc (.func (.func f) #[] #[])⟩
structure GetL where
 f : Sl→List EV
noncomputable def opdsC : List Operand→GetL
 | []=>⟨fun _=>[]⟩
 | x :: xs=>match opdC x,opdsC xs with | ⟨g⟩,⟨h⟩=>⟨fun t=>g t :: h t⟩
def runPure {α : Type} (P : Program) : Sem α→Option α
 | .pure a=>some a
 | .program kk=>runPure P (kk P)
 | .mark _ kk=>runPure P kk
 | _=>none
noncomputable def takeX {α : Type} (d : α) (l : List EV) : Nat→(List EV→α)→α :=
 @List.rec EV (fun _=>Nat→(List EV→α)→α) (fun n k=>@Nat.rec (fun _=>α) (k []) (fun _ _=>d) n)
  (fun x _ ih n k=>@Nat.rec (fun _=>α) (k []) (fun m _=>ih m fun l=>k (x :: l)) n) l
noncomputable def dropX (l : List EV) : Nat→List EV :=
 @List.rec EV (fun _=>Nat→List EV) (fun _=>[]) (fun x xs ih n=>@Nat.rec (fun _=>List EV) (x :: xs) (fun m _=>ih m) n) l
noncomputable def nthX (l : List EV) : Nat→Option EV :=
 @List.rec EV (fun _=>Nat→Option EV) (fun _=>none) (fun x _ ih n=>@Nat.rec (fun _=>Option EV) (some x) (fun m _=>ih m) n) l
noncomputable def over0 {α : Type} (d : α) (cs : List EV) : List EV→(List EV→α)→α :=
 @List.rec EV (fun _=>List EV→(List EV→α)→α) (fun xs k=>@List.rec EV (fun _=>α) (k []) (fun _ _ _=>d) xs)
  (fun c cs ih xs k=>@List.rec EV (fun _=>α) (k (c :: cs)) (fun x xs _=>ih xs fun l=>k (x :: l)) xs) cs
noncomputable def overK {α : Type} (d : α) (cs : List EV) : Nat→List EV→(List EV→α)→α :=
 @List.rec EV (fun _=>Nat→List EV→(List EV→α)→α) (fun _ xs k=>@List.rec EV (fun _=>α) (k []) (fun _ _ _=>d) xs)
  (fun c cs ih o xs k=>@Nat.rec (fun _=>α) (over0 d (c :: cs) xs k) (fun m _=>ih m xs fun l=>k (c :: l)) o) cs
abbrev Caller:=FuncId→List EV→EW→Q
inductive CO where
 | p (f : Sl→Option EV)
 | r (f : Sl→EW→Option EV)
 | a (f : Sl→A')
 | m (f : Caller→Sl→EW→Q)
 | d (f : Sl→Option (FuncId × List EV))
 | rcv
 | bad
noncomputable def aggX (agg : Bool) (n : Nat) (o : Nat) (cs : List EV) : Option EV:=match agg with
 | true=>takeX none (dropX cs o) n fun l=>some (.agg l)
 | false=>nthX cs o
noncomputable def loadC (P : Program) (t : TypeId) (a : Operand) : CO:=match tyOf P t,opdC a with
 | some ty,⟨g⟩=>match ty.agg with
  | true=>forceN ty.size fun n=>.r fun s w=>onRefE (g s) fun b o=>onCellsE (w.get b) fun cs=>takeX none (dropX cs o) n fun l=>some (.agg l)
  | false=>.r fun s w=>onRefE (g s) fun b o=>onCellsE (w.get b) fun cs=>nthX cs o
 | _,_=>.bad
noncomputable def writeAt (w : EW) (b o : Nat) (xs : List EV) (k : EW→Q) : Q :=
 onCellsQ (w.get b) fun cs e el=>overK .no cs o xs fun l=>w.putK b (.cells l e el) k
noncomputable def lenIs (l : List EV) : Nat→Bool :=
 @List.rec EV (fun _=>Nat→Bool) (fun n=>Nat.beq n 0) (fun _ _ ih n=>@Nat.rec (fun _=>Bool) false (fun m _=>ih m) n) l
noncomputable def storeC (P : Program) (t : TypeId) (a x : Operand) : CO:=match tyOf P t,opdC a,opdC x with
 | some ty,⟨g⟩,⟨h⟩=>match ty.agg with
  | true=>forceN ty.size fun n=>.m fun _ s w=>onRefQ (g s) fun b o=>onAggQ (h s) fun cs=>ifQ (lenIs cs n) (writeAt w b o cs fun w=>.ok undefE w)
  | false=>ifT (Nat.beq ty.size 1) (.m fun _ s w=>onRefQ (g s) fun b o=>ifQ (isOne (h s)) (writeAt w b o [h s] fun w=>.ok undefE w)) .bad
 | _,_,_=>.bad
def offOf : List (Nat × TypeId)→Nat→Option (Nat × TypeId)
 | [],_=>none
 | x :: _,0=>some x
 | _ :: l,n + 1=>offOf l n
noncomputable def refF (b o : Nat) : Option EV:=forceN o fun o=>some (.ref b o)
noncomputable def fieldAddrC (P : Program) (s : TypeId) (a : Operand) (f : Nat) : CO:=match tyOf P s,opdC a with
 | some ⟨_,_,.struct fs,_⟩,⟨g⟩=>match offOf fs f with
  | some (d,u)=>match tyOf P u with
   | some ty=>ifT (Nat.beq ty.size 0) .bad (forceN d fun d=>.p fun s=>onRefE (g s) fun b o=>refF b (Nat.add o d))
   | none=>.bad
  | none=>.bad
 | _,_=>.bad
noncomputable def fieldC (P : Program) (s : TypeId) (x : Operand) (f : Nat) : CO:=match tyOf P s,opdC x with
 | some ⟨_,_,.struct fs,_⟩,⟨g⟩=>match offOf fs f with
  | some (d,t)=>match tyOf P t with
   | some ty=>match ty.agg with
    | true=>forceN d fun d=>forceN ty.size fun n=>.p fun s=>onAggE (g s) fun cs=>takeX none (dropX cs d) n fun l=>some (.agg l)
    | false=>forceN d fun d=>.p fun s=>onAggE (g s) fun cs=>nthX cs d
   | none=>.bad
  | none=>.bad
 | _,_=>.bad
noncomputable def indexAddrC (P : Program) (t : TypeId) (x i : Operand) : CO:=match tyOf P t,opdC x,opdC i with
 | some ⟨_,_,.slice e,_⟩,⟨g⟩,⟨h⟩=>match tyOf P e with
  | some ty=>forceN ty.size fun z=>.p fun s=>onNE (h s) fun i=>onSlE (g s) fun b o len _=>ifE (Nat.ble (Nat.succ i) len) (refF b (Nat.add o (Nat.mul i z)))
  | none=>.bad
 | some ⟨_,_,.array n e,_⟩,⟨g⟩,⟨h⟩=>match tyOf P e with
  | some ty=>forceN ty.size fun z=>.p fun s=>onNE (h s) fun i=>onRefE (g s) fun b o=>ifE (Nat.ble (Nat.succ i) n) (refF b (Nat.add o (Nat.mul i z)))
  | none=>.bad
 | _,_,_=>.bad
noncomputable def nthB (l : List Nat) : Nat→Option EV :=
 @List.rec Nat (fun _=>Nat→Option EV) (fun _=>none) (fun x _ ih n=>@Nat.rec (fun _=>Option EV) (forceN x fun x=>some (.i .u8 (.ofNat x))) (fun m _=>ih m) n) l
noncomputable def indexC (P : Program) (t : TypeId) (x i : Operand) : CO:=match tyOf P t,opdC x,opdC i with
 | some ⟨_,_,.array n e,_⟩,⟨g⟩,⟨h⟩=>match tyOf P e with
  | some ty=>.p fun s=>onNE (h s) fun i=>ifE (Nat.ble (Nat.succ i) n) (onAggE (g s) fun cs=>aggX ty.agg ty.size (Nat.mul i ty.size) cs)
  | none=>.bad
 | some ⟨_,_,.string,_⟩,⟨g⟩,⟨h⟩=>.p fun s=>onNE (h s) fun i=>onSE (g s) fun l=>nthB l i
 | _,_,_=>.bad
structure Part where
 o : Nat
 n : Nat
 g : Bool
 x : EV
noncomputable def fillK {α : Type} (d : α) (cs : List EV) : List Part→(List EV→α)→α
 | [],k=>k cs
 | ⟨o,n,g,v⟩ :: rest,k=>ifT g (onAgg d v fun l=>ifT (lenIs l n) (overK d cs o l fun cs=>fillK d cs rest k) d) (ifT (isOne v) (overK d cs o [v] fun cs=>fillK d cs rest k) d)
def repC (z : List EV) : Nat→List EV
 | 0=>[]
 | n + 1=>z ++ repC z n
structure GetP where
 f : Sl→List Part
noncomputable def partsC (place : Nat→Option (Nat × Nat × Bool)) : List (Nat × Operand)→Option GetP
 | []=>some ⟨fun _=>[]⟩
 | (i,x) :: rest=>match place i,opdC x,partsC place rest with
  | some (o,n,q),⟨g⟩,some ⟨h⟩=>ifT (q || Nat.beq n 1) (forceN o fun o=>forceN n fun n=>some ⟨fun t=>⟨o,n,q,g t⟩ :: h t⟩) none
  | _,_,_=>none
noncomputable def placesOf (P : Program) (fs : List (Nat × TypeId)) (i : Nat) : Option (Nat × Nat × Bool):=match offOf fs i with
 | some (o,t)=>match tyOf P t with | some ty=>some (o,ty.size,ty.agg) | none=>none
 | none=>none
noncomputable def buildC (P : Program) (t : TypeId) (ps : List (Nat × Operand)) : CO:=match tyOf P t with
 | some ⟨sz,_,.struct fs,z⟩=>ifT (fs.all (fun p=>(tyOf P p.2).isSome) && fs.all (fun p=>Nat.ble p.1 sz)) (match partsC (placesOf P fs) ps with
  | some ⟨g⟩=>.p fun s=>fillK none z (g s) fun cs=>some (.agg cs)
  | none=>.bad) .bad
 | some ⟨sz,_,.array _ e,z⟩=>match tyOf P e with
  | some ty=>ifT (ps.all fun p=>Nat.ble (p.1 * ty.size) sz) (match partsC (fun i=>some (i * ty.size,ty.size,ty.agg)) ps with
   | some ⟨g⟩=>.p fun s=>fillK none z (g s) fun cs=>some (.agg cs)
   | none=>.bad) .bad
  | none=>.bad
 | _=>.bad
noncomputable def buildSliceC (P : Program) (t : TypeId) (n : Nat) (ps : List (Nat × Operand)) : CO:=match tyOf P t with
 | some ⟨_,_,.slice e,_⟩=>match tyOf P e with
  | some ty=>ifT (Nat.ble (n * ty.size) 16777216 && ps.all fun p=>Nat.ble (p.1 * ty.size) (n * ty.size)) (match partsC (fun i=>some (i * ty.size,ty.size,ty.agg)) ps with
   | some ⟨g⟩=>.a fun s=>fillK .no (repC ty.z n) (g s) fun cs=>.ok (.cells cs e false) fun b=>.sl b 0 n n
   | none=>.bad) .bad
  | none=>.bad
 | _=>.bad
noncomputable def makeC (P : Program) (t : TypeId) (l c : Operand) : CO:=match tyOf P t,opdC l,opdC c with
 | some ⟨_,_,.slice e,_⟩,⟨g⟩,⟨h⟩=>match tyOf P e with
  | some ty=>.a fun s=>match g s,h s with
   | .i _ (.ofNat l),.i _ (.ofNat c)=>ifT (Nat.ble l c && Nat.blt c 1000000 && Nat.blt (ty.bytes * c) 140737488355328) (.ok (.cells (repC ty.z c) e false) fun b=>.sl b 0 l c) .no
   | _,_=>.no
  | none=>.bad
 | _,_,_=>.bad
structure GetO where
 f : Nat→Sl→Option Nat
noncomputable def onNN (x : EV) : Option Nat:=match x with | .i _ (.ofNat n)=>some n | _=>none
noncomputable def natC : Option Operand→GetO
 | none=>⟨fun d _=>some d⟩
 | some x=>match opdC x with | ⟨g⟩=>⟨fun _ s=>onNN (g s)⟩
noncomputable def slF (b o len cap : Nat) : Option EV:=forceN o fun o=>forceN len fun len=>forceN cap fun cap=>some (.sl b o len cap)
noncomputable def lenB (l : List Nat) : Nat:=@List.rec Nat (fun _=>Nat) 0 (fun _ _ ih=>Nat.succ ih) l
noncomputable def takeB (l : List Nat) : Nat→(List Nat→Option EV)→Option EV :=
 @List.rec Nat (fun _=>Nat→(List Nat→Option EV)→Option EV) (fun _ k=>k []) (fun x _ ih n k=>@Nat.rec (fun _=>Option EV) (k []) (fun m _=>ih m fun l=>k (x :: l)) n) l
noncomputable def dropB (l : List Nat) : Nat→List Nat :=
 @List.rec Nat (fun _=>Nat→List Nat) (fun _=>[]) (fun x xs ih n=>@Nat.rec (fun _=>List Nat) (x :: xs) (fun m _=>ih m) n) l
noncomputable def cutS (b o size l h m : Nat) : Option EV:=ifT (Nat.beq m l) (slF b o (Nat.sub h l) (Nat.sub m l)) (slF b (Nat.add o (Nat.mul l size)) (Nat.sub h l) (Nat.sub m l))
noncomputable def someN (x : Option Nat) (f : Nat→Option EV) : Option EV:=@Option.rec Nat (fun _=>Option EV) none f x
noncomputable def arrOf (P : Program) (t : TypeId) : Option (Nat × TypeId):=match tyOf P t with
 | some ⟨_,_,.array n e,_⟩=>some (n,e)
 | some ⟨_,_,.ptr q,_⟩=>match tyOf P q with
  | some ⟨_,_,.array n e,_⟩=>some (n,e)
  | _=>none
 | _=>none
noncomputable def okEl (w : EW) (b : Nat) (e : TypeId) : Bool:=@EO.rec (fun _=>Bool) (fun _ e' el=>ifT el (Nat.beq e' e) true) (fun _ _=>false) false (w.get b)
noncomputable def sliceC (P : Program) (t : TypeId) (x : Operand) (lo hi mx : Option Operand) : CO:=match tyOf P t,opdC x,natC lo,natC hi,natC mx with
 | some ⟨_,_,.string,_⟩,⟨g⟩,⟨fl⟩,⟨fh⟩,_=>match mx with
  | none=>.p fun s=>onSE (g s) fun str=>someN (fl 0 s) fun l=>someN (fh (lenB str) s) fun h=>ifE (Nat.ble l h) (ifE (Nat.ble h (lenB str)) (takeB (dropB str l) (Nat.sub h l) fun l=>some (.s l)))
  | some _=>.bad
 | some ⟨_,_,.slice e,_⟩,⟨g⟩,⟨fl⟩,⟨fh⟩,⟨fm⟩=>match tyOf P e with
  | some ty=>ifT (mx.isNone || hi.isSome) (.r fun s w=>match g s with
   | .sl b o len cap=>someN (fl 0 s) fun l=>someN (fh len s) fun h=>someN (fm cap s) fun m =>
    ifE (Nat.ble l h) (ifE (Nat.ble h m) (ifE (Nat.ble m cap) (ifE (okEl w b e) (cutS b o ty.size l h m))))
   | .sc (.slice none 0 0)=>match fl 0 s,fh 0 s,fm 0 s with
    | some 0,some 0,some 0=>some (.sc (.slice none 0 0))
    | _,_,_=>none
   | _=>none) .bad
  | none=>.bad
 | some _,⟨g⟩,⟨fl⟩,⟨fh⟩,_=>match arrOf P t,mx with
  | some (n,e),none=>match tyOf P e with
   | some ty=>.p fun s=>onRefE (g s) fun b o=>someN (fl 0 s) fun l=>someN (fh n s) fun h=>ifE (Nat.ble l h) (ifE (Nat.ble h n) (cutS b o ty.size l h n))
   | none=>.bad
  | _,_=>.bad
 | _,_,_,_,_=>.bad
noncomputable def elemsK {α : Type} (d : α) (w : EW) (size : Nat) (x : EV) (k : Nat→List EV→α) : α:=match x with
 | .sl b o len _=>match len with
  | 0=>k 0 []
  | n + 1=>match w.get b with
   | .cells cs _ _=>takeX d (dropX cs o) ((n + 1) * size) fun l=>k (n + 1) l
   | _=>d
 | .sc (.slice none 0 0)=>k 0 []
 | .s l=>ifT (Nat.beq size 1) (forceN (lenB l) fun n=>k n (l.map fun c=>.i .u8 (.ofNat c))) d
 | _=>d
noncomputable def appE (w : EW) (e : TypeId) (size : Nat) (s x : EV) : Q:=elemsK .no w size x fun n new=>match s with
 | .sl b o len cap=>ifT (Nat.ble (len + n) cap)
  (match n with
   | 0=>.ok s w
   | _=>writeAt w b (o + len * size) new fun w'=>forceN (len + n) fun m=>.ok (.sl b o m cap) w')
  (ifQ (Nat.blt (len + n) 1000000) (ifQ (okEl w b e)
   (elemsK .no w size s fun _ old=>w.putK b .dead fun w=>forceN (len + n) fun m=>w.newK (.cells (old ++ new) e true) fun b w=>.ok (.sl b 0 m m) w)))
 | .sc (.slice none 0 0)=>match n with
  | 0=>.ok s w
  | _=>ifQ (Nat.blt n 1000000) (w.newK (.cells new e true) fun b w=>.ok (.sl b 0 n n) w)
 | _=>.no
noncomputable def noInt (P : Program) (t : TypeId) : Bool:=match tyOf P t with
 | some ty=>match ty.d with | .slice _=>true | .string=>true | _=>false
 | none=>false
noncomputable def appendC (P : Program) (c : Call) : CO:=match c.args.toList,c.argTypes.toList with
 | [a,x],[t,u]=>match noInt P u,tyOf P t,opdC a,opdC x with
  | true,some ⟨_,_,.slice e,_⟩,⟨g⟩,⟨h⟩=>match tyOf P e with
   | some ty=>ifT (Nat.ble ty.bytes 100000000) (.m fun _ s w=>appE w e ty.size (g s) (h s)) .bad
   | none=>.bad
  | _,_,_,_=>.bad
 | _,_=>.bad
noncomputable def copyC (P : Program) (t : TypeId) (a x : Operand) : CO:=match tyOf P t,opdC a,opdC x with
 | some ⟨_,_,.slice e,_⟩,⟨g⟩,⟨h⟩=>match tyOf P e with
  | some ty=>.m fun _ s w=>elemsK .no w ty.size (h s) fun n new=>match g s with
   | .sl b o len _=>forceN (Nat.min n len) fun k=>match k with
    | 0=>.ok (.i .i64 0) w
    | _=>takeX .no new (k * ty.size) fun l=>writeAt w b o l fun w'=>.ok (.i .i64 k) w'
   | .sc (.slice none 0 0)=>.ok (.i .i64 0) w
   | _=>.no
  | none=>.bad
 | _,_,_=>.bad
def lenX : List EE→Nat
 | []=>0
 | _ :: l=>lenX l + 1
noncomputable def lenC (P : Program) (t : TypeId) (a : Operand) : CO:=match tyOf P t,opdC a with
 | some ⟨_,_,.slice _,_⟩,⟨g⟩=>.p fun s=>match g s with
  | .sl _ _ n _=>some (.i .i64 (.ofNat n))
  | .sc (.slice none 0 0)=>some (.i .i64 0)
  | _=>none
 | some ⟨_,_,.string,_⟩,⟨g⟩=>.p fun s=>onSE (g s) fun l=>forceN (lenB l) fun n=>some (.i .i64 (.ofNat n))
 | some ⟨_,_,.array n _,_⟩,⟨g⟩=>.p fun s=>some (.i .i64 (.ofNat n))
 | some ⟨_,_,.map _ _,_⟩,⟨g⟩=>.r fun s w=>match g s with
  | .mp b=>match w.get b with
   | .map es _=>forceN (lenX es) fun n=>some (.i .i64 (.ofNat n))
   | _=>none
  | .sc (.map none)=>some (.i .i64 0)
  | _=>none
 | _,_=>.bad
noncomputable def eqB (l : List Nat) : List Nat→Bool :=
 @List.rec Nat (fun _=>List Nat→Bool) (fun m=>@List.rec Nat (fun _=>Bool) true (fun _ _ _=>false) m)
  (fun a _ ih m=>@List.rec Nat (fun _=>Bool) false (fun b m _=>ifT (Nat.beq a b) (ih m) false) m) l
noncomputable def eqI (a b : Int) : Bool:=@Int.rec (fun _=>Bool) (fun m=>@Int.rec (fun _=>Bool) (fun n=>Nat.beq m n) (fun _=>false) b) (fun m=>@Int.rec (fun _=>Bool) (fun _=>false) (fun n=>Nat.beq m n) b) a
noncomputable def nilP : EV→Option Bool
 | .ref _ _=>some false
 | .sc (.pointer none)=>some true
 | _=>none
noncomputable def nilS : EV→Option Bool
 | .sl _ _ _ _=>some false
 | .sc (.slice none 0 0)=>some true
 | _=>none
noncomputable def nilM : EV→Option Bool
 | .mp _=>some false
 | .sc (.map none)=>some true
 | _=>none
noncomputable def nilF : EV→Option Bool
 | .fn _ _ _=>some false
 | .sc (.func _ _ _)=>some false
 | .sc .nilFunc=>some true
 | _=>none
noncomputable def nilI : EV→Option Bool
 | .ifc _ _=>some false
 | .sc (.iface _ _)=>some false
 | .sc .nilIface=>some true
 | _=>none
noncomputable def nil2 (p q : Option Bool) : Option Bool:=match p,q with
 | some p,some q=>match p || q with
  | true=>some (p && q)
  | false=>none
 | _,_=>none
def isConstO : Operand→Bool
 | .const _=>true
 | _=>false
noncomputable def eqT (d : TD) (cst : Bool) (x y : EV) : Option Bool:=match d with
 | .bool=>match x,y with
  | .b p,.b q=>some (p == q)
  | _,_=>none
 | .string=>match x,y with
  | .s l,.s m=>some (eqB l m)
  | _,_=>none
 | .ptr _=>nil2 (nilP x) (nilP y)
 | .slice _=>nil2 (nilS x) (nilS y)
 | .map _ _=>nil2 (nilM x) (nilM y)
 | .func=>nil2 (nilF x) (nilF y)
 | .iface _=>match cst with
  | true=>nil2 (nilI x) (nilI y)
  | false=>match nil2 (nilI x) (nilI y) with
   | some false=>some false
   | _=>none
 | _=>none
noncomputable def entries : List EE→Option (List MapEntry)
 | []=>some []
 | e :: es=>match e.key.val,entries es with
  | some k,some l=>some (⟨k,undef,e.born⟩ :: l)
  | _,_=>none
noncomputable def kN (k : IntKind) : Nat:=@IntKind.rec (fun _=>Nat) 0 1 2 3 4 5 6 7 k
noncomputable def findI (k : IntKind) (n : Int) : List EE→Nat→Option (Option Nat)
 | [],_=>some none
 | ⟨.i k' m,_,_⟩ :: es,j=>ifT (Nat.beq (kN k) (kN k')) (ifT (eqI n m) (some (some j)) (findI k n es (j + 1))) none
 | _,_=>none
noncomputable def findS (l : List Nat) : List EE→Nat→Option (Option Nat)
 | [],_=>some none
 | ⟨.s m,_,_⟩ :: es,j=>ifT (eqB l m) (some (some j)) (findS l es (j + 1))
 | _,_=>none
noncomputable def findE (P : Program) (emp : Bool) (kt : TypeId) (kd : TD) (k : EV) (es : List EE) : Option (Option Nat):=match kd,k with
 | .int _,.i k n=>findI k n es 0
 | .string,.s l=>findS l es 0
 | _,_=>match entries es,k.val with
  | some l,some k=>match runPure P (Instr.checkKey emp 10000 kt k),runPure P (Instr.findKey kt k l) with
   | some _,some r=>some (r.map (·.1))
   | _,_=>none
  | _,_=>none
noncomputable def nthE : List EE→Nat→Option EE
 | [],_=>none
 | x :: _,0=>some x
 | _ :: xs,n + 1=>nthE xs n
noncomputable def valOf (P : Program) (t : TypeId) : Option EV:=match tyOf P t with
 | some ty=>aggX ty.agg ty.size 0 ty.z
 | none=>none
noncomputable def okE (ok : Bool) (x : EV) (q : Bool) : Option EV:=match ok with
 | true=>some (.tup [x,.b q])
 | false=>some x
noncomputable def lookupC (P : Program) (t : TypeId) (m k : Operand) (ok : Bool) : CO:=match tyOf P t,opdC m,opdC k with
 | some ⟨_,_,.map kt et,_⟩,⟨g⟩,⟨h⟩=>match tyOf P kt,valOf P et with
  | some kty,some z=>.r fun s w=>match g s with
   | .mp b=>match w.get b with
    | .map es _=>match findE P es.isEmpty kt kty.d (h s) es with
     | some (some i)=>match nthE es i with
      | some e=>okE ok e.val true
      | none=>none
     | some none=>okE ok z false
     | none=>none
    | _=>none
   | .sc (.map none)=>match findE P true kt kty.d (h s) [] with
    | some _=>okE ok z false
    | none=>none
   | _=>none
  | _,_=>.bad
 | _,_,_=>.bad
def setE : List EE→Nat→EE→List EE
 | [],_,_=>[]
 | _ :: es,0,x=>x :: es
 | e :: es,n + 1,x=>e :: setE es n x
noncomputable def sameKey (old new : EV) : Bool:=match old,new with
 | .i j a,.i k b=>j == k && eqI a b
 | .s a,.s b=>eqB a b
 | .b a,.b b=>a == b
 | _,_=>match old.val,new.val with
  | some u,some v=>Instr.sameBits 10000 u v
  | _,_=>false
noncomputable def updateC (P : Program) (t : TypeId) (m k x : Operand) : CO:=match tyOf P t,opdC m,opdC k,opdC x with
 | some ⟨_,_,.map kt _,_⟩,⟨g⟩,⟨h⟩,⟨v⟩=>match tyOf P kt with
  | some kty=>.m fun _ s w=>match g s with
   | .mp b=>match w.get b with
    | .map es c=>match findE P false kt kty.d (h s) es with
     | some (some i)=>match nthE es i with
      | some e=>ifQ (sameKey e.key (h s)) (w.putK b (.map (setE es i ⟨h s,v s,e.born⟩) c) fun w=>.ok undefE w)
      | none=>.no
     | some none=>w.putK b (.map (es ++ [⟨h s,v s,c⟩]) (c + 1)) fun w=>.ok undefE w
     | none=>.no
    | _=>.no
   | _=>.no
  | none=>.bad
 | _,_,_,_=>.bad
def dropE : List EE→Nat→List EE
 | [],_=>[]
 | _ :: es,0=>es
 | e :: es,n + 1=>e :: dropE es n
noncomputable def deleteC (P : Program) (t : TypeId) (m k : Operand) : CO:=match tyOf P t,opdC m,opdC k with
 | some ⟨_,_,.map kt _,_⟩,⟨g⟩,⟨h⟩=>match tyOf P kt with
  | some kty=>.m fun _ s w=>match g s with
   | .mp b=>match w.get b with
    | .map es c=>match findE P es.isEmpty kt kty.d (h s) es with
     | some (some i)=>w.putK b (.map (dropE es i) c) fun w=>.ok (.tup []) w
     | some none=>.ok (.tup []) w
     | none=>.no
    | _=>.no
   | _=>.no
  | none=>.bad
 | _,_,_=>.bad
noncomputable def methodE (P : Program) (t : TypeId) (name : String) : Option FuncId:=match infoL P t with
 | some i=>match i.methods.find? (·.name == name) with
  | some m=>match m.path.isEmpty,m.func,descL P i with
   | true,some (f,ptr),some (.pointer _)=>match ptr with | true=>some f | false=>none
   | true,some (f,ptr),some _=>match ptr with | true=>none | false=>some f
   | _,_,_=>none
  | none=>none
 | none=>none
noncomputable def unif : EV→Option (TypeId × EV)
 | .ifc t v=>some (t,v)
 | .sc (.iface t v)=>some (t,ofVal v)
 | _=>none
noncomputable def assertC (P : Program) (x : Operand) (asserted : TypeId) (ok : Bool) : CO:=match tyOf P asserted,opdC x,valOf P asserted with
 | some ty,⟨g⟩,some z=>match ty.d with
  | .iface want=>.p fun s=>match unif (g s) with
   | some (t,v)=>match infoL P t with
    | some i=>match Instr.missingMethod want i.methods with
     | none=>okE ok (g s) true
     | some _=>match ok with | true=>okE true z false | false=>none
    | none=>none
   | none=>match g s,ok with
    | .sc .nilIface,true=>okE true z false
    | _,_=>none
  | _=>.p fun s=>match unif (g s) with
   | some (t,v)=>match Nat.beq t asserted with
    | true=>okE ok v true
    | false=>match ok with | true=>okE true z false | false=>none
   | none=>match g s,ok with
    | .sc .nilIface,true=>okE true z false
    | _,_=>none
 | _,_,_=>.bad
noncomputable def extractC (x : Operand) (i : Nat) : CO:=match opdC x with
 | ⟨g⟩=>.p fun s=>match g s with
  | .tup cs=>nthX cs i
  | .sc (.tuple vs)=>match vs[i]? with | some v=>some (ofVal v) | none=>none
  | _=>none
noncomputable def pureE (P : Program) (t : Sl) (o : Oper) : Option EV :=
 if o.op.operands.toList.all (fun x=>((opdC x).f t).val.isSome) then
  match runPure P (execOp (fun x=>(((opdC x).f t).val).getD undef) o) with
  | some (.value v)=>some (match v with | .tuple a=>.tup (a.toList.map ofVal) | v=>ofVal v)
  | _=>none
 else none
noncomputable def pureC (P : Program) (o : Oper) : CO:=.p fun s=>pureE P s o
noncomputable def wrapF (k : IntKind) (n : Int) : Option EV:=ifT (Nat.beq (kN k) 3)
 (@Int.rec (fun _=>Option EV) (fun m=>ifT (Nat.ble m 9223372036854775807) (forceN m fun m=>some (.i .i64 (.ofNat m))) (forceI (IntKind.wrap .i64 n) fun n=>some (.i .i64 n))) (fun m=>forceI (IntKind.wrap .i64 n) fun n=>some (.i .i64 n)) n)
 (forceI (k.wrap n) fun n=>some (.i k n))
noncomputable def addI (a b : Int) : Int:=@Int.rec (fun _=>Int) (fun m=>@Int.rec (fun _=>Int) (fun n=>.ofNat (Nat.add m n)) (fun n=>Int.add (.ofNat m) (.negSucc n)) b) (fun m=>Int.add (.negSucc m) b) a
noncomputable def subI (a b : Int) : Int:=@Int.rec (fun _=>Int) (fun m=>@Int.rec (fun _=>Int) (fun n=>ifT (Nat.ble n m) (.ofNat (Nat.sub m n)) (.negSucc (Nat.sub (Nat.sub n m) 1))) (fun n=>Int.sub (.ofNat m) (.negSucc n)) b) (fun m=>Int.sub (.negSucc m) b) a
noncomputable def lssI (a b : Int) : Bool:=@Int.rec (fun _=>Bool) (fun m=>@Int.rec (fun _=>Bool) (fun n=>Nat.ble (Nat.succ m) n) (fun _=>false) b) (fun m=>@Int.rec (fun _=>Bool) (fun _=>true) (fun n=>Nat.ble (Nat.succ n) m) b) a
noncomputable def notB (q : Bool) : Bool:=@Bool.rec (fun _=>Bool) true false q
noncomputable def boolF (q : Bool) : Option EV:=@Bool.rec (fun _=>Option EV) (some (.b false)) (some (.b true)) q
structure Bin where
 f : IntKind→Int→Int→Option EV
noncomputable def binI (P : Program) (op : BinOp) (xt : TypeId) : Bin:=match op with
 | .add=>⟨fun k a b=>wrapF k (addI a b)⟩
 | .sub=>⟨fun k a b=>wrapF k (subI a b)⟩
 | .eql=>⟨fun _ a b=>boolF (eqI a b)⟩
 | .neq=>⟨fun _ a b=>boolF (notB (eqI a b))⟩
 | .lss=>⟨fun _ a b=>boolF (lssI a b)⟩
 | .gtr=>⟨fun _ a b=>boolF (lssI b a)⟩
 | .leq=>⟨fun _ a b=>boolF (notB (lssI b a))⟩
 | .geq=>⟨fun _ a b=>boolF (notB (lssI a b))⟩
 | op=>⟨fun k a b=>match runPure P (binOp op xt (.int k a) (.int k b)) with | some (.int k n)=>forceI n fun n=>some (.i k n) | _=>none⟩
noncomputable def isInt (P : Program) (t : TypeId) : Bool:=match tyOf P t with | some ⟨_,_,.int _,_⟩=>true | _=>false
noncomputable def shE (P : Program) (op : BinOp) (xt : TypeId) (x y : EV) : Option EV:=match x,y with
 | .i k a,.i k' b=>match runPure P (binOp op xt (.int k a) (.int k' b)) with | some (.int k n)=>forceI n fun n=>some (.i k n) | _=>none
 | _,_=>none
noncomputable def tdT (P : Program) (t : TypeId) : TD:=match tyOf P t with | some ty=>ty.d | none=>.other
noncomputable def binC (P : Program) (op : BinOp) (xt : TypeId) (x y : Operand) (o : Oper) : CO:=match opdC x,opdC y,binI P op xt with
 | ⟨g⟩,⟨h⟩,⟨f⟩=>match op with
  | .shl | .shr=>.p fun s=>shE P op xt (g s) (h s)
  | op=>match isInt P xt with
   | true=>.p fun s=>onIE (g s) fun k a=>onIE (h s) fun k' b=>ifE (Nat.beq (kN k) (kN k')) (f k a b)
   | false=>match op with
    | .eql=>.p fun s=>match eqT (tdT P xt) (isConstO x || isConstO y) (g s) (h s) with
     | some q=>boolF q
     | none=>pureE P s o
    | .neq=>.p fun s=>match eqT (tdT P xt) (isConstO x || isConstO y) (g s) (h s) with
     | some q=>boolF (notB q)
     | none=>pureE P s o
    | .add=>.p fun s=>match g s,h s with
     | .s l,.s m=>ifE (Nat.blt (lenB l + lenB m) 1000000) (some (.s (l ++ m)))
     | _,_=>pureE P s o
    | _=>.p fun s=>pureE P s o
noncomputable def unC (P : Program) (op : UnOp) (x : Operand) (o : Oper) : CO:=match opdC x with
 | ⟨g⟩=>match op with
  | .not=>.p fun s=>onBE (g s) fun q=>boolF (notB q)
  | _=>.p fun s=>pureE P s o
noncomputable def intTo (P : Program) (t : TypeId) : Option IntKind:=match tyOf P t with
 | some ⟨_,_,.int k,_⟩=>some k
 | _=>none
def bytesOf : List EV→Option (List Nat)
 | []=>some []
 | .i .u8 (.ofNat n) :: l=>match Nat.blt n 256,bytesOf l with
  | true,some r=>some (n :: r)
  | _,_=>none
 | _=>none
noncomputable def bytesE (w : EW) (x : EV) : Option EV:=match x with
 | .sl b o n _=>match n with
  | 0=>some (.s [])
  | k + 1=>match w.get b with
   | .cells cs _ _=>takeX none (dropX cs o) (k + 1) fun l=>match bytesOf l with
    | some bs=>some (.s bs)
    | none=>none
   | _=>none
 | .sc (.slice none 0 0)=>some (.s [])
 | _=>none
noncomputable def convertC (P : Program) (src dst : TypeId) (x : Operand) (o : Oper) : CO:=match intTo P src,intTo P dst,opdC x with
 | some _,some k,⟨g⟩=>.p fun s=>onIE (g s) fun _ n=>wrapF k n
 | _,_,⟨g⟩=>match tyOf P src,tyOf P dst with
  | some ⟨_,_,.slice e,_⟩,some ⟨_,_,.string,_⟩=>match intTo P e with
   | some .u8=>.r fun s w=>bytesE w (g s)
   | _=>.bad
  | _,_=>pureC P o
noncomputable def callee (P : Program) (f : EV) (args : List EV) : Option (FuncId × List EV):=match f with
 | .sc (.func (.func g) fi cs)=>some (g,(fi.toList.map ofVal ++ args) ++ cs.toList.map ofVal)
 | .fn (.func g) fi cs=>some (g,(fi ++ args) ++ cs)
 | .fn (.method name) fi cs=>match fi ++ args with
  | r :: rest=>match unif r with
   | some (t,v)=>match methodE P t name with
    | some g=>some (g,v :: rest)
    | none=>none
   | none=>none
  | []=>none
 | _=>none
noncomputable def bodyQ (P : Program) (g : FuncId) : Bool:=match nthL P.funcs.toList g with
 | some fn => fn.body.isSome && !(fn.name == "runtime.NumGoroutine")
 | none=>false
noncomputable def goCall (P : Program) (call : Caller) (g : FuncId) (args : List EV) (w : EW) : Q:=match bodyQ P g with
 | true=>call g args w
 | false=>.no
noncomputable def two (c : Call) (f : TypeId→Operand→Operand→CO) : CO:=match c.args.toList,c.argTypes.toList with
 | [a,x],ty :: _=>f ty a x
 | _,_=>.bad
noncomputable def one1 (c : Call) (f : TypeId→Operand→CO) : CO:=match c.args.toList,c.argTypes.toList with
 | [a],ty :: _=>f ty a
 | _,_=>.bad
noncomputable def clearC (P : Program) (t : TypeId) (a : Operand) : CO:=match tyOf P t,opdC a with
 | some ⟨_,_,.slice e,_⟩,⟨g⟩=>match tyOf P e with
  | some ty=>.m fun _ s w=>match g s with
   | .sl b o n _=>match n with
    | 0=>.ok (.tup []) w
    | k + 1=>writeAt w b o (repC ty.z (k + 1)) fun w'=>.ok (.tup []) w'
   | .sc (.slice none 0 0)=>.ok (.tup []) w
   | _=>.no
  | none=>.bad
 | _,_=>.bad
structure BF where
 f : Builtin→Call→Oper→CO
noncomputable def biF (P : Program) : BF:=⟨fun b=>@Builtin.rec (fun _=>Call→Oper→CO) (fun c _=>appendC P c) (fun _ _=>.bad) (fun c _=>one1 c (clearC P)) (fun _ _=>.bad) (fun _ _=>.bad)
 (fun c _=>two c (copyC P)) (fun c _=>two c (deleteC P)) (fun _ _=>.bad) (fun c _=>one1 c (lenC P)) (fun _ _=>.bad) (fun _ o=>pureC P o) (fun _ o=>pureC P o) (fun _ _=>.bad) (fun _ _=>.bad) (fun _ _=>.bad) (fun _ _=>.bad)
 (fun _ _=>.bad) (fun _ _=>.rcv) (fun _ _=>.bad) (fun _ _=>.bad) (fun _ _=>.bad) (fun _ _=>.bad) (fun _ _=>.bad) (fun _ _=>.bad) (fun _ _=>.bad) (fun _ _=>.bad) b⟩
noncomputable def callC (P : Program) (c : Call) (o : Oper) : CO:=match opdsC c.args.toList with
 | ⟨as⟩=>match c.callee with
  | .value (.func g)=>match bodyQ P g with
   | true=>.m fun call s w=>call g (as s) w
   | false=>.bad
  | .value f=>match opdC f with
   | ⟨f⟩=>.m fun call s w=>match callee P (f s) (as s) with
    | some (g,as)=>goCall P call g as w
    | none=>.no
  | .invoke r name=>match opdC r with
   | ⟨r⟩=>.m fun call s w=>match unif (r s) with
    | some (t,v)=>match methodE P t name with
     | some g=>goCall P call g (v :: as s) w
     | none=>.no
    | none=>.no
  | .builtin b=>match biF P with | ⟨f⟩=>f b c o
noncomputable def nilC (x : EV) : Option EV:=match x with
 | .ref b o=>some (.ref b o)
 | .fn (.func f) fi cs=>some (.fn (.func f) fi cs)
 | .ifc e v=>some (.ifc e v)
 | .sc (.func (.func f) fi cs)=>some (.sc (.func (.func f) fi cs))
 | .sc (.iface t v)=>some (.sc (.iface t v))
 | _=>none
noncomputable def moveC (x : Operand) : CO:=match opdC x with | ⟨g⟩=>.p fun s=>some (g s)
noncomputable def pickC (c a b : Operand) : CO:=match opdC c,opdC a,opdC b with
 | ⟨c⟩,⟨a⟩,⟨b⟩=>.p fun s=>onBE (c s) fun q=>ifT q (some (a s)) (some (b s))
noncomputable def allocC (P : Program) (e : TypeId) : CO:=match tyOf P e with
 | some ty=>.a fun _=>.ok (.cells ty.z e false) fun b=>.ref b 0
 | none=>.bad
noncomputable def boxC (e : TypeId) (x : Operand) : CO:=match opdC x with | ⟨g⟩=>.a fun s=>ifT (isOne (g s)) (.ok (.cells [g s] e false) fun b=>.ref b 0) (onAgg .no (g s) fun cs=>.ok (.cells cs e false) fun b=>.ref b 0)
noncomputable def nilCheckC (x : Operand) : CO:=match opdC x with | ⟨g⟩=>.p fun s=>nilC (g s)
noncomputable def concQ (P : Program) (t : TypeId) : Bool:=match tyOf P t with
 | some ty=>match ty.d with | .iface _=>false | _=>true
 | none=>false
noncomputable def ifaceC (P : Program) (xt : TypeId) (x : Operand) : CO:=match concQ P xt,opdC x with
 | true,⟨g⟩=>.p fun s=>some (.ifc xt (g s))
 | _,_=>.bad
noncomputable def funcC (f : Fn) (fi cs : Array Operand) : CO:=match opdsC fi.toList,opdsC cs.toList with
 | ⟨fi⟩,⟨cs⟩=>.p fun s=>some (.fn f (fi s) (cs s))
noncomputable def mapC : CO:=.a fun _=>.ok (.map [] 0) fun b=>.mp b
noncomputable def deferC (P : Program) (c : Call) : CO:=match opdsC c.args.toList with
 | ⟨as⟩=>match c.callee with
  | .value f=>match opdC f with | ⟨f⟩=>.d fun s=>match callee P (f s) (as s) with
   | some (g,as)=>(match bodyQ P g with | true=>some (g,as) | false=>none)
   | none=>none
  | _=>.bad
structure OF where
 f : Op→Oper→CO
noncomputable def opF (P : Program) : OF:=⟨fun op=>@Op.rec (fun _=>Oper→CO)
 (fun x _=>moveC x) (fun x _=>moveC x) (fun c a b _=>pickC c a b) (fun e _=>allocC P e) (fun e x _=>boxC e x) (fun t ps _=>buildC P t ps.toList) (fun t n ps _=>buildSliceC P t n ps.toList)
 (fun t m k x _=>updateC P t m k x) (fun t a _=>loadC P t a) (fun t a x _=>storeC P t a x) (fun _ _=>.bad) (fun _ _=>.bad) (fun x _=>nilCheckC x) (fun op xt x y _ o=>binC P op xt x y o)
 (fun op _ x o=>unC P op x o) (fun s d x o=>convertC P s d x o) (fun _ _ _=>.bad) (fun xt x _=>ifaceC P xt x) (fun f fi cs _=>funcC f fi cs) (fun _ r _=>match r with | none=>mapC | some _=>.bad) (fun _ _ _=>.bad) (fun e l c _=>makeC P e l c)
 (fun e x lo hi mx _=>sliceC P e x lo hi mx) (fun s x f _=>fieldAddrC P s x f) (fun s x f _=>fieldC P s x f) (fun e x i _=>indexAddrC P e x i) (fun e x i _=>indexC P e x i)
 (fun e m k ok _=>lookupC P e m k ok) (fun e m k x _=>updateC P e m k x) (fun e m k _=>.bad) (fun _ m s x _=>.bad) (fun e x _=>.bad) (fun x s _=>.bad) (fun _ _=>.bad)
 (fun x _ a ok _=>assertC P x a ok) (fun x i _=>extractC x i) (fun c o=>callC P c o) (fun _ _=>.bad) (fun c _=>deferC P c) (fun _ _=>.bad) (fun _ _ _=>.bad) (fun _ _ _ _=>.bad) (fun _ _ _=>.bad) op⟩
end Go.Proofs.YtejkhflkeoihlaaGreat.Ve
namespace Go.Proofs.YtejkhflkeoihlaaGreat.Ve
open Go.RowKit
set_option linter.unusedVariables false
set_option linter.unusedSimpArgs false
structure RC where
 f : Caller→Sl→Df→EW→Rs
noncomputable def setD : Option Tmp→Set'
 | some d=>setC d
 | none=>⟨fun t _=>t⟩
noncomputable def thenE (x : Option EV) (k : EV→Rs) : Rs:=@Option.rec EV (fun _=>Rs) .no k x
noncomputable def thenA (x : A') (k : EO→(Nat→EV)→Rs) : Rs:=@A'.rec (fun _=>Rs) .no k x
noncomputable def ifR (q : Bool) (x : Rs) : Rs:=@Bool.rec (fun _=>Rs) .no x q
noncomputable def thenR (x : Q) (k : EV→EW→Rs) : Rs:=@Q.rec (fun _=>Rs) .no k x
noncomputable def stepC (rf : Bool) (o : CO) (st : Set') (g : RC) : RC:=match o,st,g with
 | .p f,⟨st⟩,⟨g⟩=>⟨fun call t d w=>thenE (f t) fun x=>g call (st t x) d w⟩
 | .r f,⟨st⟩,⟨g⟩=>⟨fun call t d w=>thenE (f t w) fun x=>g call (st t x) d w⟩
 | .a f,⟨st⟩,⟨g⟩=>⟨fun call t d w=>thenA (f t) fun o v=>w.newK o fun b w=>g call (st t (v b)) d w⟩
 | .m f,⟨st⟩,⟨g⟩=>⟨fun call t d w=>thenR (f call t w) fun x w=>g call (st t x) d w⟩
 | .d f,⟨st⟩,⟨g⟩=>⟨fun call t d w=>match f t with | some p=>g call (st t undefE) (p :: d) w | none=>.no⟩
 | .rcv,⟨st⟩,⟨g⟩=>match rf with
  | true=>⟨fun call t d w=>g call (st t (.sc .nilIface)) d w⟩
  | false=>⟨fun _ _ _ _=>.no⟩
 | .bad,_,_=>⟨fun _ _ _ _=>.no⟩
noncomputable def guardR (x : EV) (want : Bool) (a b : Rs) : Rs:=@EV.rec (fun _=>Rs) (fun _=>PUnit) (fun _ _=>.no) (fun q=>ifT q (ifT want a b) (ifT want b a)) (fun _=>.no)
 (fun v=>match v with | .tuple _=>b | _=>.no) (fun _ _=>.no) (fun _ _ _ _=>.no) (fun _=>.no) (fun _ _ _ _ _=>.no) (fun _ _ _=>.no) (fun _ _=>.no) (fun _ _=>.no) PUnit.unit (fun _ _ _ _=>PUnit.unit) x
noncomputable def okD (n : Nat) : Option Tmp→Bool
 | some d=>Nat.blt d n
 | none=>true
noncomputable def opsC (F : Op→Oper→CO) (rf : Bool) (n : Nat) (ops : Array Oper) : List Oper→RC
 | []=>⟨fun _ t d w=>.nrm t d w⟩
 | o :: rest=>match opsC F rf n ops rest,okD n o.dst with
  | _,false=>⟨fun _ _ _ _=>.no⟩
  | g,true=>match o.guard with
   | none=>stepC rf (F o.op o) (setD o.dst) g
   | some (j,want)=>match ops[j]? with
    | some oj=>match oj.dst with
     | some dj=>match getC dj,stepC rf (F o.op o) (setD o.dst) g,setD o.dst,g with
      | ⟨gj⟩,⟨s⟩,⟨st⟩,⟨g⟩=>⟨fun call t d w=>guardR (gj t) want (s call t d w) (g call (st t undefE) d w)⟩
     | none=>⟨fun _ _ _ _=>.no⟩
    | none=>⟨fun _ _ _ _=>.no⟩
noncomputable def slotD (t : Sl) (i : Nat) : EV:=(getC i).f t
mutual
noncomputable def eqEV : EV→EV→Bool
 | .i k n,.i j m=>Nat.beq (kN k) (kN j) && eqI n m
 | .b p,.b q=>p == q
 | .s l,.s m=>eqB l m
 | .sc (.pointer none),.sc (.pointer none)=>true
 | .sc (.slice none 0 0),.sc (.slice none 0 0)=>true
 | .sc (.map none),.sc (.map none)=>true
 | .sc .nilFunc,.sc .nilFunc=>true
 | .sc .nilIface,.sc .nilIface=>true
 | .ref b o,.ref c p=>Nat.beq b c && Nat.beq o p
 | .sl b o n c,.sl b' o' n' c'=>Nat.beq b b' && Nat.beq o o' && Nat.beq n n' && Nat.beq c c'
 | .mp b,.mp c=>Nat.beq b c
 | .ifc t x,.ifc u y=>Nat.beq t u && eqEV x y
 | .fn f a c,.fn g b d=>decide (f = g) && eqEVs a b && eqEVs c d
 | .agg x,.agg y=>eqEVs x y
 | _,_=>false
noncomputable def eqEVs : List EV→List EV→Bool
 | [],[]=>true
 | x :: xs,y :: ys=>eqEV x y && eqEVs xs ys
 | _,_=>false
end
def bitM (j : Nat) : Nat:=Nat.shiftLeft 1 j
def tb (m i : Nat) : Bool:=Nat.beq (Nat.land (Nat.shiftRight m i) 1) 1
noncomputable def maskL (l : List Nat) : Nat:=@List.rec Nat (fun _=>Nat) 0 (fun j _ ih=>Nat.lor (bitM j) ih) l
noncomputable def edM (l : List Edge) : Nat:=@List.rec Edge (fun _=>Nat) 0 (fun e _ ih=>ifT (Region.binds .any e) (Nat.lor (bitM e.on) ih) ih) l
def isM : CO→Bool
 | .m _=>true
 | _=>false
structure RA where
 i : Nat
 f : EW→Option EV
 x : EV
structure DS where
 t : Sl
 e : EW
 act : List RA
noncomputable def keepK (d : Nat) (l : List RA) : List RA:=@List.rec RA (fun _=>List RA) [] (fun q _ ih=>ifT (tb d q.i) ih (q :: ih)) l
noncomputable def checkAct (e : EW) : List RA→Bool
 | []=>true
 | ⟨_,f,x⟩ :: l=>match f e with
  | some y=>eqEV y x && checkAct e l
  | none=>false
noncomputable def runD (ops : Array Oper) (call : Caller) (base i dn : Nat) (o : Oper) (co : CO) (S : DS) : Option DS:=match co with
 | .p f=>match f S.t with | some x=>some ⟨(setD o.dst).f S.t x,S.e,S.act⟩ | none=>none
 | .r f=>match f S.t S.e with | some x=>some ⟨(setD o.dst).f S.t x,S.e,⟨i,fun e=>f S.t e,x⟩ :: S.act⟩ | none=>none
 | .a f=>match f S.t with | .ok ob vf=>S.e.putK (base + i) ob fun e=>some ⟨(setD o.dst).f S.t (vf (base + i)),e,S.act⟩ | .no=>none
 | .m f=>match checkAct S.e S.act with
  | true=>match f call S.t S.e with
   | .ok x e=>some ⟨(setD o.dst).f S.t x,e,keepK dn S.act⟩
   | .no=>none
  | false=>none
 | _=>none
noncomputable def skipD (o : Oper) (co : CO) (S : DS) : Option DS:=match isM co,checkAct S.e S.act with
 | true,false=>none
 | _,_=>some ⟨(setD o.dst).f S.t undefE,S.e,S.act⟩
noncomputable def stepD (F : Op→Oper→CO) (ops : Array Oper) (call : Caller) (base i dn : Nat) (S : DS) : Option DS:=match ops[i]? with
 | some o=>match o.guard with
  | none=>runD ops call base i dn o (F o.op o) S
  | some (j,want)=>match ops[j]? with
   | some oj=>match oj.dst with
    | some dj=>match slotD S.t dj with
     | .b q=>match q == want with
      | true=>runD ops call base i dn o (F o.op o) S
      | false=>skipD o (F o.op o) S
     | .sc (.tuple _)=>skipD o (F o.op o) S
     | _=>none
    | none=>none
   | none=>none
 | none=>none
noncomputable def foldD (F : Op→Oper→CO) (ops : Array Oper) (call : Caller) (base : Nat) : List (Nat × Nat)→DS→Option DS
 | [],S=>match checkAct S.e S.act with | true=>some S | false=>none
 | (i,dn) :: l,S=>match stepD F ops call base i dn S with
  | some S=>foldD F ops call base l S
  | none=>none
structure DN where
 i : Nat
 d : Nat
 r : Nat
 w : Nat
noncomputable def downM (ed : Nat) (l : List DN) : Nat:=@List.rec DN (fun _=>Nat) 0 (fun x _ ih=>@DN.rec (fun _=>Nat) (fun i d _ _=>ifT (tb ed i) (Nat.lor (Nat.lor (bitM i) d) ih) ih) x) l
noncomputable def pairsOk (d r w : Nat) (l : List DN) : Bool:=@List.rec DN (fun _=>Bool) true (fun x _ ih=>@DN.rec (fun _=>Bool) (fun i _ r' w'=>ifT (tb d i) ih (ifT (Nat.beq (Nat.land w' (Nat.lor r w)) 0) (ifT (Nat.beq (Nat.land r' w) 0) ih false) false)) x) l
noncomputable def annot (F : Op→Oper→CO) (n : Nat) (ops : Array Oper) : List Nat→List DN→Nat→Option Nat→Option (List (Nat × Nat))
 | [],_,dm,_=>ifT (Nat.beq dm (Nat.sub (bitM ops.size) 1)) (some []) none
 | j :: l,dn,dm,last=>match nthL ops.toList j with
  | some o=>forceN (edM o.after.toList) fun ed=>forceN (downM ed dn) fun d=>forceN (maskL (o.looksAt ops)) fun r=>forceN (maskL o.dst.toList) fun w =>
   match okD n o.dst && Nat.beq (Nat.land ed dm) ed && (!tb dm j) && (match last with | none=>true | some p=>tb d p) && pairsOk d r w dn with
   | true=>forceN (Nat.lor (bitM j) dm) fun dm=>match annot F n ops l (⟨j,d,r,w⟩ :: dn) dm (if isM (F o.op o) then some j else last) with
    | some l=>some ((j,d) :: l)
    | none=>none
   | false=>none
  | none=>none
structure CI where
 i : Nat
 ed : Nat
 m : Bool
noncomputable def pickI (m : Bool) (dm : Nat) (l : List CI) : Option Nat:=@List.rec CI (fun _=>Option Nat) none (fun x _ ih=>@CI.rec (fun _=>Option Nat) (fun i ed q=>ifT (tb dm i) ih (ifT (Nat.beq (Nat.land ed dm) ed) (ifT q (ifT m (some i) ih) (some i)) ih)) x) l
noncomputable def itemsC (F : Op→Oper→CO) : List Oper→Nat→List CI
 | [],_=>[]
 | o :: l,i=>forceN i fun i=>forceN (edM o.after.toList) fun ed=>match isM (F o.op o) with
  | true=>⟨i,ed,true⟩ :: itemsC F l (Nat.succ i)
  | false=>⟨i,ed,false⟩ :: itemsC F l (Nat.succ i)
noncomputable def canon (l : List CI) : Nat→Nat→List Nat
 | 0,_=>[]
 | k + 1,dm=>match pickI false dm l with
  | some i=>i :: forceN (Nat.lor (bitM i) dm) fun dm=>canon l k dm
  | none=>match pickI true dm l with
   | some i=>i :: forceN (Nat.lor (bitM i) dm) fun dm=>canon l k dm
   | none=>[]
noncomputable def planD (F : Op→Oper→CO) (n : Nat) (ops : Array Oper) : Option (List (Nat × Nat)):=annot F n ops (canon (itemsC F ops.toList 0) ops.size 0) [] 0 none
structure DC where
 f : Caller→Nat→Sl→EW→List RA→Df→Rs
noncomputable def stepDC (i dn : Nat) (co : CO) (st : Set') (g : DC) : DC:=match co,st,g with
 | .p f,⟨st⟩,⟨g⟩=>⟨fun call base t e act d=>thenE (f t) fun x=>g call base (st t x) e act d⟩
 | .r f,⟨st⟩,⟨g⟩=>⟨fun call base t e act d=>thenE (f t e) fun x=>g call base (st t x) e (⟨i,fun e=>f t e,x⟩ :: act) d⟩
 | .a f,⟨st⟩,⟨g⟩=>⟨fun call base t e act d=>thenA (f t) fun ob vf=>forceN (Nat.add base i) fun b=>e.putK b ob fun e=>g call base (st t (vf b)) e act d⟩
 | .m f,⟨st⟩,⟨g⟩=>⟨fun call base t e act d=>ifR (checkAct e act) (thenR (f call t e) fun x e=>g call base (st t x) e (keepK dn act) d)⟩
 | _,_,_=>⟨fun _ _ _ _ _ _=>.no⟩
noncomputable def skipDC (co : CO) (st : Set') (g : DC) : DC:=match co,st,g with
 | .m _,⟨st⟩,⟨g⟩=>⟨fun call base t e act d=>ifR (checkAct e act) (g call base (st t undefE) e act d)⟩
 | _,⟨st⟩,⟨g⟩=>⟨fun call base t e act d=>g call base (st t undefE) e act d⟩
noncomputable def foldC (F : Op→Oper→CO) (ops : Array Oper) : List (Nat × Nat)→DC
 | []=>⟨fun call base t e act d=>ifR (checkAct e act) (.nrm t d e)⟩
 | (i,dn) :: l=>forceN i fun i=>match foldC F ops l with
  | g=>match nthL ops.toList i with
   | some o=>match o.guard with
    | none=>stepDC i dn (F o.op o) (setD o.dst) g
    | some (j,want)=>match nthL ops.toList j with
     | some oj=>match oj.dst with
      | some dj=>match getC dj,stepDC i dn (F o.op o) (setD o.dst) g,skipDC (F o.op o) (setD o.dst) g with
       | ⟨gj⟩,⟨s⟩,⟨k⟩=>⟨fun call base t e act d=>guardR (gj t) want (s call base t e act d) (k call base t e act d)⟩
      | none=>⟨fun _ _ _ _ _ _=>.no⟩
     | none=>⟨fun _ _ _ _ _ _=>.no⟩
   | none=>⟨fun _ _ _ _ _ _=>.no⟩
noncomputable def drawC (F : Op→Oper→CO) (n : Nat) (ops : Array Oper) : RC:=match planD F n ops with
 | some l=>match foldC F ops l,ops.size with
  | ⟨g⟩,k=>⟨fun call t d e=>forceN (Nat.add e.n k) fun n=>g call e.n t ⟨e.h,n⟩ [] d⟩
 | none=>⟨fun _ _ _ _=>.no⟩
noncomputable def seqR (x : Rs) (g : Sl→Df→EW→Rs) : Rs:=@Rs.rec (fun _=>Rs) .no g .ext .gto .ret x
noncomputable def blkR (id : Nat) (x : Rs) : Rs:=@Rs.rec (fun _=>Rs) .no .nrm (fun i t d w=>ifT (Nat.beq i id) (.nrm t d w) (.ext i t d w)) .gto .ret x
noncomputable def loopR (x : Rs) : Rs:=@Rs.rec (fun _=>Rs) .no (fun _ _ _=>.no) .ext .gto .ret x
noncomputable def scopeR (x : Rs) : Rs:=@Rs.rec (fun _=>Rs) .no .nrm .ext (fun _ _ _ _=>.no) .ret x
noncomputable def iter (f : Caller→Sl→Df→EW→Rs) (call : Caller) (k : Nat) : Sl→Df→EW→Rs :=
 @Nat.rec (fun _=>Sl→Df→EW→Rs) (fun t d w=>f call t d w) (fun _ ih t d w=>seqR (ih t d w) fun t d w=>ih t d w) k
noncomputable def evC (F : Op→Oper→CO) (n : Nat) : Code→RC
 | .skip=>⟨fun _ t d w=>.nrm t d w⟩
 | .label _=>⟨fun _ t d w=>.nrm t d w⟩
 | .exit id=>⟨fun _ t d w=>.ext id t d w⟩
 | .goto l=>⟨fun _ t d w=>.gto l t d w⟩
 | .ret=>⟨fun _ t d w=>.ret t d w⟩
 | .seq a b=>match evC F n a,evC F n b with
  | ⟨f⟩,⟨g⟩=>⟨fun call t d w=>seqR (f call t d w) fun t d w=>g call t d w⟩
 | .cond c a b=>match opdC c,evC F n a,evC F n b with
  | ⟨c⟩,⟨f⟩,⟨g⟩=>⟨fun call t d w=>onBR (c t) fun q=>ifT q (f call t d w) (g call t d w)⟩
 | .block id c=>match evC F n c with
  | ⟨f⟩=>⟨fun call t d w=>blkR id (f call t d w)⟩
 | .loop c=>match evC F n c with
  | ⟨f⟩=>⟨fun call t d w=>loopR (iter f call 20 t d w)⟩
 | .scope c=>match evC F n c with
  | ⟨f⟩=>⟨fun call t d w=>scopeR (f call t d w)⟩
 | .region _ ops dr=>match dr with
  | false=>opsC F false n ops ops.toList
  | true=>drawC F n ops
 | .rangeFunc ..=>⟨fun _ _ _ _=>.no⟩
 | .refuse _=>⟨fun _ _ _ _=>.no⟩
noncomputable def tailC (F : Op→Oper→CO) (n l : Nat) : Code→Option RC
 | .seq a b=>match tailC F n l a with
  | some ⟨f⟩=>match evC F n b with
   | ⟨g⟩=>some ⟨fun call t d w=>seqR (f call t d w) fun t d w=>g call t d w⟩
  | none=>tailC F n l b
 | .label k=>match Nat.beq k l with
  | true=>some ⟨fun _ t d w=>.nrm t d w⟩
  | false=>none
 | _=>none
noncomputable def jumpR (l : Nat) (x : Rs) (again : Sl→Df→EW→Rs) : Rs:=@Rs.rec (fun _=>Rs) .no .nrm .ext (fun k t d w=>ifT (Nat.beq k l) (again t d w) .no) .ret x
noncomputable def iterJ (f : Caller→Sl→Df→EW→Rs) (call : Caller) (l k : Nat) : Sl→Df→EW→Rs :=
 @Nat.rec (fun _=>Sl→Df→EW→Rs) (fun _ _ _=>.no) (fun _ ih t d w=>jumpR l (f call t d w) fun t d w=>ih t d w) k
noncomputable def scopeJ (T : Nat→Option RC) (call : Caller) (x : Rs) : Rs:=@Rs.rec (fun _=>Rs) .no .nrm .ext (fun l t d w=>match T l with
  | some ⟨g⟩=>iterJ g call l 100000 t d w
  | none=>.no) .ret x
noncomputable def evC2 (F : Op→Oper→CO) (n : Nat) : Code→RC
 | .seq a b=>match evC2 F n a,evC2 F n b with
  | ⟨f⟩,⟨g⟩=>⟨fun call t d w=>seqR (f call t d w) fun t d w=>g call t d w⟩
 | .scope c=>match evC F n c with
  | ⟨f⟩=>⟨fun call t d w=>scopeJ (fun l=>tailC F n l c) call (f call t d w)⟩
 | c=>evC F n c
structure ResC where
 f : Sl→EW→Option (List EV)
noncomputable def resC (P : Program) : List ResultVar→ResC
 | []=>⟨fun _ _=>some []⟩
 | .tmp i :: rs=>match getC i,resC P rs with
  | ⟨g⟩,⟨h⟩=>⟨fun t w=>match h t w with
   | some l=>some (g t :: l)
   | none=>none⟩
 | .cell a ty :: rs=>match loadC P ty (.tmp a),resC P rs with
  | .r f,⟨h⟩=>⟨fun t w=>match f t w with
   | some x=>match h t w with
    | some l=>some (x :: l)
    | none=>none
   | none=>none⟩
  | _,_=>⟨fun _ _=>none⟩
def one : List EV→EV
 | [x]=>x
 | l=>.tup l
noncomputable def initT : List EV→Nat→Sl→Sl
 | [],_,t=>t
 | x :: xs,i,t=>match setC i with | ⟨st⟩=>initT xs (i + 1) (st t x)
structure FC where
 n : Nat
 f : Caller→Sl→EW→Q
noncomputable def outQ (h : Sl→EW→Option (List EV)) (t : Sl) (w : EW) : Q:=match h t w with
 | some l=>.ok (one l) w
 | none=>.no
noncomputable def evB (F : Op→Oper→CO) (n : Nat) : Code→RC
 | .seq (.region _ ops false) c=>match opsC F true n ops ops.toList,evC F n c with
  | ⟨f⟩,⟨g⟩=>⟨fun call t d w=>seqR (f call t d w) fun t d w=>g call t d w⟩
 | c=>evC F n c
noncomputable def fnD (P : Program) (f : FuncId) : Option FC:=match nthL P.funcs.toList f with
 | some fn=>match fn.body with
  | some c=>match opF P with | ⟨F⟩=>match evB F fn.ntmps c,resC P fn.results.toList with
   | ⟨f⟩,⟨h⟩=>ifT (Nat.ble fn.ntmps 256) (some ⟨fn.ntmps,fun call t w=>match f call t [] w with
    | .nrm t [] w=>outQ h t w
    | .ret t [] w=>outQ h t w
    | _=>.no⟩) none
  | none=>none
 | none=>none
noncomputable def evCallD (P : Program) (call : Caller) (f : FuncId) (args : List EV) (w : EW) : Q:=match fnD P f with
 | some ⟨m,g⟩=>ifQ (Nat.ble args.length m) (g call (initT args 0 (empT 4)) w)
 | none=>.no
noncomputable def evDfr (P : Program) (call : Caller) : Df→EW→(EW→Q)→Q
 | [],w,k=>k w
 | (f,args) :: ds,w,k=>thenQ (evCallD P call f args w) fun _ w'=>evDfr P call ds w' k
noncomputable def finQ (P : Program) (h : Sl→EW→Option (List EV)) (call : Caller) (t : Sl) (d : Df) (w : EW) : Q:=evDfr P call d w fun w=>outQ h t w
noncomputable def fnC (P : Program) (f : FuncId) : Option FC:=match nthL P.funcs.toList f with
 | some fn=>match fn.body with
  | some c=>match opF P with | ⟨F⟩=>match evC2 F fn.ntmps c,resC P fn.results.toList with
   | ⟨f⟩,⟨h⟩=>ifT (Nat.ble fn.ntmps 256) (some ⟨fn.ntmps,fun call t w=>match f call t [] w with
    | .nrm t d w=>finQ P h call t d w
    | .ret t d w=>finQ P h call t d w
    | _=>.no⟩) none
  | none=>none
 | none=>none
structure Orc where
 g : FuncId
 args : List EV
 x : EV
noncomputable def askO (g : FuncId) (args : List EV) : List Orc→Option EV
 | []=>none
 | ⟨h,as,x⟩ :: l=>match Nat.beq h g with
  | true=>(match eqEVs as args with
   | true=>some x
   | false=>askO g args l)
  | false=>askO g args l
noncomputable def evCallO (P : Program) (O : List Orc) : Nat→Caller
 | 0,_,_,_=>.no
 | n + 1,f,args,w=>match askO f args O with
  | some x=>.ok x w
  | none=>match fnC P f with
   | some ⟨m,g⟩=>ifQ (Nat.ble args.length m) (g (evCallO P O n) (initT args 0 (empT 4)) w)
   | none=>.no
noncomputable def evCall (P : Program) : Nat→Caller:=evCallO P []
def w0 (P : Program) : EW:=⟨.leaf,P.globals.size + 10⟩
end Go.Proofs.YtejkhflkeoihlaaGreat.Ve
namespace Go.Proofs.YtejkhflkeoihlaaGreat.Ve
open Go.RowKit
set_option linter.unusedVariables false
set_option linter.unusedSimpArgs false
theorem forceN_eq {α : Type} (n : Nat) (k : Nat→α) : forceN n k = k n:=by cases n <;> rfl
theorem forceI_eq {α : Type} (z : Int) (k : Int→α) : forceI z k = k z:=by cases z <;> simp [forceI,forceN_eq]
theorem ifT_eq {α : Type} (q : Bool) (a b : α) : ifT q a b = if q = true then a else b:=by cases q <;> rfl
section tr
variable {α β : Type}
def Tr.set : Nat→Tr α→Nat→α→Tr α
 | 0,t,_,_=>t
 | f + 1,.leaf,0,x=>.node .leaf (some x) .leaf
 | f + 1,.node l _ r,0,x=>.node l (some x) r
 | f + 1,.leaf,m + 1,x=>if m % 2 = 0 then .node (Tr.set f .leaf (m / 2) x) none .leaf else .node .leaf none (Tr.set f .leaf (m / 2) x)
 | f + 1,.node l v r,m + 1,x=>if m % 2 = 0 then .node (Tr.set f l (m / 2) x) v r else .node l v (Tr.set f r (m / 2) x)
theorem natRec2 {γ : Type} (m : Nat) (x y : γ) : (@Nat.rec (fun _=>γ) x (fun _ _=>y) (Nat.mod m 2) : γ) = if m % 2 = 0 then x else y:=by
 show (@Nat.rec (fun _=>γ) x (fun _ _=>y) (m % 2) : γ) = _
 cases h : m % 2 with
 | zero=>rfl
 | succ k=>rfl
theorem Tr.setK_eq (f : Nat) : ∀ (t : Tr α) (n : Nat) (x : α) (k : Tr α→β),t.setK f n x k = k (Tr.set f t n x):=by
 induction f with
 | zero=>intro t n x k; rfl
 | succ f ih =>
  intro t n x k
  show (@Nat.rec (fun _=>β) _ _ n : β) = _
  cases n with
  | zero=>cases t <;> rfl
  | succ m =>
   show (@Nat.rec (fun _=>β) _ (fun _ _=>_) (Nat.mod m 2) : β) = _
   rw [natRec2]
   by_cases h : m % 2 = 0
   ·simp only [h,if_true]
    cases t with
    | leaf=>exact (ih _ _ _ _).trans (by simp [Tr.set,h]; rfl)
    | node l v r=>exact (ih _ _ _ _).trans (by simp [Tr.set,h]; rfl)
   ·simp only [h,if_false]
    cases t with
    | leaf=>exact (ih _ _ _ _).trans (by simp [Tr.set,h]; rfl)
    | node l v r=>exact (ih _ _ _ _).trans (by simp [Tr.set,h]; rfl)
theorem Tr.get_leaf (n : Nat) : (Tr.leaf : Tr α).get n = none:=rfl
theorem Tr.get_succ (l : Tr α) (v : Option α) (r : Tr α) (m : Nat) : (Tr.node l v r).get (m + 1) = if m % 2 = 0 then l.get (m / 2) else r.get (m / 2):=by
 exact natRec2 m _ _
theorem Tr.get_set (f : Nat) : ∀ (t : Tr α) (n : Nat) (x : α) (m : Nat),n < f→(Tr.set f t n x).get m = if m = n then some x else t.get m:=by
 induction f with
 | zero=>intro t n x m h; omega
 | succ f ih =>
  intro t n x m h
  cases n with
  | zero =>
   cases t with
   | leaf=>cases m with
    | zero=>rfl
    | succ m=>simp only [Tr.set,Tr.get_succ,Tr.get_leaf,ite_self]; rw [if_neg (Nat.succ_ne_zero m)]
   | node l v r=>cases m with
    | zero=>rfl
    | succ m=>simp only [Tr.set,Tr.get_succ]; rw [if_neg (Nat.succ_ne_zero m)]
  | succ n =>
   have hn : n / 2 < f:=by omega
   have key : ∀ (l : Tr α) (v : Option α) (r : Tr α),(if n % 2 = 0 then Tr.node (Tr.set f l (n / 2) x) v r else .node l v (Tr.set f r (n / 2) x)).get m = if m = n + 1 then some x else (Tr.node l v r).get m:=by
    intro l v r
    cases m with
    | zero=>rw [if_neg (Nat.zero_ne_add_one n)]; split <;> rfl
    | succ m =>
     by_cases h1 : n % 2 = 0 <;> by_cases h2 : m % 2 = 0
     ·simp only [h1,if_true,Tr.get_succ,h2,ih _ _ _ _ hn]
      by_cases h3 : m / 2 = n / 2
      ·rw [if_pos h3,if_pos (by omega)]
      ·rw [if_neg h3,if_neg (by omega)]
     ·simp only [h1,if_true,Tr.get_succ,h2,if_false]; rw [if_neg (by omega)]
     ·simp only [h1,if_false,Tr.get_succ,h2,if_true]; rw [if_neg (by omega)]
     ·simp only [h1,if_false,Tr.get_succ,h2,ih _ _ _ _ hn]
      by_cases h3 : m / 2 = n / 2
      ·rw [if_pos h3,if_pos (by omega)]
      ·rw [if_neg h3,if_neg (by omega)]
   cases t with
   | leaf =>
    have:=key .leaf none .leaf
    simp only [Tr.set]
    rw [this]
    cases m with
    | zero=>rfl
    | succ m=>simp only [Tr.get_succ,Tr.get_leaf,ite_self]
   | node l v r=>simp only [Tr.set]; exact key l v r
end tr
def EW.put (w : EW) (b : Nat) (o : EO) : EW:=⟨Tr.set (b + 1) w.h b o,w.n⟩
def EW.new (w : EW) (o : EO) : EW:=⟨Tr.set (w.n + 1) w.h w.n o,w.n + 1⟩
theorem EW.putK_eq {β : Type} (w : EW) (b : Nat) (o : EO) (k : EW→β) : w.putK b o k = k (w.put b o):=Tr.setK_eq _ _ _ _ _
theorem EW.newK_eq {β : Type} (w : EW) (o : EO) (k : Nat→EW→β) : w.newK o k = k w.n (w.new o):=by
 unfold EW.newK
 rw [Tr.setK_eq,forceN_eq]
 rfl
theorem EW.get_put (w : EW) (b : Nat) (o : EO) (c : Nat) : (w.put b o).get c = if c = b then o else w.get c:=by
 unfold EW.get EW.put
 simp only [Tr.get_set _ _ _ _ _ (Nat.lt_succ_self b)]
 by_cases h : c = b <;> simp [h]
theorem EW.get_new (w : EW) (o : EO) (c : Nat) : (w.new o).get c = if c = w.n then o else w.get c:=by
 unfold EW.get EW.new
 simp only [Tr.get_set _ _ _ _ _ (Nat.lt_succ_self w.n)]
 by_cases h : c = w.n <;> simp [h]
theorem EW.put_n (w : EW) (b : Nat) (o : EO) : (w.put b o).n = w.n:=rfl
theorem EW.new_n (w : EW) (o : EO) : (w.new o).n = w.n + 1:=rfl
section sl
def slotK : (k : Nat)→SlT k→Nat→EV
 | 0,t,_=>t
 | k + 1,t,i=>match i % 4 with
  | 0=>slotK k (N4.a (α:=SlT k) t) (i / 4)
  | 1=>slotK k (N4.b (α:=SlT k) t) (i / 4)
  | 2=>slotK k (N4.c (α:=SlT k) t) (i / 4)
  | _=>slotK k (N4.d (α:=SlT k) t) (i / 4)
theorem getK_eq : ∀ (k i : Nat) (t : SlT k),(getK k i).f t = slotK k t i:=by
 intro k
 induction k with
 | zero=>intro i t; rfl
 | succ k ih =>
  intro i t
  have hi4 : i % 4 = 0 ∨ i % 4 = 1 ∨ i % 4 = 2 ∨ i % 4 = 3:=by omega
  rcases hi4 with hi4 | hi4 | hi4 | hi4 <;> simp only [getK,slotK,hi4] <;> exact ih _ _
theorem slot_setK : ∀ (k i j : Nat) (t : SlT k) (x : EV),i < 4 ^ k→j < 4 ^ k→slotK k ((setK k i).f t x) j = if j = i then x else slotK k t j:=by
 intro k
 induction k with
 | zero=>intro i j t x hi hj; rw [if_pos (by simp at hi hj; omega)]; rfl
 | succ k ih =>
  intro i j t x hi hj
  rw [Nat.pow_succ] at hi hj
  have h1:=fun t x=>ih (i / 4) (j / 4) t x (by omega) (by omega)
  have hi4 : i % 4 = 0 ∨ i % 4 = 1 ∨ i % 4 = 2 ∨ i % 4 = 3:=by omega
  have hj4 : j % 4 = 0 ∨ j % 4 = 1 ∨ j % 4 = 2 ∨ j % 4 = 3:=by omega
  have key : j % 4 = i % 4→((j / 4 = i / 4) = (j = i)):=fun h=>propext ⟨fun h2=>by omega,fun h2=>by rw [h2]⟩
  have key2 : j % 4 ≠ i % 4→j ≠ i:=fun h h2=>h (by rw [h2])
  rcases hi4 with hi4 | hi4 | hi4 | hi4 <;> rcases hj4 with hj4 | hj4 | hj4 | hj4 <;> simp only [setK,slotK,hi4,hj4,h1] <;>
   first
    | (rw [key (by omega)]; done)
    | (rw [if_neg (key2 (by omega))]; done)
    | (simp only [key (show j % 4 = i % 4 by omega)]; done)
theorem slot_emp : ∀ (k i : Nat),slotK k (empT k) i = undefE:=by
 intro k
 induction k with
 | zero=>intro i; rfl
 | succ k ih=>intro i; simp only [slotK,empT]; split <;> exact ih _
noncomputable def slot (t : Sl) (i : Nat) : EV:=(getC i).f t
noncomputable def setS (t : Sl) (i : Nat) (x : EV) : Sl:=(setC i).f t x
theorem slot_lt (t : Sl) {i : Nat} (h : i < 256) : slot t i = slotK 4 t i:=by
 unfold slot getC
 rw [show Nat.blt i 256 = true from Nat.ble_eq_true_of_le h]
 exact getK_eq 4 i t
theorem slot_ge (t : Sl) {i : Nat} (h : 256 ≤ i) : slot t i = undefE:=by
 unfold slot getC
 rw [show Nat.blt i 256 = false from Bool.eq_false_iff.2 fun e=>absurd (Nat.le_of_ble_eq_true e) (by omega)]
theorem slot_setS (t : Sl) {i : Nat} (j : Nat) (x : EV) (hi : i < 256) : slot (setS t i x) j = if j = i then x else slot t j:=by
 rcases Nat.lt_or_ge j 256 with hj | hj
 ·rw [slot_lt _ hj,slot_lt _ hj]; exact slot_setK 4 i j t x hi hj
 ·rw [slot_ge _ hj,slot_ge _ hj,if_neg (by omega)]
theorem slot_empT (i : Nat) : slot (empT 4) i = undefE:=by
 rcases Nat.lt_or_ge i 256 with hj | hj
 ·rw [slot_lt _ hj]; exact slot_emp 4 i
 ·exact slot_ge _ hj
end sl
noncomputable def evS (t : Sl) : Operand→EV
 | .tmp i=>slot t i
 | .const v=>ofVal v
 | .global g=>.sc (.pointer (some ⟨g,0,none⟩))
 | .func f=>.sc (.func (.func f) #[] #[])
theorem opdC_eq (x : Operand) : opdC x = ⟨fun t=>evS t x⟩:=by
 cases x with
 | tmp i=>rfl
 | _=>rfl
theorem opdsC_eq (l : List Operand) : opdsC l = ⟨fun t=>l.map (evS t)⟩:=by
 induction l with
 | nil=>rfl
 | cons x l ih=>simp only [opdsC,opdC_eq,ih,List.map_cons]
section lists
variable {α : Type} {d : α}
theorem takeX_eq (l : List EV) : ∀ (n : Nat) (k : List EV→α),takeX d l n k = if n ≤ l.length then k (l.take n) else d:=by
 induction l with
 | nil=>intro n k; cases n with
  | zero=>rfl
  | succ n=>show d = _; rw [if_neg (by simp)]
 | cons x l ih=>intro n k; cases n with
  | zero=>rfl
  | succ n =>
   show takeX d l n (fun l=>k (x :: l)) = _
   rw [ih]
   by_cases h : n ≤ l.length
   ·rw [if_pos h,if_pos (by simpa using h)]; rfl
   ·rw [if_neg h,if_neg (by simpa using h)]
theorem dropX_eq (l : List EV) : ∀ (n : Nat),dropX l n = l.drop n:=by
 induction l with
 | nil=>intro n; cases n <;> rfl
 | cons x l ih=>intro n; cases n with
  | zero=>rfl
  | succ n=>exact ih n
theorem nthX_eq (l : List EV) : ∀ (n : Nat),nthX l n = l[n]?:=by
 induction l with
 | nil=>intro n; rfl
 | cons x l ih=>intro n; cases n with
  | zero=>rfl
  | succ n=>exact (ih n).trans (by simp)
theorem nthL_eq {β : Type} (l : List β) : ∀ (n : Nat),nthL l n = l[n]?:=by
 induction l with
 | nil=>intro n; rfl
 | cons x l ih=>intro n; cases n with
  | zero=>rfl
  | succ n=>exact (ih n).trans (by simp)
def over (cs : List EV) (o : Nat) : List EV→List EV
 | []=>cs
 | x :: xs=>over (cs.set o x) (o + 1) xs
theorem over_cons (c : EV) (xs : List EV) : ∀ (cs : List EV) (o : Nat),over (c :: cs) (o + 1) xs = c :: over cs o xs:=by
 induction xs with
 | nil=>intro cs o; rfl
 | cons x xs ih=>intro cs o; simp only [over,List.set_cons_succ,ih]
theorem over_length (xs : List EV) : ∀ (cs : List EV) (o : Nat),(over cs o xs).length = cs.length:=by
 induction xs with
 | nil=>intro cs o; rfl
 | cons x xs ih=>intro cs o; rw [over,ih,List.length_set]
theorem over0_eq (cs : List EV) : ∀ (xs : List EV) (k : List EV→α),over0 d cs xs k = if xs.length ≤ cs.length then k (over cs 0 xs) else d:=by
 induction cs with
 | nil=>intro xs k; cases xs with
  | nil=>rfl
  | cons x xs=>show d = _; rw [if_neg (by simp)]
 | cons c cs ih=>intro xs k; cases xs with
  | nil=>rfl
  | cons x xs =>
   show over0 d cs xs (fun l=>k (x :: l)) = _
   rw [ih]
   by_cases h : xs.length ≤ cs.length
   ·rw [if_pos h,if_pos (by simpa using h)]; simp only [over,List.set_cons_zero]; rw [over_cons]
   ·rw [if_neg h,if_neg (by simpa using h)]
theorem overK_eq (cs : List EV) : ∀ (o : Nat) (xs : List EV) (k : List EV→α),overK d cs o xs k = if xs = [] ∨ o + xs.length ≤ cs.length then k (over cs o xs) else d:=by
 induction cs with
 | nil=>intro o xs k; cases xs with
  | nil=>rfl
  | cons x xs=>show d = _; rw [if_neg (by simp)]
 | cons c cs ih=>intro o xs k; cases o with
  | zero =>
   show over0 d (c :: cs) xs k = _
   rw [over0_eq]
   by_cases h : xs.length ≤ (c :: cs).length
   ·rw [if_pos h,if_pos (.inr (by omega))]
   ·rw [if_neg h,if_neg (by rintro (rfl | h2) <;> simp at h <;> (try simp at h2) <;> omega)]
  | succ o =>
   show overK d cs o xs (fun l=>k (c :: l)) = _
   rw [ih]
   by_cases h : xs = [] ∨ o + xs.length ≤ cs.length
   ·rw [if_pos h,if_pos (h.imp id (fun h=>by simp; omega)),over_cons]
   ·rw [if_neg h,if_neg (fun h2=>h (h2.imp id (fun h=>by simp at h; omega)))]
theorem lenIs_eq (l : List EV) : ∀ n,lenIs l n = decide (l.length = n):=by
 induction l with
 | nil=>intro n; cases n <;> rfl
 | cons x l ih=>intro n; cases n with
  | zero=>rfl
  | succ n=>exact (ih n).trans (by simp)
theorem lenB_eq (l : List Nat) : lenB l = l.length:=by
 induction l with
 | nil=>rfl
 | cons x l ih=>exact congrArg Nat.succ ih
end lists
end Go.Proofs.YtejkhflkeoihlaaGreat.Ve
namespace Go.Proofs.YtejkhflkeoihlaaGreat.Ve
open Go.RowKit
set_option linter.unusedVariables false
set_option linter.unusedSimpArgs false
structure RB where
 blk : Nat
 sh : Nat
 T : Nat
 z : Nat
 el : Bool
abbrev Rn:=Nat→Option RB
inductive ER (ρ : Rn) : EV→Value→Prop
 | i (k : IntKind) (n : Int) : ER ρ (.i k n) (.int k n)
 | b (q : Bool) : ER ρ (.b q) (.bool q)
 | s (l : List Nat) (b : ByteArray) (h : b.data.toList.map UInt8.toNat = l) : ER ρ (.s l) (.string b)
 | sc (v : Value) : ER ρ (.sc v) v
 | ref (b o : Nat) (r : RB) (h : ρ b = some r) : ER ρ (.ref b o) (.pointer (some ⟨r.blk,r.sh + o,none⟩))
 | sl (b o len cap : Nat) (r : RB) (a cap' : Nat) (h : ρ b = some r) (hl : len ≤ cap) (hc : cap ≤ cap') (ha : 0 < cap→a = r.sh + o)
   (hT : cap < cap'→r.el = true∧a + cap' * r.z ≤ r.T) : ER ρ (.sl b o len cap) (.slice (some ⟨r.blk,a,none⟩) len cap')
 | mp (b : Nat) (r : RB) (h : ρ b = some r) : ER ρ (.mp b) (.map (some r.blk))
 | fn (f : Fn) (fi cs : List EV) (a c : Array Value) (va vc : Nat→Value) (ha : a.size = fi.length) (hc : c.size = cs.length)
   (h1 : ∀ (j : Nat) y,fi[j]? = some y→a[j]? = some (va j)) (h2 : ∀ (j : Nat) y,cs[j]? = some y→c[j]? = some (vc j))
   (r1 : ∀ (j : Nat) y,fi[j]? = some y→ER ρ y (va j)) (r2 : ∀ (j : Nat) y,cs[j]? = some y→ER ρ y (vc j)) : ER ρ (.fn f fi cs) (.func f a c)
 | ifc (t : TypeId) (x : EV) (v : Value) (h : ER ρ x v) : ER ρ (.ifc t x) (.iface t v)
 | agg (cs : List EV) (a : Array Value) (vs : Nat→Value) (ha : a.size = cs.length) (hv : ∀ (j : Nat) y,cs[j]? = some y→a[j]? = some (vs j)∧(vs j).oneCell' = true)
   (hr : ∀ (j : Nat) y,cs[j]? = some y→ER ρ y (vs j)) : ER ρ (.agg cs) (.agg a)
 | tup (cs : List EV) (a : Array Value) (vs : Nat→Value) (ha : a.size = cs.length) (hv : ∀ (j : Nat) y,cs[j]? = some y→a[j]? = some (vs j))
   (hr : ∀ (j : Nat) y,cs[j]? = some y→ER ρ y (vs j)) : ER ρ (.tup cs) (.tuple a)
def Sub (ρ ρ' : Rn) : Prop:=∀ b r,ρ b = some r→ρ' b = some r
theorem ER.mono {ρ ρ' : Rn} {x : EV} {v : Value} (h : ER ρ x v) (hs : Sub ρ ρ') : ER ρ' x v:=by
 induction h with
 | i k n=>exact .i k n
 | b q=>exact .b q
 | s l b h=>exact .s l b h
 | sc v=>exact .sc v
 | ref b o r h=>exact .ref b o r (hs _ _ h)
 | sl b o len cap r a cap' h hl hc ha hT=>exact .sl b o len cap r a cap' (hs _ _ h) hl hc ha hT
 | mp b r h=>exact .mp b r (hs _ _ h)
 | fn f fi cs a c va vc ha hc h1 h2 r1 r2 ih1 ih2=>exact .fn f fi cs a c va vc ha hc h1 h2 ih1 ih2
 | ifc t x v h ih=>exact .ifc t x v ih
 | agg cs a vs ha hv hr ih=>exact .agg cs a vs ha hv ih
 | tup cs a vs ha hv hr ih=>exact .tup cs a vs ha hv ih
def RL (ρ : Rn) (cs : List EV) (a : Array Value) : Prop:=a.size = cs.length∧∀ (j : Nat) x,cs[j]? = some x→∃ v,a[j]? = some v∧ER ρ x v
def RC1 (ρ : Rn) (cs : List EV) (a : Array Value) : Prop:=a.size = cs.length∧∀ (j : Nat) x,cs[j]? = some x→∃ v,a[j]? = some v∧ER ρ x v∧v.oneCell' = true
section rl
variable {ρ ρ' : Rn} {cs : List EV} {a : Array Value}
theorem RL.mono (h : RL ρ cs a) (hs : Sub ρ ρ') : RL ρ' cs a:=⟨h.1,fun j x hj=>let ⟨v,h1,h2⟩:=h.2 j x hj; ⟨v,h1,h2.mono hs⟩⟩
theorem RC1.mono (h : RC1 ρ cs a) (hs : Sub ρ ρ') : RC1 ρ' cs a:=⟨h.1,fun j x hj=>let ⟨v,h1,h2,h3⟩:=h.2 j x hj; ⟨v,h1,h2.mono hs,h3⟩⟩
theorem RC1.rl (h : RC1 ρ cs a) : RL ρ cs a:=⟨h.1,fun j x hj=>let ⟨v,h1,h2,_⟩:=h.2 j x hj; ⟨v,h1,h2⟩⟩
theorem RL.vs (H : RL ρ cs a) : (∀ (j : Nat) y,cs[j]? = some y→a[j]? = some (a.getD j undef))∧∀ (j : Nat) (y : EV),cs[j]? = some y→ER ρ y (a.getD j undef):=by
 refine ⟨fun j y hj=>?_,fun j y hj=>?_⟩ <;> obtain ⟨v,hv,hr⟩:=H.2 j y hj
 ·simp [hv]
 ·simpa [hv] using hr
theorem RL.tup (H : RL ρ cs a) : ER ρ (.tup cs) (.tuple a):=.tup cs a _ H.1 H.vs.1 H.vs.2
theorem RC1.agg (H : RC1 ρ cs a) : ER ρ (.agg cs) (.agg a):=.agg cs a _ H.1 (fun j y hj=>⟨H.rl.vs.1 j y hj,by
 obtain ⟨v,hv,_,h1⟩:=H.2 j y hj
 simpa [hv] using h1⟩) H.rl.vs.2
theorem RL.fn {f : Fn} {cs' : List EV} {a' : Array Value} (H : RL ρ cs a) (H' : RL ρ cs' a') : ER ρ (.fn f cs cs') (.func f a a'):=.fn f cs cs' a a' _ _ H.1 H'.1 H.vs.1 H'.vs.1 H.vs.2 H'.vs.2
theorem RL.nil : RL ρ [] #[]:=⟨rfl,fun j x hj=>by simp at hj⟩
theorem RL.list {l : List Value} (h : RL ρ cs l.toArray) : l.length = cs.length∧∀ (j : Nat) x,cs[j]? = some x→∃ v,l[j]? = some v∧ER ρ x v:=by
 obtain ⟨h1,h2⟩:=h
 refine ⟨by simpa using h1,fun j x hj=>?_⟩
 obtain ⟨v,hv,hr⟩:=h2 j x hj
 exact ⟨v,by simpa using hv,hr⟩
theorem RL.cons {x : EV} {v : Value} {l : List Value} (hx : ER ρ x v) (h : RL ρ cs l.toArray) : RL ρ (x :: cs) (v :: l).toArray:=by
 obtain ⟨h1,h2⟩:=h.list
 refine ⟨by simp [h1],fun j y hj=>?_⟩
 cases j with
 | zero=>exact ⟨v,by simp,by simpa using (show x = y by simpa using hj) ▸ hx⟩
 | succ j =>
  obtain ⟨u,hu,hr⟩:=h2 j y (by simpa using hj)
  exact ⟨u,by simpa using hu,hr⟩
theorem RL.append {ds : List EV} {b : Array Value} (h : RL ρ cs a) (h' : RL ρ ds b) : RL ρ (cs ++ ds) (a ++ b):=by
 refine ⟨by simp [h.1,h'.1],fun j x hj=>?_⟩
 rw [List.getElem?_append] at hj
 rw [Array.getElem?_append,h.1]
 split at hj
 ·rename_i hlt; rw [if_pos hlt]; exact h.2 j x hj
 ·rename_i hlt; rw [if_neg hlt]; exact h'.2 _ x hj
theorem RC1.append {ds : List EV} {b : Array Value} (h : RC1 ρ cs a) (h' : RC1 ρ ds b) : RC1 ρ (cs ++ ds) (a ++ b):=by
 refine ⟨by simp [h.1,h'.1],fun j x hj=>?_⟩
 rw [List.getElem?_append] at hj
 rw [Array.getElem?_append,h.1]
 split at hj
 ·rename_i hlt; rw [if_pos hlt]; exact h.2 j x hj
 ·rename_i hlt; rw [if_neg hlt]; exact h'.2 _ x hj
theorem RC1.cut (h : RC1 ρ cs a) (o n : Nat) (hn : o + n ≤ cs.length) : RC1 ρ ((cs.drop o).take n) (a.extract o (o + n)):=by
 refine ⟨by simp [h.1]; omega,fun j x hj=>?_⟩
 have hjn : j < n:=by have:=(List.getElem?_eq_some_iff.1 hj).1; simp at this; omega
 rw [List.getElem?_take_of_lt hjn,List.getElem?_drop] at hj
 obtain ⟨v,h1,h2⟩:=h.2 _ x hj
 refine ⟨v,?_,h2⟩
 have hs : o + j < a.size:=by rw [h.1]; omega
 rw [Array.getElem?_extract]
 rw [if_pos (by omega)]
 exact h1
end rl
theorem isOne_er {ρ : Rn} {x : EV} {v : Value} (h : ER ρ x v) (h1 : isOne x = true) : v.oneCell' = true:=by
 cases h with
 | sc v=>cases v <;> first | rfl | (cases h1)
 | agg=>cases h1
 | tup=>cases h1
 | _=>rfl
def OR (P : Program) (ρ : Rn) (w : World) : EO→RB→Prop
 | .cells cs e el,r=>∃ (C : Array Value) (e' : TypeId) (fz : Nat × Nat),w.heap[r.blk]? = some (.cells C e' fz)∧C.size = r.T∧r.sh + cs.length ≤ r.T ∧
   (∀ (j : Nat) x,cs[j]? = some x→∃ v,C[r.sh + j]? = some v∧ER ρ x v∧v.oneCell' = true)∧(∀ o,o < r.T→¬ (fz.1 ≤ o∧o < fz.2))∧r.el = el ∧
   (el = true→∃ ty,tyOf P e = some ty∧ty.size = r.z)
 | .map es c,r=>∃ a : Array MapEntry,w.heap[r.blk]? = some (.map a c)∧a.size = es.length∧∀ (j : Nat) e,es[j]? = some e→∃ m,a[j]? = some m∧ER ρ e.key m.key∧ER ρ e.val m.val∧m.born = e.born
 | .dead,_=>True
theorem OR.mono {P : Program} {ρ ρ' : Rn} {w w' : World} {o : EO} {r : RB} (h : OR P ρ w o r) (hs : Sub ρ ρ') (hw : o ≠ .dead→w'.heap[r.blk]? = w.heap[r.blk]?) : OR P ρ' w' o r:=by
 cases o with
 | cells cs e el =>
  obtain ⟨C,e',fz,h1,h2,h3,h4,h5,h6⟩:=h
  exact ⟨C,e',fz,(hw (by simp)).trans h1,h2,h3,fun j x hj=>let ⟨v,a,b,c⟩:=h4 j x hj; ⟨v,a,b.mono hs,c⟩,h5,h6⟩
 | map es c =>
  obtain ⟨a,h1,h2,h3⟩:=h
  exact ⟨a,(hw (by simp)).trans h1,h2,fun j e hj=>let ⟨m,a,b,c,d⟩:=h3 j e hj; ⟨m,a,b.mono hs,c.mono hs,d⟩⟩
 | dead=>trivial
def live (e : EW) (b : Nat) : Prop:=e.get b ≠ .dead
structure Sim (P : Program) (N : Nat) (ρ : Rn) (e : EW) (w : World) : Prop where
 lt : ∀ b r,ρ b = some r→b < e.n∧r.blk < w.heap.size
 obj : ∀ b r,ρ b = some r→OR P ρ w (e.get b) r
 inj : ∀ b b' r r',ρ b = some r→ρ b' = some r'→live e b→live e b'→r.blk = r'.blk→b = b'
 ge : ∀ b r,ρ b = some r→N ≤ r.blk
 fresh : ∀ b,e.n ≤ b→e.get b = .dead
 hN : N ≤ w.heap.size
structure Ext (N : Nat) (ρ : Rn) (e : EW) (w : World) (ρ' : Rn) (e' : EW) (w' : World) : Prop where
 sub : Sub ρ ρ'
 new : ∀ b r,ρ' b = some r→ρ b = some r ∨ e.n ≤ b
 n : e.n ≤ e'.n
 fa : ∀ b,b < e.n→ρ b = none→e'.get b = e.get b
 fc : ∀ c,c < w.heap.size→(∀ b r,ρ b = some r→live e b→r.blk ≠ c)→w'.heap[c]? = w.heap[c]?
 lv : ∀ b r,ρ' b = some r→live e' b→r.blk < w.heap.size→∃ b0 r0,ρ b0 = some r0∧live e b0∧r0.blk = r.blk
 bel : Below N w w'
section ext
variable {P : Program} {N : Nat} {ρ ρ' ρ'' : Rn} {e e' e'' : EW} {w w' w'' : World}
theorem Ext.refl (N : Nat) (ρ : Rn) (e : EW) (w : World) : Ext N ρ e w ρ e w :=
 ⟨fun _ _ h=>h,fun _ _ h=>.inl h,Nat.le_refl _,fun _ _ _=>rfl,fun _ _ _=>rfl,fun b r h1 h2 _=>⟨b,r,h1,h2,rfl⟩,Below.refl _ _⟩
theorem Ext.trans (h : Ext N ρ e w ρ' e' w') (h' : Ext N ρ' e' w' ρ'' e'' w'') : Ext N ρ e w ρ'' e'' w'':=by
 refine ⟨fun b r hb=>h'.sub b r (h.sub b r hb),fun b r hb=>?_,Nat.le_trans h.n h'.n,fun b hb hr=>?_,fun c hc hn=>?_,fun b r hb hl hlt=>?_,h.bel.trans h'.bel⟩
 ·rcases h'.new b r hb with h1 | h1
  ·exact h.new b r h1
  ·exact .inr (Nat.le_trans h.n h1)
 ·have h1 : ρ' b = none:=by
   cases hq : ρ' b with
   | none=>rfl
   | some r =>
    rcases h.new b r hq with h2 | h2
    ·rw [hr] at h2; cases h2
    ·omega
  exact (h'.fa b (Nat.lt_of_lt_of_le hb h.n) h1).trans (h.fa b hb hr)
 ·refine (h'.fc c (Nat.lt_of_lt_of_le hc h.bel.size) fun b r hb hl he=>?_).trans (h.fc c hc hn)
  obtain ⟨b0,r0,h1,h2,h3⟩:=h.lv b r hb hl (he ▸ hc)
  exact hn b0 r0 h1 h2 (h3.trans he)
 ·obtain ⟨b0,r0,h1,h2,h3⟩:=h'.lv b r hb hl (Nat.lt_of_lt_of_le hlt h.bel.size)
  obtain ⟨b1,r1,h4,h5,h6⟩:=h.lv b0 r0 h1 h2 (h3 ▸ hlt)
  exact ⟨b1,r1,h4,h5,h6.trans h3⟩
theorem Sim.drew (H : Sim P N ρ e w) : Sim P N ρ e w.drew:=⟨H.lt,fun b r h=>(H.obj b r h).mono (fun _ _ h=>h) fun _=>rfl,H.inj,H.ge,H.fresh,H.hN⟩
theorem Ext.drew (N : Nat) (ρ : Rn) (e : EW) (w : World) : Ext N ρ e w ρ e w.drew :=
 ⟨fun _ _ h=>h,fun _ _ h=>.inl h,Nat.le_refl _,fun _ _ _=>rfl,fun _ _ _=>rfl,fun b r h1 h2 _=>⟨b,r,h1,h2,rfl⟩,(Below.refl _ _).drew⟩
def upd (ρ : Rn) (b : Nat) (r : RB) : Rn:=fun c=>if c = b then some r else ρ c
theorem upd_self (ρ : Rn) (b : Nat) (r : RB) : upd ρ b r b = some r:=by simp [upd]
theorem upd_ne (ρ : Rn) {b c : Nat} (r : RB) (h : c ≠ b) : upd ρ b r c = ρ c:=by simp [upd,h]
theorem Sim.none_of (H : Sim P N ρ e w) {b : Nat} (h : e.n ≤ b) : ρ b = none:=by
 cases hq : ρ b with
 | none=>rfl
 | some r=>have:=(H.lt b r hq).1; omega
theorem sub_upd {b : Nat} {r : RB} (h : ρ b = none) : Sub ρ (upd ρ b r):=fun c s hc=>by
 by_cases e : c = b
 ·subst e; rw [h] at hc; cases hc
 ·rw [upd_ne _ _ e]; exact hc
theorem Sim.new (H : Sim P N ρ e w) {ob : EO} {O : Obj} {r : RB} (hr : r.blk = w.heap.size) (ho : OR P (upd ρ e.n r) (w.alloc O) ob r) :
  Sim P N (upd ρ e.n r) (e.new ob) (w.alloc O)∧Ext N ρ e w (upd ρ e.n r) (e.new ob) (w.alloc O):=by
 have hn:=H.none_of (Nat.le_refl e.n)
 have hs : Sub ρ (upd ρ e.n r):=sub_upd hn
 have hb : Below w.heap.size w (w.alloc O):=(Below.refl _ _).alloc (Nat.le_refl _) _
 have hsz : (w.alloc O).heap.size = w.heap.size + 1:=by simp
 have cs : ∀ b s,upd ρ e.n r b = some s→(b = e.n∧s = r) ∨ (b ≠ e.n∧ρ b = some s):=fun b s h=>by
  by_cases h1 : b = e.n
  ·subst h1; rw [upd_self] at h; exact .inl ⟨rfl,(Option.some.inj h).symm⟩
  ·rw [upd_ne _ _ h1] at h; exact .inr ⟨h1,h⟩
 have hg : ∀ b,b ≠ e.n→(e.new ob).get b = e.get b:=fun b h=>by rw [EW.get_new,if_neg h]
 have hl : ∀ b,b ≠ e.n→live (e.new ob) b→live e b:=fun b h h2=>by unfold live at h2 ⊢; rwa [hg b h] at h2
 refine ⟨⟨fun b s h=>?_,fun b s h=>?_,fun b b' s s' h h' l l' he=>?_,fun b s h=>?_,fun b h=>?_,by rw [hsz]; have:=H.hN; omega⟩,⟨hs,fun b s h=>?_,by rw [EW.new_n]; omega,fun b h _=>hg b (by omega),fun c hc _=>hb.block c hc,fun b s h l hlt=>?_,hb.mono H.hN⟩⟩
 ·rcases cs b s h with ⟨rfl,rfl⟩ | ⟨h1,h2⟩
  ·exact ⟨by rw [EW.new_n]; omega,by rw [hsz,hr]; omega⟩
  ·have:=H.lt b s h2; exact ⟨by rw [EW.new_n]; omega,by rw [hsz]; omega⟩
 ·rcases cs b s h with ⟨rfl,rfl⟩ | ⟨h1,h2⟩
  ·rw [EW.get_new,if_pos rfl]; exact ho
  ·rw [hg b h1]; exact (H.obj b s h2).mono hs fun _=>hb.block _ (H.lt b s h2).2
 ·rcases cs b s h with ⟨rfl,rfl⟩ | ⟨h1,h2⟩ <;> rcases cs b' s' h' with ⟨rfl,rfl⟩ | ⟨h3,h4⟩
  ·rfl
  ·have:=(H.lt b' s' h4).2; omega
  ·have:=(H.lt b s h2).2; omega
  ·exact H.inj b b' s s' h2 h4 (hl b h1 l) (hl b' h3 l') he
 ·rcases cs b s h with ⟨rfl,rfl⟩ | ⟨h1,h2⟩
  ·rw [hr]; exact H.hN
  ·exact H.ge b s h2
 ·rw [EW.new_n] at h
  rw [hg b (by omega)]; exact H.fresh b (by omega)
 ·rcases cs b s h with ⟨rfl,rfl⟩ | ⟨h1,h2⟩
  ·exact .inr (Nat.le_refl _)
  ·exact .inl h2
 ·rcases cs b s h with ⟨rfl,rfl⟩ | ⟨h1,h2⟩
  ·omega
  ·exact ⟨b,s,h2,hl b h1 l,rfl⟩
theorem Sim.put (H : Sim P N ρ e w) {b : Nat} {r : RB} {o' : EO} (hb : ρ b = some r) (hlv : live e b) (hs : w'.heap.size = w.heap.size) (hw : ∀ c,c ≠ r.blk→w'.heap[c]? = w.heap[c]?)
  (henv : w'.os = w.os∧w'.tape = w.tape∧w'.output = w.output) (ho : OR P ρ w' o' r) : Sim P N ρ (e.put b o') w'∧Ext N ρ e w ρ (e.put b o') w':=by
 have hg : ∀ c,c ≠ b→(e.put b o').get c = e.get c:=fun c h=>by rw [EW.get_put,if_neg h]
 have hself : (e.put b o').get b = o':=by rw [EW.get_put,if_pos rfl]
 have hl : ∀ c,live (e.put b o') c→live e c:=fun c h=>by
  by_cases h1 : c = b
  ·subst h1; exact hlv
  ·unfold live at h ⊢; rwa [hg c h1] at h
 refine ⟨⟨fun c s h=>?_,fun c s h=>?_,fun c c' s s' h h' l l' he=>H.inj c c' s s' h h' (hl c l) (hl c' l') he,H.ge,fun c h=>?_,by rw [hs]; exact H.hN⟩,
  ⟨fun _ _ h=>h,fun _ _ h=>.inl h,by rw [EW.put_n]; omega,fun c h hr=>?_,fun c hc hn=>hw c fun he=>hn b r hb hlv he.symm,fun c s h l _=>⟨c,s,h,hl c l,rfl⟩,
   ⟨henv.1,henv.2.1,henv.2.2,by omega,fun c hc=>hw c fun he=>by have:=H.ge b r hb; omega⟩⟩⟩
 ·have:=H.lt c s h; exact ⟨by rw [EW.put_n]; exact this.1,by rw [hs]; exact this.2⟩
 ·by_cases h1 : c = b
  ·subst h1; rw [hb] at h; obtain rfl:=Option.some.inj h; rw [hself]; exact ho
  ·rw [hg c h1]
   refine (H.obj c s h).mono (fun _ _ h=>h) fun hd=>hw _ fun he=>h1 (H.inj c b s r h hb hd hlv he)
 ·have hne : c ≠ b:=fun e1=>by have:=(H.lt b r hb).1; rw [EW.put_n] at h; omega
  rw [hg c hne]; exact H.fresh c (by rw [EW.put_n] at h; exact h)
 ·exact hg c fun e1=>by subst e1; rw [hb] at hr; cases hr
end ext
end Go.Proofs.YtejkhflkeoihlaaGreat.Ve
namespace Go.Proofs.YtejkhflkeoihlaaGreat.Ve
open Go.RowKit
set_option linter.unusedVariables false
set_option linter.unusedSimpArgs false
variable {P : Program} {N : Nat} {ρ : Rn} {e : EW} {w : World}
theorem ofVal_er (v : Value) : ER ρ (ofVal v) v:=by
 cases v with
 | int k n=>exact .i k n
 | bool q=>exact .b q
 | string s=>exact .s _ s rfl
 | agg a =>
  show ER ρ (match a.toList with | []=>.agg [] | _=>.sc (.agg a)) (.agg a)
  split
  ·rename_i h
   have : a = #[]:=by simpa using h
   subst this
   exact RC1.agg ⟨rfl,fun j x hj=>by simp at hj⟩
  ·exact .sc _
 | _=>exact .sc _
theorem ofVal_list (a : Array Value) : RL ρ (a.toList.map ofVal) a:=⟨by simp,fun j x hj=>by
 rw [List.getElem?_map,Option.map_eq_some_iff] at hj
 obtain ⟨v,hv,rfl⟩:=hj
 exact ⟨v,by simpa using hv,ofVal_er v⟩⟩
structure TyOk (P : Program) (t : TypeId) (ty : Ty) (i : TypeInfo) (z : Value) (d : TypeDesc) : Prop where
 info : P.info? t = some i
 under : P.underlying t = some d
 size : i.size = ty.size
 bytes : i.bytes = ty.bytes
 zero : i.zero = some z
 zc : z.cells.toList.map ofVal = ty.z
 zs : z.cells.size = ty.size
 z1 : ty.z.all isOne = true
 d : tdOf d = ty.d
 za : aggV z = aggD ty.d
theorem infoL_some {t : TypeId} {i : TypeInfo} (h : infoL P t = some i) : P.info? t = some i:=by
 unfold infoL at h
 rw [nthL_eq] at h
 have hlt : t < P.types.size:=by
  have:=(List.getElem?_eq_some_iff.1 h).1
  simpa using this
 unfold Tables.info?
 rw [if_pos hlt]
 simpa using h
theorem descL_some {t : TypeId} {i : TypeInfo} {d : TypeDesc} (hi : P.info? t = some i) (h : descL P i = some d) : P.underlying t = some d:=by
 unfold descL at h
 unfold Program.underlying
 rw [hi]
 split at h
 ·rename_i nm u hd
  cases hu : infoL P u with
  | none=>simp [hu] at h
  | some j =>
   simp only [hu] at h
   obtain ⟨d',s1,s2,s3,s4,s5,s6,s7,s8,s9⟩:=i
   simp only at hd
   subst hd
   simp [infoL_some hu]
   simpa using h
 ·rename_i hd
  obtain ⟨d',s1,s2,s3,s4,s5,s6,s7,s8,s9⟩:=i
  simp only at hd h
  cases d' <;> first | (exact absurd rfl (hd _ _)) | simpa using h
theorem tyOf_ok {t : TypeId} {ty : Ty} (h : tyOf P t = some ty) : ∃ i z d,TyOk P t ty i z d:=by
 unfold tyOf at h
 cases hi : infoL P t with
 | none=>simp [hi] at h
 | some i =>
  simp only [hi] at h
  cases hd : descL P i with
  | none=>simp [hd] at h
  | some d =>
   cases hz : i.zero with
   | none=>simp [hd,hz] at h
   | some z =>
    simp only [hd,hz,ifT_eq] at h
    split at h
    case isFalse=>cases h
    rename_i hq
    rw [forceN_eq] at h
    obtain rfl:=Option.some.inj h
    simp only [Bool.and_eq_true] at hq
    exact ⟨i,z,d,infoL_some hi,descL_some (infoL_some hi) hd,rfl,rfl,hz,rfl,Nat.eq_of_beq_eq_true hq.1.1,hq.1.2,rfl,by simpa using hq.2⟩
section types
variable {t : TypeId} {ty : Ty} {i : TypeInfo} {z : Value} {d : TypeDesc}
theorem TyOk.run_info (H : TyOk P t ty i z d) : (typeInfo t).run P w = .ok i w:=by simp [typeInfo,H.info]
theorem TyOk.run_size (H : TyOk P t ty i z d) : (sizeOf t).run P w = .ok ty.size w:=by simp [sizeOf,H.run_info,H.size]
theorem TyOk.run_zero (H : TyOk P t ty i z d) : (zeroValue t).run P w = .ok z w:=by simp [zeroValue,H.run_info,H.zero]
theorem TyOk.run_under (H : TyOk P t ty i z d) : (underlying t).run P w = .ok d w:=by simp [underlying,H.under]
theorem TyOk.run_agg (H : TyOk P t ty i z d) : (isAgg t).run P w = .ok ty.agg w:=by
 have hd:=H.d
 unfold isAgg Ty.agg
 cases d <;> simp only [tdOf] at hd <;> simp [H.run_under,← hd]
theorem TyOk.zeros (H : TyOk P t ty i z d) : RC1 ρ ty.z z.cells:=by
 refine ⟨by rw [H.zs,← H.zc]; simp [H.zs],fun j x hj=>?_⟩
 have h1:=List.all_eq_true.1 H.z1 x (List.mem_of_getElem? hj)
 rw [← H.zc,List.getElem?_map,Option.map_eq_some_iff] at hj
 obtain ⟨v,hv,rfl⟩:=hj
 exact ⟨v,by simpa using hv,ofVal_er v,isOne_er (ofVal_er (ρ:=ρ) v) h1⟩
theorem TyOk.zlen (H : TyOk P t ty i z d) : ty.z.length = ty.size:=by rw [← H.zc]; simp [H.zs]
end types
def TR (ρ : Rn) (t : Sl) (a : Act) : Prop:=a.tmps.size ≤ 256∧∀ i,i < 256→ER ρ (slot t i) (a.tmps.getD i undef)
theorem TR.mono {ρ' : Rn} {t : Sl} {a : Act} (h : TR ρ t a) (hs : Sub ρ ρ') : TR ρ' t a:=⟨h.1,fun i hi=>(h.2 i hi).mono hs⟩
theorem TR.op {t : Sl} {a : Act} (h : TR ρ t a) (x : Operand) : ER ρ (evS t x) (a.eval x):=by
 cases x with
 | tmp i =>
  show ER ρ (slot t i) (a.tmps.getD i undef)
  rcases Nat.lt_or_ge i 256 with hi | hi
  ·exact h.2 i hi
  ·rw [slot_ge _ hi]
   have h0 : a.tmps.size ≤ i:=Nat.le_trans h.1 hi
   have : a.tmps.getD i undef = undef:=by rw [Array.getD_eq_getD_getElem?,Array.getElem?_eq_none h0]; rfl
   rw [this]; exact .sc _
 | const v=>exact ofVal_er v
 | global g=>exact .sc _
 | func f=>exact .sc _
theorem TR.set {t : Sl} {a : Act} (h : TR ρ t a) {d : Nat} {x : EV} {v : Value} (hd : d < a.tmps.size) (hx : ER ρ x v) : TR ρ (setS t d x) { a with tmps:=a.tmps.setIfInBounds d v }:=by
 refine ⟨by simpa using h.1,fun i hi=>?_⟩
 rw [slot_setS _ _ _ (by have:=h.1; omega)]
 by_cases he : i = d
 ·subst he; rw [if_pos rfl]; simpa [Array.getD,hd] using hx
 ·rw [if_neg he]
  have:=h.2 i hi
  have e1 : (a.tmps.setIfInBounds d v).getD i undef = a.tmps.getD i undef:=by
   rw [Array.getD_eq_getD_getElem?,Array.getD_eq_getD_getElem?,Array.getElem?_setIfInBounds,if_neg (fun q : d = i=>he q.symm)]
  simp only [e1]; exact this
theorem cell_of {r : RB} {C : Array Value} {e' : TypeId} {fz : Nat × Nat} {o : Nat} (h : w.heap[r.blk]? = some (.cells C e' fz)) : w.cell? ⟨r.blk,o,none⟩ = C[o]?:=by
 simp [World.cell?,h]
theorem Sim.cell (H : Sim P N ρ e w) {b : Nat} {r : RB} {cs : List EV} {et : TypeId} {el : Bool} (hb : ρ b = some r) (hg : e.get b = .cells cs et el) {j : Nat} {x : EV} (hj : cs[j]? = some x) :
  ∃ v,w.cell? ⟨r.blk,r.sh + j,none⟩ = some v∧ER ρ x v∧v.oneCell' = true:=by
 have:=H.obj b r hb
 rw [hg] at this
 obtain ⟨C,e',fz,h1,h2,h3,h4,h5⟩:=this
 obtain ⟨v,a1,a2,a3⟩:=h4 j x hj
 exact ⟨v,by rw [cell_of h1]; exact a1,a2,a3⟩
theorem Sim.loadCells (H : Sim P N ρ e w) {b : Nat} {r : RB} {cs : List EV} {et : TypeId} {el : Bool} (hb : ρ b = some r) (hg : e.get b = .cells cs et el) {o n : Nat} (hn : n ≤ (cs.drop o).length) :
  ∃ a,(loadCells ⟨r.blk,r.sh + o,none⟩ n).run P w = .ok a w∧RC1 ρ ((cs.drop o).take n) a:=by
 have hc : ∀ j,j < n→∃ v,w.cell? ⟨r.blk,r.sh + o + j,none⟩ = some v∧(∀ x,cs[o + j]? = some x→ER ρ x v∧v.oneCell' = true):=fun j hj=>by
  have hlt : o + j < cs.length:=by simp at hn; omega
  obtain ⟨v,h1,h2,h3⟩:=H.cell hb hg (List.getElem?_eq_getElem hlt)
  exact ⟨v,by rw [Nat.add_assoc]; exact h1,fun x hx=>by rw [List.getElem?_eq_getElem hlt] at hx; obtain rfl:=Option.some.inj hx; exact ⟨h2,h3⟩⟩
 have:=run_loadCells (P:=P) (w:=w) ⟨r.blk,r.sh + o,none⟩ n (fun j=>(w.cell? ⟨r.blk,r.sh + o + j,none⟩).getD undef) (fun j hj=>by
  have : (⟨r.blk,r.sh + o,none⟩ : Addr).add j = ⟨r.blk,r.sh + o + j,none⟩:=by unfold Addr.add; split <;> simp_all
  rw [this]; obtain ⟨v,hv,_⟩:=hc j hj; rw [hv]; rfl)
 refine ⟨_,this,by simp at hn ⊢; omega,fun j x hj=>?_⟩
 have hjn : j < n:=by have:=(List.getElem?_eq_some_iff.1 hj).1; simp at this; omega
 rw [List.getElem?_take_of_lt hjn,List.getElem?_drop] at hj
 obtain ⟨v,h1,h2⟩:=hc j hjn
 exact ⟨v,by simp [hjn,h1],h2 x hj⟩
theorem storeCells_run (xs : List EV) : ∀ {e : EW} {w : World} {b o i : Nat} {r : RB} {cs : List EV} {et : TypeId} {el : Bool} {vs : List Value},Sim P N ρ e w→ρ b = some r→e.get b = .cells cs et el →
  o + i + xs.length ≤ cs.length→RC1 ρ xs vs.toArray →
  ∃ w',(storeCells ⟨r.blk,r.sh + o,none⟩ vs i).run P w = .ok () w'∧Sim P N ρ (e.put b (.cells (over cs (o + i) xs) et el)) w'∧Ext N ρ e w ρ (e.put b (.cells (over cs (o + i) xs) et el)) w':=by
 induction xs with
 | nil =>
  intro e w b o i r cs et el vs H hb hg hle hv
  obtain rfl : vs = []:=by have:=hv.1; simpa using this
  obtain ⟨H',he⟩:=H.put (o':=.cells cs et el) hb (by unfold live; rw [hg]; simp) rfl (fun _ _=>rfl) ⟨rfl,rfl,rfl⟩ (by have:=H.obj b r hb; rwa [hg] at this)
  exact ⟨w,rfl,H',he⟩
 | cons x xs ih =>
  intro e w b o i r cs et el vs H hb hg hle hv
  cases vs with
  | nil=>have:=hv.1; simp at this
  | cons v vs =>
   simp only [List.length_cons] at hle
   obtain ⟨v',hv',hr,ho⟩:=hv.2 0 x rfl
   obtain rfl : v = v':=by simpa using hv'
   have hob:=H.obj b r hb
   rw [hg] at hob
   obtain ⟨C,e',fz,h1,h2,h3,h4,h5,h6,h7⟩:=hob
   have hlv : live e b:=by unfold live; rw [hg]; simp
   obtain ⟨v0,c1,_,_⟩:=h4 (o + i) cs[o + i] (List.getElem?_eq_getElem (by omega))
   have hlt : r.sh + (o + i) < C.size:=(Array.getElem?_eq_some_iff.1 c1).1
   have hcell : w.cell? ⟨r.blk,r.sh + o + i,none⟩ = some v0:=by rw [cell_of h1,Nat.add_assoc]; exact c1
   have hfz : w.frozen? ⟨r.blk,r.sh + o + i,none⟩ = false:=by
    have:=h5 (r.sh + o + i) (by omega)
    simp only [World.frozen?,h1]
    simpa using this
   have hblk : r.blk < w.heap.size:=(H.lt b r hb).2
   have hheap : (w.setCell ⟨r.blk,r.sh + o + i,none⟩ v).heap[r.blk]? = some (.cells (C.setIfInBounds (r.sh + o + i) v) e' fz):=by
    simp only [World.setCell,Array.getElem?_modify,h1,Option.map_some]
    simp
   obtain ⟨H1,he1⟩:=H.put (w':=w.setCell ⟨r.blk,r.sh + o + i,none⟩ v) (o':=.cells (cs.set (o + i) x) et el) hb hlv (by simp) (fun c hc=>Below.heap_setCell _ _ _ _ hc) ⟨rfl,rfl,rfl⟩
    ⟨_,e',fz,hheap,by simpa using h2,by simpa using h3,fun j y hj=>by
     by_cases hjo : j = o + i
     ·subst hjo
      rw [List.getElem?_set_self (by omega)] at hj
      obtain rfl:=Option.some.inj hj
      exact ⟨v,by rw [Array.getElem?_setIfInBounds]; simp [show r.sh + o + i = r.sh + (o + i) by omega,hlt],hr,ho⟩
     ·rw [List.getElem?_set_ne (fun q=>hjo q.symm)] at hj
      obtain ⟨u,a1,a2,a3⟩:=h4 j y hj
      exact ⟨u,by rw [Array.getElem?_setIfInBounds,if_neg (by omega)]; exact a1,a2,a3⟩,h5,h6,h7⟩
   have hg1 : (e.put b (.cells (cs.set (o + i) x) et el)).get b = .cells (cs.set (o + i) x) et el:=by rw [EW.get_put,if_pos rfl]
   obtain ⟨w',hw',H2,he2⟩:=ih (o:=o) (i:=i + 1) (vs:=vs) H1 hb hg1 (by simp; omega) ⟨by have:=hv.1; simpa using this,fun j y hj=>by
    obtain ⟨u,a1,a2⟩:=hv.2 (j + 1) y (by simpa using hj)
    exact ⟨u,by simpa using a1,a2⟩⟩
   have hput : ∀ c,((e.put b (.cells (cs.set (o + i) x) et el)).put b (.cells (over (cs.set (o + i) x) (o + (i + 1)) xs) et el)).get c = (e.put b (.cells (over cs (o + i) (x :: xs)) et el)).get c:=fun c=>by
    simp only [EW.get_put]; split <;> simp [over,Nat.add_assoc]
   refine ⟨w',?_,?_,?_⟩
   ·have hadd : (⟨r.blk,r.sh + o,none⟩ : Addr).add i = ⟨r.blk,r.sh + o + i,none⟩:=by unfold Addr.add; split <;> simp_all
    simp only [storeCells,Sem.run_bind,run_store _ _ _ _ _ ho,hadd,hcell,hfz,Bool.false_eq_true,if_false,Result.andThen_ok]
    exact hw'
   ·exact ⟨H2.lt,fun c s hc=>by rw [← hput c]; exact H2.obj c s hc,fun c c' s s' a1 a2 l1 l2 q=>H2.inj c c' s s' a1 a2 (by unfold live at l1 ⊢; rwa [hput c]) (by unfold live at l2 ⊢; rwa [hput c']) q,H2.ge,fun c hc=>by rw [← hput c]; exact H2.fresh c hc,H2.hN⟩
   ·have he:=he1.trans he2
    exact ⟨he.sub,he.new,he.n,fun c a1 a2=>by rw [← hput c]; exact he.fa c a1 a2,he.fc,fun c s a1 l a3=>he.lv c s a1 (by unfold live at l ⊢; rwa [hput c]) a3,he.bel⟩
end Go.Proofs.YtejkhflkeoihlaaGreat.Ve
namespace Go.Proofs.YtejkhflkeoihlaaGreat.Ve
open Go.RowKit
set_option linter.unusedVariables false
set_option linter.unusedSimpArgs false
variable {P : Program} {N : Nat} {ρ : Rn} {e : EW} {w : World}
def CallOk (P : Program) (call : Caller) : Prop:=∀ g args e x e',call g args e = .ok x e'→∀ N ρ w vs,Sim P N ρ e w→RL ρ args vs →
 Calls P g vs w fun en w'=>∃ v ρ',en = .returned v∧Sim P N ρ' e' w'∧Ext N ρ e w ρ' e' w'∧ER ρ' x v
def TRo (ρ : Rn) (t : Sl) (a : Act) (o : Oper) : Prop:=∀ y ∈ o.op.operands,ER ρ (evS t y) (a.eval y)
theorem TRo.op {ρ : Rn} {t : Sl} {a : Act} {o : Oper} (h : TRo ρ t a o) (x : Operand) (hx : x ∈ o.op.operands:=by simp [*,Op.operands,Call.operands]) : ER ρ (evS t x) (a.eval x):=h x hx
theorem TRo.ops {ρ : Rn} {t : Sl} {a : Act} {o : Oper} (h : TRo ρ t a o) (l : List Operand) (hl : ∀ x ∈ l,x ∈ o.op.operands:=by (intro x hx; simp [*,Op.operands,Call.operands] at hx ⊢; simp [*])) : RL ρ (l.map (evS t)) (l.map a.eval).toArray:=⟨by simp,fun j x hj=>by
 rw [List.getElem?_map,Option.map_eq_some_iff] at hj
 obtain ⟨o',ho,rfl⟩:=hj
 exact ⟨a.eval o',by simp [ho],h o' (hl o' (List.mem_of_getElem? ho))⟩⟩
theorem TR.o {ρ : Rn} {t : Sl} {a : Act} (h : TR ρ t a) (o : Oper) : TRo ρ t a o:=fun y _=>h.op y
def DfOk (P : Program) (ρ : Rn) (p : FuncId × List EV) (d : Deferred) : Prop:=∃ fv cap vs,d.target = .fn fv cap∧(∀ w,(invoke d.target d.args).run P w = .ok (.enter p.1 vs) w)∧RL ρ p.2 vs
def CoOk (P : Program) (o : Oper) : CO→Prop
 | .p f=>∀ ρ t a w x,TRo ρ t a o→f t = some x→∃ v,(execOp a.eval o).run P w = .ok (.value v) w∧ER ρ x v
 | .r f=>∀ N ρ e t a w x,Sim P N ρ e w→TRo ρ t a o→f t e = some x→∃ v,(execOp a.eval o).run P w = .ok (.value v) w∧ER ρ x v
 | .a f=>∀ N ρ e t a w ob vf,Sim P N ρ e w→TRo ρ t a o→f t = .ok ob vf→∃ v O r,(execOp a.eval o).run P w = .ok (.value v) (w.alloc O)∧r.blk = w.heap.size ∧
   ∀ b,ρ b = none→OR P (upd ρ b r) (w.alloc O) ob r∧ER (upd ρ b r) (vf b) v
 | .m f=>∀ call,CallOk P call→∀ N ρ e t a w x e' K Q,Sim P N ρ e w→TRo ρ t a o→f call t e = .ok x e' →
   (∀ v ρ' w',Sim P N ρ' e' w'→Ext N ρ e w ρ' e' w'→ER ρ' x v→K (a.put o.dst v) w')→o.wp P a w K Q
 | .d f=>∀ ρ t a w p,TRo ρ t a o→f t = some p→∃ d,(execOp a.eval o).run P w = .ok (.defer d) w∧DfOk P ρ p d
 | .rcv=>∀ (a : Act) (w : World),(execOp a.eval o).run P w = .ok .recover w
 | .bad=>True
theorem thenV {s : Sem Value} {v : Value} {w w' : World} (h : s.run P w = .ok v w') : (do pure (.value (← s)) : Sem Next).run P w = .ok (.value v) w':=by simp [h]
section elims
variable {x : EV} {y : EV}
theorem onRefE_some {f : Nat→Nat→Option EV} (h : onRefE x f = some y) : ∃ b o,x = .ref b o∧f b o = some y:=by cases x <;> first | exact ⟨_,_,rfl,h⟩ | cases h
theorem onSlE_some {f : Nat→Nat→Nat→Nat→Option EV} (h : onSlE x f = some y) : ∃ b o n c,x = .sl b o n c∧f b o n c = some y:=by cases x <;> first | exact ⟨_,_,_,_,rfl,h⟩ | cases h
theorem onIE_some {f : IntKind→Int→Option EV} (h : onIE x f = some y) : ∃ k n,x = .i k n∧f k n = some y:=by cases x <;> first | exact ⟨_,_,rfl,h⟩ | cases h
theorem onNE_some {f : Nat→Option EV} (h : onNE x f = some y) : ∃ k n,x = .i k (.ofNat n)∧f n = some y:=by
 cases x with
 | i k n=>cases n with
  | ofNat m=>exact ⟨k,m,rfl,h⟩
  | negSucc m=>cases h
 | _=>cases h
theorem onBE_some {f : Bool→Option EV} (h : onBE x f = some y) : ∃ q,x = .b q∧f q = some y:=by cases x <;> first | exact ⟨_,rfl,h⟩ | cases h
theorem onSE_some {f : List Nat→Option EV} (h : onSE x f = some y) : ∃ l,x = .s l∧f l = some y:=by cases x <;> first | exact ⟨_,rfl,h⟩ | cases h
theorem onAggE_some {f : List EV→Option EV} (h : onAggE x f = some y) : ∃ l,x = .agg l∧f l = some y:=by cases x <;> first | exact ⟨_,rfl,h⟩ | cases h
theorem onCellsE_some {o : EO} {f : List EV→Option EV} (h : onCellsE o f = some y) : ∃ cs t el,o = .cells cs t el∧f cs = some y:=by cases o <;> first | exact ⟨_,_,_,rfl,h⟩ | cases h
theorem ifE_some {q : Bool} {z : Option EV} (h : ifE q z = some y) : q = true∧z = some y:=by cases q <;> first | exact ⟨rfl,h⟩ | cases h
theorem someN_some {q : Option Nat} {f : Nat→Option EV} (h : someN q f = some y) : ∃ n,q = some n∧f n = some y:=by cases q <;> first | exact ⟨_,rfl,h⟩ | cases h
theorem refF_some {b o : Nat} (h : refF b o = some y) : y = .ref b o:=by unfold refF at h; rw [forceN_eq] at h; exact (Option.some.inj h).symm
theorem boolF_eq (q : Bool) : boolF q = some (.b q):=by cases q <;> rfl
end elims
theorem ble_iff {a b : Nat} (h : Nat.ble a b = true) : a ≤ b:=Nat.le_of_ble_eq_true h
section er
variable {v : Value}
theorem ER.ref_inv {b o : Nat} (h : ER ρ (.ref b o) v) : ∃ r,ρ b = some r∧v = .pointer (some ⟨r.blk,r.sh + o,none⟩):=by cases h with | ref b o r h=>exact ⟨r,h,rfl⟩
theorem ER.i_inv {k : IntKind} {n : Int} (h : ER ρ (.i k n) v) : v = .int k n:=by cases h; rfl
theorem ER.b_inv {q : Bool} (h : ER ρ (.b q) v) : v = .bool q:=by cases h; rfl
theorem ER.sc_inv {u : Value} (h : ER ρ (.sc u) v) : v = u:=by cases h; rfl
theorem ER.s_inv {l : List Nat} (h : ER ρ (.s l) v) : ∃ b : ByteArray,v = .string b∧b.data.toList.map UInt8.toNat = l:=by cases h with | s l b h=>exact ⟨b,rfl,h⟩
theorem ER.agg_inv {cs : List EV} (h : ER ρ (.agg cs) v) : ∃ a,v = .agg a∧RC1 ρ cs a:=by
 cases h with
 | agg cs a vs ha hv hr=>exact ⟨a,rfl,ha,fun j x hj=>⟨vs j,(hv j x hj).1,hr j x hj,(hv j x hj).2⟩⟩
theorem ER.tup_inv {cs : List EV} (h : ER ρ (.tup cs) v) : ∃ a,v = .tuple a∧RL ρ cs a:=by
 cases h with
 | tup cs a vs ha hv hr=>exact ⟨a,rfl,ha,fun j x hj=>⟨vs j,hv j x hj,hr j x hj⟩⟩
theorem ER.ifc_inv {t : TypeId} {x : EV} (h : ER ρ (.ifc t x) v) : ∃ u,v = .iface t u∧ER ρ x u:=by cases h with | ifc t x u h=>exact ⟨u,rfl,h⟩
theorem ER.fn_inv {f : Fn} {fi cs : List EV} (h : ER ρ (.fn f fi cs) v) : ∃ a c,v = .func f a c∧RL ρ fi a∧RL ρ cs c:=by
 cases h with
 | fn f fi cs a c va vc ha hc h1 h2 r1 r2=>exact ⟨a,c,rfl,⟨ha,fun j x hj=>⟨va j,h1 j x hj,r1 j x hj⟩⟩,hc,fun j x hj=>⟨vc j,h2 j x hj,r2 j x hj⟩⟩
theorem ER.mp_inv {b : Nat} (h : ER ρ (.mp b) v) : ∃ r,ρ b = some r∧v = .map (some r.blk):=by cases h with | mp b r h=>exact ⟨r,h,rfl⟩
end er
section plain
variable {o : Oper}
theorem moveC_ok {x : Operand} (h : o.op = .move x ∨ o.op = .assign x) : CoOk P o (moveC x):=by
 simp only [moveC,opdC_eq]
 intro ρ t a w y ht hf
 obtain rfl:=Option.some.inj hf
 exact ⟨a.eval x,by rcases h with h | h <;> simp [execOp,h],ht x (by rcases h with h | h <;> simp [h,Op.operands])⟩
theorem pickC_ok {c x y : Operand} (h : o.op = .pick c x y) : CoOk P o (pickC c x y):=by
 simp only [pickC,opdC_eq]
 intro ρ t a w z ht hf
 obtain ⟨q,hq,hf⟩:=onBE_some hf
 have hc:=ht.op c
 rw [hq] at hc
 have hc:=hc.b_inv
 cases q
 ·obtain rfl:=Option.some.inj hf
  exact ⟨a.eval y,by simp [execOp,h,hc,asBool],ht.op y⟩
 ·obtain rfl:=Option.some.inj hf
  exact ⟨a.eval x,by simp [execOp,h,hc,asBool],ht.op x⟩
theorem nilCheckC_ok {x : Operand} (h : o.op = .nilCheck x) : CoOk P o (nilCheckC x):=by
 simp only [nilCheckC,opdC_eq]
 intro ρ t a w z ht hf
 have hx:=ht.op x
 dsimp only at hf
 refine ⟨a.eval x,?_,?_⟩
 ·generalize hy : evS t x = y at hx hf
  generalize hv : a.eval x = v at hx
  unfold nilC at hf
  split at hf
  ·obtain ⟨r,_,rfl⟩:=hx.ref_inv; simp [execOp,h,hv]
  ·obtain ⟨a1,c1,rfl,_⟩:=hx.fn_inv; simp [execOp,h,hv]
  ·obtain ⟨u,rfl,_⟩:=hx.ifc_inv; simp [execOp,h,hv]
  ·obtain rfl:=hx.sc_inv; simp [execOp,h,hv]
  ·obtain rfl:=hx.sc_inv; simp [execOp,h,hv]
  ·cases hf
 ·generalize hy : evS t x = y at hx hf
  unfold nilC at hf
  split at hf <;> first | (cases hf; done) | (obtain rfl:=Option.some.inj hf; exact hx)
theorem ifaceC_ok {xt : TypeId} {x : Operand} (h : o.op = .makeInterface xt x) : CoOk P o (ifaceC P xt x):=by
 unfold ifaceC
 rw [opdC_eq]
 cases hq : concQ P xt with
 | true =>
  intro ρ t a w z ht hf
  obtain rfl:=Option.some.inj hf
  refine ⟨.iface xt (a.eval x),?_,.ifc _ _ _ (ht.op x)⟩
  simp only [execOp,h]
  refine thenV ?_
  unfold concQ at hq
  cases hu : tyOf P xt with
  | none=>simp [hu] at hq
  | some ty =>
   obtain ⟨i,zv,d,Ht⟩:=tyOf_ok hu
   simp only [hu] at hq
   simp only [Instr.makeInterface,Sem.run_bind,Ht.run_under,Result.andThen_ok]
   have hd:=Ht.d
   cases d <;> simp only [tdOf] at hd <;> first | rfl | (rw [← hd] at hq; cases hq)
 | false=>trivial
theorem funcC_ok {f : Fn} {fi cs : Array Operand} (h : o.op = .makeFunc f fi cs) : CoOk P o (funcC f fi cs):=by
 simp only [funcC,opdsC_eq]
 intro ρ t a w z ht hf
 obtain rfl:=Option.some.inj hf
 refine ⟨.func f (fi.map a.eval) (cs.map a.eval),by simp only [execOp,h]; exact thenV (by simp [Instr.makeFunc]),?_⟩
 have h1:=ht.ops fi.toList (fun x hx=>by rw [h]; simp [Op.operands] at hx ⊢; exact .inl hx)
 have h2:=ht.ops cs.toList (fun x hx=>by rw [h]; simp [Op.operands] at hx ⊢; exact .inr hx)
 have e1 : (fi.toList.map a.eval).toArray = fi.map a.eval:=by rw [← Array.toList_map]
 have e2 : (cs.toList.map a.eval).toArray = cs.map a.eval:=by rw [← Array.toList_map]
 rw [e1] at h1; rw [e2] at h2
 exact h1.fn h2
theorem extractC_ok {x : Operand} {i : Nat} (h : o.op = .extract x i) : CoOk P o (extractC x i):=by
 simp only [extractC,opdC_eq]
 intro ρ t a w z ht hf
 have hx:=ht.op x
 dsimp only at hf
 generalize hv : a.eval x = v at hx
 split at hf
 ·rename_i cs hy
  rw [hy] at hx
  obtain ⟨b,rfl,hl⟩:=hx.tup_inv
  rw [nthX_eq] at hf
  obtain ⟨u,hu,hr⟩:=hl.2 i z hf
  exact ⟨u,by simp only [execOp,h]; exact thenV (by simp [hv,Instr.extract,hu]),hr⟩
 ·rename_i vs hy
  rw [hy] at hx
  obtain rfl:=hx.sc_inv
  split at hf
  ·rename_i u hu
   obtain rfl:=Option.some.inj hf
   exact ⟨u,by simp only [execOp,h]; exact thenV (by simp [hv,Instr.extract,hu]),ofVal_er u⟩
  ·cases hf
 ·cases hf
end plain
end Go.Proofs.YtejkhflkeoihlaaGreat.Ve
namespace Go.Proofs.YtejkhflkeoihlaaGreat.Ve
open Go.RowKit
set_option linter.unusedVariables false
set_option linter.unusedSimpArgs false
variable {P : Program} {N : Nat} {ρ : Rn} {e : EW} {w : World} {o : Oper}
theorem addr_add (b o n : Nat) : (⟨b,o,none⟩ : Addr).add n = ⟨b,o + n,none⟩:=by
 unfold Addr.add; split <;> simp_all
theorem offOf_eq (l : List (Nat × TypeId)) : ∀ n,offOf l n = l[n]?:=by
 induction l with
 | nil=>intro n; cases n <;> rfl
 | cons x l ih=>intro n; cases n with
  | zero=>rfl
  | succ n=>exact (ih n).trans (by simp)
theorem beq_nat {a b : Nat} (h : Nat.beq a b = true) : a = b:=Nat.eq_of_beq_eq_true h
theorem field_of {s : TypeId} {sz by_ : Nat} {fs : List (Nat × TypeId)} {z : List EV} {f d : Nat} {u : TypeId} (hs : tyOf P s = some ⟨sz,by_,.struct fs,z⟩) (hf : offOf fs f = some (d,u)) :
  ∃ (fields : Array Field) (fl : Field),P.underlying s = some (.struct fields)∧fields[f]? = some fl∧fl.offset = d∧fl.type = u:=by
 obtain ⟨i,zv,dd,Hs⟩:=tyOf_ok hs
 have hd:=Hs.d
 cases dd <;> simp only [tdOf] at hd <;> try (cases hd; done)
 rename_i fields
 simp only [TD.struct.injEq] at hd
 rw [offOf_eq,← hd,List.getElem?_map,Option.map_eq_some_iff] at hf
 obtain ⟨fl,h1,h2⟩:=hf
 obtain ⟨h3,h4⟩ : fl.offset = d∧fl.type = u:=by simpa using h2
 exact ⟨fields,fl,Hs.under,by simpa using h1,h3,h4⟩
theorem slice_of {t : TypeId} {sz by_ : Nat} {el : TypeId} {z : List EV} (ht : tyOf P t = some ⟨sz,by_,.slice el,z⟩) : P.underlying t = some (.slice el):=by
 obtain ⟨i,zv,dd,Hs⟩:=tyOf_ok ht
 have hd:=Hs.d
 cases dd <;> simp only [tdOf] at hd <;> try (cases hd; done)
 simp only [TD.slice.injEq] at hd
 rw [← hd]; exact Hs.under
theorem array_of {t : TypeId} {sz by_ n : Nat} {el : TypeId} {z : List EV} (ht : tyOf P t = some ⟨sz,by_,.array n el,z⟩) : P.underlying t = some (.array n el):=by
 obtain ⟨i,zv,dd,Hs⟩:=tyOf_ok ht
 have hd:=Hs.d
 cases dd <;> simp only [tdOf] at hd <;> try (cases hd; done)
 simp only [TD.array.injEq] at hd
 rw [← hd.1,← hd.2]; exact Hs.under
theorem map_of {t : TypeId} {sz by_ : Nat} {k el : TypeId} {z : List EV} (ht : tyOf P t = some ⟨sz,by_,.map k el,z⟩) : P.underlying t = some (.map k el):=by
 obtain ⟨i,zv,dd,Hs⟩:=tyOf_ok ht
 have hd:=Hs.d
 cases dd <;> simp only [tdOf] at hd <;> try (cases hd; done)
 simp only [TD.map.injEq] at hd
 rw [← hd.1,← hd.2]; exact Hs.under
theorem string_of {t : TypeId} {sz by_ : Nat} {z : List EV} (ht : tyOf P t = some ⟨sz,by_,.string,z⟩) : P.underlying t = some .string:=by
 obtain ⟨i,zv,dd,Hs⟩:=tyOf_ok ht
 have hd:=Hs.d
 cases dd <;> simp only [tdOf] at hd <;> try (cases hd; done)
 exact Hs.under
theorem ptr_of {t : TypeId} {sz by_ : Nat} {el : TypeId} {z : List EV} (ht : tyOf P t = some ⟨sz,by_,.ptr el,z⟩) : P.underlying t = some (.pointer el):=by
 obtain ⟨i,zv,dd,Hs⟩:=tyOf_ok ht
 have hd:=Hs.d
 cases dd <;> simp only [tdOf] at hd <;> try (cases hd; done)
 simp only [TD.ptr.injEq] at hd
 rw [← hd]; exact Hs.under
theorem int_of {t : TypeId} {sz by_ : Nat} {k : IntKind} {z : List EV} (ht : tyOf P t = some ⟨sz,by_,.int k,z⟩) : P.underlying t = some (.int k):=by
 obtain ⟨i,zv,dd,Hs⟩:=tyOf_ok ht
 have hd:=Hs.d
 cases dd <;> simp only [tdOf] at hd <;> try (cases hd; done)
 simp only [TD.int.injEq] at hd
 rw [← hd]; exact Hs.under
theorem run_under' {t : TypeId} {d : TypeDesc} (h : P.underlying t = some d) : (underlying t).run P w = .ok d w:=by simp [underlying,h]
theorem fieldAddrC_ok {s : TypeId} {x : Operand} {f : Nat} (h : o.op = .fieldAddr s x f) : CoOk P o (fieldAddrC P s x f):=by
 unfold fieldAddrC
 rw [opdC_eq]
 split
 case h_2=>trivial
 rename_i sz by_ fs zz g hs hg
 obtain rfl:=(Get.mk.inj hg).symm
 split
 case h_2=>trivial
 rename_i d u hf
 obtain ⟨fields,fl,hu,hfl,rfl,rfl⟩:=field_of hs hf
 split
 case h_2=>trivial
 rename_i ty hty
 obtain ⟨i2,z2,d2,Ht⟩:=tyOf_ok hty
 rw [ifT_eq]
 split
 ·trivial
 rename_i hne
 have hne : ty.size ≠ 0:=fun q=>hne (by rw [q]; rfl)
 rw [forceN_eq]
 intro ρ t a w y ht hf
 obtain ⟨b,off,hb,hf⟩:=onRefE_some hf
 obtain rfl:=refF_some hf
 have hx:=ht.op x
 rw [show evS _ x = _ from hb] at hx
 obtain ⟨r,hr,hv⟩:=hx.ref_inv
 refine ⟨.pointer (some ⟨r.blk,r.sh + (off + fl.offset),none⟩),?_,.ref _ _ _ hr⟩
 simp only [execOp,h]
 refine thenV ?_
 rw [hv]
 simp only [Instr.fieldAt,Sem.run_bind,run_under' hu,Result.andThen_ok,hfl,Instr.sureAddr,Sem.run_pure,fieldPlace,Ht.run_size,hne,if_false,addr_add,Nat.add_assoc]
theorem part_run {u : TypeId} {ty : Ty} (hty : tyOf P u = some ty) {cs : List EV} {a : Array Value} {off : Nat} {y : EV} (hc : RC1 ρ cs a) (ho : aggX ty.agg ty.size off cs = some y) :
  ∃ v,(part u a off).run P w = .ok v w∧ER ρ y v∧(ty.agg = true→∃ l,y = .agg l):=by
 obtain ⟨i,z,d,Ht⟩:=tyOf_ok hty
 unfold part
 simp only [Sem.run_bind,Ht.run_agg,Result.andThen_ok]
 unfold aggX at ho
 split at ho
 ·rename_i hag
  rw [takeX_eq,dropX_eq] at ho
  split at ho
  case isFalse=>cases ho
  rename_i hle
  obtain rfl:=Option.some.inj ho
  simp only [hag,if_true,Sem.run_bind,Ht.run_size,Result.andThen_ok,Sem.run_pure]
  rcases Nat.eq_zero_or_pos ty.size with h0 | h0
  ·rw [h0]
   refine ⟨_,rfl,RC1.agg ⟨by simp; omega,fun j x hj=>by simp at hj⟩,fun _=>⟨_,rfl⟩⟩
  ·exact ⟨_,rfl,(hc.cut off ty.size (by simp at hle; omega)).agg,fun _=>⟨_,rfl⟩⟩
 ·rename_i hag
  rw [nthX_eq] at ho
  obtain ⟨v,hv,hr,_⟩:=hc.2 off y ho
  exact ⟨v,by simp [hag,hv],hr,fun q=>by rw [hag] at q; cases q⟩
theorem fieldC_ok {s : TypeId} {x : Operand} {f : Nat} (h : o.op = .field s x f) : CoOk P o (fieldC P s x f):=by
 unfold fieldC
 rw [opdC_eq]
 split
 case h_2=>trivial
 rename_i sz by_ fs zz g hs hg
 obtain rfl:=(Get.mk.inj hg).symm
 split
 case h_2=>trivial
 rename_i d u hf
 obtain ⟨fields,fl,hu,hfl,rfl,rfl⟩:=field_of hs hf
 split
 case h_2=>trivial
 rename_i ty hty
 have key : ∀ (ρ : Rn) (t : Sl) (a : Act) (w : World) (y : EV),TRo ρ t a o→(onAggE (evS t x) fun cs=>aggX ty.agg ty.size fl.offset cs) = some y→∃ v,(execOp a.eval o).run P w = .ok (.value v) w∧ER ρ y v:=by
  intro ρ t a w y ht hf
  obtain ⟨cs,hb,hf⟩:=onAggE_some hf
  have hx:=ht.op x
  rw [show evS _ x = _ from hb] at hx
  obtain ⟨arr,hv,hc⟩:=hx.agg_inv
  obtain ⟨v,h1,h2,_⟩:=part_run (w:=w) hty hc hf
  refine ⟨v,?_,h2⟩
  simp only [execOp,h]
  refine thenV ?_
  rw [hv]
  simp only [Instr.field,Sem.run_bind,run_under' hu,Result.andThen_ok,hfl,asAgg,Sem.run_pure,h1]
 cases hag : ty.agg with
 | true =>
  simp only [forceN_eq]
  intro ρ t a w y ht hf
  refine key ρ t a w y ht ?_
  rw [hag]; exact hf
 | false =>
  simp only [forceN_eq]
  intro ρ t a w y ht hf
  refine key ρ t a w y ht ?_
  rw [hag]; exact hf
theorem indexAddrC_ok {t : TypeId} {x i : Operand} (h : o.op = .indexAddr t x i) : CoOk P o (indexAddrC P t x i):=by
 unfold indexAddrC
 rw [opdC_eq,opdC_eq]
 split
 case h_3=>trivial
 ·rename_i sz by_ el zz g gi hs hg hgi
  obtain rfl:=(Get.mk.inj hg).symm
  obtain rfl:=(Get.mk.inj hgi).symm
  have hu:=slice_of hs
  split
  case h_2=>trivial
  rename_i ty hty
  obtain ⟨i2,z2,d2,Ht⟩:=tyOf_ok hty
  rw [forceN_eq]
  intro ρ s a w y ht hf
  obtain ⟨k,n,hi,hf⟩:=onNE_some hf
  obtain ⟨b,off,len,cap,hb,hf⟩:=onSlE_some hf
  obtain ⟨hlt,hf⟩:=ifE_some hf
  obtain rfl:=refF_some hf
  have hlt:=ble_iff hlt
  have hx:=ht.op x
  rw [show evS _ x = _ from hb] at hx
  have hiv:=ht.op i
  rw [show evS _ i = _ from hi] at hiv
  have hiv:=hiv.i_inv
  generalize hv : a.eval x = v at hx
  cases hx with
  | sl b o' len cap r ad cap' hr hl hc ha hT =>
   refine ⟨.pointer (some ⟨r.blk,r.sh + (off + n * ty.size),none⟩),?_,.ref _ _ _ hr⟩
   simp only [execOp,h]
   refine thenV ?_
   rw [hv,hiv]
   have h0 : (0 : Int) ≤ (n : Int)∧(n : Int) < (len : Int):=by omega
   have e1:=ha (by omega)
   subst e1
   simp only [Instr.indexAt,asIntOf,Sem.run_bind,Sem.run_pure,Result.andThen_ok,run_under' hu,Int.ofNat_eq_natCast,h0,and_self,if_true,Ht.run_size,addr_add,Int.toNat_natCast,Nat.add_assoc]
 ·rename_i sz by_ n el zz g gi hs hg hgi
  obtain rfl:=(Get.mk.inj hg).symm
  obtain rfl:=(Get.mk.inj hgi).symm
  have hu:=array_of hs
  split
  case h_2=>trivial
  rename_i ty hty
  obtain ⟨i2,z2,d2,Ht⟩:=tyOf_ok hty
  rw [forceN_eq]
  intro ρ s a w y ht hf
  obtain ⟨k,m,hi,hf⟩:=onNE_some hf
  obtain ⟨b,off,hb,hf⟩:=onRefE_some hf
  obtain ⟨hlt,hf⟩:=ifE_some hf
  obtain rfl:=refF_some hf
  have hlt:=ble_iff hlt
  have hx:=ht.op x
  rw [show evS _ x = _ from hb] at hx
  have hiv:=ht.op i
  rw [show evS _ i = _ from hi] at hiv
  have hiv:=hiv.i_inv
  obtain ⟨r,hr,hv⟩:=hx.ref_inv
  refine ⟨.pointer (some ⟨r.blk,r.sh + (off + m * ty.size),none⟩),?_,.ref _ _ _ hr⟩
  simp only [execOp,h]
  refine thenV ?_
  rw [hv,hiv]
  have h0 : (0 : Int) ≤ (m : Int)∧(m : Int) < (n : Int):=by omega
  simp only [Instr.indexAt,asIntOf,Sem.run_bind,Sem.run_pure,Result.andThen_ok,run_under' hu,Int.ofNat_eq_natCast,h0,and_self,if_true,Ht.run_size,addr_add,Int.toNat_natCast,Nat.add_assoc,Instr.sureAddr]
theorem nthB_eq (l : List Nat) : ∀ (n : Nat) (y : EV),nthB l n = some y→∃ c,l[n]? = some c∧y = .i .u8 (.ofNat c):=by
 induction l with
 | nil=>intro n y h; cases h
 | cons x l ih=>intro n y h; cases n with
  | zero =>
   have h : forceN x (fun x=>some (EV.i .u8 (.ofNat x))) = some y:=h
   rw [forceN_eq] at h
   exact ⟨x,rfl,(Option.some.inj h).symm⟩
  | succ n=>exact ih n y h
theorem indexC_ok {t : TypeId} {x i : Operand} (h : o.op = .index t x i) : CoOk P o (indexC P t x i):=by
 unfold indexC
 rw [opdC_eq,opdC_eq]
 split
 case h_3=>trivial
 ·rename_i sz by_ n el zz g gi hs hg hgi
  obtain rfl:=(Get.mk.inj hg).symm
  obtain rfl:=(Get.mk.inj hgi).symm
  have hu:=array_of hs
  split
  case h_2=>trivial
  rename_i ty hty
  obtain ⟨i2,z2,d2,Ht⟩:=tyOf_ok hty
  intro ρ s a w y ht hf
  obtain ⟨k,m,hi,hf⟩:=onNE_some hf
  obtain ⟨hlt,hf⟩:=ifE_some hf
  have hlt:=ble_iff hlt
  obtain ⟨cs,hb,hf⟩:=onAggE_some hf
  have hx:=ht.op x
  rw [show evS _ x = _ from hb] at hx
  have hiv:=ht.op i
  rw [show evS _ i = _ from hi] at hiv
  have hiv:=hiv.i_inv
  obtain ⟨arr,hv,hc⟩:=hx.agg_inv
  obtain ⟨v,h1,h2,_⟩:=part_run (w:=w) hty hc hf
  refine ⟨v,?_,h2⟩
  simp only [execOp,h]
  refine thenV ?_
  rw [hv,hiv]
  have h0 : (0 : Int) ≤ (m : Int)∧(m : Int) < (n : Int):=by omega
  have h1' : (part el arr (m * ty.size)).run P w = .ok v w:=h1
  simp only [Instr.index,asIntOf,Sem.run_bind,Sem.run_pure,Result.andThen_ok,run_under' hu,Int.ofNat_eq_natCast,h0,and_self,if_true,Ht.run_size,Int.toNat_natCast,h1']
 ·rename_i sz by_ zz g gi hs hg hgi
  obtain rfl:=(Get.mk.inj hg).symm
  obtain rfl:=(Get.mk.inj hgi).symm
  have hu:=string_of hs
  intro ρ s a w y ht hf
  obtain ⟨k,m,hi,hf⟩:=onNE_some hf
  obtain ⟨l,hb,hf⟩:=onSE_some hf
  obtain ⟨c,hc,rfl⟩:=nthB_eq l m y hf
  have hx:=ht.op x
  rw [show evS _ x = _ from hb] at hx
  have hiv:=ht.op i
  rw [show evS _ i = _ from hi] at hiv
  have hiv:=hiv.i_inv
  obtain ⟨bs,hv,hl⟩:=hx.s_inv
  rw [← hl,List.getElem?_map,Option.map_eq_some_iff] at hc
  obtain ⟨u,hu8,rfl⟩:=hc
  refine ⟨.int .u8 u.toNat,?_,.i _ _⟩
  simp only [execOp,h]
  refine thenV ?_
  rw [hv,hiv]
  have hg8 : bs[m]? = some u:=by
   have hlt : m < bs.data.size:=by have:=(List.getElem?_eq_some_iff.1 hu8).1; simpa using this
   have h2 : bs.data[m]? = some u:=by simpa using hu8
   rw [Array.getElem?_eq_getElem hlt] at h2
   show (if h : m < bs.size then some (bs.data[m]) else none) = some u
   rw [dif_pos (show m < bs.size from hlt)]
   exact h2
  simp only [Instr.index,asIntOf,Sem.run_bind,Sem.run_pure,Result.andThen_ok,run_under' hu,Int.ofNat_eq_natCast,Int.natCast_nonneg,if_true,Int.toNat_natCast,hg8]
theorem loadC_ok {t : TypeId} {x : Operand} (h : o.op = .load t x) : CoOk P o (loadC P t x):=by
 unfold loadC
 rw [opdC_eq]
 split
 case h_2=>trivial
 rename_i ty g hty hg
 obtain rfl:=(Get.mk.inj hg).symm
 obtain ⟨i,z,d,Ht⟩:=tyOf_ok hty
 cases hag : ty.agg with
 | true =>
  simp only [forceN_eq]
  intro N ρ e s a w y H ht hf
  obtain ⟨b,off,hb,hf⟩:=onRefE_some hf
  obtain ⟨cs,et,el,hc,hf⟩:=onCellsE_some hf
  rw [takeX_eq,dropX_eq] at hf
  split at hf
  case isFalse=>cases hf
  rename_i hle
  obtain rfl:=Option.some.inj hf
  have hx:=ht.op x
  rw [show evS _ x = _ from hb] at hx
  obtain ⟨r,hr,hv⟩:=hx.ref_inv
  obtain ⟨arr,h1,h2⟩:=H.loadCells hr hc hle
  refine ⟨.agg arr,?_,h2.agg⟩
  simp only [execOp,h]
  refine thenV ?_
  rw [hv]
  simp only [Instr.loadAt,Instr.sureAddr,Sem.run_bind,Sem.run_pure,Result.andThen_ok,loadVar,Ht.run_agg,hag,if_true,Ht.run_size,h1]
 | false =>
  intro N ρ e s a w y H ht hf
  obtain ⟨b,off,hb,hf⟩:=onRefE_some hf
  obtain ⟨cs,et,el,hc,hf⟩:=onCellsE_some hf
  rw [nthX_eq] at hf
  have hx:=ht.op x
  rw [show evS _ x = _ from hb] at hx
  obtain ⟨r,hr,hv⟩:=hx.ref_inv
  obtain ⟨v,h1,h2,_⟩:=H.cell hr hc hf
  refine ⟨v,?_,h2⟩
  simp only [execOp,h]
  refine thenV ?_
  rw [hv]
  simp only [Instr.loadAt,Instr.sureAddr,Sem.run_bind,Sem.run_pure,Result.andThen_ok,loadVar,Ht.run_agg,hag,Bool.false_eq_true,if_false,run_load,h1]
section qelims
variable {y : EV} {e' : EW} {x : EV}
theorem onRefQ_ok {f : Nat→Nat→Q} (h : onRefQ x f = .ok y e') : ∃ b o,x = .ref b o∧f b o = .ok y e':=by cases x <;> first | exact ⟨_,_,rfl,h⟩ | cases h
theorem onAggQ_ok {f : List EV→Q} (h : onAggQ x f = .ok y e') : ∃ l,x = .agg l∧f l = .ok y e':=by cases x <;> first | exact ⟨_,rfl,h⟩ | cases h
theorem onCellsQ_ok {o : EO} {f : List EV→TypeId→Bool→Q} (h : onCellsQ o f = .ok y e') : ∃ cs t el,o = .cells cs t el∧f cs t el = .ok y e':=by cases o <;> first | exact ⟨_,_,_,rfl,h⟩ | cases h
theorem ifQ_ok {q : Bool} {z : Q} (h : ifQ q z = .ok y e') : q = true∧z = .ok y e':=by cases q <;> first | exact ⟨rfl,h⟩ | cases h
theorem writeAt_ok {w0 : EW} {b o : Nat} {xs : List EV} {k : EW→Q} (h : writeAt w0 b o xs k = .ok y e') :
  ∃ cs t el,w0.get b = .cells cs t el∧(xs = [] ∨ o + xs.length ≤ cs.length)∧k (w0.put b (.cells (over cs o xs) t el)) = .ok y e':=by
 obtain ⟨cs,t,el,h1,h2⟩:=onCellsQ_ok h
 rw [overK_eq] at h2
 split at h2
 ·rename_i hq
  rw [EW.putK_eq] at h2
  exact ⟨cs,t,el,h1,hq,h2⟩
 ·cases h2
end qelims
theorem store_next {a : Act} {K : Act→World→Prop} {Q : Exit→Act→World→Prop} {s : Sem Unit} {w' : World} (hs : s.run P w = .ok () w') (hx : execOp a.eval o = (do s; pure .skip)) (hk : K (a.put o.dst undef) w') : o.wp P a w K Q:=by
 unfold Oper.wp
 rw [hx]
 simp only [Sem.run_bind,hs,Result.andThen_ok,Sem.run_pure]
 exact hk
theorem storeC_ok {t : TypeId} {x v : Operand} (h : o.op = .store t x v) : CoOk P o (storeC P t x v):=by
 unfold storeC
 rw [opdC_eq,opdC_eq]
 split
 case h_2=>trivial
 rename_i ty g gv hty hg hgv
 obtain rfl:=(Get.mk.inj hg).symm
 obtain rfl:=(Get.mk.inj hgv).symm
 obtain ⟨i,z,d,Ht⟩:=tyOf_ok hty
 have hx0 : ∀ a : Act,execOp a.eval o = (do Instr.storeAt t (a.eval x) (a.eval v); pure .skip):=fun a=>by simp only [execOp,h]
 cases hag : ty.agg with
 | true =>
  simp only [forceN_eq]
  intro call hcall N ρ e s a w y e' K Q H ht hf hk
  obtain ⟨b,off,hb,hf⟩:=onRefQ_ok hf
  obtain ⟨cs,hc,hf⟩:=onAggQ_ok hf
  obtain ⟨hl,hf⟩:=ifQ_ok hf
  rw [lenIs_eq] at hl
  have hl : cs.length = ty.size:=by simpa using hl
  obtain ⟨cs0,et,el,hg0,hfit,hf⟩:=writeAt_ok hf
  cases hf
  have hx:=ht.op x
  rw [show evS _ x = _ from hb] at hx
  obtain ⟨r,hr,hv⟩:=hx.ref_inv
  have hy:=ht.op v
  rw [show evS _ v = _ from hc] at hy
  obtain ⟨arr,hva,hrc⟩:=hy.agg_inv
  rcases hfit with hfit | hfit
  ·subst hfit
   obtain rfl : arr = #[]:=Array.eq_empty_of_size_eq_zero (by have:=hrc.1; simpa using this)
   obtain ⟨H',he⟩:=H.put (o':=.cells (over cs0 off []) et el) hr (by unfold live; rw [hg0]; simp) rfl (fun _ _=>rfl) ⟨rfl,rfl,rfl⟩ (by have:=H.obj b r hr; rw [hg0] at this; exact this)
   refine store_next (w':=w) ?_ (hx0 a) (hk undef ρ w H' he (.sc _))
   rw [hv,hva]
   simp only [Instr.storeAt,Instr.sureAddr,storeVar,Sem.run_bind,Sem.run_pure,Result.andThen_ok,Ht.run_size,Value.cells]
   have h0 : (#[] : Array Value).size = ty.size:=by simpa using hl
   simp only [h0,ne_eq,not_true_eq_false,if_false]
   rfl
  ·obtain ⟨w',hw',H',he⟩:=storeCells_run (P:=P) cs (o:=off) (i:=0) (vs:=arr.toList) H hr hg0 (by simpa using hfit) (by simpa using hrc)
   refine store_next (w':=w') ?_ (hx0 a) (hk undef ρ w' H' he (.sc _))
   rw [hv,hva]
   simp only [Instr.storeAt,Instr.sureAddr,storeVar,Sem.run_bind,Sem.run_pure,Result.andThen_ok,Ht.run_size,Value.cells]
   have h0 : arr.size = ty.size:=by rw [hrc.1]; exact hl
   simp only [h0,ne_eq,not_true_eq_false,if_false]
   exact hw'
 | false =>
  simp only [ifT_eq]
  split
  case isFalse=>trivial
  rename_i h1
  have h1:=beq_nat h1
  intro call hcall N ρ e s a w y e' K Q H ht hf hk
  obtain ⟨b,off,hb,hf⟩:=onRefQ_ok hf
  obtain ⟨hone,hf⟩:=ifQ_ok hf
  obtain ⟨cs0,et,el,hg0,hfit,hf⟩:=writeAt_ok hf
  cases hf
  have hx:=ht.op x
  rw [show evS _ x = _ from hb] at hx
  obtain ⟨r,hr,hv⟩:=hx.ref_inv
  have hy:=ht.op v
  have h1c:=isOne_er hy hone
  have hcell : (a.eval v).cells = #[a.eval v]:=by
   cases hq : a.eval v <;> first | rfl | (rw [hq] at h1c; cases h1c)
  obtain ⟨w',hw',H',he⟩:=storeCells_run (P:=P) [evS s v] (o:=off) (i:=0) (vs:=[a.eval v]) H hr hg0 (by simpa using hfit) ⟨by simp,fun j q hj=>by
   cases j with
   | zero => obtain rfl : evS s v = q := by simpa using hj
             exact ⟨a.eval v,by simp,hy,h1c⟩
   | succ j=>simp at hj⟩
  refine store_next (w':=w') ?_ (hx0 a) (hk undef ρ w' H' he (.sc _))
  rw [hv]
  simp only [Instr.storeAt,Instr.sureAddr,storeVar,Sem.run_bind,Sem.run_pure,Result.andThen_ok,Ht.run_size,hcell]
  have h0 : (#[a.eval v] : Array Value).size = ty.size:=by simp [h1]
  simp only [h0,ne_eq,not_true_eq_false,if_false]
  simpa using hw'
end Go.Proofs.YtejkhflkeoihlaaGreat.Ve
namespace Go.Proofs.YtejkhflkeoihlaaGreat.Ve
open Go.RowKit
set_option linter.unusedVariables false
set_option linter.unusedSimpArgs false
variable {P : Program} {N : Nat} {ρ : Rn} {e : EW} {w : World} {o : Oper}
theorem newRow_run (t : TypeId) (arr : Array Value) : (newRow t arr).run P w = .ok ⟨w.heap.size,0,none⟩ (w.alloc (.cells arr t)):=by
 simp only [newRow,Sem.run_bind,run_newObj,Result.andThen_ok]; rfl
theorem alloc_heap (w : World) (O : Obj) : (w.alloc O).heap[w.heap.size]? = some O:=by
 show (w.heap.push O)[w.heap.size]? = some O
 simp
theorem OR_row {cs : List EV} {arr : Array Value} {t t' : TypeId} {b : Nat} (hc : RC1 ρ cs arr) (hb : ρ b = none) :
  OR P (upd ρ b ⟨w.heap.size,0,arr.size,0,false⟩) (w.alloc (.cells arr t)) (.cells cs t' false) ⟨w.heap.size,0,arr.size,0,false⟩:=by
 refine ⟨arr,t,(0,0),alloc_heap _ _,rfl,by simp [hc.1],fun j x hj=>?_,fun o _ h=>by omega,rfl,by simp⟩
 obtain ⟨v,h1,h2,h3⟩:=hc.2 j x hj
 exact ⟨v,by simpa using h1,h2.mono (sub_upd hb),h3⟩
theorem one_rc {x : EV} {v : Value} (h : ER ρ x v) (h1 : isOne x = true) : RC1 ρ [x] v.cells:=by
 have h1c:=isOne_er h h1
 have hcell : v.cells = #[v]:=by cases v <;> first | rfl | cases h1c
 rw [hcell]
 exact ⟨by simp,fun j q hj=>by
  cases j with
  | zero => obtain rfl : x = q := by simpa using hj
            exact ⟨v,by simp,h,h1c⟩
  | succ j=>simp at hj⟩
theorem allocC_ok {t : TypeId} (h : o.op = .alloc t) : CoOk P o (allocC P t):=by
 unfold allocC
 split
 case h_2=>trivial
 rename_i ty hty
 obtain ⟨i,z,d,Ht⟩:=tyOf_ok hty
 intro N ρ e s a w ob vf H ht hf
 cases hf
 refine ⟨.pointer (some ⟨w.heap.size,0,none⟩),.cells z.cells t,⟨w.heap.size,0,z.cells.size,0,false⟩,?_,rfl,fun b hb=>⟨OR_row Ht.zeros hb,.ref _ _ _ (upd_self _ _ _)⟩⟩
 simp only [execOp,h]
 refine thenV ?_
 simp only [Instr.alloc,Sem.run_bind,Ht.run_zero,Result.andThen_ok,newVar,newRow_run,Sem.run_pure]
theorem onAgg_ne {α : Type} {d res : α} {x : EV} {f : List EV→α} (h : onAgg d x f = res) (hne : res ≠ d) : ∃ l,x = .agg l∧f l = res:=by
 cases x <;> first | exact ⟨_,rfl,h⟩ | exact absurd h.symm hne
theorem boxC_ok {t : TypeId} {x : Operand} (h : o.op = .box t x) : CoOk P o (boxC t x):=by
 unfold boxC
 rw [opdC_eq]
 intro N ρ e s a w ob vf H ht hf
 have hx:=ht.op x
 simp only [ifT_eq] at hf
 split at hf
 ·rename_i h1
  cases hf
  refine ⟨.pointer (some ⟨w.heap.size,0,none⟩),.cells (a.eval x).cells t,⟨w.heap.size,0,(a.eval x).cells.size,0,false⟩,?_,rfl,fun b hb=>⟨OR_row (one_rc hx h1) hb,.ref _ _ _ (upd_self _ _ _)⟩⟩
  simp only [execOp,h]
  refine thenV ?_
  simp only [Instr.box,Sem.run_bind,Result.andThen_ok,newVar,newRow_run,Sem.run_pure]
 ·obtain ⟨cs,hc,hf⟩:=onAgg_ne hf (by simp)
  cases hf
  rw [show evS s x = _ from hc] at hx
  obtain ⟨arr,hv,hrc⟩:=hx.agg_inv
  refine ⟨.pointer (some ⟨w.heap.size,0,none⟩),.cells arr t,⟨w.heap.size,0,arr.size,0,false⟩,?_,rfl,fun b hb=>⟨OR_row hrc hb,.ref _ _ _ (upd_self _ _ _)⟩⟩
  simp only [execOp,h]
  refine thenV ?_
  simp only [Instr.box,Sem.run_bind,Result.andThen_ok,newVar,newRow_run,Sem.run_pure,hv,Value.cells]
theorem mapC_ok {t : TypeId} {r : Option Operand} (h : o.op = .makeMap t r) (hr : r = none) : CoOk P o mapC:=by
 subst hr
 intro N ρ e s a w ob vf H ht hf
 cases hf
 refine ⟨.map (some w.heap.size),.map #[] 0,⟨w.heap.size,0,0,0,false⟩,?_,rfl,fun b hb=>⟨⟨#[],alloc_heap _ _,rfl,fun j x hj=>by simp at hj⟩,.mp _ ⟨w.heap.size,0,0,0,false⟩ (upd_self _ _ _)⟩⟩
 simp only [execOp,h]
 refine thenV ?_
 simp only [Option.map_none,Instr.makeMap,Sem.run_bind,run_newObj,Result.andThen_ok,Sem.run_pure]
 rfl
theorem over_rc (xs : List EV) : ∀ {cs : List EV} {a : Array Value} {o i : Nat} {vs : List Value},RC1 ρ cs a→RC1 ρ xs vs.toArray→o + i + xs.length ≤ cs.length →
  RC1 ρ (over cs (o + i) xs) ((vs.zipIdx i).foldl (fun cs (c,j)=>cs.setIfInBounds (o + j) c) a):=by
 induction xs with
 | nil =>
  intro cs a o i vs hc hl hle
  obtain rfl : vs = []:=by have:=hl.1; simpa using this
  exact hc
 | cons x xs ih =>
  intro cs a o i vs hc hv hle
  cases vs with
  | nil=>have:=hv.1; simp at this
  | cons v vs =>
   simp only [List.length_cons] at hle
   obtain ⟨v',hv',hr,h1⟩:=hv.2 0 x rfl
   obtain rfl : v = v':=by simpa using hv'
   simp only [List.zipIdx_cons,List.foldl_cons]
   refine ih (cs:=cs.set (o + i) x) (i:=i + 1) ⟨by simpa using hc.1,fun j y hj=>?_⟩ ⟨by have:=hv.1; simpa using this,fun j y hj=>?_⟩ (by simp; omega)
   ·by_cases hjo : j = o + i
    ·subst hjo
     rw [List.getElem?_set_self (by omega)] at hj
     obtain rfl:=Option.some.inj hj
     exact ⟨v,by rw [Array.getElem?_setIfInBounds_self_of_lt (by have:=hc.1; omega)],hr,h1⟩
    ·rw [List.getElem?_set_ne (fun q=>hjo q.symm)] at hj
     obtain ⟨u,hu,hru⟩:=hc.2 j y hj
     exact ⟨u,by rw [Array.getElem?_setIfInBounds_ne (by omega)]; exact hu,hru⟩
   ·obtain ⟨u,hu,hru⟩:=hv.2 (j + 1) y (by simpa using hj)
    exact ⟨u,by simpa using hu,hru⟩
theorem fill_step {pl : Nat→Option (Nat × Nat)} {i off n : Nat} {v : Value} {rest : List (Nat × Value)} {arr : Array Value} {cs xs : List EV} (hp : pl i = some (off,n)) (hx : RC1 ρ xs v.cells) (hn : xs.length = n) (hc : RC1 ρ cs arr)
  (hfit : xs = [] ∨ off + xs.length ≤ cs.length) : ∃ arr',RC1 ρ (over cs off xs) arr'∧(n = 0∧off > arr.size ∨ Instr.fill pl arr ((i,v) :: rest) = Instr.fill pl arr' rest):=by
 have hz : v.cells.size = n:=by rw [hx.1]; exact hn
 rcases Nat.lt_or_ge arr.size (off + n) with hlt | hge
 ·rcases hfit with rfl | hfit
  ·simp at hn; subst hn
   exact ⟨arr,hc,.inl ⟨rfl,by omega⟩⟩
  ·have:=hc.1; omega
 ·have hfit' : off + 0 + xs.length ≤ cs.length:=by have:=hc.1; omega
  refine ⟨_,over_rc xs (o:=off) (i:=0) (vs:=v.cells.toList) hc (by simpa using hx) hfit',.inr ?_⟩
  simp only [Instr.fill,hp]
  have hz2 : ¬ (off + v.cells.size > arr.size):=by rw [hz]; omega
  simp only [hz,ne_eq,not_true_eq_false,decide_false,Bool.false_or,decide_eq_true_eq]
  rw [hz] at hz2
  rw [if_neg hz2]
  rw [← Array.foldl_toList,Array.toList_zipIdx]
theorem fillK_run {α : Type} {d res : α} {place : Nat→Option (Nat × Nat × Bool)} {pl : Nat→Option (Nat × Nat)} (hpl : ∀ i o n q,place i = some (o,n,q)→pl i = some (o,n)) {a : Act} {t : Sl} (ht : TRo ρ t a o) (hne : res ≠ d) (ps : List (Nat × Operand)) : (∀ p ∈ ps,p.2 ∈ o.op.operands) →
  ∀ {g : Sl→List Part} {cs : List EV} {arr : Array Value} {k : List EV→α},partsC place ps = some ⟨g⟩→RC1 ρ cs arr→fillK d cs (g t) k = res →
  (∀ i x o n q,(i,x) ∈ ps→place i = some (o,n,q)→o ≤ cs.length) →
  ∃ cs' arr',Instr.fill pl arr (ps.map fun p=>(p.1,a.eval p.2)) = some arr'∧RC1 ρ cs' arr'∧cs'.length = cs.length∧k cs' = res:=by
 induction ps with
 | nil =>
  intro _ g cs arr k hg hc hf _
  simp only [partsC] at hg
  obtain rfl:=(GetP.mk.inj (Option.some.inj hg)).symm
  exact ⟨cs,arr,rfl,hc,rfl,hf⟩
 | cons p ps ih =>
  obtain ⟨i,x⟩:=p
  intro hops g cs arr k hg hc hf hin
  simp only [partsC,opdC_eq] at hg
  split at hg
  case h_2=>cases hg
  rename_i o n q gx h hp hgx hps
  obtain rfl:=(Get.mk.inj hgx).symm
  rw [ifT_eq] at hg
  split at hg
  case isFalse=>cases hg
  rename_i hq
  rw [forceN_eq,forceN_eq] at hg
  obtain rfl:=(GetP.mk.inj (Option.some.inj hg)).symm
  have hpl':=hpl _ _ _ _ hp
  have ho:=hin i x o n q (.head _) hp
  have hx:=ht x (hops (i,x) (.head _))
  have step : ∀ xs,RC1 ρ xs (a.eval x).cells→xs.length = n→overK d cs o xs (fun cs=>fillK d cs (h t) k) = res→∃ cs' arr',Instr.fill pl arr (((i,x) :: ps).map fun p=>(p.1,a.eval p.2)) = some arr'∧RC1 ρ cs' arr'∧cs'.length = cs.length∧k cs' = res:=by
   intro xs hxs hn hf
   rw [overK_eq] at hf
   split at hf
   case isFalse=>exact absurd hf.symm hne
   rename_i hfit
   obtain ⟨arr1,h1,h2⟩:=fill_step (rest:=ps.map fun p=>(p.1,a.eval p.2)) hpl' hxs hn hc hfit
   rcases h2 with ⟨hn0,hgt⟩ | h2
   ·have:=hc.1; omega
   ·obtain ⟨cs',arr',h3,h4,h5,h6⟩:=ih (fun p hp=>hops p (.tail _ hp)) hps h1 hf (fun i x o n q hm hp=>by rw [over_length]; exact hin i x o n q (.tail _ hm) hp)
    exact ⟨cs',arr',by rw [List.map_cons,h2]; exact h3,h4,by rw [h5,over_length],h6⟩
  unfold fillK at hf
  rw [ifT_eq] at hf
  cases q with
  | true =>
   simp only [if_true] at hf
   obtain ⟨l,hl,hf⟩:=onAgg_ne hf hne
   rw [ifT_eq,lenIs_eq] at hf
   split at hf
   case isFalse=>exact absurd hf.symm hne
   rename_i hn
   rw [show evS t x = _ from hl] at hx
   obtain ⟨arr2,hv,hrc⟩:=hx.agg_inv
   exact step l (by rw [hv]; exact hrc) (by simpa using hn) hf
  | false =>
   simp only [Bool.false_eq_true,if_false] at hf
   rw [ifT_eq] at hf
   split at hf
   case isFalse=>exact absurd hf.symm hne
   rename_i h1
   have hn : n = 1:=beq_nat (by simpa using hq)
   exact step [evS t x] (one_rc hx h1) (by simp [hn]) hf
theorem repC_rc {z : List EV} {zv : Array Value} (hz : RC1 ρ z zv) : ∀ n,RC1 ρ (repC z n) ((Array.range (n * zv.size)).map (zv[· % zv.size]!)):=by
 have key : ∀ n,(repC z n).length = n * z.length∧∀ j x,(repC z n)[j]? = some x→z[j % z.length]? = some x:=by
  intro n
  induction n with
  | zero=>exact ⟨by simp [repC],fun j x hj=>by simp [repC] at hj⟩
  | succ n ih =>
   refine ⟨by simp [repC,ih.1,Nat.add_mul]; omega,fun j x hj=>?_⟩
   simp only [repC] at hj
   rw [List.getElem?_append] at hj
   split at hj
   ·rename_i hlt; rw [Nat.mod_eq_of_lt hlt]; exact hj
   ·rename_i hge
    have:=ih.2 _ x hj
    rwa [← Nat.mod_eq_sub_mod (by omega)] at this
 intro n
 obtain ⟨h1,h2⟩:=key n
 refine ⟨by simp [h1,hz.1],fun j x hj=>?_⟩
 obtain ⟨v,hv,hr⟩:=hz.2 _ x (h2 j x hj)
 refine ⟨v,?_,hr⟩
 have hlt : j < n * zv.size:=by rw [hz.1,← h1]; exact (List.getElem?_eq_some_iff.1 hj).1
 rw [hz.1]
 rw [Array.getElem?_map,Array.getElem?_eq_getElem (by rw [hz.1] at hlt; simpa using hlt)]
 simp [getElem!_def,hv]
theorem structPlaces {fields : Array Field} (fs : List (Nat × TypeId)) (hfs : fields.toList.map (fun f=>(f.offset,f.type)) = fs) (hty : ∀ p ∈ fs,(tyOf P p.2).isSome = true) :
  ∃ pl : Array (Nat × Nat),(fields.mapM fun f=>(do pure (f.offset,← sizeOf f.type) : Sem (Nat × Nat))).run P w = .ok pl w∧∀ i o n q,placesOf P fs i = some (o,n,q)→pl[i]? = some (o,n):=by
 subst hfs
 refine ⟨fields.map fun f=>(f.offset,((tyOf P f.type).map (·.size)).getD 0),?_,fun i o n q hp=>?_⟩
 ·have : ∀ l : List Field,(∀ f ∈ l,(tyOf P f.type).isSome = true)→(l.mapM fun f=>(do pure (f.offset,← sizeOf f.type) : Sem (Nat × Nat))).run P w = .ok (l.map fun f=>(f.offset,((tyOf P f.type).map (·.size)).getD 0)) w:=by
   intro l
   induction l with
   | nil=>intro _; rfl
   | cons f l ih =>
    intro hl
    obtain ⟨ty,hty⟩:=Option.isSome_iff_exists.1 (hl f (.head _))
    obtain ⟨i,z,d,Ht⟩:=tyOf_ok hty
    simp only [List.mapM_cons,Sem.run_bind,Ht.run_size,Result.andThen_ok,Sem.run_pure,ih fun f hf=>hl f (.tail _ hf),List.map_cons,hty,Option.map_some,Option.getD_some]
  rw [Array.mapM_eq_mapM_toList]
  have h2:=this fields.toList fun f hf=>hty (f.offset,f.type) (List.mem_map.2 ⟨f,hf,rfl⟩)
  have h3 : ∀ m : Sem (List (Nat × Nat)),(List.toArray <$> m : Sem (Array (Nat × Nat))) = (m >>= fun l=>pure l.toArray):=fun _=>rfl
  rw [h3,Sem.run_bind,h2,Result.andThen_ok,Sem.run_pure]
  simp
  rw [← Array.toList_map]
 ·unfold placesOf at hp
  split at hp
  case h_2=>cases hp
  rename_i o' t' ho
  rw [offOf_eq,List.getElem?_map,Option.map_eq_some_iff] at ho
  obtain ⟨fl,hfl,he⟩:=ho
  obtain ⟨rfl,rfl⟩ : fl.offset = o'∧fl.type = t':=by simpa using he
  split at hp
  case h_2=>cases hp
  rename_i ty hty
  obtain ⟨rfl,rfl,rfl⟩ : fl.offset = o∧ty.size = n∧ty.agg = q:=by simpa using hp
  rw [Array.getElem?_map]
  have : fields[i]? = some fl:=by simpa using hfl
  rw [this]; simp [hty]
theorem buildC_ok {t : TypeId} {ps : Array (Nat × Operand)} (h : o.op = .build t ps) : CoOk P o (buildC P t ps.toList):=by
 unfold buildC
 split
 case h_3=>trivial
 ·rename_i sz by_ fs z hs
  obtain ⟨i,zv,d,Hs⟩:=tyOf_ok hs
  have hd:=Hs.d
  cases d <;> simp only [tdOf] at hd <;> try (cases hd; done)
  rename_i fields
  simp only [TD.struct.injEq] at hd
  rw [ifT_eq]
  split
  case isFalse=>trivial
  rename_i hall
  simp only [Bool.and_eq_true] at hall
  split
  case h_2=>trivial
  rename_i g hg
  intro ρ s a w y ht hf
  obtain ⟨pl,hpl,hpl2⟩:=structPlaces (P:=P) (w:=w) fs hd (fun p hp=>List.all_eq_true.1 hall.1 p hp)
  obtain ⟨cs',arr',h1,h2,h3,h4⟩:=fillK_run (ρ:=ρ) (d:=none) (res:=some y) (place:=placesOf P fs) (pl:=fun i=>pl[i]?) hpl2 ht (by simp) ps.toList (fun p hp=>by rw [h]; simp only [Op.operands]; simp; exact ⟨p.1,by simpa using hp⟩) hg Hs.zeros hf (fun i x o n q hm hp=>by
   unfold placesOf at hp
   split at hp
   case h_2=>cases hp
   rename_i o' t' ho
   split at hp
   case h_2=>cases hp
   obtain ⟨rfl,_⟩ : o' = o∧_:=by simpa using hp
   rw [offOf_eq] at ho
   have h5:=List.all_eq_true.1 hall.2 (o',t') (List.mem_of_getElem? ho)
   rw [show z.length = sz from Hs.zlen]
   simpa using h5)
  cases h4
  refine ⟨.agg arr',?_,h2.agg⟩
  simp only [execOp,h]
  refine thenV ?_
  have e1 : (ps.map fun x=>(x.1,a.eval x.2)).toList = ps.toList.map fun p=>(p.1,a.eval p.2):=by simp
  simp only [Instr.build,Sem.run_bind,Hs.run_zero,Result.andThen_ok,Hs.run_under,hpl,e1,h1,Sem.run_pure]
 ·rename_i sz by_ n el z hs
  obtain ⟨i,zv,d,Hs⟩:=tyOf_ok hs
  have hu:=array_of hs
  split
  case h_2=>trivial
  rename_i ty hty
  obtain ⟨i2,z2,d2,Ht⟩:=tyOf_ok hty
  rw [ifT_eq]
  split
  case isFalse=>trivial
  rename_i hall
  split
  case h_2=>trivial
  rename_i g hg
  intro ρ s a w y ht hf
  obtain ⟨cs',arr',h1,h2,h3,h4⟩:=fillK_run (ρ:=ρ) (d:=none) (res:=some y) (place:=fun i=>some (i * ty.size,ty.size,ty.agg)) (pl:=fun i=>some (i * ty.size,ty.size)) (fun i o n q hp=>by
   obtain ⟨rfl,rfl,rfl⟩ : i * ty.size = o∧ty.size = n∧ty.agg = q:=by simpa using hp
   rfl) ht (by simp) ps.toList (fun p hp=>by rw [h]; simp only [Op.operands]; simp; exact ⟨p.1,by simpa using hp⟩) hg Hs.zeros hf (fun i x o n q hm hp=>by
   obtain ⟨rfl,_⟩ : i * ty.size = o∧_:=by simpa using hp
   have h5:=List.all_eq_true.1 hall (i,x) hm
   rw [show z.length = sz from Hs.zlen]
   simpa using h5)
  cases h4
  refine ⟨.agg arr',?_,h2.agg⟩
  simp only [execOp,h]
  refine thenV ?_
  have e1 : (ps.map fun x=>(x.1,a.eval x.2)).toList = ps.toList.map fun p=>(p.1,a.eval p.2):=by simp
  simp only [Instr.build,Sem.run_bind,Hs.run_zero,Result.andThen_ok,run_under' hu,Ht.run_size,e1,h1,Sem.run_pure]
theorem buildSliceC_ok {t : TypeId} {n : Nat} {ps : Array (Nat × Operand)} (h : o.op = .buildSlice t n ps) : CoOk P o (buildSliceC P t n ps.toList):=by
 unfold buildSliceC
 split
 case h_2=>trivial
 rename_i sz by_ el z hs
 have hu:=slice_of hs
 split
 case h_2=>trivial
 rename_i ty hty
 obtain ⟨i2,z2,d2,Ht⟩:=tyOf_ok hty
 rw [ifT_eq]
 split
 case isFalse=>trivial
 rename_i hall
 simp only [Bool.and_eq_true] at hall
 have hle:=ble_iff hall.1
 split
 case h_2=>trivial
 rename_i g hg
 intro N ρ e s a w ob vf H ht hf
 have hz:=repC_rc (Ht.zeros (ρ:=ρ)) n
 have hlen : (repC ty.z n).length = n * ty.size:=by have:=hz.1; simp [Ht.zs] at this; exact this.symm
 obtain ⟨cs',arr',h1,h2,h3,h4⟩:=fillK_run (ρ:=ρ) (d:=A'.no) (res:=A'.ok ob vf) (place:=fun i=>some (i * ty.size,ty.size,ty.agg)) (pl:=fun i=>some (i * ty.size,ty.size)) (fun i o n q hp=>by
   obtain ⟨rfl,rfl,rfl⟩ : i * ty.size = o∧ty.size = n∧ty.agg = q:=by simpa using hp
   rfl) ht (by simp) ps.toList (fun p hp=>by rw [h]; simp only [Op.operands]; simp; exact ⟨p.1,by simpa using hp⟩) hg hz hf (fun i x o n q hm hp=>by
   obtain ⟨rfl,_⟩ : i * ty.size = o∧_:=by simpa using hp
   have h5:=List.all_eq_true.1 hall.2 (i,x) hm
   rw [hlen]
   simpa using h5)
 cases h4
 refine ⟨.slice (some ⟨w.heap.size,0,none⟩) n n,.cells arr' el,⟨w.heap.size,0,arr'.size,0,false⟩,?_,rfl,fun b hb=>⟨OR_row h2 hb,.sl _ _ _ _ ⟨w.heap.size,0,arr'.size,0,false⟩ _ _ (upd_self _ _ _) (Nat.le_refl _) (Nat.le_refl _) (fun _=>rfl) (fun q=>by omega)⟩⟩
 simp only [execOp,h]
 refine thenV ?_
 have e1 : (ps.map fun x=>(x.1,a.eval x.2)).toList = ps.toList.map fun p=>(p.1,a.eval p.2):=by simp
 have e2 : ¬ (n * ty.size > 2 ^ 24):=by simpa using hle
 have h1' : Instr.fill (fun i=>some (i * ty.size,ty.size)) ((Array.range (n * z2.cells.size)).map (z2.cells[· % z2.cells.size]!)) (ps.toList.map fun p=>(p.1,a.eval p.2)) = some arr':=h1
 rw [Ht.zs] at h1'
 simp only [Instr.buildSlice,Sem.run_bind,run_under' hu,Result.andThen_ok,Ht.run_size,e2,if_false,e1]
 by_cases hn0 : n * ty.size = 0
 ·have e4 : ((Array.range (n * ty.size)).map fun x=>(#[] : Array Value)[x % (#[] : Array Value).size]!) = (Array.range (n * ty.size)).map fun x=>z2.cells[x % ty.size]!:=by rw [hn0]; simp
  rw [if_pos hn0]
  simp only [Sem.run_pure,Result.andThen_ok,e4,h1',Sem.run_bind,newRow_run]
 ·rw [if_neg hn0]
  simp only [Sem.run_bind,Ht.run_zero,Sem.run_pure,Result.andThen_ok,Ht.zs,h1',newRow_run]
theorem makeC_ok {t : TypeId} {l c : Operand} (h : o.op = .makeSlice t l c) : CoOk P o (makeC P t l c):=by
 unfold makeC
 rw [opdC_eq,opdC_eq]
 split
 case h_2=>trivial
 rename_i sz by_ el z g gc hs hg hgc
 obtain rfl:=(Get.mk.inj hg).symm
 obtain rfl:=(Get.mk.inj hgc).symm
 have hu:=slice_of hs
 split
 case h_2=>trivial
 rename_i ty hty
 obtain ⟨i2,z2,d2,Ht⟩:=tyOf_ok hty
 intro N ρ e s a w ob vf H ht hf
 dsimp only at hf
 split at hf
 case h_2=>cases hf
 rename_i k1 l' k2 c' hl hc
 rw [ifT_eq] at hf
 split at hf
 case isFalse=>cases hf
 rename_i hcond
 simp only [Bool.and_eq_true] at hcond
 obtain ⟨⟨h1,h2⟩,h3⟩:=hcond
 have h1:=ble_iff h1
 have h2 : c' < 1000000:=ble_iff h2
 have h3 : ty.bytes * c' < 140737488355328:=ble_iff h3
 cases hf
 have hl':=ht.op l
 rw [hl] at hl'
 have hl':=hl'.i_inv
 have hc':=ht.op c
 rw [hc] at hc'
 have hc':=hc'.i_inv
 have hz:=repC_rc (Ht.zeros (ρ:=ρ)) c'
 refine ⟨.slice (some ⟨w.heap.size,0,none⟩) l' c',.cells ((Array.range (c' * z2.cells.size)).map (z2.cells[· % z2.cells.size]!)) el,⟨w.heap.size,0,((Array.range (c' * z2.cells.size)).map (z2.cells[· % z2.cells.size]!)).size,0,false⟩,?_,rfl,
  fun b hb=>⟨OR_row hz hb,.sl _ _ _ _ ⟨w.heap.size,0,_,0,false⟩ _ _ (upd_self _ _ _) h1 (Nat.le_refl _) (fun _=>rfl) (fun q=>by omega)⟩⟩
 simp only [execOp,h]
 refine thenV ?_
 rw [hl',hc']
 have hr:=run_make (P:=P) w t el i2 z2 hu Ht.info Ht.zero k1 k2 (Int.ofNat l') (Int.ofNat c') (by simp) (by simpa using h1) (by
  have : ((i2.bytes * c' : Nat) : Int) ≤ 281474976710656:=by rw [Ht.bytes]; omega
  rwa [Int.natCast_mul] at this) (by simp; omega)
 have hs : i2.size = z2.cells.size:=by rw [Ht.size,Ht.zs]
 rw [hs] at hr
 exact hr
end Go.Proofs.YtejkhflkeoihlaaGreat.Ve
namespace Go.Proofs.YtejkhflkeoihlaaGreat.Ve
open Go.RowKit
set_option linter.unusedVariables false
set_option linter.unusedSimpArgs false
variable {P : Program} {N : Nat} {ρ : Rn} {e : EW} {w : World} {o : Oper}
theorem Sim.heap (H : Sim P N ρ e w) {W : World} (h : W.heap = w.heap) : Sim P N ρ e W :=
 ⟨fun b r hb=>by rw [h]; exact H.lt b r hb,fun b r hb=>(H.obj b r hb).mono (fun _ _ q=>q) fun _=>by rw [h],H.inj,H.ge,H.fresh,by rw [h]; exact H.hN⟩
theorem Sim.kill (H : Sim P N ρ e w) {b : Nat} {r : RB} (hb : ρ b = some r) (hl : live e b) : Sim P N ρ (e.put b .dead) w∧Ext N ρ e w ρ (e.put b .dead) w :=
 H.put hb hl rfl (fun _ _=>rfl) ⟨rfl,rfl,rfl⟩ trivial
theorem Sim.move (H : Sim P N ρ e w) {w' : World} {b : Nat} {r r' : RB} {ob : EO} (hb : ρ b = some r) (hlv : live e b) (hblk : r'.blk = r.blk) (hs : w'.heap.size = w.heap.size) (hw : ∀ c,c ≠ r.blk→w'.heap[c]? = w.heap[c]?)
  (henv : w'.os = w.os∧w'.tape = w.tape∧w'.output = w.output) (ho : OR P (upd ρ e.n r') w' ob r') :
  Sim P N (upd ρ e.n r') ((e.put b .dead).new ob) w'∧Ext N ρ e w (upd ρ e.n r') ((e.put b .dead).new ob) w':=by
 have hn:=H.none_of (Nat.le_refl e.n)
 have hbn : b ≠ e.n:=fun q=>by subst q; rw [hn] at hb; cases hb
 have hsub : Sub ρ (upd ρ e.n r'):=sub_upd hn
 have hg : ∀ c,((e.put b .dead).new ob).get c = if c = e.n then ob else if c = b then .dead else e.get c:=fun c=>by
  rw [EW.get_new,EW.put_n,EW.get_put]
 have cs : ∀ c s,upd ρ e.n r' c = some s→(c = e.n∧s = r') ∨ (c ≠ e.n∧ρ c = some s):=fun c s h=>by
  by_cases h1 : c = e.n
  ·subst h1; rw [upd_self] at h; exact .inl ⟨rfl,(Option.some.inj h).symm⟩
  ·rw [upd_ne _ _ h1] at h; exact .inr ⟨h1,h⟩
 have hl : ∀ c,c ≠ e.n→live ((e.put b .dead).new ob) c→c ≠ b∧live e c:=fun c h1 h2=>by
  unfold live at h2 ⊢
  rw [hg,if_neg h1] at h2
  by_cases h3 : c = b
  ·rw [if_pos h3] at h2; exact absurd rfl h2
  ·rw [if_neg h3] at h2; exact ⟨h3,h2⟩
 have hge:=H.ge b r hb
 have hlt:=(H.lt b r hb).2
 refine ⟨⟨fun c s h=>?_,fun c s h=>?_,fun c c' s s' h h' l l' he=>?_,fun c s h=>?_,fun c h=>?_,by rw [hs]; exact H.hN⟩,
  ⟨hsub,fun c s h=>?_,by rw [EW.new_n,EW.put_n]; omega,fun c h hr=>?_,fun c hc hne=>hw c fun q=>hne b r hb hlv q.symm,fun c s h l hlt'=>?_,⟨henv.1,henv.2.1,henv.2.2,by omega,fun c hc=>hw c fun q=>by omega⟩⟩⟩
 ·rw [EW.new_n,EW.put_n]
  rcases cs c s h with ⟨rfl,rfl⟩ | ⟨h1,h2⟩
  ·exact ⟨by omega,by rw [hblk,hs]; exact hlt⟩
  ·have:=H.lt c s h2; exact ⟨by omega,by rw [hs]; exact this.2⟩
 ·rw [hg]
  rcases cs c s h with ⟨rfl,rfl⟩ | ⟨h1,h2⟩
  ·rw [if_pos rfl]; exact ho
  ·rw [if_neg h1]
   by_cases h3 : c = b
   ·rw [if_pos h3]; trivial
   ·rw [if_neg h3]
    exact (H.obj c s h2).mono hsub fun hd=>hw _ fun q=>h3 (H.inj c b s r h2 hb hd hlv q)
 ·rcases cs c s h with ⟨rfl,rfl⟩ | ⟨h1,h2⟩ <;> rcases cs c' s' h' with ⟨rfl,rfl⟩ | ⟨h3,h4⟩
  ·rfl
  ·obtain ⟨h5,h6⟩:=hl c' h3 l'
   exact absurd (H.inj c' b s' r h4 hb h6 hlv (he.symm.trans hblk)) h5
  ·obtain ⟨h5,h6⟩:=hl c h1 l
   exact absurd (H.inj c b s r h2 hb h6 hlv (he.trans hblk)) h5
  ·exact H.inj c c' s s' h2 h4 (hl c h1 l).2 (hl c' h3 l').2 he
 ·rcases cs c s h with ⟨rfl,rfl⟩ | ⟨h1,h2⟩
  ·rw [hblk]; exact hge
  ·exact H.ge c s h2
 ·rw [EW.new_n,EW.put_n] at h
  rw [hg,if_neg (by omega)]
  split
  ·rfl
  ·exact H.fresh c (by omega)
 ·rcases cs c s h with ⟨rfl,rfl⟩ | ⟨h1,h2⟩
  ·exact .inr (Nat.le_refl _)
  ·exact .inl h2
 ·rw [hg,if_neg (by omega),if_neg (fun q=>by subst q; rw [hb] at hr; cases hr)]
 ·rcases cs c s h with ⟨rfl,rfl⟩ | ⟨h1,h2⟩
  ·exact ⟨b,r,hb,hlv,hblk.symm⟩
  ·exact ⟨c,s,h2,(hl c h1 l).2,rfl⟩
theorem storeRaw (vs : List Value) : ∀ {w : World} {g o i : Nat} {C : Array Value} {t : TypeId} {fz : Nat × Nat},w.heap[g]? = some (.cells C t fz)→(∀ j,j < C.size→¬ (fz.1 ≤ j∧j < fz.2))→o + i + vs.length ≤ C.size →
  (∀ v ∈ vs,v.oneCell' = true)→∃ w' C',(storeCells ⟨g,o,none⟩ vs i).run P w = .ok () w'∧w'.heap[g]? = some (.cells C' t fz)∧C'.size = C.size∧(∀ j,C'[j]? = if o + i ≤ j∧j < o + i + vs.length then vs[j - (o + i)]? else C[j]?) ∧
   w'.heap.size = w.heap.size∧(∀ c,c ≠ g→w'.heap[c]? = w.heap[c]?)∧(w'.os = w.os∧w'.tape = w.tape∧w'.output = w.output):=by
 induction vs with
 | nil =>
  intro w g o i C t fz hg _ _ _
  exact ⟨w,C,rfl,hg,rfl,fun j=>by rw [if_neg (by simp)],rfl,fun _ _=>rfl,rfl,rfl,rfl⟩
 | cons v vs ih =>
  intro w g o i C t fz hg hfz hle h1
  simp only [List.length_cons] at hle
  have hcell : w.cell? ⟨g,o + i,none⟩ = some C[o + i]:=by simp [World.cell?,hg]
  have hf : w.frozen? ⟨g,o + i,none⟩ = false:=by
   have:=hfz (o + i) (by omega)
   simp only [World.frozen?,hg]
   simpa using this
  have hheap : (w.setCell ⟨g,o + i,none⟩ v).heap[g]? = some (.cells (C.setIfInBounds (o + i) v) t fz):=by
   simp only [World.setCell,Array.getElem?_modify,hg,Option.map_some]
   simp
  obtain ⟨w',C',a1,a2,a3,a4,a5,a6,a7⟩:=ih (o:=o) (i:=i + 1) hheap (by simpa using hfz) (by simp; omega) (fun u hu=>h1 u (.tail _ hu))
  refine ⟨w',C',?_,a2,by simpa using a3,fun j=>?_,by simpa using a5,fun c hc=>(a6 c hc).trans (Below.heap_setCell _ _ _ _ hc),a7⟩
  ·simp only [storeCells,Sem.run_bind,run_store _ _ _ _ _ (h1 v (.head _)),addr_add,hcell,hf,Bool.false_eq_true,if_false,Result.andThen_ok]
   exact a1
  ·rw [a4 j]
   by_cases h2 : o + (i + 1) ≤ j∧j < o + (i + 1) + vs.length
   ·rw [if_pos h2,if_pos (by simp; omega),show j - (o + i) = (j - (o + (i + 1))) + 1 by omega]; rfl
   ·rw [if_neg h2]
    by_cases h3 : j = o + i
    ·subst h3; rw [if_pos (by simp)]; simp [show o + i < C.size by omega]
    ·rw [if_neg (by simp; omega),Array.getElem?_setIfInBounds,if_neg (fun q=>h3 q.symm)]
structure Els (P : Program) (ρ : Rn) (w : World) (size : Nat) (vx : Value) (n : Nat) (new : List EV) : Prop where
 len : ∀ W : World,(Builtin.lenOf vx).run P W = .ok n W
 sz : new.length = n * size
 cells : ∀ W : World,W.heap = w.heap→∀ m,m ≤ n→∃ arr,(Builtin.firstCells size m vx).run P W = .ok arr W∧RC1 ρ (new.take (m * size)) arr
theorem elemsK_ok {α : Type} {d res : α} {size : Nat} {x : EV} {vx : Value} {k : Nat→List EV→α} (H : Sim P N ρ e w) (hx : ER ρ x vx) (h : elemsK d e size x k = res) (hne : res ≠ d) :
  ∃ n new,k n new = res∧Els P ρ w size vx n new∧(∀ b o len cap,x = .sl b o len cap→n = len∧(0 < len→∃ cs t el,e.get b = .cells cs t el∧new = (cs.drop o).take (len * size)∧len * size ≤ (cs.drop o).length)):=by
 unfold elemsK at h
 split at h
 ·rename_i b off len cap
  cases hx with
  | sl b o' len cap r ad cap' hr hl hc ha hT =>
   split at h
   ·refine ⟨0,[],h,⟨fun W=>rfl,by simp,fun W hW m hm=>?_⟩,fun b o l c q=>by cases q; exact ⟨rfl,fun q=>by omega⟩⟩
    obtain rfl : m = 0:=by omega
    refine ⟨#[],?_,⟨by simp,fun j y hj=>by simp at hj⟩⟩
    simp only [Builtin.firstCells,Nat.zero_mul]
    rfl
   ·rename_i n
    split at h
    ·rename_i cs t el hg
     rw [takeX_eq,dropX_eq] at h
     split at h
     case isFalse=>exact absurd h.symm hne
     rename_i hle
     refine ⟨n + 1,_,h,⟨fun W=>rfl,by simp at hle ⊢; omega,fun W hW m hm=>?_⟩,fun b o l c q=>by cases q; exact ⟨rfl,fun _=>⟨cs,t,el,hg,rfl,hle⟩⟩⟩
     have hm2 : m * size ≤ (n + 1) * size:=Nat.mul_le_mul_right _ hm
     obtain ⟨arr,h1,h2⟩:=(H.heap hW).loadCells (o:=off) (n:=m * size) hr hg (by omega)
     have ha':=ha (by omega)
     subst ha'
     exact ⟨arr,h1,by rw [List.take_take,Nat.min_eq_left hm2]; exact h2⟩
    ·exact absurd h.symm hne
 ·have hx:=hx.sc_inv
  subst hx
  refine ⟨0,[],h,⟨fun W=>rfl,by simp,fun W hW m hm=>?_⟩,fun b o l c q=>by cases q⟩
  exact ⟨#[],rfl,⟨by simp,fun j y hj=>by simp at hj⟩⟩
 ·rename_i l
  rw [ifT_eq] at h
  split at h
  case isFalse=>exact absurd h.symm hne
  rename_i h1
  have h1:=beq_nat h1
  subst h1
  rw [forceN_eq,lenB_eq] at h
  obtain ⟨bs,rfl,hl⟩:=hx.s_inv
  have hsz : l.length = bs.size:=by rw [← hl]; simp
  refine ⟨l.length,_,h,⟨fun W=>by rw [hsz]; rfl,by simp,fun W hW m hm=>?_⟩,fun b o l c q=>by cases q⟩
  refine ⟨_,rfl,⟨?_,fun j y hj=>?_⟩⟩
  ·simp [hsz] at hm ⊢
  ·rw [Nat.mul_one] at hj
   have hjm : j < m:=by have:=(List.getElem?_eq_some_iff.1 hj).1; simp at this; omega
   rw [List.getElem?_take_of_lt hjm,List.getElem?_map,Option.map_eq_some_iff] at hj
   obtain ⟨c,hc,rfl⟩:=hj
   rw [← hl,List.getElem?_map,Option.map_eq_some_iff] at hc
   obtain ⟨u,hu,rfl⟩:=hc
   refine ⟨.int .u8 u.toNat,?_,.i _ _,rfl⟩
   have : (bs.extract 0 m).data[j]? = some u:=by
    rw [ByteArray.data_extract,Array.getElem?_extract]
    rw [if_pos (by have : bs.size = bs.data.size:=rfl; omega)]
    simpa using hu
   rw [Array.getElem?_map,this]; rfl
 ·exact absurd h.symm hne
end Go.Proofs.YtejkhflkeoihlaaGreat.Ve
