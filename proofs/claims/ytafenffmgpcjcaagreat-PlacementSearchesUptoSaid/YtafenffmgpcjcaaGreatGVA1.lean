/- Texts of the proof: GVA1. -/
import Derived.Below
import Derived.Orders
import Derived.Laws.Append
import Derived.Laws.Cells
import Derived.Laws.MakeOwn
import Derived.Tactics
namespace Go.Proofs.YtafenffmgpcjcaaGreat.Vf
open Go.RowKit
set_option linter.unusedVariables false
set_option linter.unusedSimpArgs false
def ix {α:Type} (l:List α) (i:Nat):Option α:=l[i]?
inductive Cap where
 | un | full | nil
 deriving DecidableEq
inductive FV where
 | sc (v:Value)
 | sl (l:List FV) (c:Cap)
 | fp (cs:List FV)
 | fn (f:FuncId) (cs:List FV)
 | agg (cs:List FV)
 | tup (cs:List FV)
def FV.cells:FV→List FV
 | .agg cs=>cs
 | .sc (.agg a)=>a.toList.map .sc
 | v=>[v]
inductive AV where
 | f (v:FV)
 | own (l:List FV) (t:Nat)
 | ref (b off:Nat)
 | ms (b off len cap sz:Nat)
 | fnr (f:FuncId) (cs:List AV)
 | agg (cs:List AV)
 | tup (cs:List AV)
 | any
def AV.cells:AV→List AV
 | .agg cs=>cs
 | .f x=>x.cells.map .f
 | v=>[v]
abbrev Cells:=Nat→Nat→Prop
inductive Rep (w:World) (F:Cells):FV→Value→Prop
 | sc (v:Value):Rep w F (.sc v) v
 | nil (c:Cap):Rep w F (.sl [] c) (.slice none 0 0)
 | emp (a:Option Addr) (cap:Nat):Rep w F (.sl [] .un) (.slice a 0 cap)
 | sl (l:List FV) (c:Cap) (b o cap sz:Nat) (vs:Nat→Nat→Value) (hc:c ≠ .nil) (hf:c=.full→cap=l.length) (hle:l.length≤cap)
   (hz:∀ (i:Nat) (x:FV),l[i]?=some x→x.cells.length=sz)
   (hF:∀ (i j:Nat) (x y:FV),l[i]?=some x→x.cells[j]?=some y→F b (o+i * sz+j)∧w.cell? ⟨b,o+i * sz+j,none⟩=some (vs i j)∧(vs i j).oneCell'=true)
   (hr:∀ (i j:Nat) (x y:FV),l[i]?=some x→x.cells[j]?=some y→Rep w F y (vs i j)):Rep w F (.sl l c) (.slice (some ⟨b,o,none⟩) l.length cap)
 | fp (cs:List FV) (b o:Nat) (vs:Nat→Value)
   (hF:∀ (j:Nat) (y:FV),cs[j]?=some y→F b (o+j)∧w.cell? ⟨b,o+j,none⟩=some (vs j)∧(vs j).oneCell'=true)
   (hr:∀ (j:Nat) (y:FV),cs[j]?=some y→Rep w F y (vs j)):Rep w F (.fp cs) (.pointer (some ⟨b,o,none⟩))
 | fn (f:FuncId) (cs:List FV) (a:Array Value) (vs:Nat→Value) (ha:a.size=cs.length) (hv:∀ (j:Nat) y,cs[j]?=some y→a[j]?=some (vs j))
   (hr:∀ (j:Nat) (y:FV),cs[j]?=some y→Rep w F y (vs j)):Rep w F (.fn f cs) (.func (.func f) #[] a)
 | agg (cs:List FV) (a:Array Value) (vs:Nat→Value) (ha:a.size=cs.length) (hv:∀ (j:Nat) y,cs[j]?=some y→a[j]?=some (vs j))
   (hr:∀ (j:Nat) (y:FV),cs[j]?=some y→Rep w F y (vs j)):Rep w F (.agg cs) (.agg a)
 | tup (cs:List FV) (a:Array Value) (vs:Nat→Value) (ha:a.size=cs.length) (hv:∀ (j:Nat) y,cs[j]?=some y→a[j]?=some (vs j))
   (hr:∀ (j:Nat) (y:FV),cs[j]?=some y→Rep w F y (vs j)):Rep w F (.tup cs) (.tuple a)
def Keep (F:Cells) (w w':World):Prop:=∀ b o,F b o→w'.cell? ⟨b,o,none⟩=w.cell? ⟨b,o,none⟩
theorem Keep.refl (F:Cells) (w:World):Keep F w w:=fun _ _ _=>rfl
theorem Rep.mono {w w':World} {F F':Cells} {x:FV} {v:Value} (h:Rep w F x v) (hF:∀ b o,F b o→F' b o) (hk:Keep F w w'):Rep w' F' x v:=by
 induction h with
 | sc v=>exact .sc v
 | nil c=>exact .nil c
 | emp a cap=>exact .emp a cap
 | sl l c b o cap sz vs hc hf hle hz h1 hr ih=>exact .sl l c b o cap sz vs hc hf hle hz (fun i j x y hi hj=>⟨hF _ _ (h1 i j x y hi hj).1,(hk _ _ (h1 i j x y hi hj).1).trans (h1 i j x y hi hj).2.1,(h1 i j x y hi hj).2.2⟩) ih
 | fp cs b o vs h1 hr ih=>exact .fp cs b o vs (fun j y hj=>⟨hF _ _ (h1 j y hj).1,(hk _ _ (h1 j y hj).1).trans (h1 j y hj).2.1,(h1 j y hj).2.2⟩) ih
 | fn f cs a vs ha hv hr ih=>exact .fn f cs a vs ha hv ih
 | agg cs a vs ha hv hr ih=>exact .agg cs a vs ha hv ih
 | tup cs a vs ha hv hr ih=>exact .tup cs a vs ha hv ih
structure Tok where
 b:Nat
 o:Nat
 cap:Nat
structure Lk where
 m:List Nat
 t:List Tok
 F:Cells
inductive RepA (w:World) (L:Lk) (k:List (Nat × Nat)):AV→Value→Prop
 | f (x:FV) (v:Value) (h:Rep w L.F x v):RepA w L k (.f x) v
 | own (l:List FV) (t b o cap:Nat) (h:Rep w L.F (.sl l .un) (.slice (some ⟨b,o,none⟩) l.length cap))
   (n sz:Nat) (hk:k[t]?=some (n,sz)) (hn:l.length≤n) (hz:∀ x ∈ l,x.cells.length=sz) (ht:n=l.length→L.t[t]?=some ⟨b,o,cap⟩):RepA w L k (.own l t) (.slice (some ⟨b,o,none⟩) l.length cap)
 | ref (b off c:Nat) (h:L.m[b]?=some c):RepA w L k (.ref b off) (.pointer (some ⟨c,off,none⟩))
 | ms (b off len cap sz c:Nat) (h:L.m[b]?=some c):RepA w L k (.ms b off len cap sz) (.slice (some ⟨c,off,none⟩) len cap)
 | fnr (f:FuncId) (cs:List AV) (a:Array Value) (vs:Nat→Value) (ha:a.size=cs.length) (hv:∀ (j:Nat) y,cs[j]?=some y→a[j]?=some (vs j))
   (hr:∀ (j:Nat) (y:AV),cs[j]?=some y→RepA w L k y (vs j)):RepA w L k (.fnr f cs) (.func (.func f) #[] a)
 | agg (cs:List AV) (a:Array Value) (vs:Nat→Value) (ha:a.size=cs.length) (hv:∀ (j:Nat) y,cs[j]?=some y→a[j]?=some (vs j))
   (hr:∀ (j:Nat) (y:AV),cs[j]?=some y→RepA w L k y (vs j)):RepA w L k (.agg cs) (.agg a)
 | tup (cs:List AV) (a:Array Value) (vs:Nat→Value) (ha:a.size=cs.length) (hv:∀ (j:Nat) y,cs[j]?=some y→a[j]?=some (vs j))
   (hr:∀ (j:Nat) (y:AV),cs[j]?=some y→RepA w L k y (vs j)):RepA w L k (.tup cs) (.tuple a)
 | any (v:Value) (h:v.oneCell'=true):RepA w L k .any v
structure Ext (L:Lk) (k:List (Nat × Nat)) (w:World) (L':Lk) (k':List (Nat × Nat)) (w':World):Prop where
 m:∀ (b c:Nat),L.m[b]?=some c→L'.m[b]?=some c
 F:∀ b o,L.F b o→L'.F b o
 keep:Keep L.F w w'
 t:∀ (t n sz:Nat),k'[t]?=some (n,sz)→t < k.length→∃ n',n'≤n∧k[t]?=some (n',sz)∧(n'=n→L'.t[t]?=L.t[t]?)
theorem Ext.refl (L:Lk) (k:List (Nat × Nat)) (w:World):Ext L k w L k w:=⟨fun _ _ h=>h,fun _ _ h=>h,Keep.refl _ _,fun t n sz h _=>⟨n,Nat.le_refl _,h,fun _=>rfl⟩⟩
theorem Ext.trans {L L' L'':Lk} {k k' k'':List (Nat × Nat)} {w w' w'':World} (h:Ext L k w L' k' w') (h':Ext L' k' w' L'' k'' w'') (hl:k.length≤k'.length):Ext L k w L'' k'' w'':=by
 refine ⟨fun b c hb=>h'.m b c (h.m b c hb),fun b o hb=>h'.F b o (h.F b o hb),fun b o hb=>(h'.keep b o (h.F b o hb)).trans (h.keep b o hb),fun t n sz hk hlt=>?_⟩
 obtain ⟨n1,hle1,hk1,he1⟩:=h'.t t n sz hk (by omega)
 obtain ⟨n2,hle2,hk2,he2⟩:=h.t t n1 sz hk1 hlt
 exact ⟨n2,by omega,hk2,fun e=>(he1 (by omega)).trans (he2 (by omega))⟩
theorem RepA.mono {L L':Lk} {k k':List (Nat × Nat)} {w w':World} {x:AV} {v:Value} (h:RepA w L k x v) (he:Ext L k w L' k' w') (hl:k.length≤k'.length):RepA w' L' k' x v:=by
 induction h with
 | f x v h=>exact .f x v (h.mono he.F he.keep)
 | own l t b o cap h n sz hk hn hz ht =>
  have hlt:t < k.length:=(List.getElem?_eq_some_iff.1 hk).1
  obtain ⟨⟨n',sz'⟩,hk'⟩:∃ p,k'[t]?=some p:=⟨_,List.getElem?_eq_getElem (show t < k'.length by omega)⟩
  obtain ⟨n1,hle,hk1,h1⟩:=he.t t n' sz' hk' hlt
  rw [hk] at hk1
  obtain ⟨rfl,rfl⟩:n=n1∧sz=sz':=by simpa using hk1
  exact .own l t b o cap (h.mono he.F he.keep) n' sz hk' (by omega) hz (fun e=>(h1 (by omega)).trans (ht (by omega)))
 | ref b off c h=>exact .ref b off c (he.m _ _ h)
 | ms b off len cap sz c h=>exact .ms b off len cap sz c (he.m _ _ h)
 | fnr f cs a vs ha hv hr ih=>exact .fnr f cs a vs ha hv ih
 | agg cs a vs ha hv hr ih=>exact .agg cs a vs ha hv ih
 | tup cs a vs ha hv hr ih=>exact .tup cs a vs ha hv ih
 | any v h=>exact .any v h
structure Base where
 w:World
 F:Cells
structure Mem (B:Base) (L:Lk) (h:List (List AV)) (k:List (Nat × Nat)) (w:World):Prop where
 below:Below B.w.heap.size B.w w
 fz:∀ b o,L.F b o→b < w.heap.size
 f0:∀ b o,B.F b o→L.F b o
 f1:∀ b o,L.F b o→B.F b o∨B.w.heap.size≤b
 mlen:L.m.length=h.length
 mge:∀ (b c:Nat),L.m[b]?=some c→B.w.heap.size≤c∧c < w.heap.size
 minj:∀ (b b' c:Nat),L.m[b]?=some c→L.m[b']?=some c→b=b'
 heap:∀ (b c j:Nat) (cs:List AV) (x:AV),L.m[b]?=some c→h[b]?=some cs→cs[j]?=some x →
  ¬ L.F c j∧w.frozen? ⟨c,j,none⟩=false∧∃ v,w.cell? ⟨c,j,none⟩=some v∧RepA w L k x v∧v.oneCell'=true
 tlen:L.t.length=k.length
 tok:∀ (t n sz:Nat) (r:Tok),L.t[t]?=some r→k[t]?=some (n,sz)→B.w.heap.size≤r.b∧r.b < w.heap.size∧(n≤r.cap∧r.o=0)∧(∀ b:Nat,L.m[b]? ≠ some r.b) ∧
  (∀ j,r.o+n * sz≤j→¬ L.F r.b j)∧∀ j,r.o≤j→j < r.o+r.cap * sz→w.frozen? ⟨r.b,j,none⟩=false∧∃ v,w.cell? ⟨r.b,j,none⟩=some v
 tinj:∀ (t t':Nat) (r r':Tok),L.t[t]?=some r→L.t[t']?=some r'→r.b=r'.b→t=t'
variable {B:Base} {L:Lk} {h:List (List AV)} {k:List (Nat × Nat)} {w:World}
theorem Mem.size (H:Mem B L h k w):B.w.heap.size≤w.heap.size:=H.below.size
theorem Mem.drew (H:Mem B L h k w):Mem B L h k w.drew :=
 ⟨H.below.drew,H.fz,H.f0,H.f1,H.mlen,H.mge,H.minj,fun b c j cs x h1 h2 h3=>by
  obtain ⟨a1,a2,v,a3,a4,a5⟩:=H.heap b c j cs x h1 h2 h3
  exact ⟨a1,a2,v,a3,a4.mono ⟨fun _ _ h=>h,fun _ _ h=>h,fun _ _ _=>rfl,fun t n sz h _=>⟨n,Nat.le_refl _,h,fun _=>rfl⟩⟩ (Nat.le_refl _),a5⟩,H.tlen,H.tok,H.tinj⟩
theorem Ext.drew (L:Lk) (k:List (Nat × Nat)) (w:World):Ext L k w L k w.drew:=⟨fun _ _ h=>h,fun _ _ h=>h,fun _ _ _=>rfl,fun t n sz h _=>⟨n,Nat.le_refl _,h,fun _=>rfl⟩⟩
theorem Mem.grow (H:Mem B L h k w) {w':World} {F':Cells} (hb:Below w.heap.size w w') (hF:∀ b o,L.F b o→F' b o) (hF1:∀ b o,F' b o→L.F b o∨w.heap.size≤b) (hF2:∀ b o,F' b o→b < w'.heap.size) :
  Mem B ⟨L.m,L.t,F'⟩ h k w'∧Ext L k w ⟨L.m,L.t,F'⟩ k w':=by
 have hc:∀ p:Addr,p.block < w.heap.size→w'.cell? p=w.cell? p:=fun p hp=>hb.cell hp
 have he:Ext L k w ⟨L.m,L.t,F'⟩ k w':=⟨fun _ _ h=>h,hF,fun b o hbo=>hc ⟨b,o,none⟩ (H.fz b o hbo),fun t n sz h _=>⟨n,Nat.le_refl _,h,fun _=>rfl⟩⟩
 refine ⟨⟨H.below.trans (hb.mono H.size),hF2,fun b o h=>hF _ _ (H.f0 b o h),fun b o h=>?_,H.mlen,fun b c h=>⟨(H.mge b c h).1,Nat.lt_of_lt_of_le (H.mge b c h).2 hb.size⟩,H.minj,fun b c j cs x h1 h2 h3=>?_,H.tlen,fun t n sz r h1 h2=>?_,H.tinj⟩,he⟩
 ·rcases hF1 b o h with h | h
  ·exact H.f1 b o h
  ·exact .inr (Nat.le_trans H.size h)
 ·obtain ⟨a1,a2,v,a3,a4,a5⟩:=H.heap b c j cs x h1 h2 h3
  have hlt:=(H.mge b c h1).2
  refine ⟨fun hf=>?_,(hb.frozen hlt).trans a2,v,(hc _ hlt).trans a3,a4.mono he (Nat.le_refl _),a5⟩
  rcases hF1 c j hf with h | h
  ·exact a1 h
  ·omega
 ·obtain ⟨a1,a2,a3,a4,a5,a6⟩:=H.tok t n sz r h1 h2
  refine ⟨a1,Nat.lt_of_lt_of_le a2 hb.size,a3,a4,fun j hj hf=>?_,fun j hj hj2=>?_⟩
  ·rcases hF1 r.b j hf with h | h
   ·exact a5 j hj h
   ·omega
  ·obtain ⟨b1,v,b2⟩:=a6 j hj hj2
   exact ⟨(hb.frozen a2).trans b1,v,(hc _ a2).trans b2⟩
theorem Mem.box (H:Mem B L h k w) {cs:List AV} {arr:Array Value} {e:TypeId} (hs:arr.size=cs.length) (vs:Nat→Value) (hv:∀ (j:Nat) x,cs[j]?=some x→arr[j]?=some (vs j)∧(vs j).oneCell'=true)
  (hr:∀ (j:Nat) x,cs[j]?=some x→RepA w L k x (vs j)) :
  Mem B ⟨L.m ++ [w.heap.size],L.t,L.F⟩ (h ++ [cs]) k (w.alloc (.cells arr e))∧Ext L k w ⟨L.m ++ [w.heap.size],L.t,L.F⟩ k (w.alloc (.cells arr e)):=by
 have hb:Below w.heap.size w (w.alloc (.cells arr e)):=(Below.refl _ _).alloc (Nat.le_refl _) _
 obtain ⟨H1,he1⟩:=H.grow hb (F':=L.F) (fun _ _ h=>h) (fun _ _ h=>.inl h) (fun b o h=>by have:=H.fz b o h; simp; omega)
 have hg:∀ (b c:Nat),(L.m ++ [w.heap.size])[b]?=some c→(L.m[b]?=some c)∨(b=L.m.length∧c=w.heap.size):=fun b c hb=>by
  rw [List.getElem?_append] at hb
  split at hb
  ·exact .inl hb
  ·rename_i hlt
   have hb0:b - L.m.length < 1:=by
    rcases Nat.lt_or_ge (b - L.m.length) 1 with h | h
    ·exact h
    ·rw [List.getElem?_eq_none (by simpa using h)] at hb; cases hb
   have:b=L.m.length:=by omega
   subst this
   simp at hb
   exact .inr ⟨rfl,hb.symm⟩
 have hext:Ext L k w ⟨L.m ++ [w.heap.size],L.t,L.F⟩ k (w.alloc (.cells arr e)):=⟨fun b c hbc=>by
  rw [List.getElem?_append_left ((List.getElem?_eq_some_iff.1 hbc).1)]; exact hbc,he1.F,he1.keep,he1.t⟩
 have hext2:Ext L k (w.alloc (.cells arr e)) ⟨L.m ++ [w.heap.size],L.t,L.F⟩ k (w.alloc (.cells arr e)):=⟨hext.m,hext.F,Keep.refl _ _,hext.t⟩
 refine ⟨⟨H1.below,H1.fz,H1.f0,H1.f1,by simp [H.mlen],fun b c hbc=>?_,fun b b' c h1 h2=>?_,fun b c j cs' x h1 h2 h3=>?_,H.tlen,fun t n sz r h1 h2=>?_,H.tinj⟩,hext⟩
 ·rcases hg b c hbc with h1 | ⟨_,rfl⟩
  ·exact H1.mge b c h1
  ·exact ⟨H.size,by simp⟩
 ·rcases hg b c h1 with h1 | ⟨rfl,rfl⟩ <;> rcases hg b' _ h2 with h2 | ⟨rfl,e2⟩
  ·exact H.minj b b' c h1 h2
  ·have:=(H.mge b c h1).2; omega
  ·have:=(H.mge b' _ h2).2; omega
  ·rfl
 ·rcases hg b c h1 with h1 | ⟨rfl,rfl⟩
  ·have hbl:b < h.length:=by rw [← H.mlen]; exact (List.getElem?_eq_some_iff.1 h1).1
   rw [List.getElem?_append_left hbl] at h2
   obtain ⟨a1,a2,v,a3,a4,a5⟩:=H1.heap b c j cs' x h1 h2 h3
   exact ⟨a1,a2,v,a3,a4.mono hext2 (Nat.le_refl _),a5⟩
  ·rw [H.mlen,List.getElem?_append_right (Nat.le_refl _)] at h2
   simp at h2
   subst h2
   refine ⟨fun hf=>?_,World.frozen?_alloc_new _ _ _ _,vs j,?_,(hr j x h3).mono hext (Nat.le_refl _),(hv j x h3).2⟩
   ·have:=H.fz _ _ hf; omega
   ·rw [World.cell?_alloc_new]; exact (hv j x h3).1
 ·obtain ⟨a1,a2,a3,a4,a5,a6⟩:=H1.tok t n sz r h1 h2
  refine ⟨a1,a2,a3,fun b hb=>?_,a5,a6⟩
  rcases hg b _ hb with hb | ⟨_,hb⟩
  ·exact a4 b hb
  ·have:=(H.tok t n sz r h1 h2).2.1; omega
theorem Mem.set (H:Mem B L h k w) {b c j:Nat} {cs:List AV} {x0 x:AV} {v:Value} (h1:L.m[b]?=some c) (h2:h[b]?=some cs) (h3:cs[j]?=some x0) (hr:RepA w L k x v) (ho:v.oneCell'=true) :
  Mem B L (h.set b (cs.set j x)) k (w.setCell ⟨c,j,none⟩ v)∧Ext L k w L k (w.setCell ⟨c,j,none⟩ v):=by
 obtain ⟨a1,a2,v0,a3,a4,a5⟩:=H.heap b c j cs x0 h1 h2 h3
 have hne:∀ b' o,L.F b' o→(⟨c,j,none⟩:Addr) ≠ ⟨b',o,none⟩:=fun b' o hf e=>by
  obtain ⟨rfl,rfl⟩:c=b'∧j=o:=by simpa using e
  exact a1 hf
 have he:Ext L k w L k (w.setCell ⟨c,j,none⟩ v):=⟨fun _ _ h=>h,fun _ _ h=>h,fun b' o hf=>World.cell?_setCell_other _ _ _ _ (hne b' o hf),fun t n sz h _=>⟨n,Nat.le_refl _,h,fun _=>rfl⟩⟩
 refine ⟨⟨H.below.setCell (p:=⟨c,j,none⟩) (H.mge b c h1).1 v,fun b' o hf=>by simpa using H.fz b' o hf,H.f0,H.f1,by simpa using H.mlen,fun b' c' hb=>by simpa using H.mge b' c' hb,H.minj,fun b' c' j' cs' x' g1 g2 g3=>?_,H.tlen,fun t n sz r g1 g2=>?_,H.tinj⟩,he⟩
 ·by_cases hbb:b'=b
  ·subst hbb
   obtain rfl:c'=c:=by rw [h1] at g1; simpa using g1.symm
   have hbl:b' < h.length:=(List.getElem?_eq_some_iff.1 h2).1
   rw [List.getElem?_set_self hbl] at g2
   obtain rfl:cs.set j x=cs':=by simpa using g2
   by_cases hjj:j'=j
   ·subst hjj
    have hjl:j' < cs.length:=(List.getElem?_eq_some_iff.1 h3).1
    rw [List.getElem?_set_self hjl] at g3
    obtain rfl:x=x':=by simpa using g3
    exact ⟨a1,by simpa using a2,v,World.cell?_setCell_same _ _ _ a3,hr.mono he (Nat.le_refl _),ho⟩
   ·rw [List.getElem?_set_ne (fun e=>hjj e.symm)] at g3
    obtain ⟨q1,q2,v',q3,q4,q5⟩:=H.heap b' c' j' cs x' g1 h2 g3
    exact ⟨q1,by simpa using q2,v',by rw [World.cell?_setCell_other _ _ _ _ (by simp; omega)]; exact q3,q4.mono he (Nat.le_refl _),q5⟩
  ·rw [List.getElem?_set_ne (fun e=>hbb e.symm)] at g2
   obtain ⟨q1,q2,v',q3,q4,q5⟩:=H.heap b' c' j' cs' x' g1 g2 g3
   have hcc:c ≠ c':=fun e=>hbb (H.minj b' b c' g1 (e ▸ h1))
   exact ⟨q1,by simpa using q2,v',by rw [World.cell?_setCell_other _ _ _ _ (by simp; omega)]; exact q3,q4.mono he (Nat.le_refl _),q5⟩
 ·obtain ⟨b1,b2,b3,b4,b5,b6⟩:=H.tok t n sz r g1 g2
  refine ⟨b1,by simpa using b2,b3,b4,b5,fun j' hj hj2=>?_⟩
  obtain ⟨q1,v',q2⟩:=b6 j' hj hj2
  refine ⟨by simpa using q1,v',?_⟩
  rw [World.cell?_setCell_other _ _ _ _ (by simp; intro e; exact absurd (e ▸ h1) (b4 b))]
  exact q2
end Go.Proofs.YtafenffmgpcjcaaGreat.Vf
namespace Go.Proofs.YtafenffmgpcjcaaGreat.Vf
open Go.RowKit
set_option linter.unusedVariables false
set_option linter.unusedSimpArgs false
variable {B:Base} {L:Lk} {h:List (List AV)} {k:List (Nat × Nat)} {w:World}
structure Spare (B:Base) (L:Lk) (w:World) (r:Tok) (n sz:Nat):Prop where
 lo:B.w.heap.size≤r.b
 hi:r.b < w.heap.size
 le:n≤r.cap∧r.o=0
 box:∀ b:Nat,L.m[b]? ≠ some r.b
 F:∀ j,r.o+n * sz≤j→¬ L.F r.b j
 cell:∀ j,r.o≤j→j < r.o+r.cap * sz→w.frozen? ⟨r.b,j,none⟩=false∧∃ v,w.cell? ⟨r.b,j,none⟩=some v
theorem get_append_one {α:Type} {l:List α} {x y:α} {i:Nat} (h:(l ++ [x])[i]?=some y):(l[i]?=some y)∨(i=l.length∧y=x):=by
 rw [List.getElem?_append] at h
 split at h
 ·exact .inl h
 ·rename_i hlt
  have hb0:i - l.length < 1:=by
   rcases Nat.lt_or_ge (i - l.length) 1 with h' | h'
   ·exact h'
   ·rw [List.getElem?_eq_none (by simpa using h')] at h; cases h
  have:i=l.length:=by omega
  subst this
  simp at h
  exact .inr ⟨rfl,h.symm⟩
theorem get_set {α:Type} {l:List α} {x y:α} {i t:Nat} (h:(l.set t x)[i]?=some y):(i ≠ t∧l[i]?=some y)∨(i=t∧y=x∧t < l.length):=by
 by_cases e:i=t
 ·subst e
  have hl:i < (l.set i x).length:=(List.getElem?_eq_some_iff.1 h).1
  rw [List.length_set] at hl
  rw [List.getElem?_set_self hl] at h
  exact .inr ⟨rfl,by simpa using h.symm,hl⟩
 ·rw [List.getElem?_set_ne (fun q=>e q.symm)] at h
  exact .inl ⟨e,h⟩
theorem Mem.relink (H:Mem B L h k w) {L':Lk} {k':List (Nat × Nat)} (hm:L'.m=L.m) (hF:L'.F=L.F) (he:Ext L k w L' k' w) (hl:k.length≤k'.length)
  (tlen:L'.t.length=k'.length) (tok:∀ (t n sz:Nat) (r:Tok),L'.t[t]?=some r→k'[t]?=some (n,sz)→Spare B L w r n sz)
  (tinj:∀ (t t':Nat) (r r':Tok),L'.t[t]?=some r→L'.t[t']?=some r'→r.b=r'.b→t=t'):Mem B L' h k' w:=by
 refine ⟨H.below,by rw [hF]; exact H.fz,by rw [hF]; exact H.f0,by rw [hF]; exact H.f1,by rw [hm]; exact H.mlen,by rw [hm]; exact H.mge,by rw [hm]; exact H.minj,fun b c j cs x h1 h2 h3=>?_,tlen,fun t n sz r h1 h2=>?_,tinj⟩
 ·rw [hm] at h1
  obtain ⟨a1,a2,v,a3,a4,a5⟩:=H.heap b c j cs x h1 h2 h3
  exact ⟨by rw [hF]; exact a1,a2,v,a3,a4.mono he hl,a5⟩
 ·have hs:=tok t n sz r h1 h2
  exact ⟨hs.lo,hs.hi,hs.le,by rw [hm]; exact hs.box,by rw [hF]; exact hs.F,hs.cell⟩
theorem Mem.spare (H:Mem B L h k w) {t n sz:Nat} {r:Tok} (h1:L.t[t]?=some r) (h2:k[t]?=some (n,sz)):Spare B L w r n sz:=by
 obtain ⟨a1,a2,a3,a4,a5,a6⟩:=H.tok t n sz r h1 h2
 exact ⟨a1,a2,a3,a4,a5,a6⟩
theorem Ext.push {L:Lk} {k:List (Nat × Nat)} {w:World} (hl:L.t.length=k.length) (r:Tok) (p:Nat × Nat):Ext L k w ⟨L.m,L.t ++ [r],L.F⟩ (k ++ [p]) w :=
 ⟨fun _ _ h=>h,fun _ _ h=>h,Keep.refl _ _,fun t n sz h hlt=>⟨n,Nat.le_refl _,by rwa [List.getElem?_append_left hlt] at h,fun _=>List.getElem?_append_left (by omega)⟩⟩
theorem Mem.newTok (H:Mem B L h k w) {r:Tok} {n sz:Nat} (hs:Spare B L w r n sz) (hne:∀ (t:Nat) (r':Tok),L.t[t]?=some r'→r'.b ≠ r.b) :
  Mem B ⟨L.m,L.t ++ [r],L.F⟩ h (k ++ [(n,sz)]) w:=by
 refine H.relink rfl rfl (Ext.push H.tlen r _) (by simp) (by simp [H.tlen]) (fun t n' sz' r' h1 h2=>?_) (fun t t' r1 r2 h1 h2 e=>?_)
 ·rcases get_append_one h1 with h1 | ⟨rfl,rfl⟩
  ·have hlt:t < L.t.length:=(List.getElem?_eq_some_iff.1 h1).1
   rw [List.getElem?_append_left (by rw [← H.tlen]; exact hlt)] at h2
   exact H.spare h1 h2
  ·rw [H.tlen,List.getElem?_append_right (Nat.le_refl _)] at h2
   simp at h2
   obtain ⟨rfl,rfl⟩:=h2
   exact hs
 ·rcases get_append_one h1 with g1 | ⟨rfl,rfl⟩ <;> rcases get_append_one h2 with g2 | ⟨rfl,e2⟩
  ·exact H.tinj t t' r1 r2 g1 g2 e
  ·subst e2; exact absurd e (hne _ _ g1)
  ·exact absurd e.symm (hne _ _ g2)
  ·rfl
theorem Ext.setTok {L:Lk} {k:List (Nat × Nat)} {w:World} {t n n' sz:Nat} (hk:k[t]?=some (n,sz)) (hn:n < n') (r:Tok):Ext L k w ⟨L.m,L.t.set t r,L.F⟩ (k.set t (n',sz)) w:=by
 refine ⟨fun _ _ h=>h,fun _ _ h=>h,Keep.refl _ _,fun i m s h hlt=>?_⟩
 rcases get_set h with ⟨hne,h⟩ | ⟨rfl,e,_⟩
 ·exact ⟨m,Nat.le_refl _,h,fun _=>List.getElem?_set_ne (fun q=>hne q.symm)⟩
 ·obtain ⟨rfl,rfl⟩:m=n'∧s=sz:=by simpa using e
  exact ⟨n,by omega,hk,fun e=>by omega⟩
theorem Mem.setTok (H:Mem B L h k w) {r:Tok} {t n n' sz:Nat} (hk:k[t]?=some (n,sz)) (hn:n < n') (hs:Spare B L w r n' sz) (hne:∀ (t':Nat) (r':Tok),L.t[t']?=some r'→t' ≠ t→r'.b ≠ r.b) :
  Mem B ⟨L.m,L.t.set t r,L.F⟩ h (k.set t (n',sz)) w:=by
 refine H.relink rfl rfl (Ext.setTok hk hn r) (by simp) (by simp [H.tlen]) (fun i m s r' h1 h2=>?_) (fun i i' r1 r2 h1 h2 e=>?_)
 ·rcases get_set h1 with ⟨hne1,h1⟩ | ⟨rfl,rfl,_⟩
  ·rw [List.getElem?_set_ne (fun q=>hne1 q.symm)] at h2
   exact H.spare h1 h2
  ·rw [List.getElem?_set_self ((List.getElem?_eq_some_iff.1 hk).1)] at h2
   simp at h2
   obtain ⟨rfl,rfl⟩:=h2
   exact hs
 ·rcases get_set h1 with ⟨e1,g1⟩ | ⟨rfl,rfl,_⟩ <;> rcases get_set h2 with ⟨e2,g2⟩ | ⟨rfl,e3,_⟩
  ·exact H.tinj i i' r1 r2 g1 g2 e
  ·subst e3; exact absurd e (hne _ _ g1 e1)
  ·exact absurd e.symm (hne _ _ g2 e2)
  ·rfl
theorem Mem.spareSet (H:Mem B L h k w) {t n sz j:Nat} {r:Tok} (h1:L.t[t]?=some r) (h2:k[t]?=some (n,sz)) (hj:r.o+n * sz≤j) (hj2:j < r.o+r.cap * sz) (v:Value) :
  Mem B L h k (w.setCell ⟨r.b,j,none⟩ v)∧Ext L k w L k (w.setCell ⟨r.b,j,none⟩ v):=by
 have hs:=H.spare h1 h2
 have he:Ext L k w L k (w.setCell ⟨r.b,j,none⟩ v):=⟨fun _ _ h=>h,fun _ _ h=>h,fun b o hf=>World.cell?_setCell_other _ _ _ _ (fun e=>by
  obtain ⟨rfl,rfl⟩:r.b=b∧j=o:=by simpa using e
  exact hs.F j hj hf),fun t n sz h _=>⟨n,Nat.le_refl _,h,fun _=>rfl⟩⟩
 refine ⟨⟨H.below.setCell (p:=⟨r.b,j,none⟩) hs.lo v,fun b o hf=>by simpa using H.fz b o hf,H.f0,H.f1,H.mlen,fun b c hb=>by simpa using H.mge b c hb,H.minj,fun b c i cs x g1 g2 g3=>?_,H.tlen,fun t' n' sz' r' g1 g2=>?_,H.tinj⟩,he⟩
 ·obtain ⟨q1,q2,v',q3,q4,q5⟩:=H.heap b c i cs x g1 g2 g3
  have hcc:r.b ≠ c:=fun e=>hs.box b (e ▸ g1)
  exact ⟨q1,by simpa using q2,v',by rw [World.cell?_setCell_other _ _ _ _ (by simp; omega)]; exact q3,q4.mono he (Nat.le_refl _),q5⟩
 ·obtain ⟨b1,b2,b3,b4,b5,b6⟩:=H.tok t' n' sz' r' g1 g2
  refine ⟨b1,by simpa using b2,b3,b4,b5,fun i hi hi2=>?_⟩
  obtain ⟨q1,v',q2⟩:=b6 i hi hi2
  refine ⟨by simpa using q1,?_⟩
  by_cases e:(⟨r.b,j,none⟩:Addr)=⟨r'.b,i,none⟩
  ·rw [← e]
   rw [← e] at q2
   exact ⟨v,World.cell?_setCell_same _ _ _ q2⟩
  ·exact ⟨v',by rw [World.cell?_setCell_other _ _ _ _ e]; exact q2⟩
theorem Mem.claim (H:Mem B L h k w) {t n n' sz:Nat} {r:Tok} (h1:L.t[t]?=some r) (h2:k[t]?=some (n,sz)) (hn:n < n') (hle:n'≤r.cap) :
  Mem B ⟨L.m,L.t,fun b o=>L.F b o∨(b=r.b∧r.o+n * sz≤o∧o < r.o+n' * sz)⟩ h (k.set t (n',sz)) w ∧
   Ext L k w ⟨L.m,L.t,fun b o=>L.F b o∨(b=r.b∧r.o+n * sz≤o∧o < r.o+n' * sz)⟩ (k.set t (n',sz)) w:=by
 have hs:=H.spare h1 h2
 have hlt:t < k.length:=(List.getElem?_eq_some_iff.1 h2).1
 have he:Ext L k w ⟨L.m,L.t,fun b o=>L.F b o∨(b=r.b∧r.o+n * sz≤o∧o < r.o+n' * sz)⟩ (k.set t (n',sz)) w:=by
  refine ⟨fun _ _ h=>h,fun _ _ h=>.inl h,Keep.refl _ _,fun i m s h hi=>?_⟩
  rcases get_set h with ⟨hne,h⟩ | ⟨rfl,e,_⟩
  ·exact ⟨m,Nat.le_refl _,h,fun _=>rfl⟩
  ·obtain ⟨rfl,rfl⟩:m=n'∧s=sz:=by simpa using e
   exact ⟨n,by omega,h2,fun e=>by omega⟩
 refine ⟨⟨H.below,fun b o hf=>?_,fun b o hf=>.inl (H.f0 b o hf),fun b o hf=>?_,H.mlen,H.mge,H.minj,fun b c i cs x g1 g2 g3=>?_,by simpa using H.tlen,fun i m s r' g1 g2=>?_,H.tinj⟩,he⟩
 ·rcases hf with hf | ⟨rfl,_⟩
  ·exact H.fz b o hf
  ·exact hs.hi
 ·rcases hf with hf | ⟨rfl,_⟩
  ·exact H.f1 b o hf
  ·exact .inr hs.lo
 ·obtain ⟨q1,q2,v',q3,q4,q5⟩:=H.heap b c i cs x g1 g2 g3
  refine ⟨fun hf=>?_,q2,v',q3,q4.mono he (by simp),q5⟩
  rcases hf with hf | ⟨rfl,_⟩
  ·exact q1 hf
  ·exact hs.box b g1
 ·rcases get_set g2 with ⟨hne,g2⟩ | ⟨rfl,e,_⟩
  ·obtain ⟨b1,b2,b3,b4,b5,b6⟩:=H.tok i m s r' g1 g2
   refine ⟨b1,b2,b3,b4,fun j hj hf=>?_,b6⟩
   rcases hf with hf | ⟨e,_⟩
   ·exact b5 j hj hf
   ·exact hne (H.tinj i t r' r g1 h1 e)
  ·obtain ⟨rfl,rfl⟩:m=n'∧s=sz:=by simpa using e
   obtain rfl:r'=r:=by rw [h1] at g1; simpa using g1.symm
   have hmul:n * s≤m * s:=Nat.mul_le_mul_right _ (by omega)
   refine ⟨hs.lo,hs.hi,⟨hle,hs.le.2⟩,hs.box,fun j hj hf=>?_,fun j hj hj2=>hs.cell j (by omega) hj2⟩
   rcases hf with hf | ⟨_,_,hf⟩
   ·exact hs.F j (by omega) hf
   ·omega
end Go.Proofs.YtafenffmgpcjcaaGreat.Vf
namespace Go.Proofs.YtafenffmgpcjcaaGreat.Vf
open Go.RowKit
set_option linter.unusedVariables false
set_option linter.unusedSimpArgs false
variable {B:Base} {L:Lk} {h:List (List AV)} {k:List (Nat × Nat)} {w:World} {P:Program}
inductive TD where
 | slice (e:TypeId) | array (n:Nat) (e:TypeId) | struct (fs:List (Nat × TypeId)) | other
structure Ty where
 size:Nat
 bytes:Nat
 d:TD
 z:List AV
def constA:Value→AV
 | .slice none 0 0=>.f (.sl [] .nil)
 | v=>.f (.sc v)
def Ty.agg (t:Ty):Bool:=match t.d with | .struct _=>true | .array _ _=>true | _=>false
def TD.ok (P:Program) (t:TypeId):TD→Prop
 | .slice e=>P.underlying t=some (.slice e)
 | .array n e=>P.underlying t=some (.array n e)
 | .struct fs=>∃ fields:Array Field,P.underlying t=some (.struct fields)∧fields.toList.map (fun f=>(f.offset,f.type))=fs
 | .other=>∃ d,P.underlying t=some d∧(∀ n e,d ≠ .array n e)∧∀ fs,d ≠ .struct fs
structure TyOk (P:Program) (t:TypeId) (ty:Ty) (i:TypeInfo) (z:Value):Prop where
 info:P.info? t=some i
 size:i.size=ty.size
 bytes:i.bytes=ty.bytes
 zero:i.zero=some z
 zc:z.cells.toList.map constA=ty.z
 zs:z.cells.size=ty.size
 d:ty.d.ok P t
abbrev TV:=TypeId→Option Ty
def TOk (P:Program) (T:TV):Prop:=∀ t ty,T t=some ty→∃ i z,TyOk P t ty i z
theorem constA_rep (v:Value):RepA w L k (constA v) v:=by
 unfold constA
 split
 ·exact .f _ _ (.nil _)
 ·exact .f _ _ (.sc _)
def undefA:AV:=.f (.sc undef)
def evA (t:List AV):Operand→AV
 | .tmp i=>(ix t i).getD undefA
 | .const v=>constA v
 | .global g=>.f (.sc (.pointer (some ⟨g,0,none⟩)))
 | .func f=>.f (.fn f [])
def RepL (w:World) (L:Lk) (k:List (Nat × Nat)) (cs:List AV) (a:Array Value):Prop:=a.size=cs.length∧∀ (j:Nat) (x:AV),cs[j]?=some x→∃ v,a[j]?=some v∧RepA w L k x v
theorem RepL.vs {cs:List AV} {a:Array Value} (H:RepL w L k cs a):(∀ (j:Nat) y,cs[j]?=some y→a[j]?=some (a.getD j undef))∧∀ (j:Nat) (y:AV),cs[j]?=some y→RepA w L k y (a.getD j undef):=by
 refine ⟨fun j y hj=>?_,fun j y hj=>?_⟩ <;> obtain ⟨v,hv,hr⟩:=H.2 j y hj
 ·simp [hv]
 ·simpa [hv] using hr
theorem RepL.agg {cs:List AV} {a:Array Value} (H:RepL w L k cs a):RepA w L k (.agg cs) (.agg a):=.agg cs a _ H.1 H.vs.1 H.vs.2
theorem RepL.tup {cs:List AV} {a:Array Value} (H:RepL w L k cs a):RepA w L k (.tup cs) (.tuple a):=.tup cs a _ H.1 H.vs.1 H.vs.2
theorem RepL.fnr {f:FuncId} {cs:List AV} {a:Array Value} (H:RepL w L k cs a):RepA w L k (.fnr f cs) (.func (.func f) #[] a):=.fnr f cs a _ H.1 H.vs.1 H.vs.2
theorem RepL.mono {L':Lk} {k':List (Nat × Nat)} {w':World} {cs:List AV} {a:Array Value} (H:RepL w L k cs a) (he:Ext L k w L' k' w') (hl:k.length≤k'.length):RepL w' L' k' cs a :=
 ⟨H.1,fun j x hj=>let ⟨v,hv,hr⟩:=H.2 j x hj; ⟨v,hv,hr.mono he hl⟩⟩
theorem RepL.one {x:AV} {v:Value} (H:RepA w L k x v):RepL w L k [x] #[v]:=⟨rfl,fun j y hj=>by
 cases j with
 | zero=>exact ⟨v,rfl,by simpa using (show x=y by simpa using hj) ▸ H⟩
 | succ j=>simp at hj⟩
theorem RepA.cells {x:AV} {v:Value} (H:RepA w L k x v):RepL w L k x.cells v.cells:=by
 cases H with
 | f x v hx =>
  cases hx with
  | sc v =>
   cases v with
   | agg a=>exact ⟨by simp [AV.cells,FV.cells,Value.cells],fun j y hj=>by
     simp only [AV.cells,FV.cells,Value.cells,List.map_map,List.getElem?_map,Option.map_eq_some_iff] at hj ⊢
     obtain ⟨u,hu,rfl⟩:=hj
     exact ⟨u,by simpa using hu,.f _ _ (.sc _)⟩⟩
   | _=>exact RepL.one (.f _ _ (.sc _))
  | agg cs a vs ha hv hr=>exact ⟨by simpa [AV.cells,FV.cells,Value.cells] using ha,fun j y hj=>by
    simp only [AV.cells,FV.cells,List.getElem?_map,Option.map_eq_some_iff] at hj
    obtain ⟨u,hu,rfl⟩:=hj
    exact ⟨vs j,hv j u hu,.f _ _ (hr j u hu)⟩⟩
  | nil c=>exact RepL.one (.f _ _ (.nil c))
  | emp a cap=>exact RepL.one (.f _ _ (.emp a cap))
  | sl l c b o cap sz vs hc hf hle hz hF hr=>exact RepL.one (.f _ _ (.sl l c b o cap sz vs hc hf hle hz hF hr))
  | fp cs b o vs hF hr=>exact RepL.one (.f _ _ (.fp cs b o vs hF hr))
  | fn f cs a vs ha hv hr=>exact RepL.one (.f _ _ (.fn f cs a vs ha hv hr))
  | tup cs a vs ha hv hr=>exact RepL.one (.f _ _ (.tup cs a vs ha hv hr))
 | agg cs a vs ha hv hr=>exact ⟨ha,fun j y hj=>⟨_,hv j y hj,hr j y hj⟩⟩
 | own l t b o cap h n sz hk hn hz ht=>exact RepL.one (.own l t b o cap h n sz hk hn hz ht)
 | ref b off c h=>exact RepL.one (.ref b off c h)
 | ms b off len cap sz c h=>exact RepL.one (.ms b off len cap sz c h)
 | fnr f cs a vs ha hv hr=>exact RepL.one (.fnr f cs a vs ha hv hr)
 | tup cs a vs ha hv hr=>exact RepL.one (.tup cs a vs ha hv hr)
 | any v h=>cases v <;> first | exact RepL.one (.any _ h) | (cases h)
def AV.one:AV→Bool
 | .f (.sc v)=>v.oneCell'
 | .f (.agg _)=>false
 | .f (.tup _)=>false
 | .agg _=>false
 | .tup _=>false
 | _=>true
theorem RepA.oneCell {x:AV} {v:Value} (H:RepA w L k x v) (h1:x.one=true):v.oneCell'=true:=by
 cases H with
 | f x v hx=>cases hx <;> first | exact h1 | rfl | (cases h1)
 | any v h=>exact h
 | _=>first | rfl | (cases h1)
section types
variable {T:TV} {t:TypeId} {ty:Ty} {i:TypeInfo} {z:Value}
theorem TyOk.run_info (H:TyOk P t ty i z):(typeInfo t).run P w=.ok i w:=by simp [typeInfo,H.info]
theorem TyOk.run_size (H:TyOk P t ty i z):(sizeOf t).run P w=.ok ty.size w:=by simp [sizeOf,H.run_info,H.size]
theorem TyOk.run_zero (H:TyOk P t ty i z):(zeroValue t).run P w=.ok z w:=by simp [zeroValue,H.run_info,H.zero]
theorem run_under {d:TypeDesc} (h:P.underlying t=some d):(underlying t).run P w=.ok d w:=by simp [underlying,h]
theorem TyOk.run_agg (H:TyOk P t ty i z):(isAgg t).run P w=.ok ty.agg w:=by
 have hd:=H.d
 unfold isAgg Ty.agg
 cases hty:ty.d with
 | slice e=>rw [hty] at hd; simp [run_under (show P.underlying t=some _ from hd)]
 | array n e=>rw [hty] at hd; simp [run_under (show P.underlying t=some _ from hd)]
 | struct fs=>rw [hty] at hd; obtain ⟨f,hf,_⟩:=hd; simp [run_under hf]
 | other =>
  rw [hty] at hd
  obtain ⟨d,hd,h1,h2⟩:=hd
  simp only [Sem.run_bind,run_under hd,Result.andThen_ok]
  cases d <;> first | rfl | exact absurd rfl (h2 _) | exact absurd rfl (h1 _ _)
end types
def cellsAt (h:List (List AV)):AV→Option (List AV)
 | .ref b off=>(ix h b).map (·.drop off)
 | .f (.fp cs)=>some (cs.map .f)
 | _=>none
theorem cellsAt_rep (H:Mem B L h k w) {a:AV} {va:Value} {cs:List AV} (hc:cellsAt h a=some cs) (ha:RepA w L k a va) :
  ∃ b o,va=.pointer (some ⟨b,o,none⟩)∧∀ (j:Nat) (x:AV),cs[j]?=some x→∃ v,w.cell? ⟨b,o+j,none⟩=some v∧RepA w L k x v:=by
 cases ha with
 | f x v hx =>
  cases hx with
  | fp cs' b o vs hF hr =>
   obtain rfl:cs'.map AV.f=cs:=by simpa [cellsAt] using hc
   refine ⟨b,o,rfl,fun j x hj=>?_⟩
   rw [List.getElem?_map,Option.map_eq_some_iff] at hj
   obtain ⟨y,hy,rfl⟩:=hj
   exact ⟨vs j,(hF j y hy).2.1,.f _ _ (hr j y hy)⟩
  | _=>simp [cellsAt] at hc
 | ref b off c hm =>
  simp only [cellsAt,ix,Option.map_eq_some_iff] at hc
  obtain ⟨cs',h1,rfl⟩:=hc
  refine ⟨c,off,rfl,fun j x hj=>?_⟩
  rw [List.getElem?_drop] at hj
  obtain ⟨_,_,v,h3,h4,_⟩:=H.heap b c _ cs' x hm h1 hj
  exact ⟨v,h3,h4⟩
 | _=>simp [cellsAt] at hc
theorem addr_add (b o n:Nat):(⟨b,o,none⟩:Addr).add n=⟨b,o+n,none⟩:=by
 unfold Addr.add; split <;> simp_all
def opLoad (T:TV) (h:List (List AV)) (t:TypeId) (a:AV):Option AV :=
 match T t with
 | none=>none
 | some ty=>match cellsAt h a with
  | none=>none
  | some cs=>if ty.agg then (if ty.size≤cs.length then some (.agg (cs.take ty.size)) else none) else cs.head?
theorem opLoad_run {T:TV} (hT:TOk P T) (H:Mem B L h k w) {t:TypeId} {a x:AV} {va:Value} (ha:RepA w L k a va) (ho:opLoad T h t a=some x) :
  ∃ v,(Instr.loadAt t va).run P w=.ok v w∧RepA w L k x v:=by
 unfold opLoad at ho
 cases ht:T t with
 | none=>simp [ht] at ho
 | some ty =>
  obtain ⟨i,z,Ht⟩:=hT t ty ht
  cases hc:cellsAt h a with
  | none=>simp [ht,hc] at ho
  | some cs =>
   simp only [ht,hc] at ho
   obtain ⟨b,o,rfl,hcs⟩:=cellsAt_rep H hc ha
   simp only [Instr.loadAt,Instr.sureAddr,Sem.run_bind,Sem.run_pure,Result.andThen_ok,loadVar,Ht.run_agg]
   split at ho
   ·rename_i hag
    split at ho
    ·rename_i hsz
     obtain rfl:AV.agg (cs.take ty.size)=x:=by simpa using ho
     have hall:∀ j,j < ty.size→∃ v,w.cell? ⟨b,o+j,none⟩=some v:=fun j hj=>by
      obtain ⟨v,hv,_⟩:=hcs j cs[j] (List.getElem?_eq_getElem (by omega))
      exact ⟨v,hv⟩
     have:=run_loadCells (P:=P) (w:=w) ⟨b,o,none⟩ ty.size (fun j=>(w.cell? ⟨b,o+j,none⟩).getD undef) (fun j hj=>by
      rw [addr_add]; obtain ⟨v,hv⟩:=hall j hj; rw [hv]; rfl)
     rw [hag]
     simp only [if_true,Sem.run_bind,Ht.run_size,Result.andThen_ok,this,Sem.run_pure]
     refine ⟨_,rfl,RepL.agg ⟨by simp; omega,fun j x hj=>?_⟩⟩
     have hjl:j < ty.size:=by
      have:=(List.getElem?_eq_some_iff.1 hj).1; simp at this; omega
     rw [List.getElem?_take_of_lt hjl] at hj
     obtain ⟨v,hv,hr⟩:=hcs j x hj
     exact ⟨v,by simp [hjl,hv],hr⟩
    ·cases ho
   ·rename_i hag
    simp only [hag,if_false,Bool.false_eq_true]
    obtain ⟨v,hv,hr⟩:=hcs 0 x (by rw [← List.head?_eq_getElem?]; exact ho)
    rw [Nat.add_zero] at hv
    exact ⟨v,by simp [run_load,hv],hr⟩
def over (cs:List AV) (o:Nat):List AV→List AV
 | []=>cs
 | x::xs=>over (cs.set o x) (o+1) xs
theorem storeCells_run (xs:List AV):∀ {h:List (List AV)} {w:World} {b c o i:Nat} {cs:List AV} {vs:List Value},Mem B L h k w→L.m[b]?=some c→h[b]?=some cs→o+i+xs.length≤cs.length →
  vs.length=xs.length→(∀ (j:Nat) x,xs[j]?=some x→∃ v,vs[j]?=some v∧RepA w L k x v∧x.one=true) →
  ∃ w',(storeCells ⟨c,o,none⟩ vs i).run P w=.ok () w'∧Mem B L (h.set b (over cs (o+i) xs)) k w'∧Ext L k w L k w':=by
 induction xs with
 | nil =>
  intro h w b c o i cs vs H h1 h2 hle hl hv
  obtain rfl:vs=[]:=by simpa using hl
  refine ⟨w,rfl,?_,Ext.refl _ _ _⟩
  have:h.set b (over cs (o+i) [])=h:=by
   apply List.ext_getElem?
   intro q
   by_cases e:b=q
   ·subst e; rw [List.getElem?_set_self ((List.getElem?_eq_some_iff.1 h2).1),h2]; rfl
   ·rw [List.getElem?_set_ne e]
  rw [this]; exact H
 | cons x xs ih =>
  intro h w b c o i cs vs H h1 h2 hle hl hv
  cases vs with
  | nil=>simp at hl
  | cons v vs =>
   simp only [List.length_cons] at hle hl
   obtain ⟨v',hv',hr,hone⟩:=hv 0 x rfl
   obtain rfl:v=v':=by simpa using hv'
   have ho:=hr.oneCell hone
   have h3:cs[o+i]?=some cs[o+i]:=List.getElem?_eq_getElem (by omega)
   obtain ⟨a1,a2,v0,a3,a4,a5⟩:=H.heap b c _ cs _ h1 h2 h3
   obtain ⟨H1,he⟩:=H.set h1 h2 h3 hr ho
   have hbl:b < h.length:=(List.getElem?_eq_some_iff.1 h2).1
   obtain ⟨w',hw',H2,he2⟩:=ih (h:=h.set b (cs.set (o+i) x)) (b:=b) (c:=c) (o:=o) (i:=i+1) (cs:=cs.set (o+i) x) (vs:=vs) H1 h1 (List.getElem?_set_self hbl) (by simp; omega) (by omega)
    (fun j y hj=>by
     obtain ⟨u,hu,hru,h1u⟩:=hv (j+1) y (by simpa using hj)
     exact ⟨u,by simpa using hu,hru.mono he (Nat.le_refl _),h1u⟩)
   refine ⟨w',?_,?_,he.trans he2 (Nat.le_refl _)⟩
   ·simp only [storeCells,Sem.run_bind,run_store _ _ _ _ _ ho,addr_add,a3,a2,Bool.false_eq_true,if_false,Result.andThen_ok]
    exact hw'
   ·rw [List.set_set] at H2
    exact H2
def opStore (T:TV) (h:List (List AV)) (t:TypeId) (a x:AV):Option (List (List AV)) :=
 match T t,a with
 | some ty,.ref b off=>match ix h b with
  | some cs=>if x.cells.length=ty.size∧off+ty.size≤cs.length∧x.cells.all AV.one=true then some (h.set b (over cs off x.cells)) else none
  | none=>none
 | _,_=>none
theorem opStore_run {T:TV} (hT:TOk P T) (H:Mem B L h k w) {t:TypeId} {a x:AV} {va vx:Value} {h':List (List AV)} (ha:RepA w L k a va) (hx:RepA w L k x vx) (ho:opStore T h t a x=some h') :
  ∃ w',(Instr.storeAt t va vx).run P w=.ok () w'∧Mem B L h' k w'∧Ext L k w L k w':=by
 unfold opStore at ho
 simp only [ix] at ho
 split at ho
 case h_2=>cases ho
 rename_i ty b off ht
 obtain ⟨i,z,Ht⟩:=hT t ty ht
 cases hc:h[b]? with
 | none=>simp [hc] at ho
 | some cs =>
  simp only [hc] at ho
  split at ho
  case isFalse=>cases ho
  rename_i hcond
  obtain ⟨h1,h2,h3⟩:=hcond
  obtain rfl:h.set b (over cs off x.cells)=h':=by simpa using ho
  cases ha with
  | ref b' off' c hm =>
   obtain ⟨hs,hcell⟩:=hx.cells
   obtain ⟨w',hw',H',he⟩:=storeCells_run (P:=P) x.cells (o:=off) (i:=0) (vs:=vx.cells.toList) H hm hc (by omega) (by simpa using hs) (fun j y hj=>by
    obtain ⟨v,hv,hr⟩:=hcell j y hj
    exact ⟨v,by simpa using hv,hr,List.all_eq_true.1 h3 y (List.mem_of_getElem? hj)⟩)
   refine ⟨w',?_,H',he⟩
   simp only [Instr.storeAt,Instr.sureAddr,storeVar,Sem.run_bind,Sem.run_pure,Result.andThen_ok,Ht.run_size]
   rw [if_neg (by rw [hs]; simpa using h1)]
   simpa using hw'
end Go.Proofs.YtafenffmgpcjcaaGreat.Vf
namespace Go.Proofs.YtafenffmgpcjcaaGreat.Vf
open Go.RowKit
set_option linter.unusedVariables false
set_option linter.unusedSimpArgs false
variable {B:Base} {L:Lk} {h:List (List AV)} {k:List (Nat × Nat)} {w:World} {P:Program} {T:TV}
theorem Rep.drop {F:Cells} {cs:List FV} {b o n:Nat} (H:Rep w F (.fp cs) (.pointer (some ⟨b,o,none⟩))):Rep w F (.fp (cs.drop n)) (.pointer (some ⟨b,o+n,none⟩)):=by
 cases H with
 | fp cs b o vs hF hr =>
  refine .fp _ _ _ (fun j=>vs (n+j)) (fun j y hj=>?_) (fun j y hj=>hr _ y (by rwa [List.getElem?_drop] at hj))
  have:=hF (n+j) y (by rwa [List.getElem?_drop] at hj)
  rwa [← Nat.add_assoc] at this
def opFieldAddr (T:TV) (s:TypeId) (a:AV) (n:Nat):Option AV :=
 match T s with
 | some ⟨_,_,.struct fs,_⟩=>match ix fs n with
  | some (o,t)=>match T t with
   | some ty=>if ty.size=0 then none else match a with
    | .ref b off=>some (.ref b (off+o))
    | .f (.fp cs)=>some (.f (.fp (cs.drop o)))
    | _=>none
   | none=>none
  | none=>none
 | _=>none
theorem opFieldAddr_run (hT:TOk P T) {s:TypeId} {a x:AV} {va:Value} {n:Nat} (ha:RepA w L k a va) (ho:opFieldAddr T s a n=some x) :
  ∃ v,(Instr.fieldAt s va n).run P w=.ok v w∧RepA w L k x v:=by
 unfold opFieldAddr at ho
 simp only [ix] at ho
 split at ho
 case h_2=>cases ho
 rename_i sz by_ fs zz hs
 obtain ⟨i,z,Hs⟩:=hT s _ hs
 obtain ⟨fields,hu,hfs⟩:=Hs.d
 split at ho
 case h_2=>cases ho
 rename_i o t hn
 rw [← hfs,List.getElem?_map,Option.map_eq_some_iff] at hn
 obtain ⟨f,hf,he⟩:=hn
 obtain ⟨rfl,rfl⟩:f.offset=o∧f.type=t:=by simpa using he
 split at ho
 case h_2=>cases ho
 rename_i ty hty
 obtain ⟨i2,z2,Ht⟩:=hT _ _ hty
 split at ho
 case isTrue=>cases ho
 rename_i hne
 have hf':fields[n]?=some f:=by simpa using hf
 have hrun:∀ b o,(Instr.fieldAt s (.pointer (some ⟨b,o,none⟩)) n).run P w=.ok (.pointer (some ⟨b,o+f.offset,none⟩)) w:=fun b o=>by
  simp only [Instr.fieldAt,Sem.run_bind,run_under hu,Result.andThen_ok,hf',Instr.sureAddr,Sem.run_pure,fieldPlace,Ht.run_size,hne,if_false,addr_add]
 split at ho
 ·rename_i b off
  obtain rfl:AV.ref b (off+f.offset)=x:=by simpa using ho
  cases ha with
  | ref b off c hm=>exact ⟨_,hrun _ _,.ref _ _ _ hm⟩
 ·rename_i cs
  obtain rfl:AV.f (.fp (cs.drop f.offset))=x:=by simpa using ho
  cases ha with
  | f x v hx =>
   cases hx with
   | fp cs b o vs hF hr=>exact ⟨_,hrun _ _,.f _ _ (Rep.drop (.fp cs b o vs hF hr))⟩
 ·cases ho
def aggCells:AV→Option (List AV)
 | .agg cs=>some cs
 | .f (.agg cs)=>some (cs.map .f)
 | _=>none
theorem aggCells_rep {x:AV} {v:Value} {cs:List AV} (hx:RepA w L k x v) (hc:aggCells x=some cs):∃ a,v=.agg a∧RepL w L k cs a:=by
 have hcell:=hx.cells
 cases hx with
 | agg cs' a vs ha hv hr =>
  obtain rfl:cs'=cs:=by simpa [aggCells] using hc
  exact ⟨a,rfl,hcell⟩
 | f x v hx =>
  cases hx with
  | agg cs' a vs ha hv hr =>
   obtain rfl:cs'.map AV.f=cs:=by simpa [aggCells] using hc
   exact ⟨a,rfl,hcell⟩
  | _=>simp [aggCells] at hc
 | _=>simp [aggCells] at hc
def partA (ty:Ty) (cs:List AV) (o:Nat):Option AV :=
 if ty.agg then (if o+ty.size≤cs.length then some (.agg ((cs.drop o).take ty.size)) else none) else ix cs o
theorem partA_run {t:TypeId} {ty:Ty} {i:TypeInfo} {z:Value} (Ht:TyOk P t ty i z) {cs:List AV} {a:Array Value} {o:Nat} {x:AV} (hc:RepL w L k cs a) (ho:partA ty cs o=some x) :
  ∃ v,(part t a o).run P w=.ok v w∧RepA w L k x v:=by
 unfold partA at ho
 simp only [ix] at ho
 unfold part
 simp only [Sem.run_bind,Ht.run_agg,Result.andThen_ok]
 split at ho
 ·rename_i hag
  split at ho
  case isFalse=>cases ho
  rename_i hle
  obtain rfl:AV.agg ((cs.drop o).take ty.size)=x:=by simpa using ho
  simp only [hag,if_true,Sem.run_bind,Ht.run_size,Result.andThen_ok,Sem.run_pure]
  refine ⟨_,rfl,RepL.agg ⟨by have:=hc.1; simp; omega,fun j y hj=>?_⟩⟩
  have hjl:j < ty.size:=by
   have:=(List.getElem?_eq_some_iff.1 hj).1; simp at this; omega
  rw [List.getElem?_take_of_lt hjl,List.getElem?_drop] at hj
  obtain ⟨v,hv,hr⟩:=hc.2 _ y hj
  refine ⟨v,?_,hr⟩
  rw [Array.getElem?_extract]
  have:=hc.1
  rw [if_pos (by omega)]; exact hv
 ·rename_i hag
  obtain ⟨v,hv,hr⟩:=hc.2 o x ho
  exact ⟨v,by simp [hag,hv],hr⟩
def opField (T:TV) (s:TypeId) (x:AV) (n:Nat):Option AV :=
 match T s with
 | some ⟨_,_,.struct fs,_⟩=>match ix fs n with
  | some (o,t)=>match T t with
   | some ty=>match aggCells x with
    | some cs=>partA ty cs o
    | none=>none
   | none=>none
  | none=>none
 | _=>none
theorem opField_run (hT:TOk P T) {s:TypeId} {a x:AV} {va:Value} {n:Nat} (ha:RepA w L k a va) (ho:opField T s a n=some x) :
  ∃ v,(Instr.field s va n).run P w=.ok v w∧RepA w L k x v:=by
 unfold opField at ho
 simp only [ix] at ho
 split at ho
 case h_2=>cases ho
 rename_i sz by_ fs zz hs
 obtain ⟨i,z,Hs⟩:=hT s _ hs
 obtain ⟨fields,hu,hfs⟩:=Hs.d
 split at ho
 case h_2=>cases ho
 rename_i o t hn
 rw [← hfs,List.getElem?_map,Option.map_eq_some_iff] at hn
 obtain ⟨f,hf,he⟩:=hn
 obtain ⟨rfl,rfl⟩:f.offset=o∧f.type=t:=by simpa using he
 have hf':fields[n]?=some f:=by simpa using hf
 split at ho
 case h_2=>cases ho
 rename_i ty hty
 obtain ⟨i2,z2,Ht⟩:=hT _ _ hty
 split at ho
 case h_2=>cases ho
 rename_i cs hcs
 obtain ⟨a',rfl,hl⟩:=aggCells_rep ha hcs
 obtain ⟨v,hv,hr⟩:=partA_run Ht hl ho
 exact ⟨v,by simpa [Instr.field,run_under hu,hf',asAgg] using hv,hr⟩
def idx:AV→Option Nat
 | .f (.sc (.int _ i))=>if 0≤i then some i.toNat else none
 | _=>none
theorem idx_rep {x:AV} {v:Value} {n:Nat} (hx:RepA w L k x v) (h:idx x=some n):∃ kd,v=.int kd (n:Int):=by
 unfold idx at h
 split at h
 ·rename_i kd i
  split at h
  ·rename_i h0
   obtain rfl:i.toNat=n:=by simpa using h
   cases hx with
   | f x v hx=>cases hx; exact ⟨kd,by rw [Int.toNat_of_nonneg h0]⟩
  ·cases h
 ·cases h
def getF (l:List FV) (i:Nat):Option FV:=l[i]?
def opIndexAddr (T:TV) (t:TypeId) (x ix:AV):Option AV :=
 match T t,idx ix with
 | some ⟨_,_,.slice e,_⟩,some i=>match T e with
  | some ty=>match x with
   | .f (.sl l _)=>match getF l i with
    | some y=>if y.cells.length=ty.size then some (.f (.fp y.cells)) else none
    | none=>none
   | .own l _=>match getF l i with
    | some y=>if y.cells.length=ty.size then some (.f (.fp y.cells)) else none
    | none=>none
   | .ms b off len cap sz=>if i < len∧sz=ty.size then some (.ref b (off+i * sz)) else none
   | _=>none
  | none=>none
 | some ⟨_,_,.array n e,_⟩,some i=>match T e with
  | some ty=>if i < n then match x with
   | .ref b off=>some (.ref b (off+i * ty.size))
   | .f (.fp cs)=>some (.f (.fp (cs.drop (i * ty.size))))
   | _=>none else none
  | none=>none
 | _,_=>none
theorem Rep.elem {F:Cells} {l:List FV} {c:Cap} {v:Value} {i:Nat} {y:FV} (H:Rep w F (.sl l c) v) (hi:l[i]?=some y) :
  ∃ b o cap sz,v=.slice (some ⟨b,o,none⟩) l.length cap∧sz=y.cells.length∧l.length≤cap∧Rep w F (.fp y.cells) (.pointer (some ⟨b,o+i * sz,none⟩)):=by
 cases H with
 | nil c=>simp at hi
 | emp a cap=>simp at hi
 | sl l c b o cap sz vs hc hf hle hz hF hr=>exact ⟨b,o,cap,sz,rfl,(hz i y hi).symm,hle,.fp _ _ _ (vs i) (fun j u hj=>hF i j y u hi hj) (fun j u hj=>hr i j y u hi hj)⟩
theorem opIndexAddr_run (hT:TOk P T) {t:TypeId} {a ix x:AV} {va vi:Value} (ha:RepA w L k a va) (hi:RepA w L k ix vi) (ho:opIndexAddr T t a ix=some x) :
  ∃ v,(Instr.indexAt t va vi).run P w=.ok v w∧RepA w L k x v:=by
 unfold opIndexAddr at ho
 split at ho
 case h_3=>cases ho
 ·rename_i sz by_ e zz i hs hix
  obtain ⟨ti,z,Hs⟩:=hT t _ hs
  have hu:P.underlying t=some (.slice e):=Hs.d
  obtain ⟨kd,rfl⟩:=idx_rep hi hix
  split at ho
  case h_2=>cases ho
  rename_i ty hty
  obtain ⟨i2,z2,Ht⟩:=hT _ _ hty
  have hrun:∀ b o len cap,i < len→(Instr.indexAt t (.slice (some ⟨b,o,none⟩) len cap) (.int kd (i:Int))).run P w=.ok (.pointer (some ⟨b,o+i * ty.size,none⟩)) w:=fun b o len cap hlt=>by
   have:(0:Int)≤(i:Int)∧(i:Int) < (len:Int):=by omega
   simp only [Instr.indexAt,asIntOf,Sem.run_bind,Sem.run_pure,Result.andThen_ok,run_under hu,this,and_self,if_true,Ht.run_size,addr_add,Int.toNat_natCast]
  have hel:∀ (l:List FV) c y,l[i]?=some y→y.cells.length=ty.size→Rep w L.F (.sl l c) va→∃ v,(Instr.indexAt t va (.int kd (i:Int))).run P w=.ok v w∧RepA w L k (.f (.fp y.cells)) v:=fun l c y hy hsz H=>by
   obtain ⟨b,o,cap,sz,rfl,he,hle,hr⟩:=H.elem hy
   refine ⟨_,hrun _ _ _ _ (List.getElem?_eq_some_iff.1 hy).1,.f _ _ ?_⟩
   rw [← hsz,← he]; exact hr
  split at ho
  ·rename_i l c
   split at ho
   case h_2=>cases ho
   rename_i y hy
   split at ho
   case isFalse=>cases ho
   rename_i hsz
   obtain rfl:AV.f (.fp y.cells)=x:=by simpa using ho
   cases ha with
   | f x v hx=>exact hel l c y hy hsz hx
  ·rename_i l tk
   split at ho
   case h_2=>cases ho
   rename_i y hy
   split at ho
   case isFalse=>cases ho
   rename_i hsz
   obtain rfl:AV.f (.fp y.cells)=x:=by simpa using ho
   cases ha with
   | own l t b o cap h n sz hk hn hz ht=>exact hel l _ y hy hsz h
  ·rename_i b off len cap sz
   split at ho
   case isFalse=>cases ho
   rename_i hc
   obtain ⟨h1,rfl⟩:=hc
   obtain rfl:AV.ref b (off+i * ty.size)=x:=by simpa using ho
   cases ha with
   | ms b off len cap sz c hm=>exact ⟨_,hrun _ _ _ _ h1,.ref _ _ _ hm⟩
  ·cases ho
 ·rename_i sz by_ n e zz i hs hix
  obtain ⟨ti,z,Hs⟩:=hT t _ hs
  have hu:P.underlying t=some (.array n e):=Hs.d
  obtain ⟨kd,rfl⟩:=idx_rep hi hix
  split at ho
  case h_2=>cases ho
  rename_i ty hty
  obtain ⟨i2,z2,Ht⟩:=hT _ _ hty
  split at ho
  case isFalse=>cases ho
  rename_i hlt
  have hrun:∀ b o,(Instr.indexAt t (.pointer (some ⟨b,o,none⟩)) (.int kd (i:Int))).run P w=.ok (.pointer (some ⟨b,o+i * ty.size,none⟩)) w:=fun b o=>by
   have:(0:Int)≤(i:Int)∧(i:Int) < (n:Int):=by omega
   simp only [Instr.indexAt,asIntOf,Sem.run_bind,Sem.run_pure,Result.andThen_ok,run_under hu,Instr.sureAddr,this,and_self,if_true,Ht.run_size,addr_add,Int.toNat_natCast]
  split at ho
  ·rename_i b off
   obtain rfl:AV.ref b (off+i * ty.size)=x:=by simpa using ho
   cases ha with
   | ref b off c hm=>exact ⟨_,hrun _ _,.ref _ _ _ hm⟩
  ·rename_i cs
   obtain rfl:AV.f (.fp (cs.drop (i * ty.size)))=x:=by simpa using ho
   cases ha with
   | f x v hx =>
    cases hx with
    | fp cs b o vs hF hr=>exact ⟨_,hrun _ _,.f _ _ (Rep.drop (.fp cs b o vs hF hr))⟩
  ·cases ho
end Go.Proofs.YtafenffmgpcjcaaGreat.Vf
namespace Go.Proofs.YtafenffmgpcjcaaGreat.Vf
open Go.RowKit
set_option linter.unusedVariables false
set_option linter.unusedSimpArgs false
variable {B:Base} {L:Lk} {h:List (List AV)} {k:List (Nat × Nat)} {w:World} {P:Program} {T:TV}
def runPure {α:Type} (P:Program):Sem α→Option α
 | .pure a=>some a
 | .program kk=>runPure P (kk P)
 | .mark _ kk=>runPure P kk
 | _=>none
theorem runPure_run {α:Type} (m:Sem α) {a:α} (h:runPure P m=some a):m.run P w=.ok a w:=by
 induction m with
 | pure x=>simp [runPure] at h; subst h; rfl
 | program kk ih=>exact ih P h
 | mark x kk ih=>exact ih h
 | _=>simp [runPure] at h
theorem runPure_pure {α:Type} (a:α):runPure P (pure a:Sem α)=some a:=rfl
theorem runPure_bind {α β:Type} (m:Sem α) (f:α→Sem β):runPure P (m >>= f)=(runPure P m).bind fun a=>runPure P (f a):=by
 show runPure P (m.bind f)=_
 induction m with
 | pure x=>rfl
 | program kk ih=>exact ih P
 | mark x kk ih=>exact ih
 | _=>rfl
def mapO {α β:Type} (f:α→Option β):List α→Option (List β)
 | []=>some []
 | x::xs=>match f x with
  | some y=>match mapO f xs with
   | some ys=>some (y::ys)
   | none=>none
  | none=>none
theorem mapO_get {α β:Type} {f:α→Option β} {l:List α}:∀ {r:List β},mapO f l=some r→r.length=l.length∧∀ (j:Nat) x,l[j]?=some x→∃ y,r[j]?=some y∧f x=some y:=by
 induction l with
 | nil=>intro r h; simp [mapO] at h; subst h; exact ⟨rfl,fun j x hj=>by simp at hj⟩
 | cons a l ih =>
  intro r h
  simp only [mapO] at h
  split at h
  case h_2=>cases h
  rename_i y hy
  split at h
  case h_2=>cases h
  rename_i ys hys
  obtain rfl:y::ys=r:=by simpa using h
  obtain ⟨h1,h2⟩:=ih hys
  refine ⟨by simp [h1],fun j x hj=>?_⟩
  cases j with
  | zero => obtain rfl : a = x := by simpa using hj; 
            exact ⟨y,rfl,hy⟩
  | succ j=>exact h2 j x (by simpa using hj)
def cellVal:AV→Option Value
 | .f (.sc v)=>some v
 | .f (.sl [] .nil)=>some (.slice none 0 0)
 | _=>none
theorem cellVal_rep {x:AV} {u v:Value} (hx:RepA w L k x v) (h:cellVal x=some u):v=u:=by
 unfold cellVal at h
 split at h
 ·cases hx with
  | f x v hx=>cases hx; simpa using h
 ·cases hx with
  | f x v hx =>
   cases hx with
   | nil c=>simpa using h
   | sl l c b o cap sz vs hc=>exact absurd rfl hc
 ·cases h
def AV.val (x:AV):Option Value :=
 match aggCells x with
 | some cs=>match mapO cellVal cs with
  | some vs=>some (.agg vs.toArray)
  | none=>none
 | none=>cellVal x
theorem val_rep {x:AV} {u v:Value} (hx:RepA w L k x v) (h:x.val=some u):v=u:=by
 unfold AV.val at h
 split at h
 ·rename_i cs hcs
  obtain ⟨a,rfl,hl⟩:=aggCells_rep hx hcs
  split at h
  case h_2=>cases h
  rename_i vs hvs
  obtain rfl:Value.agg vs.toArray=u:=by simpa using h
  obtain ⟨h1,h2⟩:=mapO_get hvs
  congr 1
  apply Array.ext
  ·rw [hl.1]; simp [h1]
  ·intro i hi1 hi2
   have hil:i < cs.length:=by have:=hl.1; omega
   obtain ⟨v,hv,hr⟩:=hl.2 i cs[i] (List.getElem?_eq_getElem hil)
   obtain ⟨y,hy,hc⟩:=h2 i cs[i] (List.getElem?_eq_getElem hil)
   have:=cellVal_rep hr hc
   subst this
   have e1:a[i]=v:=by simpa [Array.getElem?_eq_getElem hi1] using hv
   have e2:vs[i]'(by simpa using hi2)=v:=by
    rw [List.getElem?_eq_getElem (by simpa using hi2)] at hy; simpa using hy
   rw [e1]; simpa using e2.symm
 ·exact cellVal_rep hx h
def ofVal:Value→AV
 | .agg a=>.agg (a.toList.map constA)
 | .tuple a=>.tup (a.toList.map constA)
 | v=>constA v
theorem constList_rep (a:Array Value):RepL w L k (a.toList.map constA) a:=⟨by simp,fun j x hj=>by
 rw [List.getElem?_map,Option.map_eq_some_iff] at hj
 obtain ⟨v,hv,rfl⟩:=hj
 exact ⟨v,by simpa using hv,constA_rep v⟩⟩
theorem ofVal_rep (v:Value):RepA w L k (ofVal v) v:=by
 unfold ofVal
 split
 ·exact (constList_rep _).agg
 ·exact (constList_rep _).tup
 ·exact constA_rep _
def opPure (P:Program) (ρ:Operand→AV) (o:Oper):Option AV :=
 if o.op.operands.toList.all (fun x=>(ρ x).val.isSome) then
  match runPure P (execOp (fun x=>((ρ x).val).getD undef) o) with
  | some (.value v)=>some (ofVal v)
  | _=>none
 else none
theorem opPure_run {ρ:Operand→AV} {σ:Operand→Value} (hρ:∀ x,RepA w L k (ρ x) (σ x)) {o:Oper} {x:AV} (hs:∀ cs b,o.op ≠ .select cs b) (ho:opPure P ρ o=some x) :
  ∃ v,(execOp σ o).run P w=.ok (.value v) w∧RepA w L k x v:=by
 unfold opPure at ho
 split at ho
 case isFalse=>cases ho
 rename_i hall
 split at ho
 case h_2=>cases ho
 rename_i v hv
 obtain rfl:ofVal v=x:=by simpa using ho
 refine ⟨v,?_,ofVal_rep v⟩
 rw [execOp_congr (ρ:=σ) (ρ':=fun x=>((ρ x).val).getD undef) o hs (fun y hy=>?_)]
 ·exact runPure_run _ hv
 ·have:=List.all_eq_true.1 hall y (by simpa using hy)
  obtain ⟨u,hu⟩:=Option.isSome_iff_exists.1 this
  rw [hu]
  exact val_rep (hρ y) hu
def opAlloc (T:TV) (h:List (List AV)) (t:TypeId):Option (AV × List (List AV)) :=
 match T t with
 | some ty=>if ty.z.all AV.one then some (.ref h.length 0,h ++ [ty.z]) else none
 | none=>none
theorem newRow_run (H:Mem B L h k w) {cs:List AV} {arr:Array Value} {e:TypeId} (hc:RepL w L k cs arr) (h1:cs.all AV.one=true) :
  ∃ w' L',(newRow e arr).run P w=.ok ⟨w.heap.size,0,none⟩ w'∧Mem B L' (h ++ [cs]) k w'∧Ext L k w L' k w'∧L'.m[h.length]?=some w.heap.size:=by
 obtain ⟨H1,he⟩:=H.box (e:=e) hc.1 (fun j=>arr.getD j undef) (fun j x hj=>⟨hc.vs.1 j x hj,(hc.vs.2 j x hj).oneCell (List.all_eq_true.1 h1 x (List.mem_of_getElem? hj))⟩) hc.vs.2
 refine ⟨_,_,by simp only [newRow,Sem.run_bind,run_newObj,Result.andThen_ok]; rfl,H1,he,?_⟩
 rw [← H.mlen]; simp
theorem opAlloc_run (hT:TOk P T) (H:Mem B L h k w) {t:TypeId} {x:AV} {h':List (List AV)} {old:Value} (ho:opAlloc T h t=some (x,h')) :
  ∃ v w' L',(Instr.alloc t true old).run P w=.ok v w'∧Mem B L' h' k w'∧Ext L k w L' k w'∧RepA w' L' k x v:=by
 unfold opAlloc at ho
 split at ho
 case h_2=>cases ho
 rename_i ty ht
 obtain ⟨i,z,Ht⟩:=hT _ _ ht
 split at ho
 case isFalse=>cases ho
 rename_i h1
 obtain ⟨rfl,rfl⟩:AV.ref h.length 0=x∧h ++ [ty.z]=h':=by simpa using ho
 obtain ⟨w',L',hr,H',he,hm⟩:=newRow_run (P:=P) (e:=t) H (cs:=ty.z) (arr:=z.cells) (by rw [← Ht.zc]; exact constList_rep _) h1
 refine ⟨_,w',L',?_,H',he,.ref _ _ _ hm⟩
 simp only [Instr.alloc,Sem.run_bind,Ht.run_zero,Result.andThen_ok,newVar,hr,Sem.run_pure]
def opBox (h:List (List AV)) (x:AV):Option (AV × List (List AV)):=if x.cells.all AV.one then some (.ref h.length 0,h ++ [x.cells]) else none
theorem opBox_run (H:Mem B L h k w) {t:TypeId} {a x:AV} {va:Value} {h':List (List AV)} (ha:RepA w L k a va) (ho:opBox h a=some (x,h')) :
  ∃ v w' L',(Instr.box t va).run P w=.ok v w'∧Mem B L' h' k w'∧Ext L k w L' k w'∧RepA w' L' k x v:=by
 unfold opBox at ho
 split at ho
 case isFalse=>cases ho
 rename_i h1
 obtain ⟨rfl,rfl⟩:AV.ref h.length 0=x∧h ++ [a.cells]=h':=by simpa using ho
 obtain ⟨w',L',hr,H',he,hm⟩:=newRow_run (P:=P) (e:=t) H ha.cells h1
 refine ⟨_,w',L',?_,H',he,.ref _ _ _ hm⟩
 simp only [Instr.box,Sem.run_bind,Result.andThen_ok,newVar,hr,Sem.run_pure]
def fillA (pl:Nat→Option (Nat × Nat)):List (Nat × AV)→List AV→Option (List AV)
 | [],cs=>some cs
 | (i,x)::rest,cs=>match pl i with
  | some (o,s)=>if x.cells.length=s∧o+s≤cs.length then fillA pl rest (over cs o x.cells) else none
  | none=>none
theorem over_rep (xs:List AV):∀ {cs:List AV} {a:Array Value} {o i:Nat} {vs:List Value},RepL w L k cs a→vs.length=xs.length→(∀ (j:Nat) x,xs[j]?=some x→∃ v,vs[j]?=some v∧RepA w L k x v)→o+i+xs.length≤cs.length →
  RepL w L k (over cs (o+i) xs) ((vs.zipIdx i).foldl (fun cs (c,j)=>cs.setIfInBounds (o+j) c) a):=by
 induction xs with
 | nil =>
  intro cs a o i vs hc hl hv hle
  obtain rfl:vs=[]:=by simpa using hl
  exact hc
 | cons x xs ih =>
  intro cs a o i vs hc hl hv hle
  cases vs with
  | nil=>simp at hl
  | cons v vs =>
   simp only [List.length_cons] at hl hle
   obtain ⟨v',hv',hr⟩:=hv 0 x rfl
   obtain rfl:v=v':=by simpa using hv'
   simp only [List.zipIdx_cons,List.foldl_cons]
   refine ih (cs:=cs.set (o+i) x) (i:=i+1) ⟨by simpa using hc.1,fun j y hj=>?_⟩ (by omega) (fun j y hj=>by simpa using hv (j+1) y (by simpa using hj)) (by simp; omega)
   rcases get_set hj with ⟨hne,hj⟩ | ⟨rfl,rfl,hlt⟩
   ·obtain ⟨u,hu,hru⟩:=hc.2 j y hj
    exact ⟨u,by rw [Array.getElem?_setIfInBounds_ne (by omega)]; exact hu,hru⟩
   ·exact ⟨v,by rw [Array.getElem?_setIfInBounds_self_of_lt (by have:=hc.1; omega)],hr⟩
theorem fillA_rep {pl:Nat→Option (Nat × Nat)} (ps:List (Nat × AV)):∀ {cs r:List AV} {a:Array Value} {vs:List (Nat × Value)},RepL w L k cs a→vs.map (·.1)=ps.map (·.1)→(∀ (j:Nat) p,ps[j]?=some p→∃ v,vs[j]?=some v∧RepA w L k p.2 v.2) →
  fillA pl ps cs=some r→∃ a',Instr.fill pl a vs=some a'∧RepL w L k r a':=by
 induction ps with
 | nil =>
  intro cs r a vs hc hl hv ho
  obtain rfl:vs=[]:=by simpa using hl
  obtain rfl:cs=r:=by simpa [fillA] using ho
  exact ⟨a,rfl,hc⟩
 | cons p ps ih =>
  intro cs r a vs hc hl hv ho
  cases vs with
  | nil=>simp at hl
  | cons v vs =>
   obtain ⟨i,x⟩:=p
   obtain ⟨i',v⟩:=v
   simp only [List.map_cons,List.cons.injEq] at hl
   obtain ⟨rfl,hl⟩:=hl
   simp only [fillA] at ho
   split at ho
   case h_2=>cases ho
   rename_i o s hp
   split at ho
   case isFalse=>cases ho
   rename_i hcond
   obtain ⟨hs,hle⟩:=hcond
   obtain ⟨v',hv',hr⟩:=hv 0 (i',x) rfl
   obtain rfl:(i',v)=v':=by simpa using hv'
   simp only at hr
   have hcell:=hr.cells
   have h1:=over_rep x.cells (o:=o) (i:=0) (vs:=v.cells.toList) hc (by simpa using hcell.1) (fun j y hj=>by
    obtain ⟨u,hu,hru⟩:=hcell.2 j y hj
    exact ⟨u,by simpa using hu,hru⟩) (by omega)
   obtain ⟨a',ha',hra⟩:=ih (vs:=vs) h1 hl (fun j q hj=>by simpa using hv (j+1) q (by simpa using hj)) ho
   refine ⟨a',?_,hra⟩
   simp only [Instr.fill,hp]
   have hz:v.cells.size=s:=by rw [hcell.1]; exact hs
   have hz2:¬ (o+v.cells.size > a.size):=by rw [hz,hc.1]; omega
   simp only [hz,ne_eq,not_true_eq_false,decide_false,Bool.false_or,decide_eq_true_eq]
   rw [hz] at hz2
   rw [if_neg hz2]
   rw [← ha',← Array.foldl_toList,Array.toList_zipIdx]
end Go.Proofs.YtafenffmgpcjcaaGreat.Vf
namespace Go.Proofs.YtafenffmgpcjcaaGreat.Vf
open Go.RowKit
set_option linter.unusedVariables false
set_option linter.unusedSimpArgs false
variable {B:Base} {L:Lk} {h:List (List AV)} {k:List (Nat × Nat)} {w:World} {P:Program} {T:TV}
def Flat (w:World) (F:Cells) (l:List FV) (sz:Nat) (cs:List Value):Prop :=
 cs.length=l.length * sz∧(∀ x ∈ l,x.cells.length=sz)∧(∀ v ∈ cs,v.oneCell'=true)∧∀ (i j:Nat) (x y:FV),l[i]?=some x→x.cells[j]?=some y→∃ v,cs[i * sz+j]?=some v∧Rep w F y v
theorem Flat.nil {F:Cells} {sz:Nat}:Flat w F [] sz []:=⟨by simp,by simp,by simp,fun i j x y h=>by simp at h⟩
theorem Flat.mono {F F':Cells} {w':World} {l:List FV} {sz:Nat} {cs:List Value} (H:Flat w F l sz cs) (hF:∀ b o,F b o→F' b o) (hk:Keep F w w'):Flat w' F' l sz cs :=
 ⟨H.1,H.2.1,H.2.2.1,fun i j x y hi hj=>let ⟨v,hv,hr⟩:=H.2.2.2 i j x y hi hj; ⟨v,hv,hr.mono hF hk⟩⟩
theorem Flat.append {F:Cells} {l l':List FV} {sz:Nat} {cs cs':List Value} (H:Flat w F l sz cs) (H':Flat w F l' sz cs'):Flat w F (l ++ l') sz (cs ++ cs'):=by
 refine ⟨by simp [H.1,H'.1,Nat.add_mul],fun x hx=>?_,fun v hv=>?_,fun i j x y hi hj=>?_⟩
 ·rcases List.mem_append.1 hx with hx | hx
  ·exact H.2.1 x hx
  ·exact H'.2.1 x hx
 ·rcases List.mem_append.1 hv with hv | hv
  ·exact H.2.2.1 v hv
  ·exact H'.2.2.1 v hv
 ·rw [List.getElem?_append] at hi
  split at hi
  ·rename_i hlt
   obtain ⟨v,hv,hr⟩:=H.2.2.2 i j x y hi hj
   exact ⟨v,by rw [List.getElem?_append_left (List.getElem?_eq_some_iff.1 hv).1]; exact hv,hr⟩
  ·rename_i hge
   obtain ⟨v,hv,hr⟩:=H'.2.2.2 (i - l.length) j x y hi hj
   refine ⟨v,?_,hr⟩
   have hge':l.length≤i:=by omega
   have e:i * sz+j=cs.length+((i - l.length) * sz+j):=by
    rw [H.1,Nat.sub_mul]
    have:=Nat.mul_le_mul_right sz hge'
    omega
   rw [e,List.getElem?_append_right (by omega)]
   simpa using hv
theorem Rep.flat {F:Cells} {l:List FV} {c:Cap} {n cap b o sz:Nat} (H:Rep w F (.sl l c) (.slice (some ⟨b,o,none⟩) n cap)) (hsz:∀ x ∈ l,x.cells.length=sz) (h0:0 < sz) :
  ∃ cs,Flat w F l sz cs∧∀ (j:Nat) v,cs[j]?=some v→w.cell? ⟨b,o+j,none⟩=some v∧F b (o+j):=by
 cases H with
 | emp a cap'=>exact ⟨[],Flat.nil,fun j v hj=>by simp at hj⟩
 | sl l c b o cap sz' vs hc hf hle hz hF hr =>
  have key:∀ q,q < l.length * sz→∃ x y,l[q / sz]?=some x∧x.cells[q % sz]?=some y∧sz'=sz:=fun q hq=>by
   have h1:q / sz < l.length:=Nat.div_lt_of_lt_mul (by rw [Nat.mul_comm]; exact hq)
   have h2:=hsz _ (List.getElem_mem h1)
   have h3:q % sz < (l[q / sz]).cells.length:=by rw [h2]; exact Nat.mod_lt _ h0
   exact ⟨_,_,List.getElem?_eq_getElem h1,List.getElem?_eq_getElem h3,by rw [← h2]; exact (hz _ _ (List.getElem?_eq_getElem h1)).symm⟩
  have hq:∀ q,q / sz * sz+q % sz=q:=fun q=>by have:=Nat.div_add_mod q sz; rw [Nat.mul_comm] at this; exact this
  refine ⟨(List.range (l.length * sz)).map fun q=>vs (q / sz) (q % sz),⟨by simp,hsz,fun v hv=>?_,fun i j x y hi hj=>?_⟩,fun j v hj=>?_⟩
  ·obtain ⟨q,hq1,rfl⟩:=List.mem_map.1 hv
   obtain ⟨x,y,hx,hy,rfl⟩:=key q (List.mem_range.1 hq1)
   exact (hF _ _ x y hx hy).2.2
  ·have hjl:j < sz:=by rw [← hsz x (List.mem_of_getElem? hi)]; exact (List.getElem?_eq_some_iff.1 hj).1
   have hil:=(List.getElem?_eq_some_iff.1 hi).1
   have hlt:i * sz+j < l.length * sz:=by
    have:(i+1) * sz≤l.length * sz:=Nat.mul_le_mul_right _ hil
    rw [Nat.add_mul] at this; omega
   refine ⟨vs i j,?_,hr i j x y hi hj⟩
   rw [List.getElem?_map,List.getElem?_range hlt]
   have e1:(i * sz+j) / sz=i:=by rw [Nat.mul_comm,Nat.mul_add_div h0,Nat.div_eq_of_lt hjl,Nat.add_zero]
   have e2:(i * sz+j) % sz=j:=by rw [Nat.mul_comm,Nat.mul_add_mod,Nat.mod_eq_of_lt hjl]
   simp [e1,e2]
  ·rw [List.getElem?_map,Option.map_eq_some_iff] at hj
   obtain ⟨q,hq1,rfl⟩:=hj
   have hlt:j < l.length * sz:=by have:=(List.getElem?_eq_some_iff.1 hq1).1; simpa using this
   obtain rfl:j=q:=by rw [List.getElem?_range hlt] at hq1; simpa using hq1
   obtain ⟨x,y,hx,hy,rfl⟩:=key j hlt
   have:=hF _ _ x y hx hy
   rw [Nat.add_assoc,hq] at this
   exact ⟨this.2.1,this.1⟩
theorem Flat.rep {F:Cells} {l:List FV} {c:Cap} {cap b o sz:Nat} {cs:List Value} (H:Flat w F l sz cs) (hc:c ≠ .nil) (hf:c=.full→cap=l.length) (hle:l.length≤cap)
  (hcell:∀ (j:Nat) v,cs[j]?=some v→w.cell? ⟨b,o+j,none⟩=some v∧F b (o+j)):Rep w F (.sl l c) (.slice (some ⟨b,o,none⟩) l.length cap):=by
 refine .sl l c b o cap sz (fun i j=>(cs[i * sz+j]?).getD undef) hc hf hle (fun i x hi=>H.2.1 x (List.mem_of_getElem? hi)) (fun i j x y hi hj=>?_) (fun i j x y hi hj=>?_)
 ·obtain ⟨v,hv,hr⟩:=H.2.2.2 i j x y hi hj
  have:=hcell _ v hv
  rw [← Nat.add_assoc] at this
  exact ⟨this.2,by rw [hv]; exact this.1,by rw [hv]; exact H.2.2.1 v (List.mem_of_getElem? hv)⟩
 ·obtain ⟨v,hv,hr⟩:=H.2.2.2 i j x y hi hj
  rw [hv]; exact hr
def elems:AV→Option (List FV)
 | .f (.sl l _)=>some l
 | .own l _=>some l
 | _=>none
theorem elems_rep {x:AV} {v:Value} {l:List FV} {sz:Nat} (hx:RepA w L k x v) (he:elems x=some l) (hsz:∀ y ∈ l,y.cells.length=sz) (h0:0 < sz) :
  ∃ a n cap cs,v=.slice a n cap∧n=l.length∧Flat w L.F l sz cs∧(l=[]∨∃ b o,a=some ⟨b,o,none⟩∧∀ (j:Nat) v,cs[j]?=some v→w.cell? ⟨b,o+j,none⟩=some v∧L.F b (o+j)):=by
 have main:∀ c,Rep w L.F (.sl l c) v→∃ a n cap cs,v=.slice a n cap∧n=l.length∧Flat w L.F l sz cs∧(l=[]∨∃ b o,a=some ⟨b,o,none⟩∧∀ (j:Nat) v,cs[j]?=some v→w.cell? ⟨b,o+j,none⟩=some v∧L.F b (o+j)):=fun c H=>by
  have H':=H
  cases H with
  | nil c=>exact ⟨_,_,_,[],rfl,rfl,Flat.nil,.inl rfl⟩
  | emp a cap=>exact ⟨_,_,_,[],rfl,rfl,Flat.nil,.inl rfl⟩
  | sl l c b o cap sz' vs hc hf hle hz hF hr =>
   obtain ⟨cs,h1,h2⟩:=H'.flat hsz h0
   exact ⟨_,_,_,cs,rfl,rfl,h1,.inr ⟨b,o,rfl,h2⟩⟩
 unfold elems at he
 split at he
 ·obtain rfl:=by simpa using he
  cases hx with
  | f x v hx=>exact main _ hx
 ·obtain rfl:=by simpa using he
  cases hx with
  | own l t b o cap h n sz' hk hn hz ht=>exact main _ h
 ·cases he
theorem newBlock (H:Mem B L h k w) {l:List FV} {sz cap:Nat} {cs:List Value} {arr:Array Value} {e:TypeId} (hf:Flat w L.F l sz cs) (hp:∀ (j:Nat) v,cs[j]?=some v→arr[j]?=some v) (hs:arr.size=cap * sz) (hle:l.length≤cap) (w1:World) (hw1:w1=w∨w1=w.drew) :
  ∃ F',Mem B ⟨L.m,L.t,F'⟩ h k (w1.alloc (.cells arr e))∧Ext L k w ⟨L.m,L.t,F'⟩ k (w1.alloc (.cells arr e))∧Spare B ⟨L.m,L.t,F'⟩ (w1.alloc (.cells arr e)) ⟨w.heap.size,0,cap⟩ l.length sz ∧
   (∀ (t:Nat) (r':Tok),L.t[t]?=some r'→r'.b ≠ w.heap.size)∧Flat (w1.alloc (.cells arr e)) F' l sz cs ∧
   ∀ (j:Nat) v,cs[j]?=some v→(w1.alloc (.cells arr e)).cell? ⟨w.heap.size,0+j,none⟩=some v∧F' w.heap.size (0+j):=by
 have hsz:w1.heap.size=w.heap.size:=by rcases hw1 with rfl | rfl <;> rfl
 have hb:Below w.heap.size w (w1.alloc (.cells arr e)):=by
  rcases hw1 with rfl | rfl
  ·exact (Below.refl _ _).alloc (Nat.le_refl _) _
  ·exact (Below.refl _ _).drew.alloc (Nat.le_refl _) _
 let F':Cells:=fun b o=>L.F b o∨(b=w.heap.size∧o < l.length * sz)
 obtain ⟨H1,he⟩:=H.grow hb (F':=F') (fun _ _ h=>.inl h) (fun b o h=>by
  rcases h with h | ⟨rfl,_⟩
  ·exact .inl h
  ·exact .inr (Nat.le_refl _)) (fun b o h=>by
  rcases h with h | ⟨rfl,_⟩
  ·have:=H.fz b o h; simp [hsz]; omega
  ·simp [hsz])
 have hnew:∀ j,(w1.alloc (.cells arr e)).cell? ⟨w.heap.size,j,none⟩=arr[j]?:=fun j=>by rw [← hsz]; exact World.cell?_alloc_new _ _ _ _
 refine ⟨F',H1,he,⟨H.size,by simp [hsz],⟨hle,rfl⟩,fun b hm=>?_,fun j hj hF=>?_,fun j hj hj2=>⟨?_,?_⟩⟩,fun t r' ht e=>?_,hf.mono he.F he.keep,fun j v hj=>⟨?_,.inr ⟨rfl,?_⟩⟩⟩
 ·have:=(H.mge b _ hm).2; simp at this
 ·rcases hF with hF | ⟨_,hF⟩
  ·have:=H.fz _ _ hF; simp at this
  ·simp at hj; omega
 ·rw [← hsz]; exact World.frozen?_alloc_new _ _ _ _
 ·simp only [Nat.zero_add] at hj2
  exact ⟨_,by rw [hnew]; exact Array.getElem?_eq_getElem (by omega)⟩
 ·have hlt:t < k.length:=by rw [← H.tlen]; exact (List.getElem?_eq_some_iff.1 ht).1
  have:=(H.tok t _ _ r' ht (List.getElem?_eq_getElem hlt)).2.1
  omega
 ·rw [Nat.zero_add,hnew]; exact hp j v hj
 ·rw [← hf.1]; have:=(List.getElem?_eq_some_iff.1 hj).1; omega
theorem storeSpare_run (vs:List Value):∀ {w:World} {t n sz i:Nat} {r:Tok},Mem B L h k w→L.t[t]?=some r→k[t]?=some (n,sz)→n * sz+i+vs.length≤r.cap * sz→(∀ v ∈ vs,v.oneCell'=true) →
  ∃ w',(storeCells ⟨r.b,r.o+n * sz,none⟩ vs i).run P w=.ok () w'∧Mem B L h k w'∧Ext L k w L k w' ∧
   (∀ (j:Nat) v,vs[j]?=some v→w'.cell? ⟨r.b,r.o+n * sz+i+j,none⟩=some v)∧∀ p:Addr,(p.block=r.b→p.off < r.o+n * sz+i)→w'.cell? p=w.cell? p:=by
 induction vs with
 | nil=>intro w t n sz i r H h1 h2 hle ho; exact ⟨w,rfl,H,Ext.refl _ _ _,fun j v hj=>by simp at hj,fun _ _=>rfl⟩
 | cons v vs ih =>
  intro w t n sz i r H h1 h2 hle ho
  simp only [List.length_cons] at hle
  have hs:=H.spare h1 h2
  obtain ⟨a2,v0,a3⟩:=hs.cell (r.o+n * sz+i) (by omega) (by omega)
  obtain ⟨H1,he⟩:=H.spareSet h1 h2 (j:=r.o+n * sz+i) (by omega) (by omega) v
  obtain ⟨w',hw',H2,he2,hc,hk⟩:=ih (i:=i+1) H1 h1 h2 (by omega) (fun u hu=>ho u (.tail _ hu))
  refine ⟨w',?_,H2,he.trans he2 (Nat.le_refl _),fun j u hj=>?_,fun p hp=>?_⟩
  ·simp only [storeCells,Sem.run_bind,run_store _ _ _ _ _ (ho v (.head _)),addr_add,a3,a2,Bool.false_eq_true,if_false,Result.andThen_ok]
   exact hw'
  ·cases j with
   | zero =>
    obtain rfl:v=u:=by simpa using hj
    rw [hk _ (fun _=>by simp)]
    exact World.cell?_setCell_same _ _ _ a3
   | succ j =>
    have:=hc j u (by simpa using hj)
    rw [show r.o+n * sz+i+(j+1)=r.o+n * sz+(i+1)+j by omega]; exact this
  ·rw [hk p (fun e=>by have:=hp e; omega)]
   exact World.cell?_setCell_other _ _ _ _ (fun e=>by have:=hp (by rw [← e]); rw [← e] at this; simp at this)
def opAppend (T:TV) (k:List (Nat × Nat)) (t:TypeId) (x y:AV):Option (AV × List (Nat × Nat)) :=
 match T t with
 | some ⟨_,_,.slice e,_⟩=>match T e,elems y with
  | some ety,some ys =>
   if ety.size=0 then none else if ys.all (fun u=>u.cells.length == ety.size) then
    (match x with
     | .f (.sl l c)=>if ys=[] then some (x,k) else if c ≠ .un∧l.all (fun u=>u.cells.length == ety.size)=true∧(l.length+ys.length) * ety.bytes≤140737488355328∧l.length+ys.length≤4611686018427387904 then
       some (.own (l ++ ys) k.length,k ++ [(l.length+ys.length,ety.size)]) else none
     | .own l t=>if ys=[] then some (x,k) else if k[t]?=some (l.length,ety.size)∧(l.length+ys.length) * ety.bytes≤140737488355328∧l.length+ys.length≤4611686018427387904 then
       some (.own (l ++ ys) t,k.set t (l.length+ys.length,ety.size)) else none
     | _=>none)
   else none
  | _,_=>none
 | _=>none
theorem opAppend_run (hT:TOk P T) (H:Mem B L h k w) {t ty:TypeId} {x y z:AV} {vx vy:Value} {k':List (Nat × Nat)} (hx:RepA w L k x vx) (hy:RepA w L k y vy) (ho:opAppend T k t x y=some (z,k')) :
  ∃ v w' L',(Builtin.append_ #[t,t] ty #[vx,vy]).run P w=.ok v w'∧Mem B L' h k' w'∧Ext L k w L' k' w'∧RepA w' L' k' z v∧k.length≤k'.length:=by
 unfold opAppend at ho
 split at ho
 case h_2=>cases ho
 rename_i s1 s2 e s3 ht
 obtain ⟨i,zt,Ht⟩:=hT _ _ ht
 have hu:P.underlying t=some (.slice e):=Ht.d
 split at ho
 case h_2=>cases ho
 rename_i ety ys hte hel
 obtain ⟨ie,ze,He⟩:=hT _ _ hte
 split at ho
 case isTrue=>cases ho
 rename_i hsz0
 split at ho
 case isFalse=>cases ho
 rename_i hyall
 have hyz:∀ u ∈ ys,u.cells.length=ety.size:=fun u hu=>by simpa using List.all_eq_true.1 hyall u hu
 obtain ⟨ay,ny,cy,csy,rfl,rfl,hfy,hcy0⟩:=elems_rep hy hel hyz (by omega)
 have hisz:ie.size=ety.size:=He.size
 have hempty:ys=[]→∀ a n c,(Builtin.append_ #[t,t] ty #[.slice a n c,.slice ay ys.length cy]).run P w=(if n≤c then .ok (.slice a n c) w else (Builtin.append_ #[t,t] ty #[.slice a n c,.slice ay ys.length cy]).run P w):=fun e0 a n c=>by
  split
  ·rename_i hle
   subst e0
   cases ay <;> cases a <;> simp [Builtin.append_,run_under hu,Builtin.lenOf,hle,Builtin.firstCells,loadCells,loadCellsFrom,storeCells,sizeOf,He.run_info]
  ·rfl
 have hsy:csy.length=ys.length * ie.size:=by rw [hisz]; exact hfy.1
 split at ho
 ·rename_i l c
  split at ho
  ·rename_i e0
   obtain ⟨rfl,rfl⟩:AV.f (.sl l c)=z∧k=k':=by simpa using ho
   have hx':=hx
   cases hx with
   | f x v hx =>
    cases hx with
    | nil c=>exact ⟨_,w,L,by rw [hempty e0,if_pos (Nat.le_refl _)],H,Ext.refl _ _ _,hx',Nat.le_refl _⟩
    | emp a cap=>exact ⟨_,w,L,by rw [hempty e0,if_pos (Nat.zero_le _)],H,Ext.refl _ _ _,hx',Nat.le_refl _⟩
    | sl l c b o cap sz vs hc hf hle=>exact ⟨_,w,L,by rw [hempty e0,if_pos hle],H,Ext.refl _ _ _,hx',Nat.le_refl _⟩
  ·rename_i hne
   split at ho
   case isFalse=>cases ho
   rename_i hcond
   obtain ⟨hc0,hlall,hby,h62⟩:=hcond
   obtain ⟨rfl,rfl⟩:AV.own (l ++ ys) k.length=z∧k ++ [(l.length+ys.length,ety.size)]=k':=by simpa using ho
   have hlz:∀ u ∈ l,u.cells.length=ety.size:=fun u hu=>by simpa using List.all_eq_true.1 hlall u hu
   obtain ⟨by_,oy,rfl,hcy⟩:=hcy0.resolve_left hne
   have hpos:0 < ys.length:=by cases ys with
    | nil=>exact absurd rfl hne
    | cons a b=>simp
   have fin:∀ (csl:List Value) (cap:Nat),Flat w L.F l ety.size csl→l.length+ys.length≤cap→∀ v,(Builtin.append_ #[t,t] ty #[vx,.slice (some ⟨by_,oy,none⟩) ys.length cy]).run P w=.ok v (w.drew.alloc (.cells (csl.toArray ++ csy.toArray ++ Builtin.zeroCells ze.cells (cap - (l.length+ys.length))) e))→v=.slice (some ⟨w.heap.size,0,none⟩) (l.length+ys.length) cap →
     ∃ v w' L',(Builtin.append_ #[t,t] ty #[vx,.slice (some ⟨by_,oy,none⟩) ys.length cy]).run P w=.ok v w'∧Mem B L' h (k ++ [(l.length+ys.length,ety.size)]) w'∧Ext L k w L' (k ++ [(l.length+ys.length,ety.size)]) w'∧RepA w' L' (k ++ [(l.length+ys.length,ety.size)]) (.own (l ++ ys) k.length) v∧k.length≤(k ++ [(l.length+ys.length,ety.size)]).length:=fun csl cap hfl hcap v hrun hv=>by
    have hfa:=hfl.append hfy
    have hsize:(csl.toArray ++ csy.toArray ++ Builtin.zeroCells ze.cells (cap - (l.length+ys.length))).size=cap * ety.size:=by
     simp only [Array.size_append,List.size_toArray,size_zeroCells,hfl.1,hfy.1,He.zs]
     rw [← Nat.add_mul,← Nat.add_mul]; congr 1; omega
    obtain ⟨F',H1,he1,hsp,hne1,hfa1,hc1⟩:=newBlock (e:=e) H hfa (arr:=csl.toArray ++ csy.toArray ++ Builtin.zeroCells ze.cells (cap - (l.length+ys.length))) (fun j v hj=>by
     have hjl:=(List.getElem?_eq_some_iff.1 hj).1
     rw [Array.getElem?_append_left (by simpa using hjl)]
     simpa using hj) hsize (by simpa using hcap) w.drew (.inr rfl)
    rw [List.length_append] at hsp
    refine ⟨v,_,⟨L.m,L.t ++ [⟨w.heap.size,0,cap⟩],F'⟩,hrun,H1.newTok hsp hne1,he1.trans (Ext.push (L:=⟨L.m,L.t,F'⟩) H1.tlen _ _) (Nat.le_refl _),?_,by simp⟩
    subst hv
    have hr:=hfa1.rep (c:=.un) (cap:=cap) (b:=w.heap.size) (o:=0) (by simp) (by simp) (by simpa using hcap) hc1
    rw [List.length_append] at hr
    have:=RepA.own (w:=w.drew.alloc (.cells (csl.toArray ++ csy.toArray ++ Builtin.zeroCells ze.cells (cap - (l.length+ys.length))) e)) (L:=⟨L.m,L.t ++ [⟨w.heap.size,0,cap⟩],F'⟩) (k:=k ++ [(l.length+ys.length,ety.size)]) (l ++ ys) k.length w.heap.size 0 cap (by rw [List.length_append]; exact hr) (l.length+ys.length) ety.size (by simp) (by simp) hfa1.2.1 (fun _=>by
     rw [← H.tlen]; simp)
    rw [List.length_append] at this
    exact this
   cases hx with
   | f x v hx =>
    have hx':=hx
    cases hx with
    | emp a cap=>exact absurd rfl hc0
    | nil c =>
     have hr:=run_append_nil (P:=P) w t ty e ie ze hu He.info He.zero ⟨by_,oy,none⟩ ys.length cy csy hsy (fun j v hj=>by rw [addr_add]; exact (hcy j v hj).1) hpos (by simp at h62; omega) (by rw [He.bytes]; simp at hby; omega)
     exact fin [] (grownCap w ys.length 0 e) Flat.nil (by simpa using grownCap_ge w ys.length 0 e) (.slice (some ⟨w.heap.size,0,none⟩) ys.length (grownCap w ys.length 0 e)) (by rw [hr]; simp) (by simp)
    | sl l c b o cap sz vs hc hf hle hz hF hr =>
     obtain ⟨csl,hfl,hcl⟩:=hx'.flat hlz (by omega)
     have hcf:cap=l.length:=hf (by cases c <;> simp_all)
     have hr:=run_append_grow (P:=P) w t ty e ie ze hu He.info He.zero ⟨b,o,none⟩ l.length cap csl (by rw [hisz]; exact hfl.1) (fun j v hj=>by rw [addr_add]; exact (hcl j v hj).1) ⟨by_,oy,none⟩ ys.length cy csy hsy (fun j v hj=>by rw [addr_add]; exact (hcy j v hj).1) (by omega) (by omega) (growslice_fits (by omega) (by rw [He.bytes]; exact hby))
     exact fin csl _ hfl (grownCap_ge w _ cap e) _ hr rfl
 ·rename_i l tk
  split at ho
  ·rename_i e0
   obtain ⟨rfl,rfl⟩:AV.own l tk=z∧k=k':=by simpa using ho
   have hx':=hx
   cases hx with
   | own l t b o cap hl n sz hk hn hz hti =>
    have hle:l.length≤cap:=by cases hl with
     | emp a cap=>exact Nat.zero_le _
     | sl l c b o cap sz vs hc hf hle=>exact hle
    exact ⟨_,w,L,by rw [hempty e0,if_pos hle],H,Ext.refl _ _ _,hx',Nat.le_refl _⟩
  ·rename_i hne
   split at ho
   case isFalse=>cases ho
   rename_i hcond
   obtain ⟨hktk,hby,h62⟩:=hcond
   obtain ⟨rfl,rfl⟩:AV.own (l ++ ys) tk=z∧k.set tk (l.length+ys.length,ety.size)=k':=by simpa using ho
   obtain ⟨by_,oy,rfl,hcy⟩:=hcy0.resolve_left hne
   have hpos:0 < ys.length:=by cases ys with
    | nil=>exact absurd rfl hne
    | cons a b=>simp
   cases hx with
   | own l t b o cap hl n sz hk hn hz hti =>
    rw [hktk] at hk
    obtain ⟨rfl,rfl⟩:l.length=n∧ety.size=sz:=by simpa using hk
    have htok:=hti rfl
    obtain ⟨csl,hfl,hcl⟩:=hl.flat hz (by omega)
    have hle:l.length≤cap:=by cases hl with
     | emp a cap=>exact Nat.zero_le _
     | sl l c b o cap sz vs hc hf hle=>exact hle
    have hfa:=hfl.append hfy
    have hktl:tk < k.length:=(List.getElem?_eq_some_iff.1 hktk).1
    by_cases hroom:l.length+ys.length≤cap
    ·have hm:(l.length+ys.length) * ety.size≤cap * ety.size:=Nat.mul_le_mul_right _ hroom
     obtain ⟨w',hw',H1,he1,hc1,hk1⟩:=storeSpare_run (P:=P) csy (i:=0) H htok hktk (by rw [hfy.1,Nat.add_zero,← Nat.add_mul]; exact hm) hfy.2.2.1
     obtain ⟨L2,hL2,hF2,H2,he2⟩:∃ L2:Lk,L2.t=L.t∧(∀ j,o+l.length * ety.size≤j→j < o+(l.length+ys.length) * ety.size→L2.F b j)∧Mem B L2 h (k.set tk (l.length+ys.length,ety.size)) w'∧Ext L k w' L2 (k.set tk (l.length+ys.length,ety.size)) w':=by
      have hc:=H1.claim htok hktk (n':=l.length+ys.length) (by omega) hroom
      refine ⟨_,?_,?_,hc.1,hc.2⟩
      ·rfl
      ·exact fun j h1 h2=>Or.inr ⟨rfl,h1,h2⟩
     have he:=he1.trans he2 (Nat.le_refl _)
     refine ⟨.slice (some ⟨b,o,none⟩) (l.length+ys.length) cap,w',_,?_,H2,he,?_,by simp⟩
     ·have hfc:=run_firstCells_some (P:=P) w ety.size ys.length ⟨by_,oy,none⟩ ys.length cy csy hfy.1 (fun j v hj=>by rw [addr_add]; exact (hcy j v hj).1)
      simp only at hw'
      simp [Builtin.append_,run_under hu,Builtin.lenOf,hroom,sizeOf,He.run_info,He.size,hfc,addr_add,hw']
     ·have hfa2:=(hfa.mono he.F he.keep)
      have hr:=hfa2.rep (c:=.un) (cap:=cap) (b:=b) (o:=o) (by simp) (by simp) (by simpa using hroom) (fun j v hj=>by
       rw [List.getElem?_append] at hj
       split at hj
       ·obtain ⟨g1,g2⟩:=hcl j v hj
        exact ⟨(he.keep _ _ g2).trans g1,he.F _ _ g2⟩
       ·rename_i hjl
        have hjc:=(List.getElem?_eq_some_iff.1 hj).1
        have:=hc1 _ v hj
        rw [hfl.1] at this hjl
        have e1:o+l.length * ety.size+0+(j - l.length * ety.size)=o+j:=by omega
        simp only at this
        rw [e1] at this
        have e2:csy.length=ys.length * ety.size:=hfy.1
        have e3:(l.length+ys.length) * ety.size=l.length * ety.size+ys.length * ety.size:=Nat.add_mul _ _ _
        exact ⟨this,hF2 _ (by omega) (by simp only [hfl.1] at hjc; omega)⟩)
      rw [List.length_append] at hr
      have:=RepA.own (w:=w') (L:=L2) (k:=k.set tk (l.length+ys.length,ety.size)) (l ++ ys) tk b o cap (by rw [List.length_append]; exact hr) (l.length+ys.length) ety.size (List.getElem?_set_self hktl) (by simp) hfa.2.1 (fun _=>hL2.symm ▸ htok)
      rw [List.length_append] at this
      exact this
    ·have hcap:=grownCap_ge w (l.length+ys.length) cap e
     have hr:=run_append_grow (P:=P) w t ty e ie ze hu He.info He.zero ⟨b,o,none⟩ l.length cap csl (by rw [hisz]; exact hfl.1) (fun j v hj=>by rw [addr_add]; exact (hcl j v hj).1) ⟨by_,oy,none⟩ ys.length cy csy hsy (fun j v hj=>by rw [addr_add]; exact (hcy j v hj).1) (by omega) (by omega) (growslice_fits (by omega) (by rw [He.bytes]; exact hby))
     have hsize:(csl.toArray ++ csy.toArray ++ Builtin.zeroCells ze.cells (grownCap w (l.length+ys.length) cap e - (l.length+ys.length))).size=grownCap w (l.length+ys.length) cap e * ety.size:=by
      simp only [Array.size_append,List.size_toArray,size_zeroCells,hfl.1,hfy.1,He.zs]
      rw [← Nat.add_mul,← Nat.add_mul]; congr 1; omega
     obtain ⟨F',H1,he1,hsp,hne1,hfa1,hc1⟩:=newBlock (e:=e) H hfa (arr:=csl.toArray ++ csy.toArray ++ Builtin.zeroCells ze.cells (grownCap w (l.length+ys.length) cap e - (l.length+ys.length))) (fun j v hj=>by
      have hjl:=(List.getElem?_eq_some_iff.1 hj).1
      rw [Array.getElem?_append_left (by simpa using hjl)]
      simpa using hj) hsize (by simpa using hcap) w.drew (.inr rfl)
     rw [List.length_append] at hsp
     refine ⟨_,_,⟨L.m,L.t.set tk ⟨w.heap.size,0,grownCap w (l.length+ys.length) cap e⟩,F'⟩,hr,H1.setTok hktk (by omega) hsp (fun t' r' h1 _=>hne1 t' r' h1),he1.trans (Ext.setTok (L:=⟨L.m,L.t,F'⟩) hktk (by omega) _) (Nat.le_refl _),?_,by simp⟩
     have hr:=hfa1.rep (c:=.un) (cap:=grownCap w (l.length+ys.length) cap e) (b:=w.heap.size) (o:=0) (by simp) (by simp) (by simpa using hcap) hc1
     rw [List.length_append] at hr
     have:=RepA.own (w:=w.drew.alloc (.cells (csl.toArray ++ csy.toArray ++ Builtin.zeroCells ze.cells (grownCap w (l.length+ys.length) cap e - (l.length+ys.length))) e)) (L:=⟨L.m,L.t.set tk ⟨w.heap.size,0,grownCap w (l.length+ys.length) cap e⟩,F'⟩) (k:=k.set tk (l.length+ys.length,ety.size)) (l ++ ys) tk w.heap.size 0 (grownCap w (l.length+ys.length) cap e) (by rw [List.length_append]; exact hr) (l.length+ys.length) ety.size (List.getElem?_set_self hktl) (by simp) hfa1.2.1 (fun _=>List.getElem?_set_self (by rw [H.tlen]; exact hktl))
     rw [List.length_append] at this
     exact this
 ·cases ho
end Go.Proofs.YtafenffmgpcjcaaGreat.Vf
namespace Go.Proofs.YtafenffmgpcjcaaGreat.Vf
open Go.RowKit
set_option linter.unusedVariables false
set_option linter.unusedSimpArgs false
variable {B:Base} {L:Lk} {h:List (List AV)} {k:List (Nat × Nat)} {w:World} {P:Program} {T:TV}
theorem run_mapM {α β:Type} (f:α→Sem β) (g:α→β) (l:List α) (hf:∀ x ∈ l,(f x).run P w=.ok (g x) w):(l.mapM f).run P w=.ok (l.map g) w:=by
 induction l with
 | nil=>simp
 | cons x l ih=>simp [List.mapM_cons,hf x (.head _),ih (fun y hy=>hf y (.tail _ hy))]
def placesA (T:TV) (ty:Ty):Option (Nat→Option (Nat × Nat)) :=
 match ty.d with
 | .struct fs=>(mapO (fun p:Nat × TypeId=>(T p.2).map fun u=>(p.1,u.size)) fs).map fun l i=>l[i]?
 | .array _ e=>(T e).map fun u i=>some (i * u.size,u.size)
 | _=>none
def opBuild (T:TV) (t:TypeId) (ps:List (Nat × AV)):Option AV :=
 match T t with
 | some ty=>match placesA T ty with
  | some pl=>match fillA pl ps ty.z with
   | some cs=>some (.agg cs)
   | none=>none
  | none=>none
 | none=>none
theorem opBuild_run (hT:TOk P T) {t:TypeId} {ps:List (Nat × AV)} {vs:Array (Nat × Value)} {x:AV} (hi:vs.toList.map (·.1)=ps.map (·.1)) (hv:∀ (j:Nat) p,ps[j]?=some p→∃ v,vs[j]?=some v∧RepA w L k p.2 v.2)
  (ho:opBuild T t ps=some x):∃ v,(Instr.build t vs).run P w=.ok v w∧RepA w L k x v:=by
 unfold opBuild at ho
 split at ho
 case h_2=>cases ho
 rename_i ty ht
 obtain ⟨i,z,Ht⟩:=hT _ _ ht
 split at ho
 case h_2=>cases ho
 rename_i pl hpl
 split at ho
 case h_2=>cases ho
 rename_i cs hcs
 obtain rfl:AV.agg cs=x:=by simpa using ho
 obtain ⟨a',ha',hr⟩:=fillA_rep ps (a:=z.cells) (vs:=vs.toList) (by rw [← Ht.zc]; exact constList_rep (w:=w) (L:=L) (k:=k) _) hi (fun j p hj=>by
  obtain ⟨v,h1,h2⟩:=hv j p hj
  exact ⟨v,by simpa using h1,h2⟩) hcs
 refine ⟨.agg a',?_,hr.agg⟩
 have hd:=Ht.d
 unfold placesA at hpl
 split at hpl
 ·rename_i fs hfs
  rw [hfs] at hd
  obtain ⟨fields,hu,hfe⟩:=hd
  obtain ⟨l,hl,rfl⟩:=Option.map_eq_some_iff.1 hpl
  obtain ⟨hl1,hl2⟩:=mapO_get hl
  have hm:(fields.mapM fun f=>(do pure (f.offset,← sizeOf f.type):Sem (Nat × Nat))).run P w=.ok l.toArray w:=by
   rw [Array.mapM_eq_mapM_toList]
   simp only [Sem.run_map]
   have:=run_mapM (P:=P) (w:=w) (fun f:Field=>(do pure (f.offset,← sizeOf f.type):Sem (Nat × Nat))) (fun f=>(f.offset,((T f.type).map (·.size)).getD 0)) fields.toList (fun f hf=>by
    obtain ⟨q,hq⟩:=List.getElem?_of_mem hf
    obtain ⟨y,hy1,hy2⟩:=hl2 q (f.offset,f.type) (by rw [← hfe,List.getElem?_map,hq]; rfl)
    obtain ⟨u,hu1,rfl⟩:=Option.map_eq_some_iff.1 hy2
    obtain ⟨i2,z2,Hu⟩:=hT _ _ hu1
    simp only [Sem.run_bind,Hu.run_size,Result.andThen_ok,Sem.run_pure,hu1,Option.map_some,Option.getD_some])
   rw [this]
   simp only [Result.andThen_ok]
   congr 2
   apply List.ext_getElem?
   intro q
   rw [List.getElem?_map]
   cases hq:fields.toList[q]? with
   | none =>
    have h1:fields.toList.length≤q:=List.getElem?_eq_none_iff.1 hq
    rw [List.getElem?_eq_none (by rw [hl1,← hfe,List.length_map]; exact h1)]; rfl
   | some f =>
    obtain ⟨y,hy1,hy2⟩:=hl2 q (f.offset,f.type) (by rw [← hfe,List.getElem?_map,hq]; rfl)
    obtain ⟨u,hu1,rfl⟩:=Option.map_eq_some_iff.1 hy2
    rw [hy1]; simp [hu1]
  simp only [Instr.build,Sem.run_bind,Ht.run_zero,Result.andThen_ok,run_under hu,hm]
  have:(fun x:Nat=>l.toArray[x]?)=fun i:Nat=>l[i]?:=by funext q; simp
  rw [this,ha']
  rfl
 ·rename_i n e hd'
  rw [hd'] at hd
  obtain ⟨u,hu1,rfl⟩:=Option.map_eq_some_iff.1 hpl
  obtain ⟨i2,z2,Hu⟩:=hT _ _ hu1
  simp only [Instr.build,Sem.run_bind,Ht.run_zero,Result.andThen_ok,run_under (show P.underlying t=some _ from hd),Hu.run_size,ha']
  rfl
 ·cases hpl
def cellFz:AV→Option FV
 | .f x=>some x
 | .own l _=>some (.sl l .un)
 | _=>none
theorem cellFz_rep {x:AV} {v:Value} {y:FV} (hx:RepA w L k x v) (h:cellFz x=some y):Rep w L.F y v:=by
 unfold cellFz at h
 split at h
 ·obtain rfl:=by simpa using h
  cases hx with | f x v hx=>exact hx
 ·obtain rfl:=by simpa using h
  cases hx with | own l t b o cap h=>exact h
 ·cases h
def chunk (ag:Bool) (s:Nat):Nat→List FV→List FV
 | 0,_=>[]
 | n+1,cs=>(if ag then .agg (cs.take s) else (cs.head?).getD (.agg []))::chunk ag s n (cs.drop s)
theorem chunk_length (ag:Bool) (s n:Nat):∀ cs,(chunk ag s n cs).length=n:=by
 induction n with
 | zero=>intro cs; rfl
 | succ n ih=>intro cs; simp [chunk,ih]
theorem chunk_get {ag:Bool} {s n:Nat}:∀ {cs:List FV},cs.length=n * s→(ag=true∨(s=1∧∀ x ∈ cs,x.cells=[x]))→(∀ x ∈ chunk ag s n cs,x.cells.length=s) ∧
  ∀ (i j:Nat) x y,(chunk ag s n cs)[i]?=some x→x.cells[j]?=some y→cs[i * s+j]?=some y:=by
 induction n with
 | zero=>intro cs _ _; exact ⟨fun x hx=>(by simp [chunk] at hx),fun i j x y hi=>by simp [chunk] at hi⟩
 | succ n ih =>
  intro cs hl hag
  rw [Nat.add_mul] at hl
  obtain ⟨h1,h2⟩:=ih (cs:=cs.drop s) (by simp; omega) (hag.imp id fun ⟨a,b⟩=>⟨a,fun x hx=>b x (List.mem_of_mem_drop hx)⟩)
  have hhead:∀ x,x=(if ag then FV.agg (cs.take s) else (cs.head?).getD (.agg []))→x.cells.length=s∧∀ (j:Nat) y,x.cells[j]?=some y→cs[j]?=some y:=fun x hx=>by
   rcases hag with rfl | ⟨rfl,hone⟩
   ·simp only [if_true] at hx
    subst hx
    refine ⟨by simp [FV.cells]; omega,fun j y hj=>?_⟩
    simp only [FV.cells] at hj
    have hjl:j < s:=by have:=(List.getElem?_eq_some_iff.1 hj).1; simp at this; omega
    rwa [List.getElem?_take_of_lt hjl] at hj
   ·cases ag with
    | true =>
     simp only [if_true] at hx
     subst hx
     refine ⟨by simp [FV.cells]; omega,fun j y hj=>?_⟩
     simp only [FV.cells] at hj
     have hjl:j < 1:=by have:=(List.getElem?_eq_some_iff.1 hj).1; simp at this; omega
     rwa [List.getElem?_take_of_lt hjl] at hj
    | false =>
     cases cs with
     | nil=>simp at hl
     | cons c cs =>
      simp only [Bool.false_eq_true,if_false,List.head?_cons,Option.getD_some] at hx
      subst hx
      rw [hone _ (.head _)]
      refine ⟨rfl,fun j y hj=>?_⟩
      cases j with
      | zero=>simpa using hj
      | succ j=>simp at hj
  refine ⟨fun x hx=>?_,fun i j x y hi hj=>?_⟩
  ·rcases List.mem_cons.1 hx with hx | hx
   ·exact (hhead x hx).1
   ·exact h1 x hx
  ·cases i with
   | zero =>
    rw [Nat.zero_mul,Nat.zero_add]
    exact (hhead x (by simpa [chunk] using hi.symm)).2 j y hj
   | succ i =>
    have:=h2 i j x y (by simpa [chunk] using hi) hj
    rw [List.getElem?_drop] at this
    rw [Nat.add_mul]
    rw [show i * s+1 * s+j=s+(i * s+j) by omega]; exact this
theorem FV.cells_one {x:FV} (h:(AV.f x).one=true):x.cells=[x]:=by
 cases x with
 | sc v=>cases v <;> first | rfl | (simp [AV.one,Value.oneCell'] at h)
 | agg cs=>simp [AV.one] at h
 | _=>rfl
def zeroRow (z:List AV):Nat→List AV
 | 0=>[]
 | n+1=>z ++ zeroRow z n
theorem zeroRow_length (z:List AV) (n:Nat):(zeroRow z n).length=n * z.length:=by
 induction n with
 | zero=>simp [zeroRow]
 | succ n ih=>simp [zeroRow,ih,Nat.add_mul]; omega
theorem zeroRow_get (z:List AV) (n:Nat):∀ j,j < n * z.length→(zeroRow z n)[j]?=z[j % z.length]?:=by
 induction n with
 | zero=>intro j hj; simp at hj
 | succ n ih =>
  intro j hj
  rw [zeroRow,List.getElem?_append]
  split
  ·rename_i h; rw [Nat.mod_eq_of_lt h]
  ·rename_i h
   rw [Nat.add_mul] at hj
   rw [ih _ (by omega)]
   congr 1
   rw [← Nat.mod_eq_sub_mod (by omega)]
theorem zeroRow_rep (z:Value) (n:Nat) (hz:0 < z.cells.size):RepL w L k (zeroRow (z.cells.toList.map constA) n) (madeCells z.cells (n * z.cells.size)):=by
 refine ⟨by simp [size_madeCells,zeroRow_length],fun j x hj=>?_⟩
 have hjl:=(List.getElem?_eq_some_iff.1 hj).1
 rw [zeroRow_length,List.length_map,Array.length_toList] at hjl
 rw [zeroRow_get _ _ _ (by simpa using hjl),List.length_map,Array.length_toList,List.getElem?_map,Option.map_eq_some_iff] at hj
 obtain ⟨v,hv,rfl⟩:=hj
 refine ⟨v,?_,constA_rep v⟩
 have h1:z.cells[j % z.cells.size]! = v:=by
  rw [getElem!_pos z.cells (j % z.cells.size) (Nat.mod_lt _ hz)]
  have:=List.getElem?_eq_some_iff.1 hv
  obtain ⟨h2,h3⟩:=this
  simpa using h3
 simp [madeCells,hjl,h1]
def opBuildSlice (T:TV) (t:TypeId) (n:Nat) (ps:List (Nat × AV)):Option AV :=
 match T t with
 | some ⟨_,_,.slice e,_⟩=>match T e with
  | some ty=>if ty.size=0∨n * ty.size > 16777216 then none else match fillA (fun i=>some (i * ty.size,ty.size)) ps (zeroRow ty.z n) with
   | some cs=>if cs.all AV.one∧(ty.agg∨ty.size=1) then match mapO cellFz cs with
    | some fs=>some (.f (.sl (chunk ty.agg ty.size n fs) .full))
    | none=>none else none
   | none=>none
  | none=>none
 | _=>none
theorem opBuildSlice_run (hT:TOk P T) (H:Mem B L h k w) {t:TypeId} {n:Nat} {ps:List (Nat × AV)} {vs:Array (Nat × Value)} {x:AV} (hi:vs.toList.map (·.1)=ps.map (·.1)) (hv:∀ (j:Nat) p,ps[j]?=some p→∃ v,vs[j]?=some v∧RepA w L k p.2 v.2)
  (ho:opBuildSlice T t n ps=some x):∃ v w' L',(Instr.buildSlice t n vs).run P w=.ok v w'∧Mem B L' h k w'∧Ext L k w L' k w'∧RepA w' L' k x v:=by
 unfold opBuildSlice at ho
 split at ho
 case h_2=>cases ho
 rename_i s1 s2 e s3 ht
 obtain ⟨i,zt,Ht⟩:=hT _ _ ht
 have hu:P.underlying t=some (.slice e):=Ht.d
 split at ho
 case h_2=>cases ho
 rename_i ty hte
 obtain ⟨ie,ze,He⟩:=hT _ _ hte
 split at ho
 case isTrue=>cases ho
 rename_i hb
 have hs0:ty.size ≠ 0:=fun h=>hb (.inl h)
 have hlim:¬ (n * ty.size > 16777216):=fun h=>hb (.inr h)
 split at ho
 case h_2=>cases ho
 rename_i cs hcs
 split at ho
 case isFalse=>cases ho
 rename_i hcond
 obtain ⟨hone,hag⟩:=hcond
 split at ho
 case h_2=>cases ho
 rename_i fs hfs
 obtain rfl:AV.f (.sl (chunk ty.agg ty.size n fs) .full)=x:=by simpa using ho
 have hzs:=He.zs
 have hz0:=zeroRow_rep (w:=w) (L:=L) (k:=k) ze n (by omega)
 rw [He.zc,hzs] at hz0
 obtain ⟨a',ha',hr⟩:=fillA_rep ps (vs:=vs.toList) hz0 hi (fun j p hj=>by
  obtain ⟨v,h1,h2⟩:=hv j p hj
  exact ⟨v,by simpa using h1,h2⟩) hcs
 have hcl:cs.length=n * ty.size:=by
  rw [← hr.1]
  have:∀ (pl:Nat→Option (Nat × Nat)) (ps:List (Nat × Value)) (a a':Array Value),Instr.fill pl a ps=some a'→a'.size=a.size:=fun pl ps=>by
   induction ps with
   | nil=>intro a a' h; simp [Instr.fill] at h; rw [h]
   | cons p ps ih =>
    intro a a' h
    obtain ⟨q,v⟩:=p
    simp only [Instr.fill] at h
    split at h
    ·cases h
    ·split at h
     ·cases h
     ·have:=ih _ _ h
      rw [this,← Array.foldl_toList]
      have hfold:∀ (l:List (Value × Nat)) (o:Nat) (b:Array Value),(l.foldl (fun cs (c,j)=>cs.setIfInBounds (o+j) c) b).size=b.size:=fun l=>by
       induction l with
       | nil=>intro o b; rfl
       | cons y l ihl=>intro o b; rw [List.foldl_cons,ihl]; simp
      exact hfold _ _ _
  rw [this _ _ _ _ ha',size_madeCells]
 obtain ⟨hf1,hf2⟩:=mapO_get hfs
 have hfone:∀ (j:Nat) y,fs[j]?=some y→∃ u v,cs[j]?=some u∧u.one=true∧a'[j]?=some v∧Rep w L.F y v∧v.oneCell'=true∧y.cells=[y]:=fun j y hj=>by
  have hjl:j < cs.length:=by rw [← hf1]; exact (List.getElem?_eq_some_iff.1 hj).1
  have hu1:=List.all_eq_true.1 hone _ (List.getElem_mem hjl)
  obtain ⟨y',hy',hc⟩:=hf2 j cs[j] (List.getElem?_eq_getElem hjl)
  rw [hj] at hy'
  obtain rfl:y=y':=by simpa using hy'
  obtain ⟨v,hv1,hrv⟩:=hr.2 j cs[j] (List.getElem?_eq_getElem hjl)
  refine ⟨cs[j],v,List.getElem?_eq_getElem hjl,hu1,hv1,cellFz_rep hrv hc,hrv.oneCell hu1,FV.cells_one ?_⟩
  generalize cs[j]=u at hu1 hc
  cases u <;> simp [cellFz] at hc <;> subst hc <;> first | exact hu1 | rfl
 have hchunk:=chunk_get (ag:=ty.agg) (s:=ty.size) (n:=n) (cs:=fs) (by rw [hf1,hcl]) (by
  rcases hag with h | h
  ·exact .inl h
  ·exact .inr ⟨h,fun y hy=>by
    obtain ⟨q,hq⟩:=List.getElem?_of_mem hy
    obtain ⟨_,_,_,_,_,_,_,h1⟩:=hfone q y hq
    exact h1⟩)
 have hflat:Flat w L.F (chunk ty.agg ty.size n fs) ty.size a'.toList:=by
  refine ⟨by rw [chunk_length,Array.length_toList,hr.1,hcl],hchunk.1,fun v hv=>?_,fun i j x y hi hj=>?_⟩
  ·obtain ⟨q,hq⟩:=List.getElem?_of_mem hv
   have hql:q < fs.length:=by rw [hf1,← hr.1]; have:=(List.getElem?_eq_some_iff.1 hq).1; simpa using this
   obtain ⟨_,v',_,_,h3,_,h5,_⟩:=hfone q _ (List.getElem?_eq_getElem hql)
   have:v'=v:=by rw [Array.getElem?_toList,h3] at hq; simpa using hq
   exact this ▸ h5
  ·obtain ⟨_,v,_,_,h3,h4,_,_⟩:=hfone _ y (hchunk.2 i j x y hi hj)
   exact ⟨v,by simpa using h3,h4⟩
 obtain ⟨F',H1,he1,hsp,hne1,hfa1,hc1⟩:=newBlock (e:=e) (cap:=n) H hflat (arr:=a') (fun j v hj=>by simpa using hj) (by rw [hr.1,hcl]) (by rw [chunk_length]; exact Nat.le_refl _) w (.inl rfl)
 have hrep:=hfa1.rep (c:=.full) (cap:=n) (b:=w.heap.size) (o:=0) (by simp) (by rw [chunk_length]; simp) (by rw [chunk_length]; exact Nat.le_refl _) hc1
 rw [chunk_length] at hrep
 refine ⟨_,_,_,?_,H1,he1,.f _ _ hrep⟩
 have hn0:(n * ty.size=0) ↔ n=0:=by simp [Nat.mul_eq_zero,hs0]
 by_cases hn:n=0
 ·subst hn
  have hm0:madeCells ze.cells (0 * ty.size)=#[]:=by apply Array.eq_empty_of_size_eq_zero; rw [size_madeCells]; simp
  rw [hm0] at ha'
  simp only [Instr.buildSlice,Sem.run_bind,run_under hu,Result.andThen_ok,He.run_size]
  rw [if_neg hlim,if_pos (Nat.zero_mul _)]
  have h0:∀ g:Nat→Value,Array.map g (Array.range 0)=#[]:=fun g=>by apply Array.eq_empty_of_size_eq_zero; simp
  simp only [Sem.run_bind,Sem.run_pure,Result.andThen_ok,Nat.zero_mul,h0,ha',newRow,run_newObj]
  rfl
 ·have hne:¬ (n * ty.size=0):=by rw [hn0]; exact hn
  have ha2:Instr.fill (fun i=>some (i * ty.size,ty.size)) ((Array.range (n * ty.size)).map (fun x=>ze.cells[x % ze.cells.size]!)) vs.toList=some a':=ha'
  simp only [Instr.buildSlice,Sem.run_bind,run_under hu,Result.andThen_ok,He.run_size,if_neg hlim,if_neg hne,He.run_zero,Sem.run_pure,ha2,newRow,run_newObj]
  rfl
end Go.Proofs.YtafenffmgpcjcaaGreat.Vf
namespace Go.Proofs.YtafenffmgpcjcaaGreat.Vf
open Go.RowKit
set_option linter.unusedVariables false
set_option linter.unusedSimpArgs false
variable {B:Base} {L:Lk} {h:List (List AV)} {k:List (Nat × Nat)} {w:World} {P:Program} {T:TV}
def isZero:Operand→Bool
 | .const (.int _ 0)=>true
 | _=>false
def opMake (T:TV) (h:List (List AV)) (k:List (Nat × Nat)) (t:TypeId) (z:Bool) (n c:AV):Option (AV × List (List AV) × List (Nat × Nat)) :=
 match T t,idx n,idx c with
 | some ⟨_,_,.slice e,_⟩,some n,some c=>match T e with
  | some ty=>if ty.size=0∨¬ (n≤c∧ty.bytes * c≤281474976710656∧c≤4611686018427387904) then none else
   if z∧n=0 then some (.own [] k.length,h,k ++ [(0,ty.size)])
   else if ty.z.all AV.one=true∧n=c then some (.ms h.length 0 n c ty.size,h ++ [zeroRow ty.z n],k) else none
  | none=>none
 | _,_,_=>none
theorem zeroRow_one {z:List AV} (hz:z.all AV.one=true) (n:Nat):(zeroRow z n).all AV.one=true:=by
 induction n with
 | zero=>rfl
 | succ n ih=>simp [zeroRow,List.all_append,hz,ih]
theorem opMake_run (hT:TOk P T) (H:Mem B L h k w) {t:TypeId} {z:Bool} {n c x:AV} {vn vc:Value} {h':List (List AV)} {k':List (Nat × Nat)} (hn:RepA w L k n vn) (hc:RepA w L k c vc) (ho:opMake T h k t z n c=some (x,h',k')) :
  ∃ v w' L',(Instr.makeSlice t vn vc).run P w=.ok v w'∧Mem B L' h' k' w'∧Ext L k w L' k' w'∧RepA w' L' k' x v∧k.length≤k'.length:=by
 unfold opMake at ho
 split at ho
 case h_2=>cases ho
 rename_i s1 s2 e s3 n0 c0 ht hin hic
 obtain ⟨i,zt,Ht⟩:=hT _ _ ht
 have hu:P.underlying t=some (.slice e):=Ht.d
 obtain ⟨kn,rfl⟩:=idx_rep hn hin
 obtain ⟨kc,rfl⟩:=idx_rep hc hic
 split at ho
 case h_2=>cases ho
 rename_i ty hte
 obtain ⟨ie,ze,He⟩:=hT _ _ hte
 split at ho
 case isTrue=>cases ho
 rename_i hcond
 have hs0:ty.size ≠ 0:=fun h=>hcond (.inl h)
 obtain ⟨hnc,hby,h62⟩:n0≤c0∧ty.bytes * c0≤281474976710656∧c0≤4611686018427387904:=Decidable.byContradiction fun h=>hcond (.inr h)
 have hr:=run_make (P:=P) w t e ie ze hu He.info He.zero kn kc n0 c0 (by omega) (by omega) (by
  have:((ie.bytes * c0:Nat):Int)≤281474976710656:=by rw [He.bytes]; omega
  rwa [Int.natCast_mul] at this) (by omega)
 simp only [Int.toNat_natCast] at hr
 split at ho
 ·rename_i hz
  obtain ⟨_,rfl⟩:=hz
  obtain ⟨rfl,rfl,rfl⟩:AV.own [] k.length=x∧h=h'∧k ++ [(0,ty.size)]=k':=by simpa using ho
  obtain ⟨F',H1,he1,hsp,hne1,hfa1,hc1⟩:=newBlock (e:=e) (cap:=c0) (sz:=ty.size) H (l:=[]) (cs:=[]) Flat.nil (arr:=madeCells ze.cells (c0 * ie.size)) (fun j v hj=>by simp at hj) (by rw [size_madeCells,He.size]) (Nat.zero_le _) w (.inl rfl)
  refine ⟨_,_,⟨L.m,L.t ++ [⟨w.heap.size,0,c0⟩],F'⟩,hr,H1.newTok hsp hne1,he1.trans (Ext.push (L:=⟨L.m,L.t,F'⟩) H1.tlen _ _) (Nat.le_refl _),?_,by simp⟩
  have hrep:=hfa1.rep (c:=.un) (cap:=c0) (b:=w.heap.size) (o:=0) (by simp) (by simp) (Nat.zero_le _) hc1
  exact RepA.own [] k.length w.heap.size 0 c0 hrep 0 ty.size (by simp) (by simp) (by simp) (fun _=>by rw [← H.tlen]; simp)
 ·split at ho
  case isFalse=>cases ho
  rename_i hcond2
  obtain ⟨h1,rfl⟩:=hcond2
  obtain ⟨rfl,rfl,rfl⟩:AV.ms h.length 0 n0 n0 ty.size=x∧h ++ [zeroRow ty.z n0]=h'∧k=k':=by simpa using ho
  have hz0:=zeroRow_rep (w:=w) (L:=L) (k:=k) ze n0 (by rw [He.zs]; omega)
  rw [He.zc,He.zs,← He.size] at hz0
  obtain ⟨w',L',hr',H',he,hm⟩:=newRow_run (P:=P) (e:=e) H hz0 (zeroRow_one h1 n0)
  simp only [newRow,Sem.run_bind,run_newObj,Result.andThen_ok,Sem.run_pure,Result.ok.injEq,true_and] at hr'
  refine ⟨_,w',L',?_,H',he,.ms _ _ _ _ _ _ hm,Nat.le_refl _⟩
  rw [hr,← hr']
  rfl
def optIdx (d:Nat):Option AV→Option Nat
 | none=>some d
 | some x=>idx x
def opSlice (T:TV) (t:TypeId) (x:AV) (lo hi mx:Option AV):Option AV :=
 match T t with
 | some ⟨_,_,.slice e,_⟩=>match T e with
  | some ty=>match mx with
   | some _=>none
   | none=>match x with
    | .f (.sl l c)=>match optIdx 0 lo,optIdx l.length hi with
     | some a,some b=>if a≤b∧b≤l.length∧l.all (fun u=>u.cells.length == ty.size)=true∧ty.size ≠ 0 then some (.f (.sl ((l.take b).drop a) .un)) else none
     | _,_=>none
    | .own l _=>match optIdx 0 lo,optIdx l.length hi with
     | some a,some b=>if a≤b∧b≤l.length∧l.all (fun u=>u.cells.length == ty.size)=true∧ty.size ≠ 0 then some (.f (.sl ((l.take b).drop a) .un)) else none
     | _,_=>none
    | .ms bb off len cap sz=>match optIdx 0 lo,optIdx len hi with
     | some a,some b=>if a≤b∧b≤len∧len≤cap∧(a < cap∨a=0)∧sz=ty.size then some (.ms bb (off+a * sz) (b - a) (cap - a) sz) else none
     | _,_=>none
    | _=>none
  | none=>none
 | some ⟨_,_,.array n e,_⟩=>match T e with
  | some ty=>match mx with
   | some _=>none
   | none=>match x with
    | .ref bb off=>match optIdx 0 lo,optIdx n hi with
     | some a,some b=>if a≤b∧b≤n∧(a < n∨a=0) then some (.ms bb (off+a * ty.size) (b - a) (n - a) ty.size) else none
     | _,_=>none
    | _=>none
  | none=>none
 | _=>none
theorem sliceBounds_run {b:Bool} {len cap a c d:Nat} {lo hi:Option AV} {vlo vhi:Option Value} (hlo:∀ x,lo=some x→∃ v,vlo=some v∧RepA w L k x v) (hlo0:lo=none→vlo=none) (hhi:∀ x,hi=some x→∃ v,vhi=some v∧RepA w L k x v) (hhi0:hi=none→vhi=none)
  (h1:optIdx 0 lo=some a) (h2:optIdx len hi=some c) (hac:a≤c) (hc:c≤cap):(Instr.sliceBounds b len cap vlo vhi none).run P w=.ok (a,c,cap) w:=by
 have hb:∀ (x:AV) v n y code,RepA w L k x v→idx x=some n→n≤y→(Instr.sliceBound v y code).run P w=.ok n w:=fun x v n y code hr hi hle=>by
  obtain ⟨kd,rfl⟩:=idx_rep hr hi
  have:(0:Int)≤(n:Int)∧(n:Int)≤(y:Int):=by omega
  simp only [Instr.sliceBound,asIntOf,Sem.run_bind,Sem.run_pure,Result.andThen_ok,this,and_self,if_true,Int.toNat_natCast]
 cases hi with
 | none =>
  rw [hhi0 rfl]
  obtain rfl:len=c:=by simpa [optIdx] using h2
  cases lo with
  | none =>
   rw [hlo0 rfl]
   obtain rfl:0=a:=by simpa [optIdx] using h1
   simp [Instr.sliceBounds]
  | some x =>
   obtain ⟨v,rfl,hr⟩:=hlo x rfl
   simp [Instr.sliceBounds,hb x v a len _ hr h1 hac]
 | some y =>
  obtain ⟨u,rfl,hru⟩:=hhi y rfl
  cases lo with
  | none =>
   rw [hlo0 rfl]
   obtain rfl:0=a:=by simpa [optIdx] using h1
   simp [Instr.sliceBounds,hb y u c cap _ hru h2 hc]
  | some x =>
   obtain ⟨v,rfl,hr⟩:=hlo x rfl
   simp [Instr.sliceBounds,hb y u c cap _ hru h2 hc,hb x v a c _ hr h1 hac]
theorem Rep.piece {F:Cells} {l:List FV} {c:Cap} {v:Value} {a b sz:Nat} (H:Rep w F (.sl l c) v) (hab:a≤b) (hb:b≤l.length) (hz:∀ u ∈ l,u.cells.length=sz) (h0:0 < sz) :
  ∃ ad cap,v=.slice ad l.length cap∧l.length≤cap∧Rep w F (.sl ((l.take b).drop a) .un) (.slice (if cap=a then ad else ad.map (·.add (a * sz))) (b - a) (cap - a)):=by
 have H':=H
 cases H with
 | nil c =>
  obtain rfl:b=0:=by simpa using hb
  obtain rfl:a=0:=by omega
  exact ⟨none,0,rfl,Nat.le_refl _,by simpa using Rep.nil (w:=w) (F:=F) .un⟩
 | emp ad cap =>
  obtain rfl:b=0:=by simpa using hb
  obtain rfl:a=0:=by omega
  exact ⟨ad,cap,rfl,Nat.zero_le _,.emp _ _⟩
 | sl l c bl o cap sz' vs hc hf hle hz' hF hr =>
  obtain ⟨cs,hfl,hcl⟩:=H'.flat hz h0
  refine ⟨_,cap,rfl,hle,?_⟩
  have hlen:((l.take b).drop a).length=b - a:=by simp; omega
  by_cases he:cap=a
  ·rw [if_pos he]
   have hnil:(l.take b).drop a=[]:=by apply List.eq_nil_of_length_eq_zero; rw [hlen]; omega
   rw [hnil]
   have e1:b - a=([]:List FV).length:=by simp; omega
   rw [e1]
   exact .sl [] .un bl o _ sz (fun _ _=>undef) (by simp) (by simp) (by simp) (by simp) (by simp) (by simp)
  ·rw [if_neg he]
   simp only [Option.map_some,addr_add]
   have hfl2:Flat w F ((l.take b).drop a) sz ((cs.take (b * sz)).drop (a * sz)):=by
    have hm1:a * sz≤b * sz:=Nat.mul_le_mul_right _ hab
    have hm2:b * sz≤l.length * sz:=Nat.mul_le_mul_right _ hb
    refine ⟨by rw [hlen,List.length_drop,List.length_take,hfl.1,Nat.min_eq_left hm2,Nat.sub_mul],fun x hx=>hz x (List.mem_of_mem_take (List.mem_of_mem_drop hx)),fun v hv=>hfl.2.2.1 v (List.mem_of_mem_take (List.mem_of_mem_drop hv)),fun i j x y hi hj=>?_⟩
    rw [List.getElem?_drop] at hi
    have hib:a+i < b:=by have:=(List.getElem?_eq_some_iff.1 hi).1; simp at this; omega
    rw [List.getElem?_take_of_lt hib] at hi
    obtain ⟨v,hv,hrv⟩:=hfl.2.2.2 _ j x y hi hj
    refine ⟨v,?_,hrv⟩
    have hjl:j < sz:=by rw [← hz x (List.mem_of_getElem? hi)]; exact (List.getElem?_eq_some_iff.1 hj).1
    have hm3:(a+i+1) * sz≤b * sz:=Nat.mul_le_mul_right _ hib
    rw [Nat.add_mul,Nat.add_mul] at hm3
    rw [List.getElem?_drop,List.getElem?_take_of_lt (by omega)]
    rw [Nat.add_mul] at hv
    rw [← Nat.add_assoc]; exact hv
   have:=hfl2.rep (c:=.un) (cap:=cap - a) (b:=bl) (o:=o+a * sz) (by simp) (by simp) (by rw [hlen]; omega) (fun j v hj=>by
    rw [List.getElem?_drop] at hj
    have hjl:=(List.getElem?_eq_some_iff.1 hj).1
    rw [List.length_take] at hjl
    rw [List.getElem?_take_of_lt (by omega)] at hj
    have:=hcl _ v hj
    rw [← Nat.add_assoc] at this
    exact this)
   rw [hlen] at this
   exact this
theorem opSlice_run (hT:TOk P T) {t:TypeId} {x r:AV} {vx:Value} {lo hi:Option AV} {vlo vhi vmx:Option Value} {mx:Option AV} (hx:RepA w L k x vx) (hlo:∀ x,lo=some x→∃ v,vlo=some v∧RepA w L k x v) (hlo0:lo=none→vlo=none) (hhi:∀ x,hi=some x→∃ v,vhi=some v∧RepA w L k x v) (hhi0:hi=none→vhi=none) (hmx:mx=none→vmx=none)
  (ho:opSlice T t x lo hi mx=some r):∃ v,(Instr.sliceAt t vx vlo vhi vmx).run P w=.ok v w∧RepA w L k r v:=by
 unfold opSlice at ho
 split at ho
 case h_3=>cases ho
 ·rename_i s1 s2 e s3 ht
  obtain ⟨i,zt,Ht⟩:=hT _ _ ht
  have hu:P.underlying t=some (.slice e):=Ht.d
  split at ho
  case h_2=>cases ho
  rename_i ty hte
  obtain ⟨ie,ze,He⟩:=hT _ _ hte
  cases mx with
  | some m=>cases ho
  | none =>
   obtain rfl:=hmx rfl
   have hrun:∀ ad len cap a b,optIdx 0 lo=some a→optIdx len hi=some b→a≤b→b≤cap→(Instr.sliceAt t (.slice ad len cap) vlo vhi none).run P w=.ok (.slice (if cap=a then ad else ad.map (·.add (a * ty.size))) (b - a) (cap - a)) w:=fun ad len cap a b h1 h2 h3 h4=>by
    have:=sliceBounds_run (P:=P) (w:=w) (b:=true) (len:=len) (cap:=cap) (d:=0) hlo hlo0 hhi hhi0 h1 h2 h3 h4
    simp only [Instr.sliceAt,Sem.run_bind,run_under hu,Result.andThen_ok,Instr.slice,this,He.run_size,Sem.run_pure]
   have hpiece:∀ l c,Rep w L.F (.sl l c) vx→∀ a b,optIdx 0 lo=some a→optIdx l.length hi=some b→a≤b∧b≤l.length∧l.all (fun u=>u.cells.length == ty.size)=true∧ty.size ≠ 0 →
     ∃ v,(Instr.sliceAt t vx vlo vhi none).run P w=.ok v w∧RepA w L k (.f (.sl ((l.take b).drop a) .un)) v:=fun l c hr a b h1 h2 hc=>by
    obtain ⟨hc1,hc2,hc3,hc4⟩:=hc
    obtain ⟨ad,cap,rfl,hle,hr2⟩:=hr.piece hc1 hc2 (fun u hu=>by simpa using List.all_eq_true.1 hc3 u hu) (by omega)
    exact ⟨_,hrun _ _ _ _ _ h1 h2 hc1 (by omega),.f _ _ hr2⟩
   simp only at ho
   split at ho
   ·rename_i l c
    split at ho
    case h_2=>cases ho
    rename_i a b h1 h2
    split at ho
    case isFalse=>cases ho
    rename_i hc
    obtain rfl:AV.f (.sl ((l.take b).drop a) .un)=r:=by simpa using ho
    cases hx with
    | f x v hx=>exact hpiece l c hx a b h1 h2 hc
   ·rename_i l tk
    split at ho
    case h_2=>cases ho
    rename_i a b h1 h2
    split at ho
    case isFalse=>cases ho
    rename_i hc
    obtain rfl:AV.f (.sl ((l.take b).drop a) .un)=r:=by simpa using ho
    cases hx with
    | own l t b' o cap hr=>exact hpiece l _ hr a b h1 h2 hc
   ·rename_i bb off len cap sz
    split at ho
    case h_2=>cases ho
    rename_i a b h1 h2
    split at ho
    case isFalse=>cases ho
    rename_i hc
    obtain ⟨hc1,hc2,hc3,hc4,rfl⟩:=hc
    obtain rfl:=Option.some.inj ho
    cases hx with
    | ms b' off len cap sz c hm =>
     refine ⟨_,hrun _ _ _ _ _ h1 h2 hc1 (by omega),?_⟩
     by_cases he:cap=a
     ·obtain rfl:a=0:=by omega
      rw [if_pos he]
      simpa using RepA.ms bb off b cap ty.size c hm
     ·rw [if_neg he]
      simp only [Option.map_some,addr_add]
      exact .ms _ _ _ _ _ _ hm
   ·cases ho
 ·rename_i s1 s2 n e s3 ht
  obtain ⟨i,zt,Ht⟩:=hT _ _ ht
  have hu:P.underlying t=some (.array n e):=Ht.d
  split at ho
  case h_2=>cases ho
  rename_i ty hte
  obtain ⟨ie,ze,He⟩:=hT _ _ hte
  cases mx with
  | some m=>cases ho
  | none =>
   obtain rfl:=hmx rfl
   simp only at ho
   split at ho
   case h_2=>cases ho
   rename_i bb off
   split at ho
   case h_2=>cases ho
   rename_i a b h1 h2
   split at ho
   case isFalse=>cases ho
   rename_i hc
   obtain ⟨hc1,hc2,hc3⟩:=hc
   obtain rfl:=Option.some.inj ho
   cases hx with
   | ref b' off c hm =>
    have:=sliceBounds_run (P:=P) (w:=w) (b:=false) (len:=n) (cap:=n) (d:=0) hlo hlo0 hhi hhi0 h1 h2 hc1 hc2
    refine ⟨_,by simp only [Instr.sliceAt,Sem.run_bind,run_under hu,Result.andThen_ok,Instr.sureAddr,Sem.run_pure,this,He.run_size]; rfl,?_⟩
    by_cases he:n=a
    ·obtain rfl:a=0:=by omega
     rw [if_pos he]
     simpa using RepA.ms bb off b n ty.size c hm
    ·rw [if_neg he,addr_add]
     exact .ms _ _ _ _ _ _ hm
def opLen (T:TV) (t:TypeId) (x:AV):Option AV :=
 match T t with
 | some ⟨_,_,.slice _,_⟩=>match x with
  | .f (.sl l _)=>some (.f (.sc (goInt l.length)))
  | .own l _=>some (.f (.sc (goInt l.length)))
  | .ms _ _ len _ _=>some (.f (.sc (goInt len)))
  | _=>none
 | _=>none
theorem opLen_run (hT:TOk P T) {t ty:TypeId} {x r:AV} {vx:Value} (hx:RepA w L k x vx) (ho:opLen T t x=some r):∃ v,(Builtin.len_ #[t] ty #[vx]).run P w=.ok v w∧RepA w L k r v:=by
 unfold opLen at ho
 split at ho
 case h_2=>cases ho
 rename_i s1 s2 e s3 ht
 obtain ⟨i,zt,Ht⟩:=hT _ _ ht
 have hu:P.underlying t=some (.slice e):=Ht.d
 have hrun:∀ ad n cap,(Builtin.len_ #[t] ty #[.slice ad n cap]).run P w=.ok (goInt n) w:=fun ad n cap=>by simp [Builtin.len_,run_under hu]
 split at ho
 ·obtain rfl:=Option.some.inj ho
  cases hx with
  | f x v hx=>cases hx <;> exact ⟨_,hrun _ _ _,.f _ _ (.sc _)⟩
 ·obtain rfl:=Option.some.inj ho
  cases hx with
  | own l t b o cap hr=>exact ⟨_,hrun _ _ _,.f _ _ (.sc _)⟩
 ·obtain rfl:=Option.some.inj ho
  cases hx with
  | ms b off len cap sz c hm=>exact ⟨_,hrun _ _ _,.f _ _ (.sc _)⟩
 ·cases ho
end Go.Proofs.YtafenffmgpcjcaaGreat.Vf
namespace Go.Proofs.YtafenffmgpcjcaaGreat.Vf
open Go.RowKit
set_option linter.unusedVariables false
set_option linter.unusedSimpArgs false
variable {B:Base} {L:Lk} {h:List (List AV)} {k:List (Nat × Nat)} {w:World} {P:Program} {T:TV}
def isNilA:AV→Option Bool
 | .f (.sl [] .nil)=>some true
 | .f (.sl (_::_) _)=>some false
 | .own _ _=>some false
 | .ms _ _ _ _ _=>some false
 | _=>none
theorem isNilA_rep {x:AV} {v:Value} {q:Bool} (hx:RepA w L k x v) (hq:isNilA x=some q):∃ a n c,v=.slice a n c∧a.isNone=q:=by
 unfold isNilA at hq
 split at hq
 ·obtain rfl:=Option.some.inj hq
  cases hx with
  | f x v hx =>
   cases hx with
   | nil c=>exact ⟨_,_,_,rfl,rfl⟩
   | sl l c b o cap sz vs hc=>exact absurd rfl hc
 ·obtain rfl:=Option.some.inj hq
  cases hx with
  | f x v hx=>cases hx with | sl l c b o cap sz vs hc=>exact ⟨_,_,_,rfl,rfl⟩
 ·obtain rfl:=Option.some.inj hq
  cases hx with | own l t b o cap hr=>exact ⟨_,_,_,rfl,rfl⟩
 ·obtain rfl:=Option.some.inj hq
  cases hx with | ms b off len cap sz c hm=>exact ⟨_,_,_,rfl,rfl⟩
 ·cases hq
def opNil (T:TV) (op:BinOp) (t:TypeId) (x y:AV):Option AV :=
 match T t with
 | some ⟨_,_,.slice _,_⟩=>match isNilA x,isNilA y with
  | some a,some b=>if a || b then (match op with | .eql=>some (.f (.sc (.bool (a && b)))) | .neq=>some (.f (.sc (.bool (!(a && b))))) | _=>none) else none
  | _,_=>none
 | _=>none
theorem opNil_run (hT:TOk P T) {t:TypeId} {op:BinOp} {ox oy:Operand} {x y r:AV} {vx vy:Value} (hx:RepA w L k x vx) (hy:RepA w L k y vy) (ho:opNil T op t x y=some r) :
  ∃ v,(do eqGuard op t ox oy vx vy; binOp op t vx vy:Sem Value).run P w=.ok v w∧RepA w L k r v:=by
 unfold opNil at ho
 split at ho
 case h_2=>cases ho
 rename_i s1 s2 e s3 ht
 obtain ⟨i,zt,Ht⟩:=hT _ _ ht
 have hu:P.underlying t=some (.slice e):=Ht.d
 split at ho
 case h_2=>cases ho
 rename_i a b ha hb
 obtain ⟨ad,n,c,rfl,h1⟩:=isNilA_rep hx ha
 obtain ⟨ad2,n2,c2,rfl,h2⟩:=isNilA_rep hy hb
 split at ho
 case isFalse=>cases ho
 rename_i hab
 have heq:(Op.equal t (.slice ad n c) (.slice ad2 n2 c2)).run P w=.ok (a && b) w:=by
  cases ad <;> cases ad2 <;> simp at h1 h2 <;> subst h1 <;> subst h2 <;> first | (simp at hab; done) | (unfold Op.equal; rw [show Op.maxDepth=Op.maxDepth - 1+1 from rfl]; simp [Op.equalIn,run_under hu])
 split at ho
 ·obtain rfl:=Option.some.inj ho
  exact ⟨_,by simp [eqGuard,binOp,heq],.f _ _ (.sc _)⟩
 ·obtain rfl:=Option.some.inj ho
  exact ⟨_,by simp [eqGuard,binOp,heq],.f _ _ (.sc _)⟩
 ·cases ho
def opIndex (T:TV) (t:TypeId) (x ix:AV):Option AV :=
 match T t,idx ix with
 | some ⟨_,_,.array n e,_⟩,some i=>match T e,aggCells x with
  | some ty,some cs=>if i < n then partA ty cs (i * ty.size) else none
  | _,_=>none
 | _,_=>none
theorem opIndex_run (hT:TOk P T) {t:TypeId} {x ix r:AV} {vx vi:Value} (hx:RepA w L k x vx) (hi:RepA w L k ix vi) (ho:opIndex T t x ix=some r) :
  ∃ v,(Instr.index t vx vi).run P w=.ok v w∧RepA w L k r v:=by
 unfold opIndex at ho
 split at ho
 case h_2=>cases ho
 rename_i s1 s2 n e s3 i ht hix
 obtain ⟨ti,zt,Ht⟩:=hT _ _ ht
 have hu:P.underlying t=some (.array n e):=Ht.d
 obtain ⟨kd,rfl⟩:=idx_rep hi hix
 split at ho
 case h_2=>cases ho
 rename_i ty cs hte hcs
 obtain ⟨ie,ze,He⟩:=hT _ _ hte
 obtain ⟨a',rfl,hl⟩:=aggCells_rep hx hcs
 split at ho
 case isFalse=>cases ho
 rename_i hlt
 obtain ⟨v,hv,hr⟩:=partA_run He hl ho
 have:(0:Int)≤(i:Int)∧(i:Int) < (n:Int):=by omega
 exact ⟨v,by simp only [Instr.index,asIntOf,Sem.run_bind,Sem.run_pure,Result.andThen_ok,run_under hu,this,and_self,if_true,He.run_size,Int.toNat_natCast]; exact hv,hr⟩
def opExtract (x:AV) (i:Nat):Option AV :=
 match x with
 | .tup cs=>ix cs i
 | .f (.tup cs)=>(ix cs i).map .f
 | _=>none
theorem opExtract_run {x r:AV} {vx:Value} {i:Nat} (hx:RepA w L k x vx) (ho:opExtract x i=some r):∃ v,(Instr.extract vx i).run P w=.ok v w∧RepA w L k r v:=by
 unfold opExtract at ho
 simp only [ix] at ho
 split at ho
 ·cases hx with
  | tup cs a vs ha hv hr=>exact ⟨vs i,by simp [Instr.extract,hv i r ho],hr i r ho⟩
 ·obtain ⟨y,hy,rfl⟩:=Option.map_eq_some_iff.1 ho
  cases hx with
  | f x v hx=>cases hx with | tup cs a vs ha hv hr=>exact ⟨vs i,by simp [Instr.extract,hv i y hy],.f _ _ (hr i y hy)⟩
 ·cases ho
def opFunc (fn:Fn) (first:Array Operand) (cs:List AV):Option AV :=
 match fn with
 | .func f=>if first.size=0 then (match mapO cellFz cs with | some fs=>some (.f (.fn f fs)) | none=>some (.fnr f cs)) else none
 | _=>none
theorem opFunc_run {fn:Fn} {first:Array Operand} {σ:Operand→Value} {cs:List AV} {vs:Array Value} {r:AV} (hv:RepL w L k cs vs) (ho:opFunc fn first cs=some r) :
  ∃ v,(Instr.makeFunc fn (first.map σ) vs).run P w=.ok v w∧RepA w L k r v:=by
 unfold opFunc at ho
 split at ho
 case h_2=>cases ho
 rename_i f
 split at ho
 case isFalse=>cases ho
 rename_i h0
 have:first=#[]:=Array.eq_empty_of_size_eq_zero h0
 subst this
 refine ⟨.func (.func f) #[] vs,by simp [Instr.makeFunc],?_⟩
 split at ho
 ·rename_i fs hfs
  obtain rfl:=Option.some.inj ho
  obtain ⟨h1,h2⟩:=mapO_get hfs
  have key:∀ (j:Nat) y,fs[j]?=some y→∃ v,vs[j]?=some v∧Rep w L.F y v:=fun j y hj=>by
   have hjl:j < cs.length:=by rw [← h1]; exact (List.getElem?_eq_some_iff.1 hj).1
   obtain ⟨y',hy',hc⟩:=h2 j cs[j] (List.getElem?_eq_getElem hjl)
   rw [hj] at hy'
   obtain rfl:=Option.some.inj hy'
   obtain ⟨v,hv1,hrv⟩:=hv.2 j cs[j] (List.getElem?_eq_getElem hjl)
   exact ⟨v,hv1,cellFz_rep hrv hc⟩
  refine .f _ _ (.fn f fs vs (fun j=>vs.getD j undef) (by rw [hv.1,h1]) (fun j y hj=>?_) (fun j y hj=>?_)) <;> obtain ⟨v,hv1,hrv⟩:=key j y hj
  ·simp [hv1]
  ·simpa [hv1] using hrv
 ·obtain rfl:=Option.some.inj ho
  exact hv.fnr
def opNonNil:AV→Option AV
 | .ref b o=>some (.ref b o)
 | .f (.fp cs)=>some (.f (.fp cs))
 | .f (.fn f cs)=>some (.f (.fn f cs))
 | .fnr f cs=>some (.fnr f cs)
 | _=>none
def opBin (P:Program) (T:TV) (op:BinOp) (t:TypeId) (x y:Operand) (a b:AV):Option AV :=
 match opNil T op t a b with
 | some r=>some r
 | none=>match a.val,b.val with
  | some u,some v=>(runPure P (do eqGuard op t x y u v; binOp op t u v)).map ofVal
  | _,_=>none
theorem opBin_run (hT:TOk P T) {t:TypeId} {op:BinOp} {ox oy:Operand} {x y r:AV} {vx vy:Value} (hx:RepA w L k x vx) (hy:RepA w L k y vy) (ho:opBin P T op t ox oy x y=some r) :
  ∃ v,(do eqGuard op t ox oy vx vy; binOp op t vx vy:Sem Value).run P w=.ok v w∧RepA w L k r v:=by
 unfold opBin at ho
 cases hr:opNil T op t x y with
 | some z=>rw [hr] at ho; obtain rfl:=Option.some.inj ho; exact opNil_run hT hx hy hr
 | none =>
  rw [hr] at ho
  simp only at ho
  split at ho
  case h_2=>cases ho
  rename_i u v hu hv
  obtain ⟨q,hq,rfl⟩:=Option.map_eq_some_iff.1 ho
  rw [val_rep hx hu,val_rep hy hv]
  exact ⟨q,runPure_run _ hq,ofVal_rep q⟩
def opOne (P:Program) (m:Value→Sem Value) (a:AV):Option AV :=
 match a.val with
 | some u=>(runPure P (m u)).map ofVal
 | none=>none
theorem opOne_run {m:Value→Sem Value} {x r:AV} {vx:Value} (hx:RepA w L k x vx) (ho:opOne P m x=some r):∃ v,(m vx).run P w=.ok v w∧RepA w L k r v:=by
 unfold opOne at ho
 split at ho
 case h_2=>cases ho
 rename_i u hu
 obtain ⟨q,hq,rfl⟩:=Option.map_eq_some_iff.1 ho
 rw [val_rep hx hu]
 exact ⟨q,runPure_run _ hq,ofVal_rep q⟩
abbrev OpR:=Option (AV × List (List AV) × List (Nat × Nat))
def orElse (P:Program) (ρ:Operand→AV) (o:Oper):Option AV→Option AV
 | some x=>some x
 | none=>opPure P ρ o
def still (h:List (List AV)) (k:List (Nat × Nat)):Option AV→OpR
 | some x=>some (x,h,k)
 | none=>none
def boxed (k:List (Nat × Nat)):Option (AV × List (List AV))→OpR
 | some (x,h)=>some (x,h,k)
 | none=>none
def told (h:List (List AV)):Option (AV × List (Nat × Nat))→OpR
 | some (x,k)=>some (x,h,k)
 | none=>none
def stored (k:List (Nat × Nat)):Option (List (List AV))→OpR
 | some h=>some (undefA,h,k)
 | none=>none
def evCall (P:Program) (T:TV) (ρ:Operand→AV) (h:List (List AV)) (k:List (Nat × Nat)) (o:Oper) (c:Callee) (as:List Operand) (ts:List TypeId):OpR :=
 match c with
 | .builtin .len=>match as,ts with
  | [x],[t]=>still h k (orElse P ρ o (opLen T t (ρ x)))
  | _,_=>none
 | .builtin .append=>match as,ts with
  | [x,y],[t,t']=>if t=t' then told h (opAppend T k t (ρ x) (ρ y)) else none
  | _,_=>none
 | .builtin _=>still h k (opPure P ρ o)
 | _=>none
def evOp (P:Program) (T:TV) (ρ:Operand→AV) (h:List (List AV)) (k:List (Nat × Nat)) (o:Oper):OpR :=
 match o.op with
 | .move x=>some (ρ x,h,k)
 | .assign x=>some (ρ x,h,k)
 | .pick c a b=>match ρ c with
  | .f (.sc (.bool q))=>some (if q then ρ a else ρ b,h,k)
  | _=>none
 | .alloc t=>boxed k (opAlloc T h t)
 | .box t x=>boxed k (opBox h (ρ x))
 | .build t ps=>still h k (opBuild T t (ps.toList.map fun p=>(p.1,ρ p.2)))
 | .buildSlice t n ps=>still h k (opBuildSlice T t n (ps.toList.map fun p=>(p.1,ρ p.2)))
 | .load t a=>still h k (opLoad T h t (ρ a))
 | .store t a x=>stored k (opStore T h t (ρ a) (ρ x))
 | .fieldAddr s x n=>still h k (opFieldAddr T s (ρ x) n)
 | .field s x n=>still h k (opField T s (ρ x) n)
 | .indexAddr t x i=>still h k (opIndexAddr T t (ρ x) (ρ i))
 | .index t x i=>still h k (orElse P ρ o (opIndex T t (ρ x) (ρ i)))
 | .slice t x lo hi mx=>still h k (orElse P ρ o (opSlice T t (ρ x) (lo.map ρ) (hi.map ρ) (mx.map ρ)))
 | .makeSlice t n c=>opMake T h k t (isZero n) (ρ n) (ρ c)
 | .extract x i=>still h k (opExtract (ρ x) i)
 | .makeFunc fn first cs=>still h k (opFunc fn first (cs.toList.map ρ))
 | .nilCheck x=>still h k (opNonNil (ρ x))
 | .binOp op t x y _=>still h k (opBin P T op t x y (ρ x) (ρ y))
 | .unOp op _ x=>still h k (opOne P (Op.unary op) (ρ x))
 | .convert s d x=>still h k (opOne P (convert s d) (ρ x))
 | .call ⟨c,as,ts⟩=>evCall P T ρ h k o c as.toList ts.toList
 | _=>none
theorem evOp_run (hT:TOk P T) (H:Mem B L h k w) {ρ:Operand→AV} {σ:Operand→Value} (hρ:∀ x,RepA w L k (ρ x) (σ x)) {o:Oper} {x:AV} {h':List (List AV)} {k':List (Nat × Nat)} (ho:evOp P T ρ h k o=some (x,h',k')) :
  ∃ n v w' L',(execOp σ o).run P w=.ok n w'∧(n=.value v∨(n=.skip∧v=undef))∧Mem B L' h' k' w'∧Ext L k w L' k' w'∧RepA w' L' k' x v∧k.length≤k'.length:=by
 have hstill:∀ r:Option AV,still h k r=some (x,h',k')→(∀ y,r=some y→∃ v,(execOp σ o).run P w=.ok (.value v) w∧RepA w L k y v) →
   ∃ n v w' L',(execOp σ o).run P w=.ok n w'∧(n=.value v∨(n=.skip∧v=undef))∧Mem B L' h' k' w'∧Ext L k w L' k' w'∧RepA w' L' k' x v∧k.length≤k'.length:=fun r hr hy=>by
  cases r with
  | none=>simp [still] at hr
  | some y =>
   obtain ⟨rfl,rfl,rfl⟩:y=x∧h=h'∧k=k':=by simpa [still] using hr
   obtain ⟨v,hv,hrv⟩:=hy y rfl
   exact ⟨_,v,w,L,hv,.inl rfl,H,Ext.refl _ _ _,hrv,Nat.le_refl _⟩
 have hpure:(∀ cs b,o.op ≠ .select cs b)→∀ y,opPure P ρ o=some y→∃ v,(execOp σ o).run P w=.ok (.value v) w∧RepA w L k y v:=fun hs y hy=>opPure_run hρ hs hy
 have hlist:∀ ps:Array (Nat × Operand),((ps.map fun (i,x)=>(i,σ x)).toList.map (·.1)=(ps.toList.map fun p=>(p.1,ρ p.2)).map (·.1))∧∀ (j:Nat) p,(ps.toList.map fun p=>(p.1,ρ p.2))[j]?=some p→∃ v,(ps.map fun (i,x)=>(i,σ x))[j]?=some v∧RepA w L k p.2 v.2:=fun ps=>by
  refine ⟨by simp,fun j p hj=>?_⟩
  rw [List.getElem?_map,Option.map_eq_some_iff] at hj
  obtain ⟨q,hq,rfl⟩:=hj
  exact ⟨(q.1,σ q.2),by simp at hq; simp [hq],hρ _⟩
 have hopt:∀ q:Option Operand,(∀ x,q.map ρ=some x→∃ v,q.map σ=some v∧RepA w L k x v)∧(q.map ρ=none→q.map σ=none):=fun q=>by
  cases q with
  | none=>exact ⟨fun x h=>(by simp at h),fun _=>rfl⟩
  | some q=>exact ⟨fun x h=>by
    obtain rfl:ρ q=x:=by simpa using h
    exact ⟨_,rfl,hρ q⟩,fun h=>by simp at h⟩
 unfold evOp at ho
 split at ho
 case h_1 x' hop=>exact hstill (some (ρ x')) ho fun y hy=>by obtain rfl:=Option.some.inj hy; exact ⟨σ x',by simp [execOp,hop],hρ _⟩
 case h_2 x' hop=>exact hstill (some (ρ x')) ho fun y hy=>by obtain rfl:=Option.some.inj hy; exact ⟨σ x',by simp [execOp,hop],hρ _⟩
 case h_3 c a b hop =>
  split at ho
  case h_2=>cases ho
  rename_i q hq
  refine hstill (some (if q then ρ a else ρ b)) ho fun y hy=>?_
  obtain rfl:=Option.some.inj hy
  have hc:=hρ c
  rw [hq] at hc
  have hcv:σ c=.bool q:=by
   generalize σ c=v at hc
   cases hc with | f x v hx=>cases hx; rfl
  refine ⟨if q then σ a else σ b,by simp [execOp,hop,hcv,asBool],?_⟩
  cases q
  ·exact hρ b
  ·exact hρ a
 case h_4 t hop =>
  cases hr:opAlloc T h t with
  | none=>simp [boxed,hr] at ho
  | some p =>
   obtain ⟨y,h2⟩:=p
   obtain ⟨rfl,rfl,rfl⟩:y=x∧h2=h'∧k=k':=by simpa [boxed,hr] using ho
   obtain ⟨v,w',L',h1,h2,h3,h4⟩:=opAlloc_run (old:=.tuple #[]) hT H hr
   exact ⟨_,v,w',L',by simp [execOp,hop,h1],.inl rfl,h2,h3,h4,Nat.le_refl _⟩
 case h_5 t a hop =>
  cases hr:opBox h (ρ a) with
  | none=>simp [boxed,hr] at ho
  | some p =>
   obtain ⟨y,h2⟩:=p
   obtain ⟨rfl,rfl,rfl⟩:y=x∧h2=h'∧k=k':=by simpa [boxed,hr] using ho
   obtain ⟨v,w',L',h1,h2,h3,h4⟩:=opBox_run (P:=P) (t:=t) H (hρ a) hr
   exact ⟨_,v,w',L',by simp [execOp,hop,h1],.inl rfl,h2,h3,h4,Nat.le_refl _⟩
 case h_6 t ps hop =>
  refine hstill _ ho fun y hy=>?_
  obtain ⟨v,h1,h2⟩:=opBuild_run hT (hlist ps).1 (hlist ps).2 hy
  exact ⟨v,by simp only [execOp,hop,Sem.run_bind,h1,Result.andThen_ok,Sem.run_pure],h2⟩
 case h_7 t n ps hop =>
  cases hr:opBuildSlice T t n (ps.toList.map fun p=>(p.1,ρ p.2)) with
  | none=>simp [still,hr] at ho
  | some y =>
   obtain ⟨rfl,rfl,rfl⟩:y=x∧h=h'∧k=k':=by simpa [still,hr] using ho
   obtain ⟨v,w',L',h1,h2,h3,h4⟩:=opBuildSlice_run hT H (hlist ps).1 (hlist ps).2 hr
   exact ⟨_,v,w',L',by simp only [execOp,hop,Sem.run_bind,h1,Result.andThen_ok,Sem.run_pure],.inl rfl,h2,h3,h4,Nat.le_refl _⟩
 case h_8 t a hop =>
  refine hstill _ ho fun y hy=>?_
  obtain ⟨v,h1,h2⟩:=opLoad_run hT H (hρ a) hy
  exact ⟨v,by simp only [execOp,hop,Sem.run_bind,h1,Result.andThen_ok,Sem.run_pure],h2⟩
 case h_9 t a y hop =>
  cases hr:opStore T h t (ρ a) (ρ y) with
  | none=>simp [stored,hr] at ho
  | some h2 =>
   obtain ⟨rfl,rfl,rfl⟩:undefA=x∧h2=h'∧k=k':=by simpa [stored,hr] using ho
   obtain ⟨w',h1,h2,h3⟩:=opStore_run hT H (hρ a) (hρ y) hr
   exact ⟨_,undef,w',L,by simp only [execOp,hop,Sem.run_bind,h1,Result.andThen_ok,Sem.run_pure],.inr ⟨rfl,rfl⟩,h2,h3,.f _ _ (.sc _),Nat.le_refl _⟩
 case h_10 s a n hop =>
  refine hstill _ ho fun y hy=>?_
  obtain ⟨v,h1,h2⟩:=opFieldAddr_run hT (hρ a) hy
  exact ⟨v,by simp only [execOp,hop,Sem.run_bind,h1,Result.andThen_ok,Sem.run_pure],h2⟩
 case h_11 s a n hop =>
  refine hstill _ ho fun y hy=>?_
  obtain ⟨v,h1,h2⟩:=opField_run hT (hρ a) hy
  exact ⟨v,by simp only [execOp,hop,Sem.run_bind,h1,Result.andThen_ok,Sem.run_pure],h2⟩
 case h_12 t a i hop =>
  refine hstill _ ho fun y hy=>?_
  obtain ⟨v,h1,h2⟩:=opIndexAddr_run hT (hρ a) (hρ i) hy
  exact ⟨v,by simp only [execOp,hop,Sem.run_bind,h1,Result.andThen_ok,Sem.run_pure],h2⟩
 case h_13 t a i hop =>
  refine hstill _ ho fun y hy=>?_
  cases hr:opIndex T t (ρ a) (ρ i) with
  | none=>rw [hr] at hy; exact hpure (by rw [hop]; simp) y hy
  | some z =>
   rw [hr] at hy
   obtain rfl:=Option.some.inj hy
   obtain ⟨v,h1,h2⟩:=opIndex_run hT (hρ a) (hρ i) hr
   exact ⟨v,by simp only [execOp,hop,Sem.run_bind,h1,Result.andThen_ok,Sem.run_pure],h2⟩
 case h_14 t a lo hi mx hop =>
  refine hstill _ ho fun y hy=>?_
  cases hr:opSlice T t (ρ a) (lo.map ρ) (hi.map ρ) (mx.map ρ) with
  | none=>rw [hr] at hy; exact hpure (by rw [hop]; simp) y hy
  | some z =>
   rw [hr] at hy
   obtain rfl:=Option.some.inj hy
   obtain ⟨v,h1,h2⟩:=opSlice_run hT (hρ a) (hopt lo).1 (hopt lo).2 (hopt hi).1 (hopt hi).2 (hopt mx).2 hr
   exact ⟨v,by simp only [execOp,hop,Sem.run_bind,h1,Result.andThen_ok,Sem.run_pure],h2⟩
 case h_15 t n c hop =>
  obtain ⟨v,w',L',h1,h2,h3,h4,h5⟩:=opMake_run hT H (hρ n) (hρ c) ho
  exact ⟨_,v,w',L',by simp only [execOp,hop,Sem.run_bind,h1,Result.andThen_ok,Sem.run_pure],.inl rfl,h2,h3,h4,h5⟩
 case h_16 a i hop =>
  refine hstill _ ho fun y hy=>?_
  obtain ⟨v,h1,h2⟩:=opExtract_run (P:=P) (hρ a) hy
  exact ⟨v,by simp only [execOp,hop,Sem.run_bind,h1,Result.andThen_ok,Sem.run_pure],h2⟩
 case h_17 fn first cs hop =>
  refine hstill _ ho fun y hy=>?_
  obtain ⟨v,h1,h2⟩:=opFunc_run (P:=P) (σ:=σ) (vs:=cs.map σ) (⟨by simp,fun j z hj=>by
   rw [List.getElem?_map,Option.map_eq_some_iff] at hj
   obtain ⟨q,hq,rfl⟩:=hj
   exact ⟨σ q,by simp at hq; simp [hq],hρ _⟩⟩:RepL w L k (cs.toList.map ρ) (cs.map σ)) hy
  exact ⟨v,by simp only [execOp,hop,Sem.run_bind,h1,Result.andThen_ok,Sem.run_pure],h2⟩
 case h_18 a hop =>
  refine hstill _ ho fun y hy=>⟨σ a,?_,?_⟩
  ·have ha:=hρ a
   unfold opNonNil at hy
   generalize hq:ρ a=q at hy ha
   generalize hv:σ a=v at ha
   split at hy <;> first | (cases hy; done) | skip
   ·cases ha; simp [execOp,hop,hv]
   ·cases ha with | f x v hx=>cases hx; simp [execOp,hop,hv]
   ·cases ha with | f x v hx=>cases hx; simp [execOp,hop,hv]
   ·cases ha; simp [execOp,hop,hv]
  ·have ha:=hρ a
   unfold opNonNil at hy
   split at hy <;> first | (cases hy; done) | (rename_i hq; rw [hq] at ha; obtain rfl:=Option.some.inj hy; exact ha)
 case h_19 op t a b t2 hop =>
  refine hstill _ ho fun y hy=>?_
  obtain ⟨v,h1,h2⟩:=opBin_run hT (hρ a) (hρ b) hy
  exact ⟨v,by simp only [execOp,hop,Sem.run_bind,Sem.run_pure] at h1 ⊢; rw [h1]; rfl,h2⟩
 case h_20 op t a hop =>
  refine hstill _ ho fun y hy=>?_
  obtain ⟨v,h1,h2⟩:=opOne_run (hρ a) hy
  exact ⟨v,by simp only [execOp,hop,Sem.run_bind,h1,Result.andThen_ok,Sem.run_pure],h2⟩
 case h_21 s d a hop =>
  refine hstill _ ho fun y hy=>?_
  obtain ⟨v,h1,h2⟩:=opOne_run (hρ a) hy
  exact ⟨v,by simp only [execOp,hop,Sem.run_bind,h1,Result.andThen_ok,Sem.run_pure],h2⟩
 case h_22 c as ts hop =>
  unfold evCall at ho
  split at ho
  ·split at ho
   case h_2=>cases ho
   rename_i a t has hts
   obtain rfl:as=#[a]:=by cases as; simp_all
   obtain rfl:ts=#[t]:=by cases ts; simp_all
   refine hstill _ ho fun y hy=>?_
   cases hr:opLen T t (ρ a) with
   | none=>rw [hr] at hy; exact hpure (by rw [hop]; simp) y hy
   | some z =>
    rw [hr] at hy
    obtain rfl:=Option.some.inj hy
    obtain ⟨v,h1,h2⟩:=opLen_run (ty:=o.type) hT (hρ a) hr
    exact ⟨v,by simp [execOp,hop,resolve,invoke,builtin,h1],h2⟩
  ·split at ho
   case h_2=>cases ho
   rename_i a b t t' has hts
   obtain rfl:as=#[a,b]:=by cases as; simp_all
   obtain rfl:ts=#[t,t']:=by cases ts; simp_all
   split at ho
   case isFalse=>cases ho
   rename_i he
   subst he
   cases hr:opAppend T k t (ρ a) (ρ b) with
   | none=>simp [told,hr] at ho
   | some p =>
    obtain ⟨y,k2⟩:=p
    obtain ⟨rfl,rfl,rfl⟩:y=x∧h=h'∧k2=k':=by simpa [told,hr] using ho
    obtain ⟨v,w',L',h1,h2,h3,h4,h5⟩:=opAppend_run (ty:=o.type) hT H (hρ a) (hρ b) hr
    exact ⟨_,v,w',L',by simp [execOp,hop,resolve,invoke,builtin,h1],.inl rfl,h2,h3,h4,h5⟩
  ·exact hstill _ ho (hpure (by rw [hop]; simp))
  ·cases ho
 case h_23=>cases ho
end Go.Proofs.YtafenffmgpcjcaaGreat.Vf
namespace Go.Proofs.YtafenffmgpcjcaaGreat.Vf
open Go.RowKit
set_option linter.unusedVariables false
set_option linter.unusedSimpArgs false
variable {B:Base} {L:Lk} {h:List (List AV)} {k:List (Nat × Nat)} {w:World} {P:Program} {T:TV}
theorem Mem.kill (H:Mem B L h k w) {b c:Nat} {cs:List AV} (h1:L.m[b]?=some c) (h2:h[b]?=some cs) :
  Mem B ⟨L.m,L.t,fun q o=>L.F q o∨(q=c∧o < cs.length)⟩ (h.set b []) k w∧Ext L k w ⟨L.m,L.t,fun q o=>L.F q o∨(q=c∧o < cs.length)⟩ k w:=by
 have he:Ext L k w ⟨L.m,L.t,fun q o=>L.F q o∨(q=c∧o < cs.length)⟩ k w:=⟨fun _ _ h=>h,fun _ _ h=>.inl h,Keep.refl _ _,fun t n sz h _=>⟨n,Nat.le_refl _,h,fun _=>rfl⟩⟩
 refine ⟨⟨H.below,fun q o hq=>?_,fun q o hq=>.inl (H.f0 q o hq),fun q o hq=>?_,by simpa using H.mlen,H.mge,H.minj,fun b' c' j cs' x g1 g2 g3=>?_,H.tlen,fun t n sz r g1 g2=>?_,H.tinj⟩,he⟩
 ·rcases hq with hq | ⟨rfl,_⟩
  ·exact H.fz q o hq
  ·exact (H.mge b _ h1).2
 ·rcases hq with hq | ⟨rfl,_⟩
  ·exact H.f1 q o hq
  ·exact .inr (H.mge b _ h1).1
 ·rcases get_set g2 with ⟨hne,g2⟩ | ⟨rfl,rfl,_⟩
  ·obtain ⟨q1,q2,v,q3,q4,q5⟩:=H.heap b' c' j cs' x g1 g2 g3
   refine ⟨fun hq=>?_,q2,v,q3,q4.mono he (Nat.le_refl _),q5⟩
   rcases hq with hq | ⟨rfl,_⟩
   ·exact q1 hq
   ·exact hne (H.minj _ _ _ g1 h1)
  ·simp at g3
 ·obtain ⟨b1,b2,b3,b4,b5,b6⟩:=H.tok t n sz r g1 g2
  refine ⟨b1,b2,b3,b4,fun j hj hq=>?_,b6⟩
  rcases hq with hq | ⟨e,_⟩
  ·exact b5 j hj hq
  ·exact b4 b (e ▸ h1)
def killC (h:List (List AV)):AV→Option (AV × List (List AV))
 | .ms b off len cap sz=>match ix h b with
  | some cs=>if sz ≠ 0∧off+len * sz≤cs.length∧len≤cap then
    (match mapO cellFz ((cs.drop off).take (len * sz)) with
    | some fs=>if fs.all (fun y=>(AV.f y).one) then some (.f (.sl (chunk (sz != 1) sz len fs) .un),h.set b []) else none
    | none=>none) else none
  | none=>none
 | x=>some (x,h)
theorem killC_rep (H:Mem B L h k w) {x y:AV} {v:Value} {h':List (List AV)} (hx:RepA w L k x v) (hk:killC h x=some (y,h')):∃ L',Mem B L' h' k w∧Ext L k w L' k w∧RepA w L' k y v:=by
 unfold killC at hk
 simp only [ix] at hk
 split at hk
 case h_2 => obtain ⟨rfl, rfl⟩ : x = y ∧ h = h' := by simpa using hk
             exact ⟨L,H,Ext.refl _ _ _,hx⟩
 rename_i b off len cap sz
 split at hk
 case h_2=>cases hk
 rename_i cs hcs
 split at hk
 case isFalse=>cases hk
 rename_i hcond
 obtain ⟨hs0,hle,hlc⟩:=hcond
 split at hk
 case h_2=>cases hk
 rename_i fs hfs
 split at hk
 case isFalse=>cases hk
 rename_i hfone
 obtain ⟨rfl,rfl⟩:AV.f (.sl (chunk (sz != 1) sz len fs) .un)=y∧h.set b []=h':=by simpa using hk
 cases hx with
 | ms b off len cap sz c hm =>
  obtain ⟨H',he⟩:=H.kill hm hcs
  refine ⟨_,H',he,.f _ _ ?_⟩
  obtain ⟨h1,h2⟩:=mapO_get hfs
  have hlen:((cs.drop off).take (len * sz)).length=len * sz:=by simp; omega
  have hcell:∀ j,j < len * sz→∃ x v,((cs.drop off).take (len * sz))[j]?=some x∧w.cell? ⟨c,off+j,none⟩=some v∧RepA w L k x v∧v.oneCell'=true:=fun j hj=>by
   have hj':off+j < cs.length:=by omega
   obtain ⟨_,_,v,q3,q4,q5⟩:=H.heap b c (off+j) cs cs[off+j] hm hcs (List.getElem?_eq_getElem hj')
   exact ⟨cs[off+j],v,by rw [List.getElem?_take_of_lt hj,List.getElem?_drop]; exact List.getElem?_eq_getElem hj',q3,q4,q5⟩
  have hch:=chunk_get (ag:=(sz != 1)) (s:=sz) (n:=len) (cs:=fs) (by rw [h1,hlen]) (by
   by_cases e:sz=1
   ·exact .inr ⟨e,fun y hy=>FV.cells_one (by simpa using List.all_eq_true.1 hfone y hy)⟩
   ·exact .inl (by simp [e]))
  have hflat:Flat w (fun q o=>L.F q o∨(q=c∧o < cs.length)) (chunk (sz != 1) sz len fs) sz ((List.range (len * sz)).map fun j=>(w.cell? ⟨c,off+j,none⟩).getD undef):=by
   refine ⟨by simp [chunk_length],hch.1,fun v hv=>?_,fun i j x y hi hj=>?_⟩
   ·obtain ⟨q,hq,rfl⟩:=List.mem_map.1 hv
    obtain ⟨x,v,_,g2,_,g4⟩:=hcell q (List.mem_range.1 hq)
    rw [g2]; exact g4
   ·have hf:=hch.2 i j x y hi hj
    have hql:i * sz+j < len * sz:=by rw [← hlen,← h1]; exact (List.getElem?_eq_some_iff.1 hf).1
    obtain ⟨u,v,g1,g2,g3,g4⟩:=hcell _ hql
    obtain ⟨y',hy',hcf⟩:=h2 _ u g1
    rw [hf] at hy'
    obtain rfl:=Option.some.inj hy'
    exact ⟨v,by rw [List.getElem?_map,List.getElem?_range hql]; simp [g2],(cellFz_rep g3 hcf).mono he.F he.keep⟩
  have:=hflat.rep (c:=.un) (cap:=cap) (b:=c) (o:=off) (by simp) (by simp) (by rw [chunk_length]; exact hlc) (fun j v hj=>by
   have hjl:j < len * sz:=by have:=(List.getElem?_eq_some_iff.1 hj).1; simpa using this
   obtain ⟨u,v',g1,g2,g3,g4⟩:=hcell j hjl
   rw [List.getElem?_map,List.getElem?_range hjl] at hj
   have hv:v'=v:=by simpa [g2] using hj
   subst hv
   exact ⟨g2,.inr ⟨rfl,by omega⟩⟩)
  rw [chunk_length] at this
  exact this
def killL (h:List (List AV)):List AV→Option (List AV × List (List AV))
 | []=>some ([],h)
 | x::l=>match killC h x with
  | some (y,h1)=>match killL h1 l with
   | some (ys,h2)=>some (y::ys,h2)
   | none=>none
  | none=>none
theorem killL_rep (l:List AV):∀ {h h':List (List AV)} {L:Lk} {r:List AV} (vs:Nat→Value),Mem B L h k w→(∀ (j:Nat) x,l[j]?=some x→RepA w L k x (vs j))→killL h l=some (r,h') →
  ∃ L',Mem B L' h' k w∧Ext L k w L' k w∧r.length=l.length∧∀ (j:Nat) y,r[j]?=some y→RepA w L' k y (vs j):=by
 induction l with
 | nil =>
  intro h h' L r vs H hv hk
  obtain ⟨rfl,rfl⟩:[]=r∧h=h':=by simpa [killL] using hk
  exact ⟨L,H,Ext.refl _ _ _,rfl,fun j y hj=>by simp at hj⟩
 | cons x l ih =>
  intro h h' L r vs H hv hk
  simp only [killL] at hk
  split at hk
  case h_2=>cases hk
  rename_i y h1 hy
  split at hk
  case h_2=>cases hk
  rename_i ys h2 hys
  obtain ⟨rfl,rfl⟩:y::ys=r∧h2=h':=by simpa using hk
  obtain ⟨L1,H1,e1,r1⟩:=killC_rep H (hv 0 x rfl) hy
  obtain ⟨L2,H2,e2,hl,r2⟩:=ih (fun j=>vs (j+1)) H1 (fun j z hj=>(hv (j+1) z (by simpa using hj)).mono e1 (Nat.le_refl _)) hys
  refine ⟨L2,H2,e1.trans e2 (Nat.le_refl _),by simp [hl],fun j z hj=>?_⟩
  cases j with
  | zero => obtain rfl : y = z := by simpa using hj
            exact r1.mono e2 (Nat.le_refl _)
  | succ j=>exact r2 j z (by simpa using hj)
def killA (h:List (List AV)):AV→Option (AV × List (List AV))
 | .agg cs=>match killL h cs with
  | some (ys,h')=>some (.agg ys,h')
  | none=>none
 | x=>killC h x
theorem killA_rep (H:Mem B L h k w) {x y:AV} {v:Value} {h':List (List AV)} (hx:RepA w L k x v) (hk:killA h x=some (y,h')):∃ L',Mem B L' h' k w∧Ext L k w L' k w∧RepA w L' k y v:=by
 unfold killA at hk
 split at hk
 ·rename_i cs
  split at hk
  case h_2=>cases hk
  rename_i ys h2 hys
  obtain ⟨rfl,rfl⟩:AV.agg ys=y∧h2=h':=by simpa using hk
  cases hx with
  | agg cs a vs ha hv hr =>
   obtain ⟨L',H',he,hl,hr'⟩:=killL_rep cs vs H hr hys
   refine ⟨L',H',he,.agg ys a vs (by rw [ha,hl]) (fun j z hj=>?_) hr'⟩
   have hjl:j < cs.length:=by rw [← hl]; exact (List.getElem?_eq_some_iff.1 hj).1
   exact hv j _ (List.getElem?_eq_getElem hjl)
 ·exact killC_rep H hx hk
def killP (h:List (List AV)):List (Nat × AV)→Option (List (Nat × AV) × List (List AV))
 | []=>some ([],h)
 | p::l=>match killA h p.2 with
  | some (y,h1)=>match killP h1 l with
   | some (ys,h2)=>some ((p.1,y)::ys,h2)
   | none=>none
  | none=>none
theorem killP_rep (l:List (Nat × AV)):∀ {h h':List (List AV)} {L:Lk} {r:List (Nat × AV)} (vs:Nat→Value),Mem B L h k w→(∀ (j:Nat) p,l[j]?=some p→RepA w L k p.2 (vs j))→killP h l=some (r,h') →
  ∃ L',Mem B L' h' k w∧Ext L k w L' k w∧r.map (·.1)=l.map (·.1)∧∀ (j:Nat) p,r[j]?=some p→RepA w L' k p.2 (vs j):=by
 induction l with
 | nil =>
  intro h h' L r vs H hv hk
  obtain ⟨rfl,rfl⟩:[]=r∧h=h':=by simpa [killP] using hk
  exact ⟨L,H,Ext.refl _ _ _,rfl,fun j y hj=>by simp at hj⟩
 | cons x l ih =>
  intro h h' L r vs H hv hk
  simp only [killP] at hk
  split at hk
  case h_2=>cases hk
  rename_i y h1 hy
  split at hk
  case h_2=>cases hk
  rename_i ys h2 hys
  obtain ⟨rfl,rfl⟩:(x.1,y)::ys=r∧h2=h':=by simpa using hk
  obtain ⟨L1,H1,e1,r1⟩:=killA_rep H (hv 0 x rfl) hy
  obtain ⟨L2,H2,e2,hl,r2⟩:=ih (fun j=>vs (j+1)) H1 (fun j z hj=>(hv (j+1) z (by simpa using hj)).mono e1 (Nat.le_refl _)) hys
  refine ⟨L2,H2,e1.trans e2 (Nat.le_refl _),by simp [hl],fun j z hj=>?_⟩
  cases j with
  | zero => obtain rfl : (x.1, y) = z := by simpa using hj
            exact r1.mono e2 (Nat.le_refl _)
  | succ j=>exact r2 j z (by simpa using hj)
def evKill (T:TV) (ρ:Operand→AV) (h:List (List AV)) (k:List (Nat × Nat)):Op→OpR
 | .buildSlice t n ps=>match killP h (ps.toList.map fun p=>(p.1,ρ p.2)) with
  | some (qs,h')=>still h' k (opBuildSlice T t n qs)
  | none=>none
 | _=>none
theorem evKill_run (hT:TOk P T) (H:Mem B L h k w) {ρ:Operand→AV} {σ:Operand→Value} (hρ:∀ x,RepA w L k (ρ x) (σ x)) {o:Oper} {x:AV} {h':List (List AV)} {k':List (Nat × Nat)} (ho:evKill T ρ h k o.op=some (x,h',k')) :
  ∃ n v w' L',(execOp σ o).run P w=.ok n w'∧(n=.value v∨(n=.skip∧v=undef))∧Mem B L' h' k' w'∧Ext L k w L' k' w'∧RepA w' L' k' x v∧k.length≤k'.length:=by
 unfold evKill at ho
 split at ho
 case h_2=>cases ho
 rename_i t n ps hop
 split at ho
 case h_2=>cases ho
 rename_i qs h1 hqs
 cases hr:opBuildSlice T t n qs with
 | none=>simp [still,hr] at ho
 | some y =>
  obtain ⟨rfl,rfl,rfl⟩:y=x∧h1=h'∧k=k':=by simpa [still,hr] using ho
  have hsz:∀ (j:Nat) p,(ps.toList.map fun p=>(p.1,ρ p.2))[j]?=some p→RepA w L k p.2 (((ps.map fun (p:Nat × Operand)=>(p.1,σ p.2)).getD j default).2):=fun j p hj=>by
   rw [List.getElem?_map,Option.map_eq_some_iff] at hj
   obtain ⟨q,hq,rfl⟩:=hj
   have:ps[j]?=some q:=by simpa using hq
   simp only [Array.getD_eq_getD_getElem?,Array.getElem?_map,this,Option.map_some,Option.getD_some]
   exact hρ _
  obtain ⟨L1,H1,e1,hi,hv⟩:=killP_rep _ _ H hsz hqs
  obtain ⟨v,w',L',g1,g2,g3,g4⟩:=opBuildSlice_run (vs:=ps.map fun (p:Nat × Operand)=>(p.1,σ p.2)) hT H1 (by rw [hi]; simp) (fun j p hj=>by
   have hjl:j < ps.size:=by
    have h1:=(List.getElem?_eq_some_iff.1 hj).1
    have h2:qs.length=ps.size:=by have:=congrArg List.length hi; simpa using this
    omega
   refine ⟨((ps.map fun (p:Nat × Operand)=>(p.1,σ p.2)).getD j default),?_,hv j p hj⟩
   simp [Array.getElem?_eq_getElem hjl]) hr
  exact ⟨_,v,w',L',by simp only [execOp,hop,Sem.run_bind,g1,Result.andThen_ok,Sem.run_pure],.inl rfl,g2,e1.trans g3 (Nat.le_refl _),g4,Nat.le_refl _⟩
end Go.Proofs.YtafenffmgpcjcaaGreat.Vf
