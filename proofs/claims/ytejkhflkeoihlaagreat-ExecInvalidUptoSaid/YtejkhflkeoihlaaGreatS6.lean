/- Texts of the proof: S6. -/
import Derived.Test.YtejkhflkeoihlaaGreatS5
import Derived.Test.YtejkhflkeoihlaaGreatS4
import Derived.Test.YtejkhflkeoihlaaGreatVC1
import Derived.Lib.SliceRun
import Derived.Test.YtejkhflkeoihlaaGreatS3
namespace Go.Proofs.YtejkhflkeoihlaaGreat
open Go.RowKit Go.Proofs.YtejkhflkeoihlaaGreat.Vf
set_option linter.unusedVariables false
set_option linter.unusedSimpArgs false
set_option maxRecDepth 100000
set_option maxHeartbeats 4000000
def cntAt (d : PrgD) : Nat→Int
 | 0=>cntTo d.headers.l
 | 1=>d.headers.l.length
 | 2=>d.meta_.l.length
 | _=>d.regs.l.length
def fstTo (d : PrgD) (k : Int) : Nat→Int
 | 0=>0
 | i + 1=>if (i : Int) < k then fstTo d k i + cntAt d i else fstTo d k i
def fiI (d : PrgD) (k : Int) (i : Nat) (s : St) : Prop:=∃ g,Vf.Sl [(1,.f (intF k)),(5,.f (intF (fstTo d k i))),(9,.f (f4 (cntTo d.headers.l) d.headers.l.length d.meta_.l.length d.regs.l.length)),(10,.f (intF i))] 22 g [] s
theorem cnt_bd {d : PrgD} (hs : PrgS d) (i : Nat) : 0 ≤ cntAt d i∧cntAt d i ≤ 1000000:=by
 have h0:=cntTo_bd hs.f
 have:=hs.h
 have:=hs.m
 have:=hs.r
 match i with
 | 0=>show 0 ≤ cntTo d.headers.l∧cntTo d.headers.l ≤ 1000000; omega
 | 1=>show (0 : Int) ≤ d.headers.l.length∧(d.headers.l.length : Int) ≤ 1000000; omega
 | 2=>show (0 : Int) ≤ d.meta_.l.length∧(d.meta_.l.length : Int) ≤ 1000000; omega
 | i + 3=>show (0 : Int) ≤ d.regs.l.length∧(d.regs.l.length : Int) ≤ 1000000; omega
theorem fst_bd {d : PrgD} (hs : PrgS d) (k : Int) (i : Nat) : 0 ≤ fstTo d k i∧fstTo d k i ≤ 1000000 * i:=by
 induction i with
 | zero=>simp [fstTo]
 | succ i ih =>
  have:=cnt_bd hs i
  unfold fstTo
  split <;> omega
theorem first_g (d : PrgD) (hs : PrgS d) (k : Int) : Gives Tryz.prog 206 [fPrg d,intF k] (intF (fstTo d k 4)):=by
 refine Gives.of mixed Tryz.func206 rfl rfl rfl (by kernel_rfl) ?_
 simp [fPrg,cPrg]
 refine call_g (counts_g d hs) ?_
 simp
 refine forX mixed 4 (fiI d k) (by kernel_rfl) ⟨_,Sl.of rfl rfl rfl⟩ ?_
 rintro i ⟨ts,hh,kk⟩ hi ⟨g,rfl,rfl,f,rfl⟩
 by_cases hlt : i < 4
 ·have hb:=fst_bd hs k i
  have hc:=cnt_bd hs i
  have hw:=wrap64 (x:=fstTo d k i + cntAt d i) (by omega) (by omega)
  have h4 : i = 0 ∨ i = 1 ∨ i = 2 ∨ i = 3:=by omega
  by_cases hk : (i : Int) < k
  ·have hn : fstTo d k (i + 1) = fstTo d k i + cntAt d i:=by rw [fstTo,if_pos hk]
   rcases h4 with rfl | rfl | rfl | rfl
   ·have hk' : (0 : Int) < k:=hk
    have hw' : IntKind.i64.wrap (fstTo d k 0 + cntTo d.headers.l) = fstTo d k 0 + cntTo d.headers.l:=hw
    simp [hk',Vf.wrap64,hw']
    exact ⟨_,by rw [hn]; exact Sl.of rfl rfl rfl⟩
   ·have hk' : (1 : Int) < k:=hk
    have hw' : IntKind.i64.wrap (fstTo d k 1 + (d.headers.l.length : Int)) = fstTo d k 1 + (d.headers.l.length : Int):=hw
    simp [hk',Vf.wrap64,hw']
    exact ⟨_,by rw [hn]; exact Sl.of rfl rfl rfl⟩
   ·have hk' : (2 : Int) < k:=hk
    have hw' : IntKind.i64.wrap (fstTo d k 2 + (d.meta_.l.length : Int)) = fstTo d k 2 + (d.meta_.l.length : Int):=hw
    simp [hk',Vf.wrap64,hw']
    exact ⟨_,by rw [hn]; exact Sl.of rfl rfl rfl⟩
   ·have hk' : (3 : Int) < k:=hk
    have hw' : IntKind.i64.wrap (fstTo d k 3 + (d.regs.l.length : Int)) = fstTo d k 3 + (d.regs.l.length : Int):=hw
    simp [hk',Vf.wrap64,hw']
    exact ⟨_,by rw [hn]; exact Sl.of rfl rfl rfl⟩
  ·have hn : fstTo d k (i + 1) = fstTo d k i:=by rw [fstTo,if_neg hk]
   rcases h4 with rfl | rfl | rfl | rfl
   ·have hk' : ¬ (0 : Int) < k:=hk
    simp [hk',Vf.wrap64]
    exact ⟨_,by rw [hn]; exact Sl.of rfl rfl rfl⟩
   ·have hk' : ¬ (1 : Int) < k:=hk
    simp [hk',Vf.wrap64]
    exact ⟨_,by rw [hn]; exact Sl.of rfl rfl rfl⟩
   ·have hk' : ¬ (2 : Int) < k:=hk
    simp [hk',Vf.wrap64]
    exact ⟨_,by rw [hn]; exact Sl.of rfl rfl rfl⟩
   ·have hk' : ¬ (3 : Int) < k:=hk
    simp [hk',Vf.wrap64]
    exact ⟨_,by rw [hn]; exact Sl.of rfl rfl rfl⟩
 ·obtain rfl : i = 4:=by omega
  simp
end Go.Proofs.YtejkhflkeoihlaaGreat
namespace Go.Proofs.YtejkhflkeoihlaaGreat
open Go.RowKit Go.Proofs.YtejkhflkeoihlaaGreat.Vf
set_option linter.unusedVariables false
set_option linter.unusedSimpArgs false
set_option maxRecDepth 100000
set_option maxHeartbeats 4000000
def cellM (d : PrgD) (k : Nat) (i : Int) : Int:=if i < 0 ∨ cntAt d k ≤ i then -1 else fstTo d k 4 + i
theorem cell_g (d : PrgD) (hs : PrgS d) (k : Nat) (hk : k = 1 ∨ k = 2 ∨ k = 3) (i : Int) : Gives Tryz.prog 229 [fPrg d,intF k,intF i] (intF (cellM d k i)):=by
 refine Gives.of mixed Tryz.func229 rfl rfl rfl (by kernel_rfl) ?_
 simp [fPrg,cPrg]
 by_cases c1 : i < 0
 ·have hv : cellM d k i = -1:=if_pos (.inl c1)
  simp [c1,hv]
 simp [c1]
 refine call_g (counts_g d hs) ?_
 have hb:=cnt_bd hs k
 by_cases c2 : cntAt d k ≤ i
 ·have hv : cellM d k i = -1:=if_pos (.inr c2)
  rcases hk with rfl | rfl | rfl
  ·have c2' : (d.headers.l.length : Int) ≤ i:=c2
   simp [c2',hv]
  ·have c2' : (d.meta_.l.length : Int) ≤ i:=c2
   simp [c2',hv]
  ·have c2' : (d.regs.l.length : Int) ≤ i:=c2
   simp [c2',hv]
 have hv : cellM d k i = fstTo d k 4 + i:=if_neg (by omega)
 have hf:=fst_bd hs k 4
 have hw:=wrap64 (x:=fstTo d k 4 + i) (by omega) (by omega)
 rcases hk with rfl | rfl | rfl
 ·have c2' : ¬ (d.headers.l.length : Int) ≤ i:=c2
  simp [c2']
  refine call_g (first_g d hs 1) ?_
  have hw : IntKind.i64.wrap (fstTo d 1 4 + i) = fstTo d 1 4 + i:=hw
  have hv : cellM d 1 i = fstTo d 1 4 + i:=hv
  simp [hw,hv]
 ·have c2' : ¬ (d.meta_.l.length : Int) ≤ i:=c2
  simp [c2']
  refine call_g (first_g d hs 2) ?_
  have hw : IntKind.i64.wrap (fstTo d 2 4 + i) = fstTo d 2 4 + i:=hw
  have hv : cellM d 2 i = fstTo d 2 4 + i:=hv
  simp [hw,hv]
 ·have c2' : ¬ (d.regs.l.length : Int) ≤ i:=c2
  simp [c2']
  refine call_g (first_g d hs 3) ?_
  have hw : IntKind.i64.wrap (fstTo d 3 4 + i) = fstTo d 3 4 + i:=hw
  have hv : cellM d 3 i = fstTo d 3 4 + i:=hv
  simp [hw,hv]
theorem validCell_g (d : PrgD) (hs : PrgS d) (i : Int) : Gives Tryz.prog 165 [fPrg d,intF i] (intF (cellM d 1 i)):=by
 refine Gives.of mixed Tryz.func165 rfl rfl rfl (by kernel_rfl) ?_
 simp [fPrg,cPrg]
 refine call_g (cell_g d hs 1 (by decide) i) ?_
 simp
theorem registerCell_g (d : PrgD) (hs : PrgS d) (i : Int) : Gives Tryz.prog 249 [fPrg d,intF i] (intF (cellM d 3 i)):=by
 refine Gives.of mixed Tryz.func249 rfl rfl rfl (by kernel_rfl) ?_
 simp [fPrg,cPrg]
 refine call_g (cell_g d hs 3 (by decide) i) ?_
 simp
theorem cells_g (d : PrgD) (hs : PrgS d) : Gives Tryz.prog 124 [fPrg d] (intF (fstTo d 4 4)):=by
 refine Gives.of mixed Tryz.func124 rfl rfl rfl (by kernel_rfl) ?_
 simp [fPrg,cPrg]
 refine call_g (first_g d hs 4) ?_
 simp
end Go.Proofs.YtejkhflkeoihlaaGreat
namespace Go.Proofs.YtejkhflkeoihlaaGreat
open Go.RowKit Go.Proofs.YtejkhflkeoihlaaGreat.Vf
set_option linter.unusedVariables false
set_option linter.unusedSimpArgs false
set_option maxRecDepth 100000
set_option maxHeartbeats 4000000
def fieldCell (d : PrgD) (h f : Int) : Int :=
 if h = -1 then cellM d 2 f else if h < 0 ∨ (d.headers.l.length : Int) ≤ h then -1 else match d.headers.l[h.toNat]? with
 | none=>-1
 | some x=>if f < 0 ∨ (x.fields.l.length : Int) ≤ f then -1 else f + cntTo (d.headers.l.take h.toNat)
def fcI (d : PrgD) (n : Nat) (f : Int) (i : Nat) (s : St) : Prop:=∃ g,Vf.Sl [(5,.f (intF (f + cntTo (d.headers.l.take i)))),(50,.f (sl (encL fHdr (d.headers.l.take n)))),(51,.f (intF n)),(52,.f (intF i))] 63 g [] s
theorem fieldCell_g (d : PrgD) (hs : PrgS d) (h f : Int) : Gives Tryz.prog 167 [fPrg d,fRef h f] (intF (fieldCell d h f)):=by
 refine Gives.of mixed Tryz.func167 rfl rfl rfl (by kernel_rfl) ?_
 by_cases c0 : h = -1
 ·have hv : fieldCell d h f = cellM d 2 f:=if_pos c0
  simp [fPrg,cPrg,c0]
  refine call_g (cell_g d hs 2 (by decide) f) ?_
  rw [c0] at hv
  simp [hv]
 by_cases c1 : h < 0
 ·have hv : fieldCell d h f = -1:=by unfold fieldCell; rw [if_neg c0,if_pos (.inl c1)]
  simp [fPrg,cPrg,c0,c1,hv]
 by_cases c2 : (d.headers.l.length : Int) ≤ h
 ·have hv : fieldCell d h f = -1:=by unfold fieldCell; rw [if_neg c0,if_pos (.inr c2)]
  simp [fPrg,cPrg,c0,c1,c2,hv]
 obtain ⟨n,rfl⟩ : ∃ n : Nat,h = n:=⟨h.toNat,by omega⟩
 have hn : n < d.headers.l.length:=by omega
 obtain ⟨x,hx,hx'⟩:=nth_of hn
 have hv : fieldCell d n f = if f < 0 ∨ (x.fields.l.length : Int) ≤ f then -1 else f + cntTo (d.headers.l.take n):=by unfold fieldCell; rw [if_neg c0,if_neg (by omega)]; simp only [Int.toNat_natCast,hx']
 have c1' : ¬ ((n : Int) < 0):=by omega
 by_cases c3 : f < 0
 ·rw [if_pos (.inl c3)] at hv
  simp [fPrg,cPrg,c0,c1',c2,c3,hv]
 by_cases c4 : (x.fields.l.length : Int) ≤ f
 ·rw [if_pos (.inr c4)] at hv
  simp [fPrg,cPrg,c0,c1',c2,c3,hn,hx,c4,hv]
 rw [if_neg (by omega)] at hv
 have hfl:=hs.f x (List.mem_of_getElem? hx')
 simp [fPrg,cPrg,c0,c1',c2,c3,hn,hx,c4]
 rw [sliceF (enc:=fHdr) (l:=d.headers.l) (c:=.un) (i:=n) ty22 ty166 (by simp) (fun _=>rfl) (Nat.le_of_lt hn)]
 have hmin : min n d.headers.l.length = n:=by omega
 simp [hmin]
 refine forX mixed n (fcI d n f) (by kernel_rfl) ?h0 ?_
 case h0 =>
  have e0 : f + cntTo (d.headers.l.take 0) = f:=by simp [cntTo,isum]
  unfold fcI
  rw [e0]
  exact ⟨_,Sl.of rfl rfl rfl⟩
 rintro i ⟨ts,hh,kk⟩ hi ⟨g,rfl,rfl,ff,rfl⟩
 have h1000:=hs.h
 by_cases hlt : i < n
 ·obtain ⟨y,hy,hy'⟩:=nth_of (show i < d.headers.l.length by omega)
  obtain ⟨z,hz,hz'⟩:=nth_of (show i < (d.headers.l.take n).length by rw [List.length_take]; omega)
  obtain rfl : z = y:=by
   rw [List.getElem?_take_of_lt hlt] at hz'
   rw [hy'] at hz'
   exact (Option.some.inj hz').symm
  have hw:=wrap64 (x:=(i : Int) + 1) (by omega) (by omega)
  have hb:=cntTo_bd (l:=d.headers.l.take i) fun y hy=>hs.f y (List.mem_of_mem_take hy)
  rw [List.length_take] at hb
  have hf:=hs.f z (List.mem_of_getElem? hy')
  have hw2:=wrap64 (x:=f + cntTo (d.headers.l.take i) + z.fields.l.length) (by omega) (by omega)
  have hnx:=cntTo_next hy'
  have hid : i < d.headers.l.length:=by omega
  simp [hlt,hid,hz,hw,hw2]
  exact ⟨_,by rw [hnx,← Int.add_assoc]; exact Sl.of rfl rfl rfl⟩
 ·obtain rfl : i = n:=by omega
  simp [hv]
end Go.Proofs.YtejkhflkeoihlaaGreat
namespace Go.Proofs.YtejkhflkeoihlaaGreat
open Go.RowKit Go.Proofs.YtejkhflkeoihlaaGreat.Vf
set_option linter.unusedVariables false
set_option linter.unusedSimpArgs false
set_option maxRecDepth 100000
set_option maxHeartbeats 4000000
def cwTo (d : PrgD) : List HdrD→Nat→Int→Int
 | [],_,_=>0
 | x :: l,h,c=>if c < (x.fields.l.length : Int) then widthOf d h c else cwTo d l (h + 1) (c - x.fields.l.length)
def cellWidth (d : PrgD) (c : Int) : Int :=
 if c < 0 ∨ fstTo d 3 4 ≤ c then 0 else if fstTo d 2 4 ≤ c then widthOf d (-1) (c - fstTo d 2 4) else if fstTo d 1 4 ≤ c then 1 else cwTo d d.headers.l 0 c
def cwI (d : PrgD) (v : Int) (i : Nat) (s : St) : Prop:=∃ g c,cwTo d (d.headers.l.drop i) i c = v∧0 ≤ c∧c ≤ 100000000 ∧
 Vf.Sl [(1,.f (intF c)),(2,.ref 0 0),(31,.f (sl (encL fHdr d.headers.l))),(32,.f (intF d.headers.l.length)),(33,.f (intF i))] 54 ((cPrg d).map .f :: g) [] s
theorem cellWidth_g (d : PrgD) (hs : PrgS d) (c : Int) : Gives Tryz.prog 125 [fPrg d,intF c] (intF (cellWidth d c)):=by
 refine Gives.of mixed Tryz.func125 rfl rfl rfl (by kernel_rfl) ?_
 have b3:=fst_bd hs 3 4
 have b2:=fst_bd hs 2 4
 by_cases c0 : c < 0
 ·have hv : cellWidth d c = 0:=by unfold cellWidth; rw [if_pos (.inl c0)]
  simp [fPrg,cPrg,c0,hv]
 simp [fPrg,cPrg,c0]
 refine call_g (first_g d hs 3) ?_
 by_cases c1 : fstTo d 3 4 ≤ c
 ·have hv : cellWidth d c = 0:=by unfold cellWidth; rw [if_pos (.inr c1)]
  simp [c1,hv]
 simp [c1]
 refine call_g (first_g d hs 2) ?_
 by_cases c2 : fstTo d 2 4 ≤ c
 ·have hv : cellWidth d c = widthOf d (-1) (c - fstTo d 2 4):=by unfold cellWidth; rw [if_neg (by omega),if_pos c2]
  simp [c2]
  refine call_g (first_g d hs 2) ?_
  have hw:=wrap64 (x:=c - fstTo d 2 4) (by omega) (by omega)
  simp [hw]
  refine call_g (envWidth_g d (-1) (c - fstTo d 2 4)) ?_
  simp [hv]
 simp [c2]
 refine call_g (first_g d hs 1) ?_
 by_cases c3 : fstTo d 1 4 ≤ c
 ·have hv : cellWidth d c = 1:=by unfold cellWidth; rw [if_neg (by omega),if_neg c2,if_pos c3]
  simp [c3,hv]
 have hv : cwTo d d.headers.l 0 c = cellWidth d c:=by unfold cellWidth; rw [if_neg (by omega),if_neg c2,if_neg c3]
 simp [c3]
 generalize cellWidth d c = v at hv ⊢
 refine forX mixed d.headers.l.length (cwI d v) (by kernel_rfl) ?h0 ?_
 case h0=>exact ⟨_,c,hv,by omega,by omega,Sl.of rfl rfl rfl⟩
 rintro i ⟨ts,hh,kk⟩ hi ⟨g,c',hv',q1,q2,rfl,rfl,ff,rfl⟩
 have h1000:=hs.h
 by_cases hlt : i < d.headers.l.length
 ·obtain ⟨y,hy,hy'⟩:=nth_of hlt
  have hf:=hs.f y (List.mem_of_getElem? hy')
  have hw:=wrap64 (x:=(i : Int) + 1) (by omega) (by omega)
  have hw2:=wrap64 (x:=c' - y.fields.l.length) (by omega) (by omega)
  have hdr : d.headers.l.drop i = y :: d.headers.l.drop (i + 1):=by
   obtain ⟨hj,rfl⟩:=List.getElem?_eq_some_iff.1 hy'
   exact List.drop_eq_getElem_cons hj
  rw [hdr] at hv'
  unfold cwTo at hv'
  by_cases c4 : c' < (y.fields.l.length : Int)
  ·rw [if_pos c4] at hv'
   simp [hlt,hy,c4,fPrg,cPrg]
   refine call_g (envWidth_g d i c') ?_
   simp [hv']
  ·rw [if_neg c4] at hv'
   simp [hlt,hy,c4,hw,hw2,fPrg,cPrg]
   exact ⟨_,_,hv',by omega,by omega,Sl.of rfl rfl rfl⟩
 ·obtain rfl : i = d.headers.l.length:=by omega
  rw [List.drop_length] at hv'
  have hv' : (0 : Int) = v:=hv'
  simp [← hv']
end Go.Proofs.YtejkhflkeoihlaaGreat
namespace Go.Proofs.YtejkhflkeoihlaaGreat
open Go.RowKit Go.Proofs.YtejkhflkeoihlaaGreat.Vf
set_option linter.unusedVariables false
set_option linter.unusedSimpArgs false
set_option maxRecDepth 100000
set_option maxHeartbeats 4000000
def wdTo (d : PrgD) (i : Nat) : List Int:=(List.range i).map fun (j : Nat)=>cellWidth d j
theorem wdTo_next (d : PrgD) (i : Nat) : wdTo d (i + 1) = wdTo d i ++ [cellWidth d i]:=by simp [wdTo,List.range_succ]
theorem wdTo_len (d : PrgD) (i : Nat) : (wdTo d i).length = i:=by simp [wdTo]
def cellsN (d : PrgD) : Nat:=(fstTo d 4 4 - d.regs.l.length).toNat
def widthsP (d : PrgD) (n : Nat) : List Int:=wdTo d (cellsN d) ++ List.replicate n 1
theorem enc_one (l : List Int) (x : Int) : encL intF l ++ [intF x] = encL intF (l ++ [x]):=by simp [encL]
def wdI (d : PrgD) (n : Nat) (i : Nat) (s : St) : Prop:=∃ g k x tk,OwnT k (encL intF (wdTo d i)) 1 x tk∧Vf.Sl [(1,.f (intF n)),(2,.ref 0 0),(5,x),(12,.f (intF (cellsN d))),(13,.f (intF i))] 31 (aPrg d :: g) k s
def wdI2 (d : PrgD) (n : Nat) (i : Nat) (s : St) : Prop:=∃ g k x tk,OwnT k (encL intF (wdTo d (cellsN d) ++ List.replicate i 1)) 1 x tk∧Vf.Sl [(5,x),(23,.f (intF n)),(24,.f (intF i))] 31 g k s
theorem cellsN_eq {d : PrgD} (hs : PrgS d) : (cellsN d : Int) = fstTo d 4 4 - d.regs.l.length∧cellsN d ≤ 4000000:=by
 have h0:=cnt_bd hs 0
 have h1:=cnt_bd hs 1
 have h2:=cnt_bd hs 2
 have e : fstTo d 4 4 = 0 + cntAt d 0 + cntAt d 1 + cntAt d 2 + cntAt d 3:=by simp [fstTo]
 have e3 : cntAt d 3 = d.regs.l.length:=rfl
 unfold cellsN
 omega
theorem pwidths_g (d : PrgD) (hs : PrgS d) (n : Nat) (hn : n ≤ 1000000) : Gives Tryz.prog 61 [fPrg d,intF n] (ownF (encL intF (widthsP d n))):=by
 refine Gives.of mixed Tryz.func61 rfl rfl rfl (by kernel_rfl) ?_
 obtain ⟨hc,hc2⟩:=cellsN_eq hs
 have hr:=hs.r
 have hw0:=wrap64 (x:=fstTo d 4 4 - d.regs.l.length) (by omega) (by omega)
 simp [fPrg,cPrg]
 refine call_g (cells_g d hs) ?_
 simp [hw0]
 rw [← hc]
 refine forX mixed (cellsN d) (wdI d n) (by kernel_rfl) ⟨_,_,_,0,.nil,Sl.of rfl rfl rfl⟩ ?_
 rintro i ⟨ts,hh,kk⟩ hi ⟨g,k,x,tk,ho,rfl,rfl,f,rfl⟩
 by_cases hlt : i < cellsN d
 ·have hw:=wrap64 (x:=(i : Int) + 1) (by omega) (by omega)
  simp [hlt,hw,aPrg,-opAppend]
  refine call_g (cellWidth_g d hs i) ?_
  simp [-opAppend]
  have hl:=wdTo_len d i
  obtain ⟨t',k',e,ho',_⟩:=append_own ty29 ty3 (by simp) ho (y:=.f (.sl [intF (cellWidth d i)] .full)) rfl (by simp) (by simp) (by simp [hl]; omega) (by simp [hl]; omega)
  rw [e]
  simp [hw]
  exact ⟨_,_,_,_,by rw [wdTo_next,← enc_one]; exact ho',Sl.of rfl rfl rfl⟩
 obtain rfl : i = cellsN d:=by omega
 simp [hlt]
 refine forX mixed n (wdI2 d n) (by kernel_rfl) ⟨_,_,_,_,by rw [List.replicate_zero,List.append_nil]; exact ho,Sl.of rfl rfl rfl⟩ ?_
 clear ho
 rintro i ⟨ts,hh,kk⟩ hi2 ⟨g,k,x,tk,ho,rfl,rfl,f,rfl⟩
 by_cases hlt : i < n
 ·have hw:=wrap64 (x:=(i : Int) + 1) (by omega) (by omega)
  simp [hlt,hw,-opAppend]
  have hl:=wdTo_len d (cellsN d)
  obtain ⟨t',k',e,ho',_⟩:=append_own ty29 ty3 (by simp) ho (y:=.f (.sl [intF 1] .full)) rfl (by simp) (by simp) (by simp [hl]; omega) (by simp [hl]; omega)
  rw [e]
  simp [hw]
  exact ⟨_,_,_,_,by rw [List.replicate_succ',← List.append_assoc,← enc_one]; exact ho',Sl.of rfl rfl rfl⟩
 ·obtain rfl : i = n:=by omega
  simp
  rw [ho.ret]
  rfl
structure SlotD where
 size : Int
 index : Int
 offset : Int
 width : Int
abbrev cSlt (s : SlotD) : List FV:=[intF s.size,intF s.index,intF s.offset,intF s.width]
abbrev fSlt (s : SlotD) : FV:=.agg (cSlt s)
def overM (a b : SlotD) : Bool:=decide (a.size = b.size) && decide (a.index = b.index) && decide (a.offset < IntKind.i64.wrap (b.offset + b.width)) && decide (b.offset < IntKind.i64.wrap (a.offset + a.width))
theorem overlap_g (a b : SlotD) : Gives Tryz.prog 65 [fSlt a,fSlt b] (boolF (overM a b)):=by
 refine Gives.of mixed Tryz.func65 rfl rfl rfl (by kernel_rfl) ?_
 unfold overM
 by_cases c1 : a.size = b.size <;> by_cases c2 : a.index = b.index <;> simp [c1,c2]
 by_cases c3 : a.offset < IntKind.i64.wrap (b.offset + b.width) <;> simp [c3]
theorem alloc1_g (a b : SlotD) : Gives Tryz.prog 64 [fSlt b,.fp (cSlt a)] (boolF (overM a b)):=by
 refine Gives.of mixed Tryz.func64 rfl rfl rfl (by kernel_rfl) ?_
 simp
 refine call_g (overlap_g a b) ?_
 simp
theorem idxSltF_g (f : FuncId) (cs : List FV) (p : SlotD→Bool) (l : List SlotD) (hl : l.length < 2^62) (hp : ∀ x ∈ l,Gives Tryz.prog f (fSlt x :: cs) (boolF (p x))) : ∃ i : Int,(decide (0 ≤ i) = l.any p)∧Gives Tryz.prog 126 [sl (encL fSlt l),.fn f cs] (intF i):=by
 cases h : l.any p with
 | false =>
  refine ⟨-1,rfl,Gives.of mixed Tryz.func126 rfl rfl rfl (by kernel_rfl) ?_⟩
  simp
  refine forX mixed l.length (fun k s=>Vf.Sl [(0,.f (sl (encL fSlt l))),(1,.f (.fn f cs)),(7,.f (intF l.length)),(8,.f (intF k))] 19 [] [] s) (by kernel_rfl) (Sl.of rfl rfl rfl) ?_
  rintro k ⟨t,hh,kk⟩ hk ⟨rfl,rfl,f,rfl⟩
  by_cases hlt : k < l.length
  ·obtain ⟨x,hx,hx'⟩:=nth_of hlt
   have hw:=wrap64 (x:=(k : Int) + 1) (by omega) (by omega)
   have hq : p x = false:=by
    have:=List.any_eq_false.1 h x (List.mem_of_getElem? hx')
    simpa using this
   simp [hlt,hx]
   refine call_g (hp x (List.mem_of_getElem? hx')) ?_
   simp [hq,hw]
   exact Sl.of rfl rfl rfl
  ·obtain rfl : k = l.length:=by omega
   simp
 | true =>
  have hex : ∃ k : Nat,∃ x,l[k]? = some x∧p x = true∧noneT p l k:=by
   clear hp hl
   induction l with
   | nil=>simp at h
   | cons a l ih =>
    cases ha : p a with
    | true=>exact ⟨0,a,rfl,ha,.zero⟩
    | false =>
     rw [List.any_cons,ha,Bool.false_or] at h
     obtain ⟨k,x,h1,h2,h3⟩:=ih h
     refine ⟨k + 1,x,by simpa using h1,h2,fun j y hj hy=>?_⟩
     cases j with
     | zero=>simp at hy; rw [← hy]; exact ha
     | succ j=>exact h3 j y (by omega) (by simpa using hy)
  obtain ⟨m,z,hm,hz,hno⟩:=hex
  have hml:=(List.getElem?_eq_some_iff.1 hm).1
  refine ⟨m,by simp,Gives.of mixed Tryz.func126 rfl rfl rfl (by kernel_rfl) ?_⟩
  simp
  refine forX mixed m (fun k s=>Vf.Sl [(0,.f (sl (encL fSlt l))),(1,.f (.fn f cs)),(7,.f (intF l.length)),(8,.f (intF k))] 19 [] [] s) (by kernel_rfl) (Sl.of rfl rfl rfl) ?_
  rintro k ⟨t,hh,kk⟩ hk ⟨rfl,rfl,f,rfl⟩
  have hlt : k < l.length:=by omega
  obtain ⟨x,hx,hx'⟩:=nth_of hlt
  have hw:=wrap64 (x:=(k : Int) + 1) (by omega) (by omega)
  simp [hlt,hx]
  refine call_g (hp x (List.mem_of_getElem? hx')) ?_
  by_cases hkm : k < m
  ·simp [hno k x hkm hx',hw]
   exact ⟨hkm,Sl.of rfl rfl rfl⟩
  ·obtain rfl : k = m:=by omega
   rw [hm] at hx'
   obtain rfl:=Option.some.inj hx'
   simp [hz]
theorem hasSltF_g (f : FuncId) (cs : List FV) (p : SlotD→Bool) (l : List SlotD) (hl : l.length < 2^62) (hp : ∀ x ∈ l,Gives Tryz.prog f (fSlt x :: cs) (boolF (p x))) : Gives Tryz.prog 63 [sl (encL fSlt l),.fn f cs] (boolF (l.any p)):=by
 refine Gives.of mixed Tryz.func63 rfl rfl rfl (by kernel_rfl) ?_
 simp
 obtain ⟨i,hi,hg⟩:=idxSltF_g f cs p l hl hp
 refine call_g hg ?_
 simp [hi]
def contM (c : ChipD) (n : Int) : Int:=if n = 8 then c.c8 else if n = 16 then c.c16 else if n = 32 then c.c32 else 0
theorem containers_g (c : ChipD) (n : Int) : Gives Tryz.prog 62 [fChip c,intF n] (intF (contM c n)):=by
 refine Gives.of mixed Tryz.func62 rfl rfl rfl (by kernel_rfl) ?_
 unfold contM
 by_cases c1 : n = 8
 ·subst c1; simp
 by_cases c2 : n = 16
 ·subst c2; simp
 by_cases c3 : n = 32
 ·subst c3; simp
 simp [c1,c2,c3]
end Go.Proofs.YtejkhflkeoihlaaGreat
namespace Go.Proofs.YtejkhflkeoihlaaGreat
open Go.RowKit Go.Proofs.YtejkhflkeoihlaaGreat.Vf
set_option linter.unusedVariables false
set_option linter.unusedSimpArgs false
set_option maxRecDepth 100000
set_option maxHeartbeats 4000000
structure PlD where
 prg : PrgD
 chip : ChipD
 units : List UnitD
 stage : List Int
 slots : List SlotD
def cPl (x : PlD) : List FV:=cPrg x.prg ++ [intF x.chip.stages,intF x.chip.tables,intF x.chip.gates,intF x.chip.sram,intF x.chip.tcam,intF x.chip.c8,intF x.chip.c16,intF x.chip.c32,sl (encL fUnit x.units),sl (encL intF x.stage),sl (encL fSlt x.slots)]
def fPl (x : PlD) : FV:=.agg (cPl x)
def aPl (x : PlD) : List AV:=aPrg x.prg ++ [.f (intF x.chip.stages),.f (intF x.chip.tables),.f (intF x.chip.gates),.f (intF x.chip.sram),.f (intF x.chip.tcam),.f (intF x.chip.c8),.f (intF x.chip.c16),.f (intF x.chip.c32),.f (sl (encL fUnit x.units)),.f (sl (encL intF x.stage)),.f (sl (encL fSlt x.slots))]
def sltBad (c : ChipD) (need : Int) (s : SlotD) : Bool:=decide (s.width ≠ need) || decide (s.index < 0) || decide (contM c s.size ≤ s.index) || decide (s.offset < 0) || decide (IntKind.i64.wrap (s.size - s.width) < s.offset)
def badAt (c : ChipD) (need : List Int) (l : List SlotD) (i : Nat) : Bool:=match l[i]? with
 | some s=>sltBad c (need.getD i 0) s || (l.take i).any (overM s)
 | none=>false
def allocM (x : PlD) : Bool:=decide (x.slots.length = (widthsP x.prg x.units.length).length) && !((List.range x.slots.length).any (badAt x.chip (widthsP x.prg x.units.length) x.slots))
def alI (x : PlD) (need : List Int) (c : Cap) (i : Nat) (s : St) : Prop:=noneT (badAt x.chip need x.slots) (List.range x.slots.length) i∧∃ g,Vf.Sl [(1,.ref 0 0),(3,.f (.sl (encL intF need) c)),(19,.f (sl (encL fSlt x.slots))),(20,.f (intF x.slots.length)),(21,.f (intF i))] 70 (aPl x :: g) [] s
theorem allocated_g (x : PlD) (hs : PrgS x.prg) (hu : x.units.length ≤ 1000000) : Gives Tryz.prog 20 [fPl x] (boolF (allocM x)):=by
 refine Gives.of mixed Tryz.func20 rfl rfl rfl (by kernel_rfl) ?_
 obtain ⟨c,hc⟩:=ownF_is (encL intF (widthsP x.prg x.units.length))
 have hg:=pwidths_g x.prg hs x.units.length hu
 have hlen : (widthsP x.prg x.units.length).length ≤ 5000000:=by
  have:=(cellsN_eq hs).2
  simp [widthsP,wdTo_len]; omega
 rw [hc] at hg
 generalize hal : allocM x = v
 unfold allocM at hal
 generalize widthsP x.prg x.units.length = need at *
 simp [fPl,cPl,cPrg]
 refine call_g hg ?_
 by_cases c1 : x.slots.length = need.length
 case neg =>
  have c1' : ¬ (x.slots.length : Int) = need.length:=by omega
  rw [decide_eq_false c1] at hal
  subst hal
  simp [c1']
 have c1' : (x.slots.length : Int) = need.length:=by omega
 simp [c1']
 refine forX mixed x.slots.length (alI x need c) (by kernel_rfl) ⟨.zero,_,by rw [← c1']; exact Sl.of rfl rfl rfl⟩ ?_
 rintro i ⟨ts,hh,kk⟩ hi ⟨hno,g,rfl,rfl,ff,rfl⟩
 by_cases hlt : i < x.slots.length
 ·obtain ⟨s,hx,hx'⟩:=nth_of hlt
  obtain ⟨z,hz,hz'⟩:=nth_of (show i < need.length by omega)
  have hw:=wrap64 (x:=(i : Int) + 1) (by omega) (by omega)
  have hr : (List.range x.slots.length)[i]? = some i:=by simp [hlt]
  have hb : badAt x.chip need x.slots i = (sltBad x.chip z s || (x.slots.take i).any (overM s)):=by unfold badAt; rw [hx']; simp [hz']
  have hin : i < need.length:=by omega
  simp [hlt,hx,hz,hin,aPl,aPrg]
  have hbad : badAt x.chip need x.slots i = true→v = false:=fun h=>by
   rw [← hal,any_hit hr h]; simp
  by_cases d1 : s.width = z
  case neg =>
   have hv:=hbad (by rw [hb]; simp [sltBad,d1])
   subst hv
   simp [d1]
  subst d1
  simp
  by_cases d2 : s.index < 0
  ·have hv:=hbad (by rw [hb]; simp [sltBad,d2])
   subst hv
   simp [d2]
  simp [d2]
  refine call_g (containers_g x.chip s.size) ?_
  by_cases d3 : contM x.chip s.size ≤ s.index
  ·have hv:=hbad (by rw [hb]; simp [sltBad,d3])
   subst hv
   simp [d3]
  simp [d3]
  by_cases d4 : s.offset < 0
  ·have hv:=hbad (by rw [hb]; simp [sltBad,d4])
   subst hv
   simp [d4]
  simp [d4]
  by_cases d5 : IntKind.i64.wrap (s.size - s.width) < s.offset
  ·have hv:=hbad (by rw [hb]; simp [sltBad,d5])
   subst hv
   simp [d5]
  simp [d5]
  have hs0 : sltBad x.chip s.width s = false:=by simp [sltBad,d2,d3,d4,d5]
  rw [hs0,Bool.false_or] at hb
  have hil : i ≤ x.slots.length:=hi
  rw [sliceF (enc:=fSlt) (l:=x.slots) (c:=.un) (i:=i) ty35 ty158 (by simp) (fun _=>rfl) hil]
  simp
  refine call_b (hasSltF_g 64 [.fp (cSlt s)] (overM s) (x.slots.take i) (by rw [List.length_take]; omega) (fun y _=>alloc1_g s y)) ?_ ?_
  ·simp [fzB,fzC,mapO,cellFz,fzA]
  cases he : (x.slots.take i).any (overM s) with
  | true =>
   have hv:=hbad (by rw [hb,he])
   subst hv
   simp
  | false =>
   simp [hw]
   exact ⟨hno.next hr (by rw [hb,he]),_,Sl.of rfl rfl rfl⟩
 ·obtain rfl : i = x.slots.length:=by omega
  have h1:=hno.all (by simp)
  rw [decide_eq_true c1,h1] at hal
  subst hal
  simp
end Go.Proofs.YtejkhflkeoihlaaGreat
namespace Go.Proofs.YtejkhflkeoihlaaGreat
open Go.RowKit Go.Proofs.YtejkhflkeoihlaaGreat.Vf
set_option linter.unusedVariables false
set_option linter.unusedSimpArgs false
set_option maxRecDepth 100000
set_option maxHeartbeats 4000000
theorem pureEq3 {P : Program} (d : Nat) {t : TypeId} {f1 f2 f3 : Field} {x1 x2 x3 y1 y2 y3 : Value} {p q r : Bool} (hu : runPure P (underlying t) = some (.struct #[f1, f2, f3])) (hp : P.stoodInHeld t = false) (h1 : f1.name ≠ "_") (h2 : f2.name ≠ "_") (h3 : f3.name ≠ "_")
  (px1 : runPure P (part f1.type #[x1,x2,x3] f1.offset) = some x1) (py1 : runPure P (part f1.type #[y1,y2,y3] f1.offset) = some y1) (px2 : runPure P (part f2.type #[x1,x2,x3] f2.offset) = some x2) (py2 : runPure P (part f2.type #[y1,y2,y3] f2.offset) = some y2)
  (px3 : runPure P (part f3.type #[x1,x2,x3] f3.offset) = some x3) (py3 : runPure P (part f3.type #[y1,y2,y3] f3.offset) = some y3)
  (e1 : runPure P (Op.equalIn d f1.type x1 y1) = some p) (e2 : runPure P (Op.equalIn d f2.type x2 y2) = some q) (e3 : runPure P (Op.equalIn d f3.type x3 y3) = some r) : runPure P (Op.equalIn (d + 1) t (.agg #[x1,x2,x3]) (.agg #[y1,y2,y3])) = some (p && q && r):=by
 simp only [Op.equalIn,runPure_bind,hu,Option.bind_some,runPure_program,hp,Bool.false_eq_true,if_false]
 rw [← Array.forIn_toList]
 simp only [List.forIn_cons,List.forIn_nil,runPure_bind,runPure_ite,h1,h2,h3,ne_eq,not_false_eq_true,if_true,px1,py1,px2,py2,px3,py3,e1,e2,e3,Option.bind_some]
 cases p <;> cases q <;> cases r <;> simp [runPure_pure,runPure_bind,runPure_ite,px2,py2,e2,px3,py3,e3]
theorem uEx : runPure Tryz.prog (underlying 139) = some (.struct #[⟨ "Op", 3, 0, false, "", "", 0⟩, ⟨ "N", 3, 1, false, "", "", 8⟩, ⟨ "W", 3, 2, false, "", "", 16⟩]) := by kernel_rfl
theorem uGd : runPure Tryz.prog (underlying 136) = some (.struct #[⟨ "Unit", 3, 0, false, "", "", 0⟩, ⟨ "Want", 4, 1, false, "", "", 8⟩]) := by kernel_rfl
@[simp] theorem neqEx {T : TV} {x y : Operand} {a b c a' b' c' : Int} : opBin Tryz.prog T .neq 139 x y (.agg [.f (intF a),.f (intF b),.f (intF c)]) (.agg [.f (intF a'),.f (intF b'),.f (intF c')]) = some (.f (.sc (.bool (!(decide (a = a') && decide (b = b') && decide (c = c')))))) :=
 (opBin_eq (by kernel_rfl) rfl rfl (pureEq3 9999 uEx (by kernel_rfl) (by decide) (by decide) (by decide) (by kernel_rfl) (by kernel_rfl) (by kernel_rfl) (by kernel_rfl) (by kernel_rfl) (by kernel_rfl) (pureEqInt (k':=.i64) 9998 (by kernel_rfl)) (pureEqInt (k':=.i64) 9998 (by kernel_rfl)) (pureEqInt (k':=.i64) 9998 (by kernel_rfl)))).2
@[simp] theorem neqGd {T : TV} {x y : Operand} {a a' : Int} {b b' : Bool} : opBin Tryz.prog T .neq 136 x y (.agg [.f (intF a),.f (boolF b)]) (.agg [.f (intF a'),.f (boolF b')]) = some (.f (.sc (.bool (!(decide (a = a') && (b == b')))))) :=
 (opBin_eq (by kernel_rfl) rfl rfl (pureEq2 9999 uGd (by kernel_rfl) (by decide) (by decide) (by kernel_rfl) (by kernel_rfl) (by kernel_rfl) (by kernel_rfl) (pureEqInt (k':=.i64) 9998 (by kernel_rfl)) (pureEqBool 9998 (by kernel_rfl)))).2
def neqAt {α : Type} (p : α→α→Bool) (l m : List α) (i : Nat) : Bool:=match l[i]?,m[i]? with
 | some x,some y=>!p x y
 | _,_=>false
def eqLs {α : Type} (p : α→α→Bool) (l m : List α) : Bool:=decide (l.length = m.length) && !((List.range l.length).any (neqAt p l m))
def exEq (a b : ExD) : Bool:=decide (a.op = b.op) && decide (a.n = b.n) && decide (a.w = b.w)
def gdEq (a b : GuardD) : Bool:=decide (a.unit = b.unit) && (a.thn == b.thn)
theorem eqExs_g (l m : List ExD) (hl : l.length ≤ maxLen) (hm : m.length ≤ maxLen) : Gives Tryz.prog 55 [sl (encL fEx l),sl (encL fEx m)] (boolF (eqLs exEq l m)):=by
 refine Gives.of mixed Tryz.func55 rfl rfl rfl (by kernel_rfl) ?_
 generalize hal : eqLs exEq l m = v
 unfold eqLs at hal
 by_cases c1 : l.length = m.length
 case neg =>
  rw [decide_eq_false c1] at hal
  subst hal
  have c1' : ¬ (l.length : Int) = m.length:=by omega
  simp [c1']
 have c1' : (l.length : Int) = m.length:=by omega
 simp [c1']
 refine forX mixed l.length (fun i s=>noneT (neqAt exEq l m) (List.range l.length) i∧∃ g,Vf.Sl [(0,.f (sl (encL fEx l))),(1,.f (sl (encL fEx m))),(12,.f (intF l.length)),(13,.f (intF i))] 26 g [] s) (by kernel_rfl) ⟨.zero,_,by rw [← c1']; exact Sl.of rfl rfl rfl⟩ ?_
 rintro i ⟨ts,hh,kk⟩ hi ⟨hno,g,rfl,rfl,ff,rfl⟩
 by_cases hlt : i < l.length
 ·obtain ⟨x,hx,hx'⟩:=nth_of hlt
  obtain ⟨y,hy,hy'⟩:=nth_of (show i < m.length by omega)
  have hw:=wrap64 (x:=(i : Int) + 1) (by omega) (by unfold maxLen at hl; omega)
  have hr : (List.range l.length)[i]? = some i:=by simp [hlt]
  have hb : neqAt exEq l m i = !exEq x y:=by unfold neqAt; rw [hx',hy']
  have hin : i < m.length:=by omega
  cases hq : exEq x y with
  | true =>
   rw [hq] at hb
   unfold exEq at hq
   simp at hq
   simp [hlt,hx,hy,hin,hq,hw]
   exact ⟨hno.next hr hb,_,Sl.of rfl rfl rfl⟩
  | false =>
   rw [hq] at hb
   have hv : v = false:=by rw [← hal,any_hit hr hb]; simp
   subst hv
   unfold exEq at hq
   simp [hlt,hx,hy,hin,hq]
 ·obtain rfl : i = l.length:=by omega
  rw [decide_eq_true c1,hno.all (by simp)] at hal
  subst hal
  simp
theorem eqGds_g (l m : List GuardD) (hl : l.length ≤ maxLen) (hm : m.length ≤ maxLen) : Gives Tryz.prog 56 [sl (encL fGd l),sl (encL fGd m)] (boolF (eqLs gdEq l m)):=by
 refine Gives.of mixed Tryz.func56 rfl rfl rfl (by kernel_rfl) ?_
 generalize hal : eqLs gdEq l m = v
 unfold eqLs at hal
 by_cases c1 : l.length = m.length
 case neg =>
  rw [decide_eq_false c1] at hal
  subst hal
  have c1' : ¬ (l.length : Int) = m.length:=by omega
  simp [c1']
 have c1' : (l.length : Int) = m.length:=by omega
 simp [c1']
 refine forX mixed l.length (fun i s=>noneT (neqAt gdEq l m) (List.range l.length) i∧∃ g,Vf.Sl [(0,.f (sl (encL fGd l))),(1,.f (sl (encL fGd m))),(12,.f (intF l.length)),(13,.f (intF i))] 26 g [] s) (by kernel_rfl) ⟨.zero,_,by rw [← c1']; exact Sl.of rfl rfl rfl⟩ ?_
 rintro i ⟨ts,hh,kk⟩ hi ⟨hno,g,rfl,rfl,ff,rfl⟩
 by_cases hlt : i < l.length
 ·obtain ⟨x,hx,hx'⟩:=nth_of hlt
  obtain ⟨y,hy,hy'⟩:=nth_of (show i < m.length by omega)
  have hw:=wrap64 (x:=(i : Int) + 1) (by omega) (by unfold maxLen at hl; omega)
  have hr : (List.range l.length)[i]? = some i:=by simp [hlt]
  have hb : neqAt gdEq l m i = !gdEq x y:=by unfold neqAt; rw [hx',hy']
  have hin : i < m.length:=by omega
  cases hq : gdEq x y with
  | true =>
   rw [hq] at hb
   unfold gdEq at hq
   simp at hq
   simp [hlt,hx,hy,hin,hq,hw]
   exact ⟨hno.next hr hb,_,Sl.of rfl rfl rfl⟩
  | false =>
   rw [hq] at hb
   have hv : v = false:=by rw [← hal,any_hit hr hb]; simp
   subst hv
   unfold gdEq at hq
   simp [hlt,hx,hy,hin,hq]
 ·obtain rfl : i = l.length:=by omega
  rw [decide_eq_true c1,hno.all (by simp)] at hal
  subst hal
  simp
end Go.Proofs.YtejkhflkeoihlaaGreat
namespace Go.Proofs.YtejkhflkeoihlaaGreat
open Go.RowKit Go.Proofs.YtejkhflkeoihlaaGreat.Vf
set_option linter.unusedVariables false
set_option linter.unusedSimpArgs false
set_option maxRecDepth 100000
set_option maxHeartbeats 4000000
def unEq (a b : UnitD) : Bool:=decide (a.table = b.table) && eqLs exEq a.cond.l b.cond.l && eqLs gdEq a.guards.l b.guards.l
def UnS (u : UnitD) : Prop:=u.cond.l.length ≤ maxLen∧u.guards.l.length ≤ maxLen
theorem unEq_g (a b : UnitD) (ha : UnS a) (hb : UnS b) : Gives Tryz.prog 18 [fUnit a,fUnit b] (boolF (unEq a b)):=by
 refine Gives.of mixed Tryz.func18 rfl rfl rfl (by kernel_rfl) ?_
 unfold unEq
 by_cases c1 : a.table = b.table
 case neg=>simp [c1]
 simp [c1]
 refine call_g (eqExs_g a.cond.l b.cond.l ha.1 hb.1) ?_
 cases h2 : eqLs exEq a.cond.l b.cond.l with
 | false=>simp
 | true =>
  simp
  refine call_g (eqGds_g a.guards.l b.guards.l ha.2 hb.2) ?_
  simp
theorem eqUnF_g (l m : List UnitD) (hl : l.length ≤ maxLen) (hm : m.length ≤ maxLen) (h1 : ∀ x ∈ l,UnS x) (h2 : ∀ x ∈ m,UnS x) : Gives Tryz.prog 49 [sl (encL fUnit l),sl (encL fUnit m),.fn 18 []] (boolF (eqLs unEq l m)):=by
 refine Gives.of mixed Tryz.func49 rfl rfl rfl (by kernel_rfl) ?_
 generalize hal : eqLs unEq l m = v
 unfold eqLs at hal
 by_cases c1 : l.length = m.length
 case neg =>
  rw [decide_eq_false c1] at hal
  subst hal
  have c1' : ¬ (l.length : Int) = m.length:=by omega
  simp [c1']
 have c1' : (l.length : Int) = m.length:=by omega
 simp [c1']
 refine forX mixed l.length (fun i s=>noneT (neqAt unEq l m) (List.range l.length) i∧∃ g,Vf.Sl [(1,.f (sl (encL fUnit m))),(2,.f (.fn 18 [])),(15,.f (sl (encL fUnit l))),(16,.f (intF l.length)),(17,.f (intF i))] 32 g [] s) (by kernel_rfl) ⟨.zero,_,by rw [← c1']; exact Sl.of rfl rfl rfl⟩ ?_
 rintro i ⟨ts,hh,kk⟩ hi ⟨hno,g,rfl,rfl,ff,rfl⟩
 by_cases hlt : i < l.length
 ·obtain ⟨x,hx,hx'⟩:=nth_of hlt
  obtain ⟨y,hy,hy'⟩:=nth_of (show i < m.length by omega)
  have hw:=wrap64 (x:=(i : Int) + 1) (by omega) (by unfold maxLen at hl; omega)
  have hr : (List.range l.length)[i]? = some i:=by simp [hlt]
  have hb : neqAt unEq l m i = !unEq x y:=by unfold neqAt; rw [hx',hy']
  have hin : i < m.length:=by omega
  simp [hlt,hx,hy,hin]
  refine call_g (unEq_g x y (h1 x (List.mem_of_getElem? hx')) (h2 y (List.mem_of_getElem? hy'))) ?_
  cases hq : unEq x y with
  | true =>
   rw [hq] at hb
   simp [hw]
   exact ⟨hno.next hr hb,_,Sl.of rfl rfl rfl⟩
  | false =>
   rw [hq] at hb
   have hv : v = false:=by rw [← hal,any_hit hr hb]; simp
   subst hv
   simp
 ·obtain rfl : i = l.length:=by omega
  rw [decide_eq_true c1,hno.all (by simp)] at hal
  subst hal
  simp
theorem eqUnits_g (l m : List UnitD) (hl : l.length ≤ maxLen) (hm : m.length ≤ maxLen) (h1 : ∀ x ∈ l,UnS x) (h2 : ∀ x ∈ m,UnS x) : Gives Tryz.prog 16 [sl (encL fUnit l),sl (encL fUnit m),.fn 18 []] (boolF (eqLs unEq l m)):=by
 refine Gives.of mixed Tryz.func16 rfl rfl rfl (by kernel_rfl) ?_
 simp
 refine call_g (eqUnF_g l m hl hm h1 h2) ?_
 simp
end Go.Proofs.YtejkhflkeoihlaaGreat
namespace Go.Proofs.YtejkhflkeoihlaaGreat
open Go.RowKit Go.Proofs.YtejkhflkeoihlaaGreat.Vf
set_option linter.unusedVariables false
set_option linter.unusedSimpArgs false
theorem of_empty {P : Program} {f : FuncId} (hb : HasBody P f) (h : ∀ (w : World) (a : Option Addr) (c : Nat),Calls P f #[.slice a 0 c] w fun e w'=>(e = .returned (.slice none 0 0) ∨ ∃ b,b < w'.heap.size∧e = .returned (.slice (some ⟨b,0,none⟩) 0 0))∧Below w.heap.size w w') : Gives P f [.sl [] .un] (.sl [] .full):=by
 refine ⟨hb,fun w F vals hF hs hv=>?_⟩
 obtain ⟨u,h1,h2⟩:=hv 0 _ rfl
 obtain ⟨a,c,rfl⟩:=rep_sl h2
 have hvals : vals = #[.slice a 0 c]:=by
  apply Array.ext_getElem?
  intro i
  cases i with
  | zero=>rw [h1]; rfl
  | succ i=>rw [Array.getElem?_eq_none (by simp at hs; omega)]; simp
 rw [hvals]
 refine (h w a c).mono ?_
 rintro e w' ⟨h3,hb⟩
 have hr : ∃ v,e = .returned v∧Rep w' F (.sl [] .full) v:=by
  rcases h3 with rfl | ⟨b,hlt,rfl⟩
  ·exact ⟨_,rfl,.nil _⟩
  ·exact ⟨_,rfl,.sl [] .full b 0 0 0 (fun _ _=>undef) (by simp) (fun _=>rfl) (Nat.le_refl _) (fun i x hx=>by simp at hx) (fun i j x y hx=>by simp at hx) (fun i j x y hx=>by simp at hx)⟩
 obtain ⟨v,rfl,hr⟩:=hr
 exact ⟨v,F,rfl,hr,hb,fun _ _ h=>h,fun _ _ h=>.inl h,fun b o h=>Nat.lt_of_lt_of_le (hF b o h) hb.size⟩
set_option maxRecDepth 100000 in
set_option maxHeartbeats 600000 in
theorem cloneGd0 (w : World) (a : Option Addr) (c : Nat) : Calls Tryz.prog 52 #[.slice a 0 c] w fun e w'=>(e = .returned (.slice none 0 0) ∨ ∃ b,b < w'.heap.size∧e = .returned (.slice (some ⟨b,0,none⟩) 0 0))∧Below w.heap.size w w':=by
 go_enter Tryz.func52,Tryz.ntmps52
 have q22 : ∀ (w : World) (a : Option Addr) (n c n' c' : Nat),(binOp .eql 75 (.slice a n c) (.slice none n' c')).run Tryz.prog w = .ok (.bool a.isNone) w:=fun w a n c n' c'=>Lib.run_eql_slice_nil w _ _ a n c n' c' Tryz.underlying75
 cases a with
 | none =>
  go_wp2_with fail
  go_returns
  exact ⟨.inl rfl,Below.refl _ _⟩
 | some p =>
  go_wp2_with fail
  go_returns
  exact ⟨.inr ⟨w.heap.size,by simp,rfl⟩,(Below.refl _ _).alloc (Nat.le_refl _) _⟩
set_option maxRecDepth 100000 in
set_option maxHeartbeats 4000000 in
theorem cloneGd_t (g : GuardD) (l : List GuardD) (hl : l.length ≤ 1000000) : GivesT Tryz.prog 52 [sl (encL fGd (g :: l))] (encL fGd (g :: l)) 2:=by
 refine GivesT.of mixed Tryz.func52 rfl rfl rfl (by kernel_rfl) ?_
 simp [encL,opBin,opNil,isNilA,-opAppend]
 rw [append_full (ys:=fGd g :: List.map fGd l) (by decide) ty75 ty136 (by simp) rfl (by simp) (by simp) (by simp; omega) (by simp; omega)]
 simp
theorem cloneGd_e : Gives Tryz.prog 52 [.sl [] .un] (.sl [] .full):=of_empty ⟨_,Tryz.func52,rfl,by decide⟩ cloneGd0
theorem cloneGd_g (l : List GuardD) (hl : l.length ≤ 1000000) : Gives Tryz.prog 52 [sl (encL fGd l)] (sl (encL fGd l)):=by
 cases l with
 | nil=>exact cloneGd_e.full
 | cons g l=>exact (cloneGd_t g l (by simp at hl; omega)).gives
set_option maxRecDepth 100000 in
set_option maxHeartbeats 600000 in
theorem cloneEx0 (w : World) (a : Option Addr) (c : Nat) : Calls Tryz.prog 53 #[.slice a 0 c] w fun e w'=>(e = .returned (.slice none 0 0) ∨ ∃ b,b < w'.heap.size∧e = .returned (.slice (some ⟨b,0,none⟩) 0 0))∧Below w.heap.size w w':=by
 go_enter Tryz.func53,Tryz.ntmps53
 have q22 : ∀ (w : World) (a : Option Addr) (n c n' c' : Nat),(binOp .eql 74 (.slice a n c) (.slice none n' c')).run Tryz.prog w = .ok (.bool a.isNone) w:=fun w a n c n' c'=>Lib.run_eql_slice_nil w _ _ a n c n' c' Tryz.underlying74
 cases a with
 | none =>
  go_wp2_with fail
  go_returns
  exact ⟨.inl rfl,Below.refl _ _⟩
 | some p =>
  go_wp2_with fail
  go_returns
  exact ⟨.inr ⟨w.heap.size,by simp,rfl⟩,(Below.refl _ _).alloc (Nat.le_refl _) _⟩
set_option maxRecDepth 100000 in
set_option maxHeartbeats 4000000 in
theorem cloneEx_t (g : ExD) (l : List ExD) (hl : l.length ≤ 1000000) : GivesT Tryz.prog 53 [sl (encL fEx (g :: l))] (encL fEx (g :: l)) 3:=by
 refine GivesT.of mixed Tryz.func53 rfl rfl rfl (by kernel_rfl) ?_
 simp [encL,opBin,opNil,isNilA,-opAppend]
 rw [append_full (ys:=fEx g :: List.map fEx l) (by decide) ty74 ty139 (by simp) rfl (by simp) (by simp) (by simp; omega) (by simp; omega)]
 simp
theorem cloneEx_e : Gives Tryz.prog 53 [.sl [] .un] (.sl [] .full):=of_empty ⟨_,Tryz.func53,rfl,by decide⟩ cloneEx0
theorem cloneEx_g (l : List ExD) (hl : l.length ≤ 1000000) : Gives Tryz.prog 53 [sl (encL fEx l)] (sl (encL fEx l)):=by
 cases l with
 | nil=>exact cloneEx_e.full
 | cons g l=>exact (cloneEx_t g l (by simp at hl; omega)).gives
end Go.Proofs.YtejkhflkeoihlaaGreat
namespace Go.Proofs.YtejkhflkeoihlaaGreat
open Go.RowKit Go.Proofs.YtejkhflkeoihlaaGreat.Vf
set_option linter.unusedVariables false
set_option linter.unusedSimpArgs false
set_option maxRecDepth 100000
set_option maxHeartbeats 4000000
theorem branch_g (gs : List GuardD) (i : Int) (q : Bool) (hl : gs.length ≤ 100000) : Gives Tryz.prog 54 [boolF q,.fp [sl (encL fGd gs)],.fp [intF i]] (sl (encL fGd (gs ++ [⟨i,q⟩]))):=by
 refine Gives.of mixed Tryz.func54 rfl rfl rfl (by kernel_rfl) ?_
 cases gs with
 | nil =>
  simp [encL]
  refine call_g cloneGd_e ?_
  simp
 | cons g l =>
  simp
  refine call_t (cloneGd_t g l (by simp at hl; omega)) ?_
  simp [encL]
  rw [if_pos (by simp at hl; omega)]
  simp
mutual
def bldN : NodD→List GuardD→Nat→List UnitD
 | .mk k t c tl el,gs,i=>⟨if k = 2 then -1 else t,⟨if k = 2 then c else []⟩,⟨gs⟩⟩ ::
   (bldL tl (gs ++ [⟨i,true⟩]) (i + 1) ++ bldL el (gs ++ [⟨i,false⟩]) (i + 1 + (bldL tl (gs ++ [⟨i,true⟩]) (i + 1)).length))
def bldL : List NodD→List GuardD→Nat→List UnitD
 | [],_,_=>[]
 | x :: l,gs,i=>bldN x gs i ++ bldL l gs (i + (bldN x gs i).length)
end
def unitOf (x : NodD) (gs : List GuardD) : UnitD:=⟨if x.kind = 2 then -1 else x.table,⟨if x.kind = 2 then x.cond.l else []⟩,⟨gs⟩⟩
theorem bldN_eq (x : NodD) (gs : List GuardD) (i : Nat) : bldN x gs i = unitOf x gs :: (bldL x.thn.l (gs ++ [⟨i,true⟩]) (i + 1) ++ bldL x.els.l (gs ++ [⟨i,false⟩]) (i + 1 + (bldL x.thn.l (gs ++ [⟨i,true⟩]) (i + 1)).length)):=by
 obtain ⟨k,t,c,a,b⟩:=x
 rw [bldN]; rfl
theorem bldL_app : ∀ (a b : List NodD) (gs : List GuardD) (i : Nat),bldL (a ++ b) gs i = bldL a gs i ++ bldL b gs (i + (bldL a gs i).length)
 | [],b,gs,i=>by simp [bldL]
 | x :: a,b,gs,i=>by
  rw [List.cons_append,bldL,bldL,bldL_app a b,List.append_assoc,List.length_append]
  congr 3
  omega
theorem bldL_take {l : List NodD} {k : Nat} {x : NodD} (h : l[k]? = some x) (gs : List GuardD) (i : Nat) : bldL (l.take (k + 1)) gs i = bldL (l.take k) gs i ++ bldN x gs (i + (bldL (l.take k) gs i).length):=by
 rw [List.take_add_one,h,bldL_app]
 congr 1
 show bldL [x] _ _ = _
 rw [bldL,bldL,List.append_nil]
theorem bldL_le (l : List NodD) (gs : List GuardD) (i k : Nat) : (bldL (l.take k) gs i).length ≤ (bldL l gs i).length:=by
 have:=bldL_app (l.take k) (l.drop k) gs i
 rw [List.take_append_drop] at this
 rw [this]; simp
end Go.Proofs.YtejkhflkeoihlaaGreat
namespace Go.Proofs.YtejkhflkeoihlaaGreat
open Go.RowKit Go.Proofs.YtejkhflkeoihlaaGreat.Vf
set_option linter.unusedVariables false
set_option linter.unusedSimpArgs false
set_option maxRecDepth 100000
set_option maxHeartbeats 4000000
abbrev visF : AV:=.fnr 51 [.ref 1 0,.ref 2 0]
def visH (d : PrgD) (x : AV) : List (List AV):=[aPrg d,[x],[visF]]
@[simp] theorem vis_ix1 {d : PrgD} {x : AV} {r : List (List AV)} : ix (visH d x ++ r) 1 = some [x]:=rfl
@[simp] theorem vis_ix2 {d : PrgD} {x : AV} {r : List (List AV)} : ix (visH d x ++ r) 2 = some [visF]:=rfl
@[simp] theorem vis_set1 {d : PrgD} {x y : AV} {r : List (List AV)} : (visH d x ++ r).set 1 [y] = visH d y ++ r:=rfl
@[simp] theorem vis_ixn {d : PrgD} {x y : AV} {r : List (List AV)} {n : Nat} : ix (visH d y ++ r) ((visH d x).length + n) = ix r n:=by
 show ix (visH d y ++ r) ((visH d y).length + n) = ix r n
 exact ix_appn
@[simp] theorem vis_setn {d : PrgD} {x y : AV} {r : List (List AV)} {n : Nat} {c : List AV} : (visH d y ++ r).set ((visH d x).length + n) c = visH d y ++ r.set n c:=by simp [visH,List.set,Nat.add_comm 3 n]
theorem vis_len {d : PrgD} {x : AV} : (visH d x).length = 3:=rfl
def VisR (d : PrgD) (us : List UnitD) (e : List (List AV)) (k : List (Nat × Nat)) : AV→List (List AV)→List (Nat × Nat)→Prop:=fun y h' k' =>
 y = .f (.tup [])∧∃ x t,h' = visH d x ++ e∧OwnT k' (encL fUnit us) 3 x t∧k.length ≤ k'.length
def visI (d : PrgD) (l : List NodD) (gs : List GuardD) (us : List UnitD) (e : List (List AV)) (k : List (Nat × Nat)) (i : Nat) (s : St) : Prop:=∃ g k' x t,
 OwnT k' (encL fUnit (us ++ bldL (l.take i) gs us.length)) 3 x t∧k.length ≤ k'.length ∧
 Vf.Sl [(2,.ref 1 0),(3,.ref 2 0),(5,.f (.fp [sl (encL fGd gs)])),(11,.f (sl (encL fNod l))),(12,.f (intF l.length)),(13,.f (intF i))] 50 (visH d x ++ (e ++ g)) k' s
theorem nodsPre_eq (x : NodD) (l : List NodD) : nodsPre (x :: l) = x :: (nodsPre x.thn.l ++ (nodsPre x.els.l ++ nodsPre l)):=by obtain ⟨a,b,c,d,e⟩:=x; simp [nodsPre,nodPre]; rfl
theorem nodsPre_mem {l : List NodD} {x : NodD} (h : x ∈ l) : x ∈ nodsPre l:=by
 induction l with
 | nil=>cases h
 | cons y l ih =>
  rw [nodsPre_eq]
  rcases List.mem_cons.1 h with rfl | h
  ·exact .head _
  ·exact .tail _ (List.mem_append_right _ (List.mem_append_right _ (ih h)))
theorem nodsPre_thn {l : List NodD} {x : NodD} (h : x ∈ l) : ∀ y ∈ nodsPre x.thn.l,y ∈ nodsPre l:=by
 induction l with
 | nil=>cases h
 | cons z l ih =>
  intro y hy
  rw [nodsPre_eq]
  rcases List.mem_cons.1 h with rfl | h
  ·exact .tail _ (List.mem_append_left _ hy)
  ·exact .tail _ (List.mem_append_right _ (List.mem_append_right _ (ih h y hy)))
theorem nodsPre_els {l : List NodD} {x : NodD} (h : x ∈ l) : ∀ y ∈ nodsPre x.els.l,y ∈ nodsPre l:=by
 induction l with
 | nil=>cases h
 | cons z l ih =>
  intro y hy
  rw [nodsPre_eq]
  rcases List.mem_cons.1 h with rfl | h
  ·exact .tail _ (List.mem_append_right _ (List.mem_append_left _ hy))
  ·exact .tail _ (List.mem_append_right _ (List.mem_append_right _ (ih h y hy)))
abbrev nodA (n : NodD) : List AV:=[.f (intF n.kind),.f (intF n.table),.f (sl (encL fEx n.cond.l)),.f (sl (encL fNod n.thn.l)),.f (sl (encL fNod n.els.l))]
def visM (d : PrgD) (l : List NodD) (gs : List GuardD) (n : NodD) (x : AV) (e g : List (List AV)) (k : List (Nat × Nat)) (i : Nat) (s : St) : Prop:=∃ X,(X = .f (sl (encL fEx (unitOf n gs).cond.l)) ∨ ((unitOf n gs).cond.l = []∧X = .f (.sl [] .nil))) ∧
 Vf.Sl [(2,.ref 1 0),(3,.ref 2 0),(5,.f (.fp [sl (encL fGd gs)])),(7,.ref ((visH d x).length + (e.length + g.length)) 0),(8,.ref ((visH d x).length + (e.length + (g.length + 1))) 0),(11,.f (sl (encL fNod l))),(12,.f (intF l.length)),(13,.f (intF i))] 50
  (visH d x ++ (e ++ (g ++ [nodA n,[.f (intF (unitOf n gs).table),X,.f (sl (encL fGd gs))]]))) k s
theorem vis_weak {c : Code} {Q : Pst} {d : PrgD} {x X a b : AV} {e g : List (List AV)} {n : NodD} {m : List ExD} {t : List AV} {k : List (Nat × Nat)} (hX : X = .f (sl (encL fEx m)) ∨ (m = []∧X = .f (.sl [] .nil)))
  (h : W Tryz.prog c ⟨t,visH d x ++ (e ++ (g ++ [nodA n,[a,.f (sl (encL fEx m)),b]])),k⟩ Q) : W Tryz.prog c ⟨t,visH d x ++ (e ++ (g ++ [nodA n,[a,X,b]])),k⟩ Q:=by
 rcases hX with rfl | ⟨rfl,rfl⟩
 ·exact h
 ·refine weakH_W (b:=(visH d x).length + (e.length + (g.length + 1))) (j:=1) (cs:=[a,.f (.sl [] .nil),b]) (by simp) rfl weak_nil ?_
  simp
  exact h
theorem visit_x (d : PrgD) (l : List NodD) (hB : NodB l) : ∀ (gs : List GuardD) (us : List UnitD) (x : AV) (t : Nat) (e : List (List AV)) (k : List (Nat × Nat)),OwnT k (encL fUnit us) 3 x t →
  (us ++ bldL l gs us.length).length ≤ 100000→gs.length ≤ us.length→(∀ y ∈ nodsPre l,y.cond.l.length ≤ 1000000) →
  GivesX Tryz.prog 51 [.f (sl (encL fNod l)),.f (sl (encL fGd gs)),.ref 1 0,.ref 2 0] (visH d x ++ e) k (VisR d (us ++ bldL l gs us.length) e k):=by
 induction hB with
 | mk l hl h1 h2 ih1 ih2 =>
  intro gs us x t e k ho hlen hgs hcd
  refine GivesX.of_W Tryz.func51 rfl rfl rfl (by decide) ?_
  refine W.two (W.x mixed (by kernel_rfl) ?_)
  simp
  refine frz_W (d:=5) (b:=(visH d x ++ e).length) (fs:=[sl (encL fGd gs)]) (by simp) (by simp) ?_
  refine W.x mixed (by kernel_rfl) ?_
  simp
  refine forW l.length (visI d l gs us e k) ⟨[[]],k,x,t,by simpa [bldL] using ho,Nat.le_refl _,Sl.of rfl rfl rfl⟩ ?_
  clear ho
  rintro i ⟨ts,hh,kk⟩ hi ⟨g,k',x',t',ho,hk,rfl,rfl,ff,rfl⟩
  by_cases hlt : i < l.length
  ·obtain ⟨n,hn,hn'⟩:=nth_of hlt
   have hw:=wrap64 (x:=(i : Int) + 1) (by omega) (by unfold maxLen at hl; omega)
   refine W.two (W.x mixed (by kernel_rfl) ?_)
   simp [hlt]
   refine W.two (W.x mixed (by kernel_rfl) ?_)
   simp
   refine W.two (W.blk (W.two (W.x mixed (by kernel_rfl) ?_)))
   simp [hn,fNod_eq,hlt]
   refine W.two (W.x mixed (by kernel_rfl) ?_)
   simp
   refine call_g (cloneGd_g gs (by rw [List.length_append] at hlen; omega)) ?_
   simp
   have hmem:=List.mem_of_getElem? hn'
   have hnc : n.cond.l.length ≤ 1000000:=hcd n (nodsPre_mem hmem)
   refine W.two (W.mono (Q:=fun ex s'=>ex = .normal∧visM d l gs n x' e g kk i s') (W.x mixed (by kernel_rfl) ?_) ?_)
   ·by_cases hk2 : n.kind = 2
    ·simp [hk2]
     refine call_g (cloneEx_g n.cond.l hnc) ?_
     simp
     exact ⟨_,.inl rfl,by simp only [unitOf,hk2,nodA,if_true]; exact Sl.of rfl rfl rfl⟩
    ·simp [hk2]
     exact ⟨_,.inr ⟨by simp [unitOf,hk2],rfl⟩,by simp only [unitOf,if_neg hk2]; exact Sl.of rfl rfl rfl⟩
   rintro _ ⟨ts,hh,kk2⟩ ⟨rfl,X,hX,rfl,rfl,ff2,rfl⟩
   simp
   refine vis_weak hX ?_
   refine W.two (W.x mixed (by kernel_rfl) ?_)
   simp [-opLen]
   rw [ho.len ty34]
   simp
   refine frz_W (d:=9) (b:=(visH d x').length + (e.length + (g.length + 2))) (fs:=[intF ((us.length : Int) + (bldL (l.take i) gs us.length).length)]) (by simp) (by simp) ?_
   simp
   refine W.x mixed (by kernel_rfl) ?_
   simp [-opAppend]
   have hl0:=bldL_le l gs us.length i
   have hl1 : (us ++ bldL (l.take i) gs us.length).length ≤ 100000:=by simp at hlen ⊢; omega
   obtain ⟨t2,k2,e2,ho2,hk2,_⟩:=append_own ty34 ty77 (by simp) ho (y:=.f (.sl [fUnit (unitOf n gs)] .full)) rfl (by simp) (by simp) (by simp at hl1 ⊢; omega) (by simp at hl1 ⊢; omega)
   rw [show opAppend (tyOf Tryz.prog) kk2 34 x' (.f (FV.sl [FV.agg [intF (unitOf n gs).table,sl (encL fEx (unitOf n gs).cond.l),sl (encL fGd gs)]] Cap.full)) = _ from e2]
   simp
   refine call_g (branch_g gs _ true (by simp at hl1; omega)) ?_
   simp
   have hnx:=bldL_take hn' gs us.length
   rw [bldN_eq] at hnx
   simp only [Int.natCast_add] at hnx
   have hle1:=bldL_le l gs us.length (i + 1)
   rw [hnx] at hle1
   have hu2 : OwnT k2 (encL fUnit (us ++ (bldL (l.take i) gs us.length ++ [unitOf n gs]))) 3 (.own (encL fUnit (us ++ (bldL (l.take i) gs us.length ++ [unitOf n gs]))) t2) t2:=by simpa [encL] using ho2
   generalize hm : bldL (l.take i) gs us.length = M at *
   have hc2 : (us ++ (M ++ [unitOf n gs])).length = us.length + M.length + 1:=by simp; omega
   refine ⟨_,ih1 n hmem (gs ++ [⟨(us.length : Int) + M.length,true⟩]) (us ++ (M ++ [unitOf n gs])) _ t2 _ k2 hu2 ?_ ?_ fun y hy=>hcd y (nodsPre_thn hmem y hy),?_⟩
   ·rw [hc2]
    simp at hlen hle1 ⊢
    omega
   ·simp; omega
   rintro _ _ _ ⟨rfl,x3,t3,rfl,ho3,hk3⟩
   rw [hc2] at ho3
   simp
   refine call_g (branch_g gs _ false (by simp at hl1; omega)) ?_
   simp
   generalize hT1 : bldL n.thn.l (gs ++ [⟨(us.length : Int) + M.length,true⟩]) (us.length + M.length + 1) = T1 at *
   have hc3 : (us ++ (M ++ [unitOf n gs]) ++ T1).length = us.length + M.length + 1 + T1.length:=by simp; omega
   refine ⟨_,ih2 n hmem (gs ++ [⟨(us.length : Int) + M.length,false⟩]) (us ++ (M ++ [unitOf n gs]) ++ T1) x3 t3 _ _ ho3 ?_ ?_ fun y hy=>hcd y (nodsPre_els hmem y hy),?_⟩
   ·rw [hc3]
    simp at hlen hle1 ⊢
    omega
   ·simp; omega
   rintro _ _ _ ⟨rfl,x4,t4,rfl,ho4,hk4⟩
   rw [hc3] at ho4
   refine W.x mixed (by kernel_rfl) ?_
   simp [hw]
   refine ⟨_,_,x4,t4,?_,?_,Sl.of rfl rfl rfl⟩
   ·rw [hnx]
    simpa using ho4
   ·simp only at hk hk2 hk3 hk4 ⊢
    omega
  ·obtain rfl : i = l.length:=by omega
   refine W.x mixed (by kernel_rfl) ?_
   simp
   rw [List.take_length] at ho
   refine ⟨.inl rfl,visH d x' ++ e,g,kk,[],.f (.tup []),by simp,rfl,by simp,hk,fun b cs hb=>?_,.inr ⟨1,.tup [],rfl,rfl⟩,rfl,x',t',rfl,ho,hk⟩
   match b,hb with
   | 0,hb=>exact .inl hb
   | 1,hb =>
    refine .inr fun z hz=>?_
    have hb : [x'] = cs:=by simpa [visH] using hb
    subst hb
    obtain rfl : z = x':=by simpa using hz
    rcases ho with ⟨_,rfl⟩ | ⟨_,rfl,h3⟩
    ·exact .f _
    ·exact .own _ _ (List.getElem?_eq_some_iff.1 h3).1
   | b + 2,hb=>exact .inl hb
end Go.Proofs.YtejkhflkeoihlaaGreat
namespace Go.Proofs.YtejkhflkeoihlaaGreat
open Go.RowKit Go.Proofs.YtejkhflkeoihlaaGreat.Vf
set_option linter.unusedVariables false
set_option linter.unusedSimpArgs false
set_option maxRecDepth 100000
set_option maxHeartbeats 4000000
theorem GivesX.arg {P : Program} {f : FuncId} {args args' : List AV} {h : List (List AV)} {k : List (Nat × Nat)} {R : AV→List (List AV)→List (Nat × Nat)→Prop} (hg : GivesX P f args h k R) (hw : ∀ (w : World) (L : Lk) (vals : Array Value),RepL w L k args' vals→RepL w L k args vals) : GivesX P f args' h k R :=
 ⟨hg.1,fun B L w vals hm hv=>hg.2 B L w vals hm (hw w L vals hv)⟩
def bldM (d : PrgD) : List UnitD:=if (ctlCheckW d).2 = 0 then bldL d.control.l [] 0 else []
theorem build_g (d : PrgD) (hd : d.tables.l.length ≤ 100000) (hB : NodB d.control.l) (hn : (bldL d.control.l [] 0).length ≤ 100000) (hc : ∀ y ∈ nodsPre d.control.l,y.cond.l.length ≤ 1000000) : Gives Tryz.prog 17 [fPrg d] (ownF (encL fUnit (bldM d))):=by
 refine Gives.of mixed Tryz.func17 rfl rfl rfl (by kernel_rfl) ?_
 simp [fPrg,cPrg]
 refine call_g (ctl_g d hd hB) ?_
 generalize hv : bldM d = v
 unfold bldM at hv
 generalize ctlCheckW d = r at hv ⊢
 obtain ⟨r1,r2⟩:=r
 by_cases c1 : r2 = 0
 case neg =>
  have hv : [] = v:=by rw [← hv]; exact (if_neg c1).symm
  subst hv
  simp [c1,encL,ownF]
 have hv : bldL d.control.l [] 0 = v:=by rw [← hv]; exact (if_pos c1).symm
 simp [c1]
 refine ⟨_,GivesX.arg (visit_x d d.control.l hB [] [] (.f (.sl [] .nil)) 0 [] [] .nil (by simpa using hn) (Nat.le_refl _) hc) (fun w L vals hr=>⟨hr.1,fun j y hj=>?_⟩),?_⟩
 ·match j,hj with
  | 0,hj=>exact hr.2 0 y hj
  | 1,hj =>
   obtain rfl : AV.f (.sl [] .un) = y:=Option.some.inj hj
   obtain ⟨u,h1,h2⟩:=hr.2 1 _ rfl
   exact ⟨u,h1,weak_nil _ _ _ _ h2⟩
  | 2,hj=>exact hr.2 2 y hj
  | 3,hj=>exact hr.2 3 y hj
 rintro _ _ _ ⟨rfl,x,t,rfl,ho,hk⟩
 simp [visH]
 rw [ho.ret,← hv]
 rfl
end Go.Proofs.YtejkhflkeoihlaaGreat
