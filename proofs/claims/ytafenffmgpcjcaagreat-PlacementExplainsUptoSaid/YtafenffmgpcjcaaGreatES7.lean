/- Texts of the proof: ES7. -/
import Derived.Test.YtafenffmgpcjcaaGreatES6
import Derived.Test.YtafenffmgpcjcaaGreatES4
import Derived.Test.YtafenffmgpcjcaaGreatEVC1
import Derived.Lib.SliceRun
namespace Go.Proofs.YtafenffmgpcjcaaGreat
open Go.RowKit Go.Proofs.YtafenffmgpcjcaaGreat.Vf
set_option linter.unusedVariables false
set_option linter.unusedSimpArgs false
set_option maxRecDepth 100000
set_option maxHeartbeats 4000000
def cntAt (d : PrgD) : Nat→Int
 | 0=>cntTo d.headers.l
 | 1=>d.headers.l.length
 | 2=>d.meta_.l.length
 | _=>d.regs.l.length
def fstTo (d : PrgD) (k : Int) : Nat→Int
 | 0=>0
 | i + 1=>if (i : Int) < k then fstTo d k i + cntAt d i else fstTo d k i
def fiI (d : PrgD) (k : Int) (i : Nat) (s : St) : Prop:=∃ g,Vf.Sl [(1,.f (intF k)),(5,.f (intF (fstTo d k i))),(9,.f (f4 (cntTo d.headers.l) d.headers.l.length d.meta_.l.length d.regs.l.length)),(10,.f (intF i))] 22 g [] s
theorem cnt_bd {d : PrgD} (hs : PrgS d) (i : Nat) : 0 ≤ cntAt d i∧cntAt d i ≤ 1000000:=by
 have h0:=cntTo_bd hs.f
 have:=hs.h
 have:=hs.m
 have:=hs.r
 match i with
 | 0=>show 0 ≤ cntTo d.headers.l∧cntTo d.headers.l ≤ 1000000; omega
 | 1=>show (0 : Int) ≤ d.headers.l.length∧(d.headers.l.length : Int) ≤ 1000000; omega
 | 2=>show (0 : Int) ≤ d.meta_.l.length∧(d.meta_.l.length : Int) ≤ 1000000; omega
 | i + 3=>show (0 : Int) ≤ d.regs.l.length∧(d.regs.l.length : Int) ≤ 1000000; omega
theorem fst_bd {d : PrgD} (hs : PrgS d) (k : Int) (i : Nat) : 0 ≤ fstTo d k i∧fstTo d k i ≤ 1000000 * i:=by
 induction i with
 | zero=>simp [fstTo]
 | succ i ih =>
  have:=cnt_bd hs i
  unfold fstTo
  split <;> omega
theorem first_g (d : PrgD) (hs : PrgS d) (k : Int) : Gives Tryz.prog 263 [fPrg d,intF k] (intF (fstTo d k 4)):=by
 refine Gives.of mixed Tryz.func263 rfl rfl rfl (by kernel_rfl) ?_
 simp [fPrg,cPrg]
 refine call_g (counts_g d hs) ?_
 simp
 refine forX mixed 4 (fiI d k) (by kernel_rfl) ⟨_,Sl.of rfl rfl rfl⟩ ?_
 rintro i ⟨ts,hh,kk⟩ hi ⟨g,rfl,rfl,f,rfl⟩
 by_cases hlt : i < 4
 ·have hb:=fst_bd hs k i
  have hc:=cnt_bd hs i
  have hw:=wrap64 (x:=fstTo d k i + cntAt d i) (by omega) (by omega)
  have h4 : i = 0 ∨ i = 1 ∨ i = 2 ∨ i = 3:=by omega
  by_cases hk : (i : Int) < k
  ·have hn : fstTo d k (i + 1) = fstTo d k i + cntAt d i:=by rw [fstTo,if_pos hk]
   rcases h4 with rfl | rfl | rfl | rfl
   ·have hk' : (0 : Int) < k:=hk
    have hw' : IntKind.i64.wrap (fstTo d k 0 + cntTo d.headers.l) = fstTo d k 0 + cntTo d.headers.l:=hw
    simp [hk',Vf.wrap64,hw']
    exact ⟨_,by rw [hn]; exact Sl.of rfl rfl rfl⟩
   ·have hk' : (1 : Int) < k:=hk
    have hw' : IntKind.i64.wrap (fstTo d k 1 + (d.headers.l.length : Int)) = fstTo d k 1 + (d.headers.l.length : Int):=hw
    simp [hk',Vf.wrap64,hw']
    exact ⟨_,by rw [hn]; exact Sl.of rfl rfl rfl⟩
   ·have hk' : (2 : Int) < k:=hk
    have hw' : IntKind.i64.wrap (fstTo d k 2 + (d.meta_.l.length : Int)) = fstTo d k 2 + (d.meta_.l.length : Int):=hw
    simp [hk',Vf.wrap64,hw']
    exact ⟨_,by rw [hn]; exact Sl.of rfl rfl rfl⟩
   ·have hk' : (3 : Int) < k:=hk
    have hw' : IntKind.i64.wrap (fstTo d k 3 + (d.regs.l.length : Int)) = fstTo d k 3 + (d.regs.l.length : Int):=hw
    simp [hk',Vf.wrap64,hw']
    exact ⟨_,by rw [hn]; exact Sl.of rfl rfl rfl⟩
  ·have hn : fstTo d k (i + 1) = fstTo d k i:=by rw [fstTo,if_neg hk]
   rcases h4 with rfl | rfl | rfl | rfl
   ·have hk' : ¬ (0 : Int) < k:=hk
    simp [hk',Vf.wrap64]
    exact ⟨_,by rw [hn]; exact Sl.of rfl rfl rfl⟩
   ·have hk' : ¬ (1 : Int) < k:=hk
    simp [hk',Vf.wrap64]
    exact ⟨_,by rw [hn]; exact Sl.of rfl rfl rfl⟩
   ·have hk' : ¬ (2 : Int) < k:=hk
    simp [hk',Vf.wrap64]
    exact ⟨_,by rw [hn]; exact Sl.of rfl rfl rfl⟩
   ·have hk' : ¬ (3 : Int) < k:=hk
    simp [hk',Vf.wrap64]
    exact ⟨_,by rw [hn]; exact Sl.of rfl rfl rfl⟩
 ·obtain rfl : i = 4:=by omega
  simp
def cellM (d : PrgD) (k : Nat) (i : Int) : Int:=if i < 0 ∨ cntAt d k ≤ i then -1 else fstTo d k 4 + i
theorem cell_g (d : PrgD) (hs : PrgS d) (k : Nat) (hk : k = 1 ∨ k = 2 ∨ k = 3) (i : Int) : Gives Tryz.prog 248 [fPrg d,intF k,intF i] (intF (cellM d k i)):=by
 refine Gives.of mixed Tryz.func248 rfl rfl rfl (by kernel_rfl) ?_
 simp [fPrg,cPrg]
 by_cases c1 : i < 0
 ·have hv : cellM d k i = -1:=if_pos (.inl c1)
  simp [c1,hv]
 simp [c1]
 refine call_g (counts_g d hs) ?_
 have hb:=cnt_bd hs k
 by_cases c2 : cntAt d k ≤ i
 ·have hv : cellM d k i = -1:=if_pos (.inr c2)
  rcases hk with rfl | rfl | rfl
  ·have c2' : (d.headers.l.length : Int) ≤ i:=c2
   simp [c2',hv]
  ·have c2' : (d.meta_.l.length : Int) ≤ i:=c2
   simp [c2',hv]
  ·have c2' : (d.regs.l.length : Int) ≤ i:=c2
   simp [c2',hv]
 have hv : cellM d k i = fstTo d k 4 + i:=if_neg (by omega)
 have hf:=fst_bd hs k 4
 have hw:=wrap64 (x:=fstTo d k 4 + i) (by omega) (by omega)
 rcases hk with rfl | rfl | rfl
 ·have c2' : ¬ (d.headers.l.length : Int) ≤ i:=c2
  simp [c2']
  refine call_g (first_g d hs 1) ?_
  have hw : IntKind.i64.wrap (fstTo d 1 4 + i) = fstTo d 1 4 + i:=hw
  have hv : cellM d 1 i = fstTo d 1 4 + i:=hv
  simp [hw,hv]
 ·have c2' : ¬ (d.meta_.l.length : Int) ≤ i:=c2
  simp [c2']
  refine call_g (first_g d hs 2) ?_
  have hw : IntKind.i64.wrap (fstTo d 2 4 + i) = fstTo d 2 4 + i:=hw
  have hv : cellM d 2 i = fstTo d 2 4 + i:=hv
  simp [hw,hv]
 ·have c2' : ¬ (d.regs.l.length : Int) ≤ i:=c2
  simp [c2']
  refine call_g (first_g d hs 3) ?_
  have hw : IntKind.i64.wrap (fstTo d 3 4 + i) = fstTo d 3 4 + i:=hw
  have hv : cellM d 3 i = fstTo d 3 4 + i:=hv
  simp [hw,hv]
theorem validCell_g (d : PrgD) (hs : PrgS d) (i : Int) : Gives Tryz.prog 213 [fPrg d,intF i] (intF (cellM d 1 i)):=by
 refine Gives.of mixed Tryz.func213 rfl rfl rfl (by kernel_rfl) ?_
 simp [fPrg,cPrg]
 refine call_g (cell_g d hs 1 (by decide) i) ?_
 simp
theorem registerCell_g (d : PrgD) (hs : PrgS d) (i : Int) : Gives Tryz.prog 214 [fPrg d,intF i] (intF (cellM d 3 i)):=by
 refine Gives.of mixed Tryz.func214 rfl rfl rfl (by kernel_rfl) ?_
 simp [fPrg,cPrg]
 refine call_g (cell_g d hs 3 (by decide) i) ?_
 simp
def fieldCell (d : PrgD) (h f : Int) : Int :=
 if h = -1 then cellM d 2 f else if h < 0 ∨ (d.headers.l.length : Int) ≤ h then -1 else match d.headers.l[h.toNat]? with
 | none=>-1
 | some x=>if f < 0 ∨ (x.fields.l.length : Int) ≤ f then -1 else f + cntTo (d.headers.l.take h.toNat)
def fcI (d : PrgD) (n : Nat) (f : Int) (i : Nat) (s : St) : Prop:=∃ g,Vf.Sl [(5,.f (intF (f + cntTo (d.headers.l.take i)))),(50,.f (sl (encL fHdr (d.headers.l.take n)))),(51,.f (intF n)),(52,.f (intF i))] 63 g [] s
theorem fieldCell_g (d : PrgD) (hs : PrgS d) (h f : Int) : Gives Tryz.prog 212 [fPrg d,fRef h f] (intF (fieldCell d h f)):=by
 refine Gives.of mixed Tryz.func212 rfl rfl rfl (by kernel_rfl) ?_
 by_cases c0 : h = -1
 ·have hv : fieldCell d h f = cellM d 2 f:=if_pos c0
  simp [fPrg,cPrg,c0]
  refine call_g (cell_g d hs 2 (by decide) f) ?_
  rw [c0] at hv
  simp [hv]
 by_cases c1 : h < 0
 ·have hv : fieldCell d h f = -1:=by unfold fieldCell; rw [if_neg c0,if_pos (.inl c1)]
  simp [fPrg,cPrg,c0,c1,hv]
 by_cases c2 : (d.headers.l.length : Int) ≤ h
 ·have hv : fieldCell d h f = -1:=by unfold fieldCell; rw [if_neg c0,if_pos (.inr c2)]
  simp [fPrg,cPrg,c0,c1,c2,hv]
 obtain ⟨n,rfl⟩ : ∃ n : Nat,h = n:=⟨h.toNat,by omega⟩
 have hn : n < d.headers.l.length:=by omega
 obtain ⟨x,hx,hx'⟩:=nth_of hn
 have hv : fieldCell d n f = if f < 0 ∨ (x.fields.l.length : Int) ≤ f then -1 else f + cntTo (d.headers.l.take n):=by unfold fieldCell; rw [if_neg c0,if_neg (by omega)]; simp only [Int.toNat_natCast,hx']
 have c1' : ¬ ((n : Int) < 0):=by omega
 by_cases c3 : f < 0
 ·rw [if_pos (.inl c3)] at hv
  simp [fPrg,cPrg,c0,c1',c2,c3,hv]
 by_cases c4 : (x.fields.l.length : Int) ≤ f
 ·rw [if_pos (.inr c4)] at hv
  simp [fPrg,cPrg,c0,c1',c2,c3,hn,hx,c4,hv]
 rw [if_neg (by omega)] at hv
 have hfl:=hs.f x (List.mem_of_getElem? hx')
 simp [fPrg,cPrg,c0,c1',c2,c3,hn,hx,c4]
 rw [sliceF (enc:=fHdr) (l:=d.headers.l) (c:=.un) (i:=n) ty22 ty118 (by simp) (fun _=>rfl) (Nat.le_of_lt hn)]
 have hmin : min n d.headers.l.length = n:=by omega
 simp [hmin]
 refine forX mixed n (fcI d n f) (by kernel_rfl) ?h0 ?_
 case h0 =>
  have e0 : f + cntTo (d.headers.l.take 0) = f:=by simp [cntTo,isum]
  unfold fcI
  rw [e0]
  exact ⟨_,Sl.of rfl rfl rfl⟩
 rintro i ⟨ts,hh,kk⟩ hi ⟨g,rfl,rfl,ff,rfl⟩
 have h1000:=hs.h
 by_cases hlt : i < n
 ·obtain ⟨y,hy,hy'⟩:=nth_of (show i < d.headers.l.length by omega)
  obtain ⟨z,hz,hz'⟩:=nth_of (show i < (d.headers.l.take n).length by rw [List.length_take]; omega)
  obtain rfl : z = y:=by
   rw [List.getElem?_take_of_lt hlt] at hz'
   rw [hy'] at hz'
   exact (Option.some.inj hz').symm
  have hw:=wrap64 (x:=(i : Int) + 1) (by omega) (by omega)
  have hb:=cntTo_bd (l:=d.headers.l.take i) fun y hy=>hs.f y (List.mem_of_mem_take hy)
  rw [List.length_take] at hb
  have hf:=hs.f z (List.mem_of_getElem? hy')
  have hw2:=wrap64 (x:=f + cntTo (d.headers.l.take i) + z.fields.l.length) (by omega) (by omega)
  have hnx:=cntTo_next hy'
  have hid : i < d.headers.l.length:=by omega
  simp [hlt,hid,hz,hw,hw2]
  exact ⟨_,by rw [hnx,← Int.add_assoc]; exact Sl.of rfl rfl rfl⟩
 ·obtain rfl : i = n:=by omega
  simp [hv]
theorem of_empty {P : Program} {f : FuncId} (hb : HasBody P f) (h : ∀ (w : World) (a : Option Addr) (c : Nat),Calls P f #[.slice a 0 c] w fun e w'=>(e = .returned (.slice none 0 0) ∨ ∃ b,b < w'.heap.size∧e = .returned (.slice (some ⟨b,0,none⟩) 0 0))∧Below w.heap.size w w') : Gives P f [.sl [] .un] (.sl [] .full):=by
 refine ⟨hb,fun w F vals hF hs hv=>?_⟩
 obtain ⟨u,h1,h2⟩:=hv 0 _ rfl
 obtain ⟨a,c,rfl⟩:=rep_sl h2
 have hvals : vals = #[.slice a 0 c]:=by
  apply Array.ext_getElem?
  intro i
  cases i with
  | zero=>rw [h1]; rfl
  | succ i=>rw [Array.getElem?_eq_none (by simp at hs; omega)]; simp
 rw [hvals]
 refine (h w a c).mono ?_
 rintro e w' ⟨h3,hb⟩
 have hr : ∃ v,e = .returned v∧Rep w' F (.sl [] .full) v:=by
  rcases h3 with rfl | ⟨b,hlt,rfl⟩
  ·exact ⟨_,rfl,.nil _⟩
  ·exact ⟨_,rfl,.sl [] .full b 0 0 0 (fun _ _=>undef) (by simp) (fun _=>rfl) (Nat.le_refl _) (fun i x hx=>by simp at hx) (fun i j x y hx=>by simp at hx) (fun i j x y hx=>by simp at hx)⟩
 obtain ⟨v,rfl,hr⟩:=hr
 exact ⟨v,F,rfl,hr,hb,fun _ _ h=>h,fun _ _ h=>.inl h,fun b o h=>Nat.lt_of_lt_of_le (hF b o h) hb.size⟩
set_option maxRecDepth 100000 in
set_option maxHeartbeats 600000 in
theorem cloneGd0 (w : World) (a : Option Addr) (c : Nat) : Calls Tryz.prog 110 #[.slice a 0 c] w fun e w'=>(e = .returned (.slice none 0 0) ∨ ∃ b,b < w'.heap.size∧e = .returned (.slice (some ⟨b,0,none⟩) 0 0))∧Below w.heap.size w w':=by
 go_enter Tryz.func110,Tryz.ntmps110
 have q22 : ∀ (w : World) (a : Option Addr) (n c n' c' : Nat),(binOp .eql 55 (.slice a n c) (.slice none n' c')).run Tryz.prog w = .ok (.bool a.isNone) w:=fun w a n c n' c'=>Lib.run_eql_slice_nil w _ _ a n c n' c' Tryz.underlying55
 cases a with
 | none =>
  go_wp2_with fail
  go_returns
  exact ⟨.inl rfl,Below.refl _ _⟩
 | some p =>
  go_wp2_with fail
  go_returns
  exact ⟨.inr ⟨w.heap.size,by simp,rfl⟩,(Below.refl _ _).alloc (Nat.le_refl _) _⟩
set_option maxRecDepth 100000 in
set_option maxHeartbeats 4000000 in
theorem cloneGd_t (g : GuardD) (l : List GuardD) (hl : l.length ≤ 1000000) : GivesT Tryz.prog 110 [sl (encL fGd (g :: l))] (encL fGd (g :: l)) 2:=by
 refine GivesT.of mixed Tryz.func110 rfl rfl rfl (by kernel_rfl) ?_
 simp [encL,opBin,opNil,isNilA,-opAppend]
 rw [append_full (ys:=fGd g :: List.map fGd l) (by decide) ty55 ty174 (by simp) rfl (by simp) (by simp) (by simp; omega) (by simp; omega)]
 simp
theorem cloneGd_e : Gives Tryz.prog 110 [.sl [] .un] (.sl [] .full):=of_empty ⟨_,Tryz.func110,rfl,by decide⟩ cloneGd0
theorem cloneGd_g (l : List GuardD) (hl : l.length ≤ 1000000) : Gives Tryz.prog 110 [sl (encL fGd l)] (sl (encL fGd l)):=by
 cases l with
 | nil=>exact cloneGd_e.full
 | cons g l=>exact (cloneGd_t g l (by simp at hl; omega)).gives
set_option maxRecDepth 100000 in
set_option maxHeartbeats 600000 in
theorem cloneEx0 (w : World) (a : Option Addr) (c : Nat) : Calls Tryz.prog 111 #[.slice a 0 c] w fun e w'=>(e = .returned (.slice none 0 0) ∨ ∃ b,b < w'.heap.size∧e = .returned (.slice (some ⟨b,0,none⟩) 0 0))∧Below w.heap.size w w':=by
 go_enter Tryz.func111,Tryz.ntmps111
 have q22 : ∀ (w : World) (a : Option Addr) (n c n' c' : Nat),(binOp .eql 54 (.slice a n c) (.slice none n' c')).run Tryz.prog w = .ok (.bool a.isNone) w:=fun w a n c n' c'=>Lib.run_eql_slice_nil w _ _ a n c n' c' Tryz.underlying54
 cases a with
 | none =>
  go_wp2_with fail
  go_returns
  exact ⟨.inl rfl,Below.refl _ _⟩
 | some p =>
  go_wp2_with fail
  go_returns
  exact ⟨.inr ⟨w.heap.size,by simp,rfl⟩,(Below.refl _ _).alloc (Nat.le_refl _) _⟩
set_option maxRecDepth 100000 in
set_option maxHeartbeats 4000000 in
theorem cloneEx_t (g : ExD) (l : List ExD) (hl : l.length ≤ 1000000) : GivesT Tryz.prog 111 [sl (encL fEx (g :: l))] (encL fEx (g :: l)) 3:=by
 refine GivesT.of mixed Tryz.func111 rfl rfl rfl (by kernel_rfl) ?_
 simp [encL,opBin,opNil,isNilA,-opAppend]
 rw [append_full (ys:=fEx g :: List.map fEx l) (by decide) ty54 ty126 (by simp) rfl (by simp) (by simp) (by simp; omega) (by simp; omega)]
 simp
theorem cloneEx_e : Gives Tryz.prog 111 [.sl [] .un] (.sl [] .full):=of_empty ⟨_,Tryz.func111,rfl,by decide⟩ cloneEx0
theorem cloneEx_g (l : List ExD) (hl : l.length ≤ 1000000) : Gives Tryz.prog 111 [sl (encL fEx l)] (sl (encL fEx l)):=by
 cases l with
 | nil=>exact cloneEx_e.full
 | cons g l=>exact (cloneEx_t g l (by simp at hl; omega)).gives
theorem branch_g (gs : List GuardD) (i : Int) (q : Bool) (hl : gs.length ≤ 100000) : Gives Tryz.prog 112 [boolF q,.fp [sl (encL fGd gs)],.fp [intF i]] (sl (encL fGd (gs ++ [⟨i,q⟩]))):=by
 refine Gives.of mixed Tryz.func112 rfl rfl rfl (by kernel_rfl) ?_
 cases gs with
 | nil =>
  simp [encL]
  refine call_g cloneGd_e ?_
  simp
 | cons g l =>
  simp
  refine call_t (cloneGd_t g l (by simp at hl; omega)) ?_
  simp [encL]
  rw [if_pos (by simp at hl; omega)]
  simp
mutual
def bldN : NodD→List GuardD→Nat→List UnitD
 | .mk k t c tl el,gs,i=>⟨if k = 2 then -1 else t,⟨if k = 2 then c else []⟩,⟨gs⟩⟩ ::
   (bldL tl (gs ++ [⟨i,true⟩]) (i + 1) ++ bldL el (gs ++ [⟨i,false⟩]) (i + 1 + (bldL tl (gs ++ [⟨i,true⟩]) (i + 1)).length))
def bldL : List NodD→List GuardD→Nat→List UnitD
 | [],_,_=>[]
 | x :: l,gs,i=>bldN x gs i ++ bldL l gs (i + (bldN x gs i).length)
end
def unitOf (x : NodD) (gs : List GuardD) : UnitD:=⟨if x.kind = 2 then -1 else x.table,⟨if x.kind = 2 then x.cond.l else []⟩,⟨gs⟩⟩
theorem bldN_eq (x : NodD) (gs : List GuardD) (i : Nat) : bldN x gs i = unitOf x gs :: (bldL x.thn.l (gs ++ [⟨i,true⟩]) (i + 1) ++ bldL x.els.l (gs ++ [⟨i,false⟩]) (i + 1 + (bldL x.thn.l (gs ++ [⟨i,true⟩]) (i + 1)).length)):=by
 obtain ⟨k,t,c,a,b⟩:=x
 rw [bldN]; rfl
theorem bldL_app : ∀ (a b : List NodD) (gs : List GuardD) (i : Nat),bldL (a ++ b) gs i = bldL a gs i ++ bldL b gs (i + (bldL a gs i).length)
 | [],b,gs,i=>by simp [bldL]
 | x :: a,b,gs,i=>by
  rw [List.cons_append,bldL,bldL,bldL_app a b,List.append_assoc,List.length_append]
  congr 3
  omega
theorem bldL_take {l : List NodD} {k : Nat} {x : NodD} (h : l[k]? = some x) (gs : List GuardD) (i : Nat) : bldL (l.take (k + 1)) gs i = bldL (l.take k) gs i ++ bldN x gs (i + (bldL (l.take k) gs i).length):=by
 rw [List.take_add_one,h,bldL_app]
 congr 1
 show bldL [x] _ _ = _
 rw [bldL,bldL,List.append_nil]
theorem bldL_le (l : List NodD) (gs : List GuardD) (i k : Nat) : (bldL (l.take k) gs i).length ≤ (bldL l gs i).length:=by
 have:=bldL_app (l.take k) (l.drop k) gs i
 rw [List.take_append_drop] at this
 rw [this]; simp
abbrev visF : AV:=.fnr 109 [.ref 1 0,.ref 2 0]
def visH (d : PrgD) (x : AV) : List (List AV):=[aPrg d,[x],[visF]]
@[simp] theorem vis_ix1 {d : PrgD} {x : AV} {r : List (List AV)} : ix (visH d x ++ r) 1 = some [x]:=rfl
@[simp] theorem vis_ix2 {d : PrgD} {x : AV} {r : List (List AV)} : ix (visH d x ++ r) 2 = some [visF]:=rfl
@[simp] theorem vis_set1 {d : PrgD} {x y : AV} {r : List (List AV)} : (visH d x ++ r).set 1 [y] = visH d y ++ r:=rfl
@[simp] theorem vis_ixn {d : PrgD} {x y : AV} {r : List (List AV)} {n : Nat} : ix (visH d y ++ r) ((visH d x).length + n) = ix r n:=by
 show ix (visH d y ++ r) ((visH d y).length + n) = ix r n
 exact ix_appn
@[simp] theorem vis_setn {d : PrgD} {x y : AV} {r : List (List AV)} {n : Nat} {c : List AV} : (visH d y ++ r).set ((visH d x).length + n) c = visH d y ++ r.set n c:=by simp [visH,List.set,Nat.add_comm 3 n]
theorem vis_len {d : PrgD} {x : AV} : (visH d x).length = 3:=rfl
def VisR (d : PrgD) (us : List UnitD) (e : List (List AV)) (k : List (Nat × Nat)) : AV→List (List AV)→List (Nat × Nat)→Prop:=fun y h' k' =>
 y = .f (.tup [])∧∃ x t,h' = visH d x ++ e∧OwnT k' (encL fUnit us) 3 x t∧k.length ≤ k'.length
def visI (d : PrgD) (l : List NodD) (gs : List GuardD) (us : List UnitD) (e : List (List AV)) (k : List (Nat × Nat)) (i : Nat) (s : St) : Prop:=∃ g k' x t,
 OwnT k' (encL fUnit (us ++ bldL (l.take i) gs us.length)) 3 x t∧k.length ≤ k'.length ∧
 Vf.Sl [(2,.ref 1 0),(3,.ref 2 0),(5,.f (.fp [sl (encL fGd gs)])),(11,.f (sl (encL fNod l))),(12,.f (intF l.length)),(13,.f (intF i))] 50 (visH d x ++ (e ++ g)) k' s
theorem nodsPre_eq (x : NodD) (l : List NodD) : nodsPre (x :: l) = x :: (nodsPre x.thn.l ++ (nodsPre x.els.l ++ nodsPre l)):=by obtain ⟨a,b,c,d,e⟩:=x; simp [nodsPre,nodPre]; rfl
theorem nodsPre_mem {l : List NodD} {x : NodD} (h : x ∈ l) : x ∈ nodsPre l:=by
 induction l with
 | nil=>cases h
 | cons y l ih =>
  rw [nodsPre_eq]
  rcases List.mem_cons.1 h with rfl | h
  ·exact .head _
  ·exact .tail _ (List.mem_append_right _ (List.mem_append_right _ (ih h)))
theorem nodsPre_thn {l : List NodD} {x : NodD} (h : x ∈ l) : ∀ y ∈ nodsPre x.thn.l,y ∈ nodsPre l:=by
 induction l with
 | nil=>cases h
 | cons z l ih =>
  intro y hy
  rw [nodsPre_eq]
  rcases List.mem_cons.1 h with rfl | h
  ·exact .tail _ (List.mem_append_left _ hy)
  ·exact .tail _ (List.mem_append_right _ (List.mem_append_right _ (ih h y hy)))
theorem nodsPre_els {l : List NodD} {x : NodD} (h : x ∈ l) : ∀ y ∈ nodsPre x.els.l,y ∈ nodsPre l:=by
 induction l with
 | nil=>cases h
 | cons z l ih =>
  intro y hy
  rw [nodsPre_eq]
  rcases List.mem_cons.1 h with rfl | h
  ·exact .tail _ (List.mem_append_right _ (List.mem_append_left _ hy))
  ·exact .tail _ (List.mem_append_right _ (List.mem_append_right _ (ih h y hy)))
abbrev nodA (n : NodD) : List AV:=[.f (intF n.kind),.f (intF n.table),.f (sl (encL fEx n.cond.l)),.f (sl (encL fNod n.thn.l)),.f (sl (encL fNod n.els.l))]
def visM (d : PrgD) (l : List NodD) (gs : List GuardD) (n : NodD) (x : AV) (e g : List (List AV)) (k : List (Nat × Nat)) (i : Nat) (s : St) : Prop:=∃ X,(X = .f (sl (encL fEx (unitOf n gs).cond.l)) ∨ ((unitOf n gs).cond.l = []∧X = .f (.sl [] .nil))) ∧
 Vf.Sl [(2,.ref 1 0),(3,.ref 2 0),(5,.f (.fp [sl (encL fGd gs)])),(7,.ref ((visH d x).length + (e.length + g.length)) 0),(8,.ref ((visH d x).length + (e.length + (g.length + 1))) 0),(11,.f (sl (encL fNod l))),(12,.f (intF l.length)),(13,.f (intF i))] 50
  (visH d x ++ (e ++ (g ++ [nodA n,[.f (intF (unitOf n gs).table),X,.f (sl (encL fGd gs))]]))) k s
theorem vis_weak {c : Code} {Q : Pst} {d : PrgD} {x X a b : AV} {e g : List (List AV)} {n : NodD} {m : List ExD} {t : List AV} {k : List (Nat × Nat)} (hX : X = .f (sl (encL fEx m)) ∨ (m = []∧X = .f (.sl [] .nil)))
  (h : W Tryz.prog c ⟨t,visH d x ++ (e ++ (g ++ [nodA n,[a,.f (sl (encL fEx m)),b]])),k⟩ Q) : W Tryz.prog c ⟨t,visH d x ++ (e ++ (g ++ [nodA n,[a,X,b]])),k⟩ Q:=by
 rcases hX with rfl | ⟨rfl,rfl⟩
 ·exact h
 ·refine weakH_W (b:=(visH d x).length + (e.length + (g.length + 1))) (j:=1) (cs:=[a,.f (.sl [] .nil),b]) (by simp) rfl weak_nil ?_
  simp
  exact h
theorem visit_x (d : PrgD) (l : List NodD) (hB : NodB l) : ∀ (gs : List GuardD) (us : List UnitD) (x : AV) (t : Nat) (e : List (List AV)) (k : List (Nat × Nat)),OwnT k (encL fUnit us) 3 x t →
  (us ++ bldL l gs us.length).length ≤ 100000→gs.length ≤ us.length→(∀ y ∈ nodsPre l,y.cond.l.length ≤ 1000000) →
  GivesX Tryz.prog 109 [.f (sl (encL fNod l)),.f (sl (encL fGd gs)),.ref 1 0,.ref 2 0] (visH d x ++ e) k (VisR d (us ++ bldL l gs us.length) e k):=by
 induction hB with
 | mk l hl h1 h2 ih1 ih2 =>
  intro gs us x t e k ho hlen hgs hcd
  refine GivesX.of_W Tryz.func109 rfl rfl rfl (by decide) ?_
  refine W.two (W.x mixed (by kernel_rfl) ?_)
  simp
  refine frz_W (d:=5) (b:=(visH d x ++ e).length) (fs:=[sl (encL fGd gs)]) (by simp) (by simp) ?_
  refine W.x mixed (by kernel_rfl) ?_
  simp
  refine forW l.length (visI d l gs us e k) ⟨[[]],k,x,t,by simpa [bldL] using ho,Nat.le_refl _,Sl.of rfl rfl rfl⟩ ?_
  clear ho
  rintro i ⟨ts,hh,kk⟩ hi ⟨g,k',x',t',ho,hk,rfl,rfl,ff,rfl⟩
  by_cases hlt : i < l.length
  ·obtain ⟨n,hn,hn'⟩:=nth_of hlt
   have hw:=wrap64 (x:=(i : Int) + 1) (by omega) (by unfold maxLen at hl; omega)
   refine W.two (W.x mixed (by kernel_rfl) ?_)
   simp [hlt]
   refine W.two (W.x mixed (by kernel_rfl) ?_)
   simp
   refine W.two (W.blk (W.two (W.x mixed (by kernel_rfl) ?_)))
   simp [hn,fNod_eq,hlt]
   refine W.two (W.x mixed (by kernel_rfl) ?_)
   simp
   refine call_g (cloneGd_g gs (by rw [List.length_append] at hlen; omega)) ?_
   simp
   have hmem:=List.mem_of_getElem? hn'
   have hnc : n.cond.l.length ≤ 1000000:=hcd n (nodsPre_mem hmem)
   refine W.two (W.mono (Q:=fun ex s'=>ex = .normal∧visM d l gs n x' e g kk i s') (W.x mixed (by kernel_rfl) ?_) ?_)
   ·by_cases hk2 : n.kind = 2
    ·simp [hk2]
     refine call_g (cloneEx_g n.cond.l hnc) ?_
     simp
     exact ⟨_,.inl rfl,by simp only [unitOf,hk2,nodA,if_true]; exact Sl.of rfl rfl rfl⟩
    ·simp [hk2]
     exact ⟨_,.inr ⟨by simp [unitOf,hk2],rfl⟩,by simp only [unitOf,if_neg hk2]; exact Sl.of rfl rfl rfl⟩
   rintro _ ⟨ts,hh,kk2⟩ ⟨rfl,X,hX,rfl,rfl,ff2,rfl⟩
   simp
   refine vis_weak hX ?_
   refine W.two (W.x mixed (by kernel_rfl) ?_)
   simp [-opLen]
   rw [ho.len ty52]
   simp
   refine frz_W (d:=9) (b:=(visH d x').length + (e.length + (g.length + 2))) (fs:=[intF ((us.length : Int) + (bldL (l.take i) gs us.length).length)]) (by simp) (by simp) ?_
   simp
   refine W.x mixed (by kernel_rfl) ?_
   simp [-opAppend]
   have hl0:=bldL_le l gs us.length i
   have hl1 : (us ++ bldL (l.take i) gs us.length).length ≤ 100000:=by simp at hlen ⊢; omega
   obtain ⟨t2,k2,e2,ho2,hk2,_⟩:=append_own ty52 ty57 (by simp) ho (y:=.f (.sl [fUnit (unitOf n gs)] .full)) rfl (by simp) (by simp) (by simp at hl1 ⊢; omega) (by simp at hl1 ⊢; omega)
   rw [show opAppend (tyOf Tryz.prog) kk2 52 x' (.f (FV.sl [FV.agg [intF (unitOf n gs).table,sl (encL fEx (unitOf n gs).cond.l),sl (encL fGd gs)]] Cap.full)) = _ from e2]
   simp
   refine call_g (branch_g gs _ true (by simp at hl1; omega)) ?_
   simp
   have hnx:=bldL_take hn' gs us.length
   rw [bldN_eq] at hnx
   simp only [Int.natCast_add] at hnx
   have hle1:=bldL_le l gs us.length (i + 1)
   rw [hnx] at hle1
   have hu2 : OwnT k2 (encL fUnit (us ++ (bldL (l.take i) gs us.length ++ [unitOf n gs]))) 3 (.own (encL fUnit (us ++ (bldL (l.take i) gs us.length ++ [unitOf n gs]))) t2) t2:=by simpa [encL] using ho2
   generalize hm : bldL (l.take i) gs us.length = M at *
   have hc2 : (us ++ (M ++ [unitOf n gs])).length = us.length + M.length + 1:=by simp; omega
   refine ⟨_,ih1 n hmem (gs ++ [⟨(us.length : Int) + M.length,true⟩]) (us ++ (M ++ [unitOf n gs])) _ t2 _ k2 hu2 ?_ ?_ fun y hy=>hcd y (nodsPre_thn hmem y hy),?_⟩
   ·rw [hc2]
    simp at hlen hle1 ⊢
    omega
   ·simp; omega
   rintro _ _ _ ⟨rfl,x3,t3,rfl,ho3,hk3⟩
   rw [hc2] at ho3
   simp
   refine call_g (branch_g gs _ false (by simp at hl1; omega)) ?_
   simp
   generalize hT1 : bldL n.thn.l (gs ++ [⟨(us.length : Int) + M.length,true⟩]) (us.length + M.length + 1) = T1 at *
   have hc3 : (us ++ (M ++ [unitOf n gs]) ++ T1).length = us.length + M.length + 1 + T1.length:=by simp; omega
   refine ⟨_,ih2 n hmem (gs ++ [⟨(us.length : Int) + M.length,false⟩]) (us ++ (M ++ [unitOf n gs]) ++ T1) x3 t3 _ _ ho3 ?_ ?_ fun y hy=>hcd y (nodsPre_els hmem y hy),?_⟩
   ·rw [hc3]
    simp at hlen hle1 ⊢
    omega
   ·simp; omega
   rintro _ _ _ ⟨rfl,x4,t4,rfl,ho4,hk4⟩
   rw [hc3] at ho4
   refine W.x mixed (by kernel_rfl) ?_
   simp [hw]
   refine ⟨_,_,x4,t4,?_,?_,Sl.of rfl rfl rfl⟩
   ·rw [hnx]
    simpa using ho4
   ·simp only at hk hk2 hk3 hk4 ⊢
    omega
  ·obtain rfl : i = l.length:=by omega
   refine W.x mixed (by kernel_rfl) ?_
   simp
   rw [List.take_length] at ho
   refine ⟨.inl rfl,visH d x' ++ e,g,kk,[],.f (.tup []),by simp,rfl,by simp,hk,fun b cs hb=>?_,.inr ⟨1,.tup [],rfl,rfl⟩,rfl,x',t',rfl,ho,hk⟩
   match b,hb with
   | 0,hb=>exact .inl hb
   | 1,hb =>
    refine .inr fun z hz=>?_
    have hb : [x'] = cs:=by simpa [visH] using hb
    subst hb
    obtain rfl : z = x':=by simpa using hz
    rcases ho with ⟨_,rfl⟩ | ⟨_,rfl,h3⟩
    ·exact .f _
    ·exact .own _ _ (List.getElem?_eq_some_iff.1 h3).1
   | b + 2,hb=>exact .inl hb
theorem GivesX.arg {P : Program} {f : FuncId} {args args' : List AV} {h : List (List AV)} {k : List (Nat × Nat)} {R : AV→List (List AV)→List (Nat × Nat)→Prop} (hg : GivesX P f args h k R) (hw : ∀ (w : World) (L : Lk) (vals : Array Value),RepL w L k args' vals→RepL w L k args vals) : GivesX P f args' h k R :=
 ⟨hg.1,fun B L w vals hm hv=>hg.2 B L w vals hm (hw w L vals hv)⟩
def bldM (d : PrgD) : List UnitD:=if (ctlCheckW d).2 = 0 then bldL d.control.l [] 0 else []
theorem build_g (d : PrgD) (hd : d.tables.l.length ≤ 100000) (hB : NodB d.control.l) (hn : (bldL d.control.l [] 0).length ≤ 100000) (hc : ∀ y ∈ nodsPre d.control.l,y.cond.l.length ≤ 1000000) : Gives Tryz.prog 55 [fPrg d] (ownF (encL fUnit (bldM d))):=by
 refine Gives.of mixed Tryz.func55 rfl rfl rfl (by kernel_rfl) ?_
 simp [fPrg,cPrg]
 refine call_g (ctl_g d hd hB) ?_
 generalize hv : bldM d = v
 unfold bldM at hv
 generalize ctlCheckW d = r at hv ⊢
 obtain ⟨r1,r2⟩:=r
 by_cases c1 : r2 = 0
 case neg =>
  have hv : [] = v:=by rw [← hv]; exact (if_neg c1).symm
  subst hv
  simp [c1,encL,ownF]
 have hv : bldL d.control.l [] 0 = v:=by rw [← hv]; exact (if_pos c1).symm
 simp [c1]
 refine ⟨_,GivesX.arg (visit_x d d.control.l hB [] [] (.f (.sl [] .nil)) 0 [] [] .nil (by simpa using hn) (Nat.le_refl _) hc) (fun w L vals hr=>⟨hr.1,fun j y hj=>?_⟩),?_⟩
 ·match j,hj with
  | 0,hj=>exact hr.2 0 y hj
  | 1,hj =>
   obtain rfl : AV.f (.sl [] .un) = y:=Option.some.inj hj
   obtain ⟨u,h1,h2⟩:=hr.2 1 _ rfl
   exact ⟨u,h1,weak_nil _ _ _ _ h2⟩
  | 2,hj=>exact hr.2 2 y hj
  | 3,hj=>exact hr.2 3 y hj
 rintro _ _ _ ⟨rfl,x,t,rfl,ho,hk⟩
 simp [visH]
 rw [ho.ret,← hv]
 rfl
end Go.Proofs.YtafenffmgpcjcaaGreat
