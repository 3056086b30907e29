/- Texts of the proof: ES1. -/
import Derived.Test.YtafenffmgpcjcaaGreatES0
namespace Go.Proofs.YtafenffmgpcjcaaGreat
open Go.RowKit Go.Proofs.YtafenffmgpcjcaaGreat.Vf
set_option linter.unusedVariables false
set_option linter.unusedSimpArgs false
set_option maxRecDepth 100000
set_option maxHeartbeats 4000000
theorem uFld : runPure Tryz.prog (underlying 124) = some (.struct #[⟨ "Name", 9, 0, false, "", "", 0⟩, ⟨ "Width", 3, 1, false, "", "", 16⟩]) := by kernel_rfl
theorem eqFld0 {T : TV} {x y : Operand} {a b : ByteArray} {c d : Int} : opBin Tryz.prog T .eql 124 x y (.agg [.f (strF a),.f (intF c)]) (.agg [.f (strF b),.f (intF d)]) = some (.f (.sc (.bool (sEq a b && decide (c = d)))))∧opBin Tryz.prog T .neq 124 x y (.agg [.f (strF a),.f (intF c)]) (.agg [.f (strF b),.f (intF d)]) = some (.f (.sc (.bool (!(sEq a b && decide (c = d)))))):=by
 rw [← beq_bytes]
 exact opBin_eq (by kernel_rfl) rfl rfl (pureEq2 9999 uFld (by kernel_rfl) (by decide) (by decide) (by kernel_rfl) (by kernel_rfl) (by kernel_rfl) (by kernel_rfl) (pureEqStr 9998 (by kernel_rfl)) (pureEqInt (k':=.i64) 9998 (by kernel_rfl)))
@[simp] theorem eqFld {T : TV} {x y : Operand} {a b : ByteArray} {c d : Int} : opBin Tryz.prog T .eql 124 x y (.agg [.f (strF a),.f (intF c)]) (.agg [.f (strF b),.f (intF d)]) = some (.f (.sc (.bool (sEq a b && decide (c = d))))):=eqFld0.1
@[simp] theorem neqFld {T : TV} {x y : Operand} {a b : ByteArray} {c d : Int} : opBin Tryz.prog T .neq 124 x y (.agg [.f (strF a),.f (intF c)]) (.agg [.f (strF b),.f (intF d)]) = some (.f (.sc (.bool (!(sEq a b && decide (c = d)))))):=eqFld0.2
theorem wInv_g (w : Int) : Gives Tryz.prog 96 [intF w] (boolF (badW w)):=by
 refine Gives.of mixed Tryz.func96 rfl rfl rfl (by kernel_rfl) ?_
 by_cases c1 : w < 1 <;> by_cases c2 : 32 < w <;> simp [c1,c2,badW]
theorem when_g (q : Bool) (e : Int) : Gives Tryz.prog 88 [boolF q,intF e] (intF (if q then e else 0)):=by
 refine Gives.of mixed Tryz.func88 rfl rfl rfl (by kernel_rfl) ?_
 cases q <;> simp
theorem sum_g (l : List Int) (c : Cap) (hl : l.length < 100000) (hx : ∀ x ∈ l,-100000 ≤ x∧x ≤ 100000) : Gives Tryz.prog 142 [.sl (encL intF l) c] (intF (isum l)):=by
 refine Gives.of mixed Tryz.func142 rfl rfl rfl (by kernel_rfl) ?_
 simp
 have hb : ∀ k,k ≤ l.length→-100000 * (k : Int) ≤ isum (l.take k)∧isum (l.take k) ≤ 100000 * k:=by
  intro k
  induction l generalizing k with
  | nil=>intro hk; simp at hk; subst hk; simp [isum]
  | cons a l ih =>
   intro hk
   cases k with
   | zero=>simp [isum]
   | succ k =>
    have h1:=ih (by simp at hl; omega) (fun x h=>hx x (.tail _ h)) k (by simpa using hk)
    have h2:=hx a (.head _)
    simp only [List.take_succ_cons,isum]
    omega
 have hs : ∀ k x,l[k]? = some x→isum (l.take (k + 1)) = isum (l.take k) + x:=by
  intro k x hk
  clear hb hx hl
  induction l generalizing k with
  | nil=>simp at hk
  | cons a l ih =>
   cases k with
   | zero=>simp at hk; simp [isum,hk]
   | succ k=>have:=ih k (by simpa using hk); simp only [List.take_succ_cons,isum,this]; omega
 refine forX mixed l.length (fun k s=>Vf.Sl [(3,.f (intF (isum (l.take k)))),(6,.f (.sl (encL intF l) c)),(7,.f (intF l.length)),(8,.f (intF k))] 17 [] [] s) (by kernel_rfl) (Sl.of rfl rfl rfl) ?_
 rintro k ⟨t,h,kk⟩ hk ⟨rfl,rfl,f,rfl⟩
 by_cases hlt : k < l.length
 ·obtain ⟨x,hx1,hx'⟩:=nth_of hlt
  have hw:=wrap64 (x:=(k : Int) + 1) (by omega) (by omega)
  have b1:=hb k hk
  have b2:=hx x (List.mem_of_getElem? hx')
  have hw2:=wrap64 (x:=isum (l.take k) + x) (by omega) (by omega)
  simp [hlt,hx1,hw,hw2]
  rw [← hs k x hx']
  exact Sl.of rfl rfl rfl
 ·obtain rfl : k = l.length:=by omega
  simp
def widI (h : HdrD) (i : Nat) (s : St) : Prop:=∃ g k x tk,OwnT k (encL intF (mapTo (·.width) h.fields.l i)) 1 x tk∧Vf.Sl [(3,x),(7,.f (sl (encL fFld h.fields.l))),(8,.f (intF h.fields.l.length)),(9,.f (intF i))] 20 g k s
theorem widths_g (h : HdrD) (hl : h.fields.l.length < 100000) : Gives Tryz.prog 143 [fHdr h] (ownF (encL intF (h.fields.l.map (·.width)))):=by
 refine Gives.of mixed Tryz.func143 rfl rfl rfl (by kernel_rfl) ?_
 simp
 refine forX mixed h.fields.l.length (widI h) (by kernel_rfl) ⟨_,_,_,0,.nil,Sl.of rfl rfl rfl⟩ ?_
 rintro i ⟨ts,hh,kk⟩ hi ⟨g,k,x,tk,ho,rfl,rfl,f,rfl⟩
 by_cases hlt : i < h.fields.l.length
 ·obtain ⟨l,hl1,hl'⟩:=nth_of hlt
  have hw:=wrap64 (x:=(i : Int) + 1) (by omega) (by omega)
  simp [hlt,hl1,hw,-opAppend]
  obtain ⟨t',k',e,ho',_⟩:=append_own ty29 ty3 (by simp) ho (y:=.f (.sl [intF l.width] .full)) rfl (by simp) (by simp) (by have:=mapTo_le (f:=fun x : FldD=>x.width) (l:=h.fields.l) (i:=i); simp; omega) (by have:=mapTo_le (f:=fun x : FldD=>x.width) (l:=h.fields.l) (i:=i); simp; omega)
  rw [e]
  simp [hw]
  exact ⟨_,_,_,_,by rw [mapTo_next hl',← encL_snoc]; exact ho',Sl.of rfl rfl rfl⟩
 ·obtain rfl : i = h.fields.l.length:=by omega
  simp [hlt]
  rw [ho.ret,mapTo_all]
def okWs (l : List Int) : Bool:=l.all fun w=>!badW w
theorem bvalid_g (l : List Int) (c : Cap) (hl : l.length < 2^62) : Gives Tryz.prog 199 [.sl (encL intF l) c] (boolF (okWs l)):=by
 refine Gives.of mixed Tryz.func199 rfl rfl rfl (by kernel_rfl) ?_
 simp
 refine forX mixed l.length (fun k s=>noneT badW l k∧Vf.Sl [(5,.f (.sl (encL intF l) c)),(6,.f (intF l.length)),(7,.f (intF k))] 18 [] [] s) (by kernel_rfl) ⟨.zero,Sl.of rfl rfl rfl⟩ ?_
 rintro k ⟨t,h,kk⟩ hk ⟨hn,rfl,rfl,f,rfl⟩
 by_cases hlt : k < l.length
 ·obtain ⟨x,hx,hx'⟩:=nth_of hlt
  have hw:=wrap64 (x:=(k : Int) + 1) (by omega) (by omega)
  have hit : badW x = true→okWs l = false:=fun h=>by
   have:=any_hit hx' h
   unfold okWs
   rw [List.all_eq_false]
   obtain ⟨y,hy,h2⟩:=List.any_eq_true.1 this
   exact ⟨y,hy,by simp [h2]⟩
  by_cases c1 : x < 1
  ·simp [hlt,hx,c1,hit (by simp [badW,c1])]
  ·by_cases c2 : 32 < x
   ·simp [hlt,hx,c1,c2,hit (by simp [badW,c2])]
   ·simp [hlt,hx,c1,c2,hw]
    exact ⟨hn.next hx' (by simp [badW,c1,c2]),Sl.of rfl rfl rfl⟩
 ·have:=hn.all hlt
  have : okWs l = true:=by
   unfold okWs
   rw [List.all_eq_true]
   intro x hx
   have:=List.any_eq_false.1 this x hx
   simpa using this
  simp [hlt,this]
def maskM (w : Int) : Int:=if badW w then 0 else 2 ^ w.toNat - 1
theorem mask_shr {w : Int} (h : badW w = false) : shrI .u32 4294967295 (32 - w) = 2 ^ w.toNat - 1:=by
 simp only [badW,Bool.or_eq_false_iff,decide_eq_false_iff_not] at h
 obtain ⟨n,rfl⟩ : ∃ n : Nat,w = n:=⟨w.toNat,by omega⟩
 have h1 : n ≤ 32:=by omega
 have h2 : 1 ≤ n:=by omega
 clear h
 have : ∀ n : Nat,n ≤ 32→shrI .u32 4294967295 (32 - (n : Int)) = 2 ^ (n : Int).toNat - 1:=by decide
 exact this n h1
theorem mask_g (w : Int) : Gives Tryz.prog 145 [intF w] (u32F (maskM w)):=by
 refine Gives.of mixed Tryz.func145 rfl rfl rfl (by kernel_rfl) ?_
 simp
 refine call_g (bvalid_g [w] .full (by simp)) ?_
 have e : okWs [w] = !badW w:=by simp [okWs]
 rw [e]
 cases h : badW w with
 | true=>simp [maskM,h]
 | false =>
  have h':=h
  simp only [badW,Bool.or_eq_false_iff,decide_eq_false_iff_not] at h'
  have hw:=wrap64 (x:=32 - w) (by omega) (by omega)
  have h3 : ¬ (32 - w < 0):=by omega
  simp [hw,h3,maskM,h,mask_shr h]
theorem mask_zero {w : Int} : maskM w = 0 ↔ badW w = true:=by
 unfold maskM
 cases h : badW w with
 | true=>simp
 | false =>
  simp only [badW,Bool.or_eq_false_iff,decide_eq_false_iff_not] at h
  have : (2 : Int) ^ w.toNat ≥ 2:=by
   obtain ⟨n,hn⟩ : ∃ n,w.toNat = n + 1:=⟨w.toNat - 1,by omega⟩
   rw [hn,Int.pow_succ]
   have : (0 : Int) < 2 ^ n:=Int.pow_pos (by decide)
   omega
  simp
  omega
theorem sized_g (r : RegD) : Gives Tryz.prog 146 [fReg r] (boolF (decide (1 ≤ r.size) && decide (r.size ≤ 64))):=by
 refine Gives.of mixed Tryz.func146 rfl rfl rfl (by kernel_rfl) ?_
 by_cases c1 : 1 ≤ r.size <;> by_cases c2 : r.size ≤ 64 <;> simp [c1,c2]
theorem reg_g (r : RegD) (hn : r.name.size < 2^62) : Gives Tryz.prog 99 [fReg r] (intF (regCheck r)):=by
 refine Gives.of mixed Tryz.func99 rfl rfl rfl (by kernel_rfl) ?_
 simp
 refine call_g (ident_g r.name hn) ?_
 cases h1 : ident r.name with
 | false=>simp [regCheck,h1]
 | true =>
  simp
  refine call_g (mask_g r.width) ?_
  cases h2 : badW r.width with
  | true=>simp [mask_zero.2 h2,regCheck,h1,h2]
  | false =>
   have : ¬ maskM r.width = 0:=fun h=>by rw [mask_zero.1 h] at h2; cases h2
   simp [this]
   refine call_g (sized_g r) ?_
   by_cases c1 : 1 ≤ r.size <;> by_cases c2 : r.size ≤ 64 <;> simp [c1,c2,regCheck,h1,h2]
def cHdr (h : HdrD) : List AV:=[.f (strF h.name),.f (sl (encL fFld h.fields.l))]
def fldHit (l : List FldD) (i : Nat) : Bool:=(hdrField l i).isSome
def hck1 (h : HdrD) (i : Nat) (s : St) : Prop:=noneT (fldHit h.fields.l) (List.range h.fields.l.length) i∧∃ g,Vf.Sl [(1,.ref 0 0),(23,.f (sl (encL fFld h.fields.l))),(24,.f (intF h.fields.l.length)),(25,.f (intF i))] 64 (cHdr h :: g) [] s
def hck2 (h : HdrD) (i : Nat) (x : FldD) (g : List (List AV)) (k : Nat) (s : St) : Prop:=noneT (fun y=>sEq y.name x.name) (h.fields.l.take i) k∧∃ g2,Vf.Sl [(1,.ref 0 0),(3,.f (intF i)),(4,.ref (g.length + 1) 0),(23,.f (sl (encL fFld h.fields.l))),(24,.f (intF h.fields.l.length)),(25,.f (intF i)),(45,.f (sl (encL fFld (h.fields.l.take i)))),(46,.f (intF i)),(47,.f (intF k))] 64 (cHdr h :: (g ++ [.f (strF x.name),.f (intF x.width)] :: g2)) [] s
theorem range_at {n j : Nat} (h : j < n) : (List.range n)[j]? = some j:=List.getElem?_range h
theorem scan_of {E : Type} {n : Nat} {f : Nat→Option E} (h : noneT (fun i=>(f i).isSome) (List.range n) n) : scan n f = none :=
 scan_none fun i hi=>by simpa using h i i hi (range_at hi)
theorem scan_at {E : Type} {n k : Nat} {f : Nat→Option E} {e : E} (h : noneT (fun i=>(f i).isSome) (List.range n) k) (hk : k < n) (he : f k = some e) : scan n f = some e :=
 scan_some hk (fun i hi=>by simpa using h i i hi (range_at (by omega))) he
theorem sliceF {t e : TypeId} {T : TV} {α : Type} {enc : α→FV} {s b : Nat} {z : List AV} {ety : Ty} (ht : T t = some ⟨s,b,.slice e,z⟩) (he : T e = some ety) (hz : ety.size ≠ 0) (hc : ∀ x,(enc x).cells.length = ety.size) {l : List α} {c : Cap} {i : Nat} (hi : i ≤ l.length) :
  opSlice T t (.f (.sl (encL enc l) c)) none (some (.f (.sc (.int .i64 i)))) none = some (.f (sl (encL enc (l.take i)))):=by
 simp only [opSlice,ht,he,optIdx,idx,Int.natCast_nonneg,if_true,Int.toNat_natCast]
 rw [if_pos ⟨by omega,by simpa using hi,by simp [encL,hc],hz⟩]
 simp
theorem isum_small {l : List Int} (h : ∀ x ∈ l,1 ≤ x∧x ≤ 32) : 0 ≤ isum l∧isum l ≤ 32 * l.length:=by
 induction l with
 | nil=>simp [isum]
 | cons a l ih =>
  have h1:=ih fun x hx=>h x (.tail _ hx)
  have h2:=h a (.head _)
  simp only [isum,List.length_cons]
  omega
theorem hdr_g (h : HdrD) (hn : h.name.size < 2^62) (hs : ∀ x ∈ h.fields.l,x.name.size < 2^62) : Gives Tryz.prog 92 [fHdr h] (intF (hdrCheck h)):=by
 refine Gives.of mixed Tryz.func92 rfl rfl rfl (by kernel_rfl) ?_
 simp
 refine call_g (ident_g h.name hn) ?_
 cases h1 : ident h.name with
 | false=>simp [hdrCheck,h1]
 | true =>
 by_cases c1 : h.fields.l.length = 0
 ·simp [hdrCheck,h1,c1]
 by_cases c2 : 12 < (h.fields.l.length : Int)
 ·have c2' : 12 < h.fields.l.length:=by omega
  simp [hdrCheck,h1,c1,c2,c2']
 have c2' : ¬ 12 < h.fields.l.length:=by omega
 simp [c1,c2]
 refine forX mixed h.fields.l.length (hck1 h) (by kernel_rfl) ⟨.zero,[],Sl.of rfl rfl rfl⟩ ?_
 rintro i ⟨ts,hh,kk⟩ hi ⟨hno,g,rfl,rfl,f,rfl⟩
 by_cases hlt : i < h.fields.l.length
 ·obtain ⟨x,hx,hx'⟩:=nth_of hlt
  have hw:=wrap64 (x:=(i : Int) + 1) (by omega) (by omega)
  have hf : hdrField h.fields.l i = if !ident x.name then some 6 else if badW x.width then some 10 else if (h.fields.l.take i).any (fun g=>sEq g.name x.name) then some 7 else none:=by simp [hdrField,hx']
  have out : ∀ e,hdrField h.fields.l i = some e→hdrCheck h = e:=fun e he=>by
   simp only [hdrCheck,h1,c1,c2',scan_at hno hlt he,Bool.not_true,Bool.false_eq_true,if_false]
  simp [hlt,hx,cHdr]
  refine call_g (ident_g x.name (hs x (List.mem_of_getElem? hx'))) ?_
  cases i1 : ident x.name with
  | false=>simp [out 6 (by rw [hf,i1]; rfl)]
  | true =>
  by_cases w1 : x.width < 1
  ·simp [w1,out 10 (by rw [hf,i1]; simp [badW,w1])]
  by_cases w2 : 32 < x.width
  ·simp [w1,w2,out 10 (by rw [hf,i1]; simp [badW,w2])]
  have wb : badW x.width = false:=by simp [badW,w1,w2]
  have hmin : min i h.fields.l.length = i:=by omega
  simp [w1,w2]
  rw [sliceF (enc:=fFld) (l:=h.fields.l) (c:=.un) (i:=i) ty23 ty124 (by simp) (fun _=>rfl) (Nat.le_of_lt hlt)]
  simp [hmin]
  refine forX mixed i (hck2 h i x g) (by kernel_rfl) ⟨.zero,[],Sl.of rfl rfl rfl⟩ ?_
  rintro k ⟨ts,hh,kk⟩ hk ⟨hno2,g2,rfl,rfl,f,rfl⟩
  by_cases hkt : k < i
  ·obtain ⟨y,hy,hy'⟩:=nth_of (show k < (h.fields.l.take i).length by simp; omega)
   have hw':=wrap64 (x:=(k : Int) + 1) (by omega) (by omega)
   cases he : sEq y.name x.name with
   | true =>
    have:=any_hit (p:=fun y : FldD=>sEq y.name x.name) hy' he
    simp [hkt,hy,cHdr,he,hw',hw]
    exact (out 7 (by rw [hf,i1,wb,this]; rfl)).symm
   | false =>
    simp [hkt,hy,cHdr,he,hw',hw]
    exact ⟨hno2.next hy' he,_,Sl.of rfl rfl rfl⟩
  ·obtain rfl : k = i:=by omega
   have:=hno2.all (by simp; omega)
   simp [cHdr,hw]
   exact ⟨hno.next (range_at hlt) (by simp [fldHit,hf,i1,wb,this]),_,Sl.of rfl rfl rfl⟩
 ·obtain rfl : i = h.fields.l.length:=by omega
  have hsc:=scan_of hno
  have hall : ∀ x ∈ h.fields.l,badW x.width = false:=fun x hx=>by
   obtain ⟨j,hj,rfl⟩:=List.getElem_of_mem hx
   have:=hno j j hj (range_at hj)
   simp only [fldHit,hdrField,List.getElem?_eq_getElem hj] at this
   cases hb : badW (h.fields.l[j]).width with
   | false=>rfl
   | true=>rw [hb] at this; revert this; cases ident (h.fields.l[j]).name <;> simp
  have hr : ∀ x ∈ h.fields.l.map (·.width),1 ≤ x∧x ≤ 32:=fun x hx=>by
   obtain ⟨y,hy,rfl⟩:=List.mem_map.1 hx
   have:=hall y hy
   simp only [badW,Bool.or_eq_false_iff,decide_eq_false_iff_not] at this
   omega
  simp [hlt,cHdr]
  refine call_g (widths_g h (by omega)) ?_
  obtain ⟨c,hc⟩ : ∃ c,ownF (encL intF (h.fields.l.map (·.width))) = .sl (encL intF (h.fields.l.map (·.width))) c:=by
   unfold ownF
   split
   ·rename_i hq; rw [hq]; exact ⟨_,rfl⟩
   ·exact ⟨_,rfl⟩
  rw [hc]
  try simp
  refine call_g (sum_g _ c (by simp; omega) (fun x hx=>by have:=hr x hx; omega)) ?_
  have hb:=isum_small hr
  have hmod : (isum (h.fields.l.map (·.width))).tmod 8 = sumW h.fields.l % 8:=Int.tmod_eq_emod_of_nonneg hb.1
  have hch : hdrCheck h = if sumW h.fields.l % 8 = 0 then 0 else 10:=by
   simp only [hdrCheck,h1,c1,c2',hsc,Bool.not_true,Bool.false_eq_true,if_false]
  by_cases hz : sumW h.fields.l % 8 = 0
  ·simp [hmod,hz,hch]
  ·simp [hmod,hz,hch]
theorem ownF_is (l : List FV) : ∃ c,ownF l = .sl l c:=by
 unfold ownF
 split
 ·rename_i h; subst h; exact ⟨_,rfl⟩
 ·exact ⟨_,rfl⟩
theorem nmHdr_g (x : HdrD) : Gives Tryz.prog 91 [fHdr x] (strF x.name):=by
 refine Gives.of mixed Tryz.func91 rfl rfl rfl (by kernel_rfl) ?_
 simp
def nmsHdrI (l : List HdrD) (i : Nat) (s : St) : Prop:=∃ g k x tk,OwnT k (encL strF (mapTo (·.name) l i)) 1 x tk∧Vf.Sl [(1,.f (.fn 91 [])),(5,x),(8,.f (sl (encL fHdr l))),(9,.f (intF l.length)),(10,.f (intF i))] 22 g k s
theorem nmsHdr_g (l : List HdrD) (hl : l.length < 100000) : Gives Tryz.prog 90 [sl (encL fHdr l),.fn 91 []] (ownF (encL strF (l.map (·.name)))):=by
 refine Gives.of mixed Tryz.func90 rfl rfl rfl (by kernel_rfl) ?_
 simp
 refine forX mixed l.length (nmsHdrI l) (by kernel_rfl) ⟨_,_,_,0,.nil,Sl.of rfl rfl rfl⟩ ?_
 rintro i ⟨ts,hh,kk⟩ hi ⟨g,k,x,tk,ho,rfl,rfl,f,rfl⟩
 by_cases hlt : i < l.length
 ·obtain ⟨a,ha,ha'⟩:=nth_of hlt
  have hw:=wrap64 (x:=(i : Int) + 1) (by omega) (by omega)
  have hle:=mapTo_le (f:=fun x : HdrD=>x.name) (l:=l) (i:=i)
  simp [hlt,ha,hw,-opAppend]
  refine call_g (nmHdr_g a) ?_
  simp [-opAppend]
  obtain ⟨t',k',e,ho',_⟩:=append_own ty152 ty9 (by simp) ho (y:=.f (.sl [strF a.name] .full)) rfl (by simp) (by simp) (by simp; omega) (by simp; omega)
  rw [e]
  simp [hw]
  exact ⟨_,_,_,_,by rw [mapTo_next ha',← encL_snoc]; exact ho',Sl.of rfl rfl rfl⟩
 ·obtain rfl : i = l.length:=by omega
  simp [hlt]
  rw [ho.ret,mapTo_all]
theorem nmFld_g (x : FldD) : Gives Tryz.prog 95 [fFld x] (strF x.name):=by
 refine Gives.of mixed Tryz.func95 rfl rfl rfl (by kernel_rfl) ?_
 simp
def nmsFldI (l : List FldD) (i : Nat) (s : St) : Prop:=∃ g k x tk,OwnT k (encL strF (mapTo (·.name) l i)) 1 x tk∧Vf.Sl [(1,.f (.fn 95 [])),(5,x),(8,.f (sl (encL fFld l))),(9,.f (intF l.length)),(10,.f (intF i))] 22 g k s
theorem nmsFld_g (l : List FldD) (hl : l.length < 100000) : Gives Tryz.prog 94 [sl (encL fFld l),.fn 95 []] (ownF (encL strF (l.map (·.name)))):=by
 refine Gives.of mixed Tryz.func94 rfl rfl rfl (by kernel_rfl) ?_
 simp
 refine forX mixed l.length (nmsFldI l) (by kernel_rfl) ⟨_,_,_,0,.nil,Sl.of rfl rfl rfl⟩ ?_
 rintro i ⟨ts,hh,kk⟩ hi ⟨g,k,x,tk,ho,rfl,rfl,f,rfl⟩
 by_cases hlt : i < l.length
 ·obtain ⟨a,ha,ha'⟩:=nth_of hlt
  have hw:=wrap64 (x:=(i : Int) + 1) (by omega) (by omega)
  have hle:=mapTo_le (f:=fun x : FldD=>x.name) (l:=l) (i:=i)
  simp [hlt,ha,hw,-opAppend]
  refine call_g (nmFld_g a) ?_
  simp [-opAppend]
  obtain ⟨t',k',e,ho',_⟩:=append_own ty152 ty9 (by simp) ho (y:=.f (.sl [strF a.name] .full)) rfl (by simp) (by simp) (by simp; omega) (by simp; omega)
  rw [e]
  simp [hw]
  exact ⟨_,_,_,_,by rw [mapTo_next ha',← encL_snoc]; exact ho',Sl.of rfl rfl rfl⟩
 ·obtain rfl : i = l.length:=by omega
  simp [hlt]
  rw [ho.ret,mapTo_all]
theorem nmReg_g (x : RegD) : Gives Tryz.prog 98 [fReg x] (strF x.name):=by
 refine Gives.of mixed Tryz.func98 rfl rfl rfl (by kernel_rfl) ?_
 simp
def nmsRegI (l : List RegD) (i : Nat) (s : St) : Prop:=∃ g k x tk,OwnT k (encL strF (mapTo (·.name) l i)) 1 x tk∧Vf.Sl [(1,.f (.fn 98 [])),(5,x),(8,.f (sl (encL fReg l))),(9,.f (intF l.length)),(10,.f (intF i))] 22 g k s
theorem nmsReg_g (l : List RegD) (hl : l.length < 100000) : Gives Tryz.prog 97 [sl (encL fReg l),.fn 98 []] (ownF (encL strF (l.map (·.name)))):=by
 refine Gives.of mixed Tryz.func97 rfl rfl rfl (by kernel_rfl) ?_
 simp
 refine forX mixed l.length (nmsRegI l) (by kernel_rfl) ⟨_,_,_,0,.nil,Sl.of rfl rfl rfl⟩ ?_
 rintro i ⟨ts,hh,kk⟩ hi ⟨g,k,x,tk,ho,rfl,rfl,f,rfl⟩
 by_cases hlt : i < l.length
 ·obtain ⟨a,ha,ha'⟩:=nth_of hlt
  have hw:=wrap64 (x:=(i : Int) + 1) (by omega) (by omega)
  have hle:=mapTo_le (f:=fun x : RegD=>x.name) (l:=l) (i:=i)
  simp [hlt,ha,hw,-opAppend]
  refine call_g (nmReg_g a) ?_
  simp [-opAppend]
  obtain ⟨t',k',e,ho',_⟩:=append_own ty152 ty9 (by simp) ho (y:=.f (.sl [strF a.name] .full)) rfl (by simp) (by simp) (by simp; omega) (by simp; omega)
  rw [e]
  simp [hw]
  exact ⟨_,_,_,_,by rw [mapTo_next ha',← encL_snoc]; exact ho',Sl.of rfl rfl rfl⟩
 ·obtain rfl : i = l.length:=by omega
  simp [hlt]
  rw [ho.ret,mapTo_all]
theorem nmAct_g (x : ActD) : Gives Tryz.prog 101 [fAct x] (strF x.name):=by
 refine Gives.of mixed Tryz.func101 rfl rfl rfl (by kernel_rfl) ?_
 simp
def nmsActI (l : List ActD) (i : Nat) (s : St) : Prop:=∃ g k x tk,OwnT k (encL strF (mapTo (·.name) l i)) 1 x tk∧Vf.Sl [(1,.f (.fn 101 [])),(5,x),(8,.f (sl (encL fAct l))),(9,.f (intF l.length)),(10,.f (intF i))] 22 g k s
theorem nmsAct_g (l : List ActD) (hl : l.length < 100000) : Gives Tryz.prog 100 [sl (encL fAct l),.fn 101 []] (ownF (encL strF (l.map (·.name)))):=by
 refine Gives.of mixed Tryz.func100 rfl rfl rfl (by kernel_rfl) ?_
 simp
 refine forX mixed l.length (nmsActI l) (by kernel_rfl) ⟨_,_,_,0,.nil,Sl.of rfl rfl rfl⟩ ?_
 rintro i ⟨ts,hh,kk⟩ hi ⟨g,k,x,tk,ho,rfl,rfl,f,rfl⟩
 by_cases hlt : i < l.length
 ·obtain ⟨a,ha,ha'⟩:=nth_of hlt
  have hw:=wrap64 (x:=(i : Int) + 1) (by omega) (by omega)
  have hle:=mapTo_le (f:=fun x : ActD=>x.name) (l:=l) (i:=i)
  simp [hlt,ha,hw,-opAppend]
  refine call_g (nmAct_g a) ?_
  simp [-opAppend]
  obtain ⟨t',k',e,ho',_⟩:=append_own ty152 ty9 (by simp) ho (y:=.f (.sl [strF a.name] .full)) rfl (by simp) (by simp) (by simp; omega) (by simp; omega)
  rw [e]
  simp [hw]
  exact ⟨_,_,_,_,by rw [mapTo_next ha',← encL_snoc]; exact ho',Sl.of rfl rfl rfl⟩
 ·obtain rfl : i = l.length:=by omega
  simp [hlt]
  rw [ho.ret,mapTo_all]
theorem nmTbl_g (x : TblD) : Gives Tryz.prog 104 [fTbl x] (strF x.name):=by
 refine Gives.of mixed Tryz.func104 rfl rfl rfl (by kernel_rfl) ?_
 simp
def nmsTblI (l : List TblD) (i : Nat) (s : St) : Prop:=∃ g k x tk,OwnT k (encL strF (mapTo (·.name) l i)) 1 x tk∧Vf.Sl [(1,.f (.fn 104 [])),(5,x),(8,.f (sl (encL fTbl l))),(9,.f (intF l.length)),(10,.f (intF i))] 22 g k s
theorem nmsTbl_g (l : List TblD) (hl : l.length < 100000) : Gives Tryz.prog 103 [sl (encL fTbl l),.fn 104 []] (ownF (encL strF (l.map (·.name)))):=by
 refine Gives.of mixed Tryz.func103 rfl rfl rfl (by kernel_rfl) ?_
 simp
 refine forX mixed l.length (nmsTblI l) (by kernel_rfl) ⟨_,_,_,0,.nil,Sl.of rfl rfl rfl⟩ ?_
 rintro i ⟨ts,hh,kk⟩ hi ⟨g,k,x,tk,ho,rfl,rfl,f,rfl⟩
 by_cases hlt : i < l.length
 ·obtain ⟨a,ha,ha'⟩:=nth_of hlt
  have hw:=wrap64 (x:=(i : Int) + 1) (by omega) (by omega)
  have hle:=mapTo_le (f:=fun x : TblD=>x.name) (l:=l) (i:=i)
  simp [hlt,ha,hw,-opAppend]
  refine call_g (nmTbl_g a) ?_
  simp [-opAppend]
  obtain ⟨t',k',e,ho',_⟩:=append_own ty152 ty9 (by simp) ho (y:=.f (.sl [strF a.name] .full)) rfl (by simp) (by simp) (by simp; omega) (by simp; omega)
  rw [e]
  simp [hw]
  exact ⟨_,_,_,_,by rw [mapTo_next ha',← encL_snoc]; exact ho',Sl.of rfl rfl rfl⟩
 ·obtain rfl : i = l.length:=by omega
  simp [hlt]
  rw [ho.ret,mapTo_all]
theorem idn_g (s : ByteArray) (hs : s.size < 2^62) : Gives Tryz.prog 89 [strF s] (boolF (!ident s)):=by
 refine Gives.of mixed Tryz.func89 rfl rfl rfl (by kernel_rfl) ?_
 simp
 refine call_g (ident_g s hs) ?_
 simp
def hasS (l : List ByteArray) (s : ByteArray) : Bool:=l.any fun t=>sEq s t
theorem index_s (l : List ByteArray) (s : ByteArray) (c : Cap) (hl : l.length < 2^62) : ∃ r : Int,Gives Tryz.prog 198 [.sl (encL strF l) c,strF s] (intF r)∧(0 ≤ r ↔ hasS l s = true):=by
 refine ⟨if hasS l s then ((l.findIdx fun t=>sEq s t : Nat) : Int) else -1,?_,?_⟩
 case refine_2=>split <;> simp_all
 refine Gives.of mixed Tryz.func198 rfl rfl rfl (by kernel_rfl) ?_
 simp
 refine forX mixed l.length (fun k st=>noneT (fun t=>sEq s t) l k∧Vf.Sl [(0,.f (.sl (encL strF l) c)),(1,.f (strF s)),(6,.f (.sl (encL strF l) c)),(7,.f (intF l.length)),(8,.f (intF k))] 19 [] [] st) (by kernel_rfl) ⟨.zero,Sl.of rfl rfl rfl⟩ ?_
 rintro k ⟨t,h,kk⟩ hk ⟨hn,rfl,rfl,f,rfl⟩
 by_cases hlt : k < l.length
 ·obtain ⟨x,hx,hx'⟩:=nth_of hlt
  have hw:=wrap64 (x:=(k : Int) + 1) (by omega) (by omega)
  cases he : sEq s x with
  | true =>
   have h1 : hasS l s = true:=any_hit (p:=fun t=>sEq s t) hx' he
   have h2 : l.findIdx (fun t=>sEq s t) = k:=by
    have hk1 : l[k] = x:=by rw [List.getElem?_eq_getElem hlt] at hx'; simpa using hx'
    exact (List.findIdx_eq hlt).2 ⟨by rw [hk1]; exact he,fun j hj=>by
     have:=hn j l[j] hj (List.getElem?_eq_getElem _)
     simpa using this⟩
   simp [hlt,hx,he,h1,h2]
  | false =>
   simp [hlt,hx,he,hw]
   exact ⟨hn.next hx' he,Sl.of rfl rfl rfl⟩
 ·have h1 : hasS l s = false:=hn.all hlt
  simp [hlt,h1]
theorem has_s (l : List ByteArray) (s : ByteArray) (c : Cap) (hl : l.length < 2^62) : Gives Tryz.prog 144 [.sl (encL strF l) c,strF s] (boolF (hasS l s)):=by
 refine Gives.of mixed Tryz.func144 rfl rfl rfl (by kernel_rfl) ?_
 obtain ⟨r,h1,h2⟩:=index_s l s c hl
 simp
 refine call_g (h1) ?_
 by_cases h : 0 ≤ r
 ·simp [h,h2.1 h]
 ·have : hasS l s = false:=by simpa using fun q=>h (h2.2 q)
  simp [h,this]
theorem repeated_g (l : List ByteArray) (i : Nat) (s : ByteArray) (c : Cap) (hl : l.length < 2^62) (hi : l[i]? = some s) : Gives Tryz.prog 93 [.sl (encL strF l) c,intF i] (boolF (hasS (l.take i) s)):=by
 refine Gives.of mixed Tryz.func93 rfl rfl rfl (by kernel_rfl) ?_
 have hlt : i < l.length:=(List.getElem?_eq_some_iff.1 hi).1
 have hn : nth l i = some s:=hi
 simp
 rw [sliceF (enc:=strF) (l:=l) (c:=c) (i:=i) ty152 ty9 (by simp) (fun _=>rfl) (Nat.le_of_lt hlt)]
 simp [hlt,hn]
 refine call_g (has_s (l.take i) s .un (by simp; omega)) ?_
 simp
theorem req_body : HasBody Tryz.prog 87:=⟨_,Tryz.func87,rfl,by decide⟩
theorem req0_g (p i s : Int) : Gives Tryz.prog 87 [intF 0,intF p,intF i,intF s] (.tup []) :=
 Gives.of_sc (vs:=[.int .i64 0,.int .i64 p,.int .i64 i,.int .i64 s]) req_body (fun w=>(require_no p i s w).mono fun e w' h=>⟨h.1,by rw [← h.2]; exact Below.refl _ _⟩) (fun w F=>.tup [] #[] (fun _=>undef) rfl (by simp) (by simp))
theorem req1_p (c p i s : Int) (hc : c ≠ 0) : Panics Tryz.prog 87 [intF c,intF p,intF i,intF s] (failV c p i s) :=
 Panics.of_sc (vs:=[.int .i64 c,.int .i64 p,.int .i64 i,.int .i64 s]) req_body (fun w=>(require_yes c p i s hc w).mono fun e w' h=>⟨h.1,by rw [← h.2]; exact Below.refl _ _⟩)
def diagO : Option Diag→Out
 | none=>.ret (.tup [])
 | some (c,p,i,s)=>.pan (failV c p i s)
structure NmOk (d : PrgD) : Prop where
 nm : d.name.size < 2^62
 headers : ∀ h ∈ d.headers.l,h.name.size < 2^62∧∀ x ∈ h.fields.l,x.name.size < 2^62
 meta_ : ∀ x ∈ d.meta_.l,x.name.size < 2^62
 regs : ∀ x ∈ d.regs.l,x.name.size < 2^62
 acts : ∀ x ∈ d.acts.l,x.name.size < 2^62∧∀ y ∈ x.params.l,y.name.size < 2^62
 tables : ∀ x ∈ d.tables.l,x.name.size < 2^62
 states : ∀ x ∈ d.states.l,x.name.size < 2^62
theorem limits_g (d : PrgD) (hn : NmOk d) : Outs Tryz.prog 50 [fPrg d] (diagO (prgLimits d)):=by
 refine Outs.of mixed Tryz.func50 rfl rfl rfl (by kernel_rfl) ?_
 simp [fPrg,cPrg]
 refine call_g (idn_g d.name hn.nm) ?_
 simp
 refine call_g (when_g _ 6) ?_
 simp
 cases h1 : ident d.name with
 | false=>exact call_p (req1_p 6 0 0 0 (by decide)) (by simp [prgLimits,firstD,req,h1,diagO])
 | true =>
 refine call_g (req0_g 0 0 0) ?_
 simp
 refine call_g (when_g _ 12) ?_
 simp
 by_cases c1 : 8 < d.headers.l.length
 ·have c1' : 8 < (d.headers.l.length : Int):=by omega
  simp only [c1',if_true]
  exact call_p (req1_p 12 0 1 0 (by decide)) (by simp [prgLimits,firstD,req,h1,diagO,c1])
 have c1' : ¬ 8 < (d.headers.l.length : Int):=by omega
 simp only [c1',if_false]
 refine call_g (req0_g 0 1 0) ?_
 simp
 refine call_g (when_g _ 12) ?_
 simp
 by_cases c2 : 4 < d.regs.l.length
 ·have c2' : 4 < (d.regs.l.length : Int):=by omega
  simp only [c2',if_true]
  exact call_p (req1_p 12 0 3 0 (by decide)) (by simp [prgLimits,firstD,req,h1,diagO,c1,c2])
 have c2' : ¬ 4 < (d.regs.l.length : Int):=by omega
 simp only [c2',if_false]
 refine call_g (req0_g 0 3 0) ?_
 simp
 refine call_g (when_g _ 12) ?_
 simp
 by_cases c3 : 16 < d.acts.l.length
 ·have c3' : 16 < (d.acts.l.length : Int):=by omega
  simp only [c3',if_true]
  exact call_p (req1_p 12 0 4 0 (by decide)) (by simp [prgLimits,firstD,req,h1,diagO,c1,c2,c3])
 have c3' : ¬ 16 < (d.acts.l.length : Int):=by omega
 simp only [c3',if_false]
 refine call_g (req0_g 0 4 0) ?_
 simp
 refine call_g (when_g _ 12) ?_
 simp
 by_cases c4 : 12 < d.tables.l.length
 ·have c4' : 12 < (d.tables.l.length : Int):=by omega
  simp only [c4',if_true]
  exact call_p (req1_p 12 0 5 0 (by decide)) (by simp [prgLimits,firstD,req,h1,diagO,c1,c2,c3,c4])
 have c4' : ¬ 12 < (d.tables.l.length : Int):=by omega
 simp only [c4',if_false]
 refine call_g (req0_g 0 5 0) ?_
 simp [prgLimits,firstD,req,h1,diagO,c1,c2,c3,c4]
def aPrg (d : PrgD) : List AV:=[.f (strF d.name),.f (sl (encL fHdr d.headers.l)),.f (sl (encL fFld d.meta_.l)),.f (sl (encL fReg d.regs.l)),.f (sl (encL fAct d.acts.l)),.f (sl (encL fTbl d.tables.l)),.f (sl (encL fSta d.states.l)),.f (sl (encL fNod d.control.l)),.f (sl (encL intF d.dep.l))]
theorem sEq_comm (a b : ByteArray) : sEq a b = sEq b a:=by
 unfold sEq
 rw [Bool.eq_iff_iff,beq_iff_eq,beq_iff_eq]
 exact eq_comm
theorem hasS_dup {l : List ByteArray} {i : Nat} {s : ByteArray} (h : l[i]? = some s) : dupS l i = if hasS (l.take i) s then 7 else 0:=by
 unfold dupS hasS
 rw [h]
 simp only [sEq_comm]
theorem metaName_eq : metaName = ⟨#[109,101,116,97]⟩:=by kernel_rfl
def hdrI (d : PrgD) (c : Cap) (i : Nat) (s : St) : Prop:=noneT (fun i=>(prgHdr d i).isSome) (List.range d.headers.l.length) i∧∃ g,Vf.Sl [(1,.ref 0 0),(2,.f (.sl (encL strF (d.headers.l.map (·.name))) c)),(9,.f (sl (encL fHdr d.headers.l))),(10,.f (intF d.headers.l.length)),(11,.f (intF i))] 33 (aPrg d :: g) [] s
theorem headers_g (d : PrgD) (hn : NmOk d) (hl : d.headers.l.length < 100000) : Outs Tryz.prog 51 [fPrg d] (diagO (scan d.headers.l.length (prgHdr d))):=by
 refine Outs.of mixed Tryz.func51 rfl rfl rfl (by kernel_rfl) ?_
 simp [fPrg,cPrg]
 refine call_g (nmsHdr_g _ hl) ?_
 obtain ⟨c,hc⟩:=ownF_is (encL strF (d.headers.l.map (·.name)))
 rw [hc]
 simp
 refine forX mixed d.headers.l.length (hdrI d c) (by kernel_rfl) ⟨.zero,[],Sl.of rfl rfl rfl⟩ ?_
 rintro i ⟨ts,hh,kk⟩ hi ⟨hno,g,rfl,rfl,f,rfl⟩
 by_cases hlt : i < d.headers.l.length
 ·obtain ⟨x,hx,hx'⟩:=nth_of hlt
  have hw:=wrap64 (x:=(i : Int) + 1) (by omega) (by omega)
  have hxn:=hn.headers x (List.mem_of_getElem? hx')
  have hnm : (d.headers.l.map (·.name))[i]? = some x.name:=by simp [hx']
  have hP : prgHdr d i = firstD [req (hdrCheck x) 1 i 0,req (if sEq x.name metaName then 6 else 0) 1 i 0,req (if hasS ((d.headers.l.map (·.name)).take i) x.name then 7 else 0) 1 i 0]:=by
   simp only [prgHdr,hx',hasS_dup hnm]
  have out : ∀ e,prgHdr d i = some e→scan d.headers.l.length (prgHdr d) = some e:=fun e he=>scan_at hno hlt he
  simp [hlt,hx,aPrg]
  refine call_g (hdr_g x hxn.1 hxn.2) ?_
  simp
  by_cases h0 : hdrCheck x = 0
  case neg =>
   exact call_p (req1_p (hdrCheck x) 1 i 0 h0) (by simp [out (hdrCheck x,1,(i : Int),0) (by rw [hP]; simp [firstD,req,h0]),diagO])
  rw [h0]
  refine call_g (req0_g 1 i 0) ?_
  rw [metaName_eq] at hP
  simp
  refine call_g (when_g _ 6) ?_
  simp
  cases h1 : sEq x.name ⟨#[109,101,116,97]⟩ with
  | true =>
   refine call_p (req1_p 6 1 i 0 (by decide)) ?_
   simp [out (6,1,(i : Int),0) (by rw [hP]; simp [firstD,req,h0,h1]),diagO]
  | false =>
  refine call_g (req0_g 1 i 0) ?_
  simp
  refine call_g (repeated_g _ i x.name c (by simp; omega) hnm) ?_
  simp
  refine call_g (when_g _ 7) ?_
  simp
  cases h2 : hasS ((d.headers.l.map (·.name)).take i) x.name with
  | true =>
   refine call_p (req1_p 7 1 i 0 (by decide)) ?_
   simp [out (7,1,(i : Int),0) (by rw [hP]; simp only [firstD,req,h0,h1,h2]; rfl),diagO]
  | false =>
  refine call_g (req0_g 1 i 0) ?_
  simp [hw]
  exact ⟨hno.next (range_at hlt) (by rw [hP]; simp only [firstD,req,h0,h1,h2]; rfl),_,Sl.of rfl rfl rfl⟩
 ·obtain rfl : i = d.headers.l.length:=by omega
  simp [hlt,scan_of hno,diagO]
def metI (d : PrgD) (c : Cap) (i : Nat) (s : St) : Prop:=noneT (fun i=>(prgMeta d i).isSome) (List.range d.meta_.l.length) i∧∃ g,Vf.Sl [(1,.ref 0 0),(2,.f (.sl (encL strF (d.meta_.l.map (·.name))) c)),(17,.f (sl (encL fFld d.meta_.l))),(18,.f (intF d.meta_.l.length)),(19,.f (intF i))] 69 (aPrg d :: g) [] s
def mName : Nat→ByteArray
 | 0=>⟨#[105,110]⟩
 | 1=>⟨#[111,117,116]⟩
 | _=>⟨#[100,114,111,112]⟩
def mWid : Nat→Int
 | 0=>8
 | 1=>8
 | _=>1
def metJ (d : PrgD) (i : Nat) (s : St) : Prop:=(∀ j,j < i→metaIs d.meta_.l j (mName j) (mWid j) = true)∧∃ g,Vf.Sl [(1,.ref 0 0),(46,.agg [.f (strF (mName 0)),.f (intF 8),.f (strF (mName 1)),.f (intF 8),.f (strF (mName 2)),.f (intF 1)]),(47,.f (intF i))] 69 (aPrg d :: g) [] s
theorem mets_eq (d : PrgD) : prgMetas d = firstD [req (if 12 < d.meta_.l.length then 12 else 0) 2 0 0,scan d.meta_.l.length (prgMeta d),req (if metaIs d.meta_.l 0 (mName 0) (mWid 0) then 0 else 5) 2 0 0,req (if metaIs d.meta_.l 1 (mName 1) (mWid 1) then 0 else 5) 2 1 0,req (if metaIs d.meta_.l 2 (mName 2) (mWid 2) then 0 else 5) 2 2 0]:=by kernel_rfl
theorem metadata_g (d : PrgD) (hn : NmOk d) : Outs Tryz.prog 52 [fPrg d] (diagO (prgMetas d)):=by
 refine Outs.of mixed Tryz.func52 rfl rfl rfl (by kernel_rfl) ?_
 rw [mets_eq]
 generalize hR : firstD [req (if 12 < d.meta_.l.length then 12 else 0) 2 0 0,scan d.meta_.l.length (prgMeta d),req (if metaIs d.meta_.l 0 (mName 0) (mWid 0) then 0 else 5) 2 0 0,req (if metaIs d.meta_.l 1 (mName 1) (mWid 1) then 0 else 5) 2 1 0,req (if metaIs d.meta_.l 2 (mName 2) (mWid 2) then 0 else 5) 2 2 0] = R
 simp [fPrg,cPrg]
 refine call_g (when_g _ 12) ?_
 simp
 by_cases c0 : 12 < d.meta_.l.length
 ·have c0' : 12 < (d.meta_.l.length : Int):=by omega
  simp only [c0',if_true]
  exact call_p (req1_p 12 2 0 0 (by decide)) (by subst hR; simp [firstD,req,c0,diagO])
 have c0' : ¬ 12 < (d.meta_.l.length : Int):=by omega
 simp only [c0',if_false]
 refine call_g (req0_g 2 0 0) ?_
 simp
 refine call_g (nmsFld_g _ (by omega)) ?_
 obtain ⟨c,hc⟩:=ownF_is (encL strF (d.meta_.l.map (·.name)))
 rw [hc]
 simp
 refine forX mixed d.meta_.l.length (metI d c) (by kernel_rfl) ⟨.zero,[],Sl.of rfl rfl rfl⟩ ?_
 rintro i ⟨ts,hh,kk⟩ hi ⟨hno,g,rfl,rfl,f,rfl⟩
 by_cases hlt : i < d.meta_.l.length
 ·obtain ⟨x,hx,hx'⟩:=nth_of hlt
  have hw:=wrap64 (x:=(i : Int) + 1) (by omega) (by omega)
  have hxn:=hn.meta_ x (List.mem_of_getElem? hx')
  have hnm : (d.meta_.l.map (·.name))[i]? = some x.name:=by simp [hx']
  have hP : prgMeta d i = firstD [req (if ident x.name then 0 else 6) 2 i 0,req (if badW x.width then 10 else 0) 2 i 0,req (if hasS ((d.meta_.l.map (·.name)).take i) x.name then 7 else 0) 2 i 0]:=by
   simp only [prgMeta,hx',hasS_dup hnm]
  have out : ∀ e,prgMeta d i = some e→scan d.meta_.l.length (prgMeta d) = some e:=fun e he=>scan_at hno hlt he
  simp [hlt,hx,aPrg]
  refine call_g (idn_g x.name hxn) ?_
  simp
  refine call_g (when_g _ 6) ?_
  simp
  cases h0 : ident x.name with
  | false =>
   refine call_p (req1_p 6 2 i 0 (by decide)) ?_
   subst hR; simp [out (6,2,(i : Int),0) (by rw [hP]; simp only [firstD,req,h0]; rfl),diagO,firstD,req,c0]
  | true =>
  refine call_g (req0_g 2 i 0) ?_
  simp
  refine call_g (wInv_g x.width) ?_
  simp
  refine call_g (when_g _ 10) ?_
  simp
  cases h1 : badW x.width with
  | true =>
   refine call_p (req1_p 10 2 i 0 (by decide)) ?_
   subst hR; simp [out (10,2,(i : Int),0) (by rw [hP]; simp only [firstD,req,h0,h1]; rfl),diagO,firstD,req,c0]
  | false =>
  refine call_g (req0_g 2 i 0) ?_
  simp
  refine call_g (repeated_g _ i x.name c (by simp; omega) hnm) ?_
  simp
  refine call_g (when_g _ 7) ?_
  simp
  cases h2 : hasS ((d.meta_.l.map (·.name)).take i) x.name with
  | true =>
   refine call_p (req1_p 7 2 i 0 (by decide)) ?_
   subst hR; simp [out (7,2,(i : Int),0) (by rw [hP]; simp only [firstD,req,h0,h1,h2]; rfl),diagO,firstD,req,c0]
  | false =>
  refine call_g (req0_g 2 i 0) ?_
  simp [hw]
  exact ⟨hno.next (range_at hlt) (by rw [hP]; simp only [firstD,req,h0,h1,h2]; rfl),_,Sl.of rfl rfl rfl⟩
 obtain rfl : i = d.meta_.l.length:=by omega
 have a1:=scan_of hno
 simp [hlt,aPrg]
 refine forX mixed 3 (metJ d) (by kernel_rfl) ⟨fun j h=>by omega,_,Sl.of rfl rfl rfl⟩ ?_
 rintro i ⟨ts,hh,kk⟩ hi ⟨hm,g,rfl,rfl,f,rfl⟩
 by_cases h3 : i < 3
 ·have hw:=wrap64 (x:=(i : Int) + 1) (by omega) (by omega)
  have hbad : metaIs d.meta_.l i (mName i) (mWid i) = false→R = some (5,2,(i : Int),0):=fun hb=>by
   subst hR
   have hi' : i = 0 ∨ i = 1 ∨ i = 2:=by omega
   rcases hi' with rfl | rfl | rfl
   ·simp [firstD,req,c0,a1,hb]
   ·simp [firstD,req,c0,a1,hb,hm 0 (by omega)]
   ·simp [firstD,req,c0,a1,hb,hm 0 (by omega),hm 1 (by omega)]
  have hmi : ∀ x,nth d.meta_.l i = some x→metaIs d.meta_.l i (mName i) (mWid i) = (sEq x.name (mName i) && decide (x.width = mWid i)):=fun x hx=>by
   have hx : d.meta_.l[i]? = some x:=hx
   unfold metaIs; rw [hx]; rfl
  have hmo : ¬ i < d.meta_.l.length→metaIs d.meta_.l i (mName i) (mWid i) = false:=fun h=>by
   unfold metaIs; rw [List.getElem?_eq_none (by omega)]
  have hgo : ∀ x,nth d.meta_.l i = some x→(sEq x.name (mName i) && decide (x.width = mWid i)) = true→∀ j,j < i + 1→metaIs d.meta_.l j (mName j) (mWid j) = true:=fun x hx h j hj=>by
   rcases Nat.lt_or_ge j i with h1 | h1
   ·exact hm j h1
   ·obtain rfl : j = i:=by omega
    rw [hmi x hx]; exact h
  have hi' : i = 0 ∨ i = 1 ∨ i = 2:=by omega
  clear hw
  by_cases hlt : i < d.meta_.l.length
  ·obtain ⟨x,hx,hx'⟩:=nth_of hlt
   have hb:=fun h=>hbad ((hmi x hx).trans h)
   have hg:=hgo x hx
   clear hmi hgo hmo hbad hm
   rcases hi' with rfl | rfl | rfl
   ·have q : ¬ (d.meta_.l = []):=fun h=>by rw [h] at hlt; simp at hlt
    have q2 : 0 < d.meta_.l.length:=hlt
    simp [q,q2,hx,aPrg,mName]
    cases e : (sEq x.name (mName 0) && decide (x.width = mWid 0)) with
    | true =>
     have e' : (!sEq x.name (mName 0) || !decide (x.width = mWid 0)) = false:=by rw [← Bool.not_and,e]; rfl
     simp only [mName,mWid] at e'
     rw [e']
     refine call_g (when_g _ 5) ?_
     simp
     refine call_g (req0_g 2 0 0) ?_
     simp [Vf.wrap64]
     exact ⟨hg e,_,Sl.of rfl rfl rfl⟩
    | false =>
     have e' : (!sEq x.name (mName 0) || !decide (x.width = mWid 0)) = true:=by rw [← Bool.not_and,e]; rfl
     simp only [mName,mWid] at e'
     rw [e']
     refine call_g (when_g _ 5) ?_
     simp
     refine call_p (req1_p 5 2 0 0 (by decide)) ?_
     simp [hb e,diagO]
   ·have q : ¬ ((d.meta_.l.length : Int) ≤ 1):=by omega
    have q2 : 1 < d.meta_.l.length:=hlt
    simp [q,q2,hx,aPrg,mName]
    cases e : (sEq x.name (mName 1) && decide (x.width = mWid 1)) with
    | true =>
     have e' : (!sEq x.name (mName 1) || !decide (x.width = mWid 1)) = false:=by rw [← Bool.not_and,e]; rfl
     simp only [mName,mWid] at e'
     rw [e']
     refine call_g (when_g _ 5) ?_
     simp
     refine call_g (req0_g 2 1 0) ?_
     simp [Vf.wrap64]
     exact ⟨hg e,_,Sl.of rfl rfl rfl⟩
    | false =>
     have e' : (!sEq x.name (mName 1) || !decide (x.width = mWid 1)) = true:=by rw [← Bool.not_and,e]; rfl
     simp only [mName,mWid] at e'
     rw [e']
     refine call_g (when_g _ 5) ?_
     simp
     refine call_p (req1_p 5 2 1 0 (by decide)) ?_
     simp [hb e,diagO]
   ·have q : ¬ ((d.meta_.l.length : Int) ≤ 2):=by omega
    have q2 : 2 < d.meta_.l.length:=hlt
    simp [q,q2,hx,aPrg,mName]
    cases e : (sEq x.name (mName 2) && decide (x.width = mWid 2)) with
    | true =>
     have e' : (!sEq x.name (mName 2) || !decide (x.width = mWid 2)) = false:=by rw [← Bool.not_and,e]; rfl
     simp only [mName,mWid] at e'
     rw [e']
     refine call_g (when_g _ 5) ?_
     simp
     refine call_g (req0_g 2 2 0) ?_
     simp [Vf.wrap64]
     exact ⟨hg e,_,Sl.of rfl rfl rfl⟩
    | false =>
     have e' : (!sEq x.name (mName 2) || !decide (x.width = mWid 2)) = true:=by rw [← Bool.not_and,e]; rfl
     simp only [mName,mWid] at e'
     rw [e']
     refine call_g (when_g _ 5) ?_
     simp
     refine call_p (req1_p 5 2 2 0 (by decide)) ?_
     simp [hb e,diagO]
  ·have hb:=hbad (hmo hlt)
   clear hmi hgo hmo hbad hm
   rcases hi' with rfl | rfl | rfl
   ·have q : d.meta_.l = []:=List.eq_nil_of_length_eq_zero (by omega)
    simp [q,aPrg,mName]
    refine call_g (when_g _ 5) ?_
    simp
    refine call_p (req1_p 5 2 0 0 (by decide)) ?_
    simp [hb,diagO]
   ·have q : (d.meta_.l.length : Int) ≤ 1:=by omega
    simp [q,aPrg,mName]
    refine call_g (when_g _ 5) ?_
    simp
    refine call_p (req1_p 5 2 1 0 (by decide)) ?_
    simp [hb,diagO]
   ·have q : (d.meta_.l.length : Int) ≤ 2:=by omega
    simp [q,aPrg,mName]
    refine call_g (when_g _ 5) ?_
    simp
    refine call_p (req1_p 5 2 2 0 (by decide)) ?_
    simp [hb,diagO]
 ·have h0:=hm 0 (by omega)
  have h1:=hm 1 (by omega)
  have h2:=hm 2 (by omega)
  simp only [mName] at h0 h1 h2
  obtain rfl : i = 3:=by omega
  subst hR
  simp [aPrg,mName,firstD,req,c0,a1,h0,h1,h2,diagO]
theorem badW_not (w : Int) : badW w = false ↔ 1 ≤ w∧w ≤ 32:=by
 unfold badW; simp
theorem wide_ok (x : Int) (h : (wide x).2 = 0) : 0 ≤ (wide x).1∧(wide x).1 ≤ 32:=by
 unfold wide at *
 cases hb : badW x with
 | true=>simp [hb] at h
 | false=>have:=(badW_not x).1 hb; simp; omega
theorem primary_ok (d : PrgD) (ps : List FldD) (x : ExD) (h : (primary d ps x).2 = 0) : 0 ≤ (primary d ps x).1∧(primary d ps x).1 ≤ 32:=by
 unfold primary at *
 split at h
 ·split at h
  ·cases h
  ·split at h
   ·cases h
   ·rename_i h1 h2 h3
    have:=(badW_not x.w).1 (by simpa using h2)
    simp only [h1,h3,if_true,if_false]
    rw [if_neg h2]
    simp only
    omega
 ·rename_i h1
  split at h
  ·rename_i h2
   rw [if_neg h1,if_pos h2]
   cases hf : fldAt d x.n x.w with
   | none=>rw [hf] at h; cases h
   | some f=>rw [hf] at h; exact wide_ok _ h
  ·rename_i h2
   rw [if_neg h1,if_neg h2]
   split at h
   ·rename_i h3
    rw [if_pos h3]
    split at h
    ·cases h
    ·rename_i h4
     rw [if_neg h4]
     cases hf : ps[x.n.toNat]? with
     | none=>rw [hf] at h; cases h
     | some f=>rw [hf] at h; exact wide_ok _ h
   ·rename_i h3
    rw [if_neg h3]
    split at h
    ·cases h
    ·rename_i h4; rw [if_neg h4]; decide
theorem combine_ok (x : ExD) (a b c : Int) (ha : 0 ≤ a∧a ≤ 32) (hb : 0 ≤ b∧b ≤ 32) (h : (combine x a b c).2 = 0) : 0 ≤ (combine x a b c).1∧(combine x a b c).1 ≤ 32:=by
 unfold combine at *
 repeat' split
 all_goals try (simp_all; done)
 all_goals try (simp only; omega)
 ·rename_i h1 h2 h3 h4
  have:=(badW_not x.w).1 (by revert h4; simp; intro h _; exact h)
  simp only; omega
 ·rename_i h1 h2 h3
  rw [if_neg h1,if_neg h2,if_pos h3] at h
  exact wide_ok _ h
def exI (d : PrgD) (ps : List FldD) (n : List ExD) (i : Nat) : Int × Nat × Int:=exAt d ps n (n.length - i + 1) i
theorem ex_ok (d : PrgD) (ps : List FldD) (n : List ExD) : ∀ (f i : Nat),(exAt d ps n f i).2.2 = 0→i < (exAt d ps n f i).2.1∧(exAt d ps n f i).2.1 ≤ n.length∧0 ≤ (exAt d ps n f i).1∧(exAt d ps n f i).1 ≤ 32
 | 0,i,h=>by simp [exAt] at h
 | f + 1,i,h=>by
  have I1:=ex_ok d ps n f (i + 1)
  generalize hr1 : exAt d ps n f (i + 1) = r1 at I1
  have I2:=ex_ok d ps n f r1.2.1
  generalize hr2 : exAt d ps n f r1.2.1 = r2 at I2
  have I3:=ex_ok d ps n f r2.2.1
  generalize hr3 : exAt d ps n f r2.2.1 = r3 at I3
  unfold exAt at h ⊢
  cases hx : n[i]? with
  | none=>rw [hx] at h; simp at h
  | some x =>
   have hi : i < n.length:=(List.getElem?_eq_some_iff.1 hx).1
   rw [hx] at h
   simp only [hr1,hr2,hr3] at h ⊢
   split at h
   ·simp at h
   ·rename_i g1
    rw [if_neg g1]
    split at h
    ·rename_i g2
     rw [if_pos g2]
     have:=primary_ok d ps x h
     simp only; omega
    ·rename_i g2
     rw [if_neg g2]
     split at h
     ·rename_i g3; exact absurd h g3
     ·rename_i g3
      rw [if_neg g3]
      have J1:=I1 (by omega)
      split at h
      ·rename_i g4
       rw [if_pos g4]
       have:=combine_ok x r1.1 0 0 (by omega) (by omega) h
       simp only; omega
      ·rename_i g4
       rw [if_neg g4]
       split at h
       ·rename_i g5; exact absurd h g5
       ·rename_i g5
        rw [if_neg g5]
        have J2:=I2 (by omega)
        split at h
        ·rename_i g6
         rw [if_pos g6]
         have:=combine_ok x r1.1 r2.1 0 (by omega) (by omega) h
         simp only; omega
        ·rename_i g6
         rw [if_neg g6]
         split at h
         ·rename_i g7; exact absurd h g7
         ·rename_i g7
          rw [if_neg g7]
          have J3:=I3 (by omega)
          have:=combine_ok x r1.1 r2.1 r3.1 (by omega) (by omega) h
          simp only; omega
theorem ex_fuel (d : PrgD) (ps : List FldD) (n : List ExD) : ∀ (f g i : Nat),n.length < f + i→n.length < g + i→exAt d ps n f i = exAt d ps n g i
 | 0,0,i,_,_=>rfl
 | 0,g + 1,i,h1,h2=>by unfold exAt; rw [List.getElem?_eq_none (by omega)]
 | f + 1,0,i,h1,h2=>by unfold exAt; rw [List.getElem?_eq_none (by omega)]
 | f + 1,g + 1,i,h1,h2=>by
  have e1:=ex_fuel d ps n f g (i + 1) (by omega) (by omega)
  have K1:=ex_ok d ps n g (i + 1)
  unfold exAt
  rw [e1]
  dsimp only
  generalize exAt d ps n g (i + 1) = r1 at *
  by_cases q1 : r1.2.2 = 0
  ·have J1:=K1 q1
   have e2:=ex_fuel d ps n f g r1.2.1 (by omega) (by omega)
   have K2:=ex_ok d ps n g r1.2.1
   rw [e2]
   generalize exAt d ps n g r1.2.1 = r2 at *
   by_cases q2 : r2.2.2 = 0
   ·have J2:=K2 q2
    have e3:=ex_fuel d ps n f g r2.2.1 (by omega) (by omega)
    rw [e3]
   ·simp [q1,q2]
  ·simp [q1]
theorem exI_ok (d : PrgD) (ps : List FldD) (n : List ExD) (i : Nat) (h : (exI d ps n i).2.2 = 0) : i < (exI d ps n i).2.1∧(exI d ps n i).2.1 ≤ n.length∧0 ≤ (exI d ps n i).1∧(exI d ps n i).1 ≤ 32:=ex_ok d ps n _ i h
theorem exI_none (d : PrgD) (ps : List FldD) (n : List ExD) (i : Nat) (h : n.length ≤ i) : exI d ps n i = (0,0,3):=by
 unfold exI exAt; rw [List.getElem?_eq_none h]
theorem exI_some (d : PrgD) (ps : List FldD) (n : List ExD) (i : Nat) (x : ExD) (hx : n[i]? = some x) : exI d ps n i =
  if arity x.op < 0 then (0,0,11) else if arity x.op = 0 then ((primary d ps x).1,i + 1,(primary d ps x).2)
  else if (exI d ps n (i + 1)).2.2 ≠ 0 then (0,0,(exI d ps n (i + 1)).2.2)
  else if arity x.op = 1 then ((combine x (exI d ps n (i + 1)).1 0 0).1,(exI d ps n (i + 1)).2.1,(combine x (exI d ps n (i + 1)).1 0 0).2)
  else if (exI d ps n (exI d ps n (i + 1)).2.1).2.2 ≠ 0 then (0,0,(exI d ps n (exI d ps n (i + 1)).2.1).2.2)
  else if arity x.op = 2 then ((combine x (exI d ps n (i + 1)).1 (exI d ps n (exI d ps n (i + 1)).2.1).1 0).1,(exI d ps n (exI d ps n (i + 1)).2.1).2.1,(combine x (exI d ps n (i + 1)).1 (exI d ps n (exI d ps n (i + 1)).2.1).1 0).2)
  else if (exI d ps n (exI d ps n (exI d ps n (i + 1)).2.1).2.1).2.2 ≠ 0 then (0,0,(exI d ps n (exI d ps n (exI d ps n (i + 1)).2.1).2.1).2.2)
  else ((combine x (exI d ps n (i + 1)).1 (exI d ps n (exI d ps n (i + 1)).2.1).1 (exI d ps n (exI d ps n (exI d ps n (i + 1)).2.1).2.1).1).1,(exI d ps n (exI d ps n (exI d ps n (i + 1)).2.1).2.1).2.1,(combine x (exI d ps n (i + 1)).1 (exI d ps n (exI d ps n (i + 1)).2.1).1 (exI d ps n (exI d ps n (exI d ps n (i + 1)).2.1).2.1).1).2):=by
 have hi : i < n.length:=(List.getElem?_eq_some_iff.1 hx).1
 have e1 : exAt d ps n (n.length - i) (i + 1) = exI d ps n (i + 1):=ex_fuel d ps n _ _ _ (by omega) (by omega)
 have K1:=exI_ok d ps n (i + 1)
 conv=>lhs; unfold exI exAt
 rw [hx,e1]
 dsimp only
 generalize exI d ps n (i + 1) = r1 at *
 by_cases q1 : r1.2.2 = 0
 ·have J1:=K1 q1
  have e2 : exAt d ps n (n.length - i) r1.2.1 = exI d ps n r1.2.1:=ex_fuel d ps n _ _ _ (by omega) (by omega)
  have K2:=exI_ok d ps n r1.2.1
  rw [e2]
  generalize exI d ps n r1.2.1 = r2 at *
  by_cases q2 : r2.2.2 = 0
  ·have J2:=K2 q2
   have e3 : exAt d ps n (n.length - i) r2.2.1 = exI d ps n r2.2.1:=ex_fuel d ps n _ _ _ (by omega) (by omega)
   rw [e3]
  ·simp [q1,q2]
 ·simp [q1]
def fScp (d : PrgD) (ps : List FldD) : FV:=.agg (cPrg d ++ [sl (encL fFld ps)])
abbrev two (p : Int × Int) : FV:=.tup [intF p.1,intF p.2]
theorem wide_g (w : Int) : Gives Tryz.prog 285 [intF w] (two (wide w)):=by
 refine Gives.of mixed Tryz.func285 rfl rfl rfl (by kernel_rfl) ?_
 by_cases h1 : w < 1 <;> by_cases h2 : 32 < w <;> simp [h1,h2,wide,badW]
theorem arity_g (o : Int) : Gives Tryz.prog 258 [intF o] (intF (arity o)):=by
 refine Gives.of mixed Tryz.func258 rfl rfl rfl (by kernel_rfl) ?_
 simp
 repeat' (first | with_reducible refine guard_if (fun h=>?_) (fun h=>?_) | with_reducible refine cond_if (fun h=>?_) (fun h=>?_) | with_reducible refine cond_by (fun h=>?_) (fun h=>?_) | simp [*])
 all_goals (unfold arity; (repeat' split) <;> omega)
def fldR (o : Option FldD) : FV:=.tup [fFld (o.getD ⟨⟨#[]⟩,0⟩),boolF o.isSome]
theorem field_g (d : PrgD) (ps : List FldD) (h i : Int) : Gives Tryz.prog 286 [fScp d ps,intF h,intF i] (fldR (fldAt d h i)):=by
 refine Gives.of mixed Tryz.func286 rfl rfl rfl (by kernel_rfl) ?_
 by_cases c1 : h = -1
 ·subst c1
  by_cases c2 : i < 0
  ·simp [c2,fScp,cPrg]
   exact ⟨3,_,rfl,by simp [fldR,c2,fldAt]⟩
  ·obtain ⟨n,rfl⟩ : ∃ n : Nat,i = n:=⟨i.toNat,by omega⟩
   by_cases hlt : n < d.meta_.l.length
   ·obtain ⟨x,hx,hx'⟩:=nth_of hlt
    have q : ¬ ((d.meta_.l.length : Int) ≤ n):=by omega
    simp [c2,q,hlt,hx,fScp,cPrg]
    have hv : fldAt d (-1) n = some x:=by unfold fldAt fldsOf; rw [if_neg c2]; exact hx'
    exact ⟨3,_,rfl,by simp [fldR,hv]⟩
   ·have q : (d.meta_.l.length : Int) ≤ n:=by omega
    simp [c2,q,hlt,fScp,cPrg]
    exact ⟨3,_,rfl,by simp [fldR,c2,q,hlt,fldAt,fldsOf,List.getElem?_eq_none (by omega : d.meta_.l.length ≤ n)]⟩
 ·by_cases c2 : h < 0
  ·simp [c1,c2,fScp,cPrg]
   exact ⟨3,_,rfl,by simp [fldR,c1,c2,fldAt,fldsOf]⟩
  ·obtain ⟨m,rfl⟩ : ∃ n : Nat,h = n:=⟨h.toNat,by omega⟩
   by_cases hm : m < d.headers.l.length
   ·obtain ⟨y,hy,hy'⟩:=nth_of hm
    have qm : ¬ ((d.headers.l.length : Int) ≤ m):=by omega
    by_cases c3 : i < 0
    ·simp [c1,c2,c3,qm,hm,hy,fScp,cPrg]
     exact ⟨3,_,rfl,by simp [fldR,c1,c2,c3,qm,hm,hy,fldAt]⟩
    ·obtain ⟨n,rfl⟩ : ∃ n : Nat,i = n:=⟨i.toNat,by omega⟩
     by_cases hlt : n < y.fields.l.length
     ·obtain ⟨x,hx,hx'⟩:=nth_of hlt
      have q : ¬ ((y.fields.l.length : Int) ≤ n):=by omega
      simp [c1,c2,c3,qm,hm,hy,q,hlt,hx,fScp,cPrg]
      have hv : fldAt d m n = some x:=by unfold fldAt fldsOf; rw [if_neg c3]; rw [if_neg c1,if_neg (by omega)]; simp only [Int.toNat_natCast,hy']; exact hx'
      exact ⟨3,_,rfl,by simp [fldR,hv]⟩
     ·have q : (y.fields.l.length : Int) ≤ n:=by omega
      simp [c1,c2,c3,qm,hm,hy,q,hlt,fScp,cPrg]
      have hv : fldAt d m n = none:=by unfold fldAt fldsOf; rw [if_neg c3]; rw [if_neg c1,if_neg (by omega)]; simp only [Int.toNat_natCast,hy']; exact List.getElem?_eq_none (by omega)
      exact ⟨3,_,rfl,by simp [fldR,hv]⟩
   ·have qm : (d.headers.l.length : Int) ≤ m:=by omega
    simp [c1,c2,qm,fScp,cPrg]
    exact ⟨3,_,rfl,by simp [fldR,c1,c2,qm,fldAt,fldsOf]⟩
end Go.Proofs.YtafenffmgpcjcaaGreat
