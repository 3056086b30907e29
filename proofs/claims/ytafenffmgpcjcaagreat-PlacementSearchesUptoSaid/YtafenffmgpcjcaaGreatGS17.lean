/- Texts of the proof: GS17. -/
import Derived.Test.YtafenffmgpcjcaaGreatGS16
import Derived.Test.YtafenffmgpcjcaaGreatGS14
import Derived.Test.YtafenffmgpcjcaaGreatGVC1
import Derived.Test.YtafenffmgpcjcaaGreatGS15
namespace Go.Proofs.YtafenffmgpcjcaaGreat
open Go.RowKit Go.Proofs.YtafenffmgpcjcaaGreat.Vf
set_option linter.unusedVariables false
set_option linter.unusedSimpArgs false
set_option maxRecDepth 100000
set_option maxHeartbeats 4000000
def difAt (a b:List Int) (i:Nat):Bool:=a.getD i 0 != b.getD i 0
theorem eq_of_dif {a b:List Int} (hl:a.length=b.length) (h:(List.range a.length).any (difAt a b)=false):a=b:=by
 apply List.ext_getElem hl
 intro i h1 h2
 have:=List.any_eq_false.1 h i (List.mem_range.2 h1)
 simp only [difAt,List.getD_eq_getElem?_getD,List.getElem?_eq_getElem h1,List.getElem?_eq_getElem h2] at this
 simpa using this
def eqiI (a b:List Int) (ca cb:Cap) (i:Nat) (s:St):Prop:=noneT (difAt a b) (List.range a.length) i∧Vf.Sl [(0,.f (.sl (encL intF a) ca)),(1,.f (.sl (encL intF b) cb)),(5,.f (intF i))] 26 [] [] s
theorem eqInts_g (a b:List Int) (ca cb:Cap) (ha:a.length < 2^62):Gives Tryz.prog 20 [.sl (encL intF a) ca,.sl (encL intF b) cb] (boolF (decide (a=b))):=by
 refine Gives.of mixed Tryz.func20 rfl rfl rfl (by kernel_rfl) ?_
 by_cases hl:a.length=b.length
 case neg =>
  have hl':¬ (a.length:Int)=b.length:=by omega
  have:a ≠ b:=fun h=>hl (by rw [h])
  rw [decide_eq_false this]
  simp [hl,hl']
 have hl':(a.length:Int)=b.length:=by omega
 simp [hl']
 refine forX mixed a.length (eqiI a b ca cb) (by kernel_rfl) ⟨.zero,Sl.of rfl rfl rfl⟩ ?_
 rintro i ⟨ts,hh,kk⟩ hi ⟨hno,rfl,rfl,f,rfl⟩
 by_cases hlt:i < a.length
 ·obtain ⟨x,hx,hx'⟩:=nth_of hlt
  obtain ⟨y,hy,hy'⟩:=nth_of (show i < b.length by omega)
  have hlb:i < b.length:=by omega
  have hw:=wrap64 (x:=(i:Int)+1) (by omega) (by omega)
  have hd:difAt a b i=(x != y):=by simp [difAt,List.getD_eq_getElem?_getD,hx',hy']
  by_cases c:x=y
  ·simp [hlt,hlb,hx,hy,c,hw]
   exact ⟨hno.next (range_at hlt) (by rw [hd,c]; simp),Sl.of rfl rfl rfl⟩
  ·have hne:a ≠ b:=fun h=>c (by rw [h] at hx'; exact Option.some.inj (hx'.symm.trans hy'))
   rw [decide_eq_false hne]
   simp [hlt,hlb,hx,hy,c]
 ·have ha':=hno.all (show ¬ i < (List.range a.length).length by simpa using hlt)
  rw [decide_eq_true (eq_of_dif hl ha')]
  simp [hlt]
def sameM (a b:Int × List Int × Int × Int × List Int):Bool:=decide (a.1=b.1) && (decide (a.2.1=b.2.1) && (decide (a.2.2.1=b.2.2.1) && (decide (a.2.2.2.1=b.2.2.2.1) && decide (a.2.2.2.2=b.2.2.2.2))))
theorem same_g (s s' st st' r r':Int) (l l' u u':List Int) (c1 c2 c3 c4:Cap) (h1:l.length < 2^62) (h2:u.length < 2^62) :
  Gives Tryz.prog 10 [fPlc s (.sl (encL intF l) c1) st r (.sl (encL intF u) c2),fPlc s' (.sl (encL intF l') c3) st' r' (.sl (encL intF u') c4)] (boolF (sameM (s,l,st,r,u) (s',l',st',r',u'))):=by
 unfold sameM
 refine Gives.of mixed Tryz.func10 rfl rfl rfl (by kernel_rfl) ?_
 by_cases e1:s=s'
 case neg=>simp [e1]
 simp [e1]
 refine call_g (eqInts_g l l' c1 c3 h1) ?_
 by_cases e2:l=l'
 case neg=>simp [e2]
 by_cases e3:st=st'
 case neg=>simp [e2,e3]
 by_cases e4:r=r'
 case neg=>simp [e2,e3,e4]
 simp [e2,e3,e4]
 refine call_g (eqInts_g u u' c2 c4 h2) ?_
 simp
theorem lchip_g (n:Int):Gives Tryz.prog 25 [intF n] (fChip ⟨n,4,4,8,8,8,8,8⟩):=by
 refine Gives.of mixed Tryz.func25 rfl rfl rfl (by kernel_rfl) ?_
 simp
theorem bin_eql_b {P:Program} {T:TV} {ty:TypeId} {x y:Operand} {a b:Bool} (hu:runPure P (underlying ty)=some .bool):opBin P T .eql ty x y (.f (.sc (.bool a))) (.f (.sc (.bool b)))=some (.f (.sc (.bool (a == b)))):=by
 unfold opBin
 rw [opNil_bool]
 cases a <;> cases b <;> simp [AV.val,aggCells,cellVal,eqGuard,binOp,Op.equal] <;> (rw [show Op.maxDepth=Op.maxDepth - 1+1 from rfl]; simp only [Op.equalIn,runPure_bind,runPure_map,hu,Option.bind_some]; first | exact ⟨.bool true,rfl,rfl⟩ | exact ⟨.bool false,rfl,rfl⟩)
@[simp] theorem eqlBo {T:TV} {x y:Operand} {a b:Bool}:opBin Tryz.prog T .eql 4 x y (.f (.sc (.bool a))) (.f (.sc (.bool b)))=some (.f (.sc (.bool (a == b)))):=bin_eql_b (by kernel_rfl)
theorem uRes : runPure Tryz.prog (underlying 47) = some (.struct #[⟨ "SRAM", 3, 0, false, "", "", 0⟩, ⟨ "TCAM", 3, 1, false, "", "", 8⟩]) := by kernel_rfl
@[simp] theorem eqlRes {T:TV} {x y:Operand} {a a' b b':Int}:opBin Tryz.prog T .eql 47 x y (.agg [.f (intF a),.f (intF b)]) (.agg [.f (intF a'),.f (intF b')])=some (.f (.sc (.bool (decide (a=a') && decide (b=b'))))) :=
 (opBin_eq (by kernel_rfl) rfl rfl (pureEq2 9999 uRes (by kernel_rfl) (by decide) (by decide) (by kernel_rfl) (by kernel_rfl) (by kernel_rfl) (by kernel_rfl) (pureEqInt (k':=.i64) 9998 (by kernel_rfl)) (pureEqInt (k':=.i64) 9998 (by kernel_rfl)))).1
def d0:PrgD:=⟨⟨#[112]⟩,⟨[]⟩,⟨[⟨⟨#[105,110]⟩,8⟩,⟨⟨#[111,117,116]⟩,8⟩,⟨⟨#[100,114,111,112]⟩,1⟩]⟩,⟨[]⟩,
 ⟨[⟨⟨#[115,101,116]⟩,⟨[]⟩,⟨[⟨1,-1,1,0,0,⟨[]⟩,⟨[⟨1,1,8⟩]⟩⟩]⟩⟩,⟨⟨#[110,111,112]⟩,⟨[]⟩,⟨[]⟩⟩]⟩,
 ⟨[⟨⟨#[97]⟩,⟨[⟨-1,0,1⟩]⟩,⟨[0]⟩,0,⟨[]⟩,8⟩,⟨⟨#[98]⟩,⟨[⟨-1,1,1⟩]⟩,⟨[1]⟩,1,⟨[]⟩,8⟩]⟩,
 ⟨[⟨⟨#[115]⟩,⟨[]⟩,false,0,0,⟨[]⟩,-1⟩]⟩,⟨[.mk 1 0 [] [] [],.mk 1 1 [] [] []]⟩,⟨[]⟩⟩
def r0:FV:=.agg [strF ⟨#[112]⟩,.sl [] .nil,.sl [.agg [strF ⟨#[105,110]⟩,intF 8],.agg [strF ⟨#[111,117,116]⟩,intF 8],.agg [strF ⟨#[100,114,111,112]⟩,intF 1]] .full,.sl [] .nil,
 .sl [.agg [strF ⟨#[115,101,116]⟩,.sl [] .nil,.sl [.agg [intF 1,intF (-1),intF 1,intF 0,intF 0,.sl [] .nil,.sl [.agg [intF 1,intF 1,intF 8]] .full]] .full],.agg [strF ⟨#[110,111,112]⟩,.sl [] .nil,.sl [] .nil]] .full,
 .sl [.agg [strF ⟨#[97]⟩,.sl [.agg [intF (-1),intF 0,intF 1]] .full,.sl [intF 0] .full,intF 0,.sl [] .nil,intF 8],.agg [strF ⟨#[98]⟩,.sl [.agg [intF (-1),intF 1,intF 1]] .full,.sl [intF 1] .full,intF 1,.sl [] .nil,intF 8]] .full,
 .sl [.agg [strF ⟨#[115]⟩,.sl [] .nil,boolF false,intF 0,intF 0,.sl [] .nil,intF (-1)]] .full,
 .sl [.agg [intF 1,intF 0,.sl [] .nil,.sl [] .nil,.sl [] .nil],.agg [intF 1,intF 1,.sl [] .nil,.sl [] .nil,.sl [] .nil]] .full,.sl [] .nil]
theorem sample_r:Gives Tryz.prog 24 [] r0:=by
 refine Gives.of mixed Tryz.func24 rfl rfl rfl (by kernel_rfl) ?_
 unfold r0
 simp
theorem r0_un:unD 9 r0=fPrg d0:=by kernel_rfl
theorem sample_g:Gives Tryz.prog 24 [] (fPrg d0):=by
 have:=sample_r.unD 9
 rwa [r0_un] at this
abbrev chipN8 (n:Int):ChipD:=⟨n,4,4,8,8,8,8,8⟩
theorem deps0 (c:ChipD):(jobM d0 c).deps=[[0,2],[0,0]]:=by kernel_rfl
theorem plc1 (cr:List Int) (cc:Cap):plcF d0 (chipN8 1) 9 cr cc=fPlc 2 (.sl [] .nil) 0 17 (.sl (encL intF cr) cc):=by kernel_rfl
theorem plc2 (cr:List Int) (cc:Cap):plcF d0 (chipN8 2) 9 cr cc=fPlc 1 (sl (encL intF [0,1])) 3 0 (.sl [] .nil):=by kernel_rfl
theorem plc3 (cr:List Int) (cc:Cap):plcF d0 (chipN8 2) 2 cr cc=fPlc 3 (.sl [] .nil) 2 19 (.sl [] .nil):=by kernel_rfl
theorem val1:validM d0 (chipN8 2) [0,1]=true:=by kernel_rfl
theorem val2:validM d0 (chipN8 2) [1,0]=false:=by kernel_rfl
theorem chk0:chipCheck chip0=9:=by kernel_rfl
end Go.Proofs.YtafenffmgpcjcaaGreat
namespace Go.Proofs.YtafenffmgpcjcaaGreat
open Go.RowKit Go.Proofs.YtafenffmgpcjcaaGreat.Vf
set_option linter.unusedVariables false
set_option linter.unusedSimpArgs false
set_option maxRecDepth 100000
set_option maxHeartbeats 4000000
def s6K (D0:List (List Int)) (c:Cap) (n ra wa i:Nat):List (Nat × AV):=[(0,.f (.sl (encL rowF D0) c)),(3,.f (intF n)),(4,.ms ra 0 n n 1),(5,.ms wa 0 n n 1),(6,.f (intF i)),(15,.f (intF n)),(16,.f (intF i))]
def s6T (n ra wa i p q:Nat):List (Nat × Nat × AV):=[(0,19,.ms ra 0 n n 1),(1,20,.f (intF i)),(2,21,.ms wa 0 n n 1),(3,22,.f (intF i)),(4,23,.f (intF n)),(5,24,.ms p 0 n n 1),(6,25,.f (intF n)),(7,26,.ms q 0 n n 1),(8,27,.ref ra i),(10,28,.ref wa i)]
structure S6 (D0:List (List Int)) (c:Cap) (n ra wa i:Nat) (P Q:Nat→Nat) (h0:List (List AV)) (p q:Nat) (D:Nat→Bool) (s:St):Prop where
 k:s.k=[]
 len:s.t.length=143
 kp:∀ e ∈ s6K D0 c n ra wa i,ix s.t e.1=some e.2
 told:∀ e ∈ s6T n ra wa i p q,D e.1=true→ix s.t e.2.1=some e.2.2
 low:∀ b,b < h0.length→b ≠ ra→b ≠ wa→ix s.h b=ix h0 b
 ge:h0.length≤s.h.length
 hr:ix s.h ra=some (if D 9=true then (ptrs P i n).set i (.ms p 0 n n 1) else ptrs P i n)
 hl:ix s.h wa=some (if D 11=true then (ptrs Q i n).set i (.ms q 0 n n 1) else ptrs Q i n)
 np:D 5=true→h0.length≤p∧p < s.h.length∧ix s.h p=some (rowBo (List.replicate n false))
 nq:D 7=true→h0.length≤q∧q < s.h.length∧ix s.h q=some (rowBo (List.replicate n false))
 pq:D 5=true→D 7=true→p ≠ q
 c9:D 9=true→D 5=true
 c11:D 11=true→D 7=true
variable {D0:List (List Int)} {c:Cap} {n ra wa i p q:Nat} {P Q:Nat→Nat} {h0 h:List (List AV)} {D:Nat→Bool} {t:List AV} {k:List (Nat × Nat)}
theorem kp_put {K:List (Nat × AV)} {t:List AV} {d:Nat} {v:AV} (hK:∀ e ∈ K,ix t e.1=some e.2) (hd:K.all (fun e=>e.1 != d)=true):∀ e ∈ K,ix (stT t d v) e.1=some e.2:=fun e he=>by
 have h1:e.1 ≠ d:=by simpa using List.all_eq_true.1 hd e he
 rw [← hK e he]
 exact List.getElem?_set_ne (Ne.symm h1)
theorem S6.put (S:S6 D0 c n ra wa i P Q h0 p q D ⟨t,h,k⟩) {m d:Nat} {v:AV} (h5:m ≠ 5) (h7:m ≠ 7) (h9:m ≠ 9) (h11:m ≠ 11) (hd:d < 143) (hd0:(s6K D0 c n ra wa i).all (fun e=>e.1 != d)=true)
  (hu:∀ e ∈ s6T n ra wa i p q,e.1=m∨e.2.1=d→e=(m,d,v)):S6 D0 c n ra wa i P Q h0 p q (fun j=>D j || j == m) ⟨stT t d v,h,k⟩ where
 k:=S.k
 len:=by simp only [stT,List.length_set]; exact S.len
 kp:=kp_put S.kp hd0
 told:=told_put S.told (by rw [S.len]; exact hd) hu
 low:=S.low
 ge:=S.ge
 hr:=by have:=S.hr; simpa [beq_iff_eq,Ne.symm h9] using this
 hl:=by have:=S.hl; simpa [beq_iff_eq,Ne.symm h11] using this
 np:=by have:=S.np; simpa [beq_iff_eq,Ne.symm h5] using this
 nq:=by have:=S.nq; simpa [beq_iff_eq,Ne.symm h7] using this
 pq:=by have:=S.pq; simpa [beq_iff_eq,Ne.symm h5,Ne.symm h7] using this
 c9:=by have:=S.c9; simpa [beq_iff_eq,Ne.symm h5,Ne.symm h9] using this
 c11:=by have:=S.c11; simpa [beq_iff_eq,Ne.symm h7,Ne.symm h11] using this
theorem ix_app {h:List (List AV)} {z:List AV} {b:Nat} (hb:b < h.length):ix (h ++ [z]) b=ix h b:=by
 simp only [ix]; rw [List.getElem?_append_left hb]
theorem ix_lt {h:List (List AV)} {b:Nat} {x:List AV} (hx:ix h b=some x):b < h.length:=(List.getElem?_eq_some_iff.1 hx).1
theorem ix_last {h:List (List AV)} {z:List AV}:ix (h ++ [z]) h.length=some z:=by simp [ix]
theorem S6.mkP (S:S6 D0 c n ra wa i P Q h0 p q D ⟨t,h,k⟩) (hD:D 5=false) (hra:ra < h0.length) (hwa:wa < h0.length):S6 D0 c n ra wa i P Q h0 h.length q (fun j=>D j || j == 5) ⟨stT t 24 (.ms h.length 0 n n 1),h ++ [rowBo (List.replicate n false)],k⟩:=by
 have hge:h0.length≤h.length:=S.ge
 have hD9:D 9=false:=by
  cases h9:D 9 with
  | false=>rfl
  | true=>have:=S.c9 h9; rw [hD] at this; cases this
 refine ⟨S.k,by simp only [stT,List.length_set]; exact S.len,kp_put S.kp rfl,?_,fun b hb h1 h2=>?_,?_,?_,?_,fun _=>⟨hge,by simp,ix_last⟩,fun hq=>?_,fun _ hq=>?_,fun _=>by simp,by have:=S.c11; simpa using this⟩
 ·refine told_put (T:=s6T n ra wa i h.length q) ?_ (by rw [S.len]; decide) ?_
  ·intro e he hDe
   simp [s6T] at he
   rcases he with rfl | rfl | rfl | rfl | rfl | rfl | rfl | rfl | rfl | rfl <;> first | exact absurd (hD.symm.trans hDe) (by decide) | exact S.told _ (by simp [s6T]) hDe
  ·intro e he
   simp [s6T] at he
   rcases he with rfl | rfl | rfl | rfl | rfl | rfl | rfl | rfl | rfl | rfl <;> simp
 ·show ix (h ++ _) b=_
  rw [ix_app (by omega)]; exact S.low b hb h1 h2
 ·show h0.length≤(h ++ _).length
  simp; omega
 ·show ix (h ++ _) ra=_
  rw [ix_app (by omega)]
  have:=S.hr
  rw [hD9] at this
  simpa [hD9] using this
 ·show ix (h ++ _) wa=_
  rw [ix_app (by omega)]
  have:=S.hl
  simpa using this
 ·have hq':=S.nq (by simpa using hq)
  refine ⟨hq'.1,by have:=hq'.2.1; simp at this ⊢; omega,?_⟩
  show ix (h ++ _) q=_
  rw [ix_app hq'.2.1]; exact hq'.2.2
 ·have hq':=(S.nq (by simpa using hq)).2.1
  have hq':q < h.length:=hq'
  omega
theorem S6.mkQ (S:S6 D0 c n ra wa i P Q h0 p q D ⟨t,h,k⟩) (hD:D 7=false) (hra:ra < h0.length) (hwa:wa < h0.length):S6 D0 c n ra wa i P Q h0 p h.length (fun j=>D j || j == 7) ⟨stT t 26 (.ms h.length 0 n n 1),h ++ [rowBo (List.replicate n false)],k⟩:=by
 have hge:h0.length≤h.length:=S.ge
 have hD11:D 11=false:=by
  cases h9:D 11 with
  | false=>rfl
  | true=>have:=S.c11 h9; rw [hD] at this; cases this
 refine ⟨S.k,by simp only [stT,List.length_set]; exact S.len,kp_put S.kp rfl,?_,fun b hb h1 h2=>?_,?_,?_,?_,fun hq=>?_,fun _=>⟨hge,by simp,ix_last⟩,fun hq _=>?_,by have:=S.c9; simpa using this,fun _=>by simp⟩
 ·refine told_put (T:=s6T n ra wa i p h.length) ?_ (by rw [S.len]; decide) ?_
  ·intro e he hDe
   simp [s6T] at he
   rcases he with rfl | rfl | rfl | rfl | rfl | rfl | rfl | rfl | rfl | rfl <;> first | exact absurd (hD.symm.trans hDe) (by decide) | exact S.told _ (by simp [s6T]) hDe
  ·intro e he
   simp [s6T] at he
   rcases he with rfl | rfl | rfl | rfl | rfl | rfl | rfl | rfl | rfl | rfl <;> simp
 ·show ix (h ++ _) b=_
  rw [ix_app (by omega)]; exact S.low b hb h1 h2
 ·show h0.length≤(h ++ _).length
  simp; omega
 ·show ix (h ++ _) ra=_
  rw [ix_app (by omega)]
  have:=S.hr
  simpa using this
 ·show ix (h ++ _) wa=_
  rw [ix_app (by omega)]
  have:=S.hl
  rw [hD11] at this
  simpa [hD11] using this
 ·have hq':=S.np (by simpa using hq)
  refine ⟨hq'.1,by have:=hq'.2.1; simp at this ⊢; omega,?_⟩
  show ix (h ++ _) p=_
  rw [ix_app hq'.2.1]; exact hq'.2.2
 ·have hq':=(S.np (by simpa using hq)).2.1
  have hq':p < h.length:=hq'
  omega
theorem S6.stR (S:S6 D0 c n ra wa i P Q h0 p q D ⟨t,h,k⟩) (h5:D 5=true) (hrw:ra ≠ wa) (hra:ra < h0.length):S6 D0 c n ra wa i P Q h0 p q (fun j=>D j || j == 9) ⟨t,h.set ra ((ptrs P i n).set i (.ms p 0 n n 1)),k⟩:=by
 have hp:=S.np h5
 refine ⟨S.k,S.len,S.kp,fun e he hDe=>?_,fun b hb h1 h2=>?_,by show h0.length≤(h.set ra _).length; rw [List.length_set]; exact S.ge,?_,?_,fun _=>⟨hp.1,by show p < (h.set ra _).length; rw [List.length_set]; exact hp.2.1,?_⟩,fun hq=>?_,fun h1 h2=>S.pq h5 (by simpa using h2),fun _=>by simp [h5],by have:=S.c11; simpa using this⟩
 ·refine S.told e he ?_
  simp [s6T] at he
  rcases he with rfl | rfl | rfl | rfl | rfl | rfl | rfl | rfl | rfl | rfl <;> simpa using hDe
 ·show ix (h.set ra _) b=_
  rw [ix_set_ne (Ne.symm h1)]; exact S.low b hb h1 h2
 ·show ix (h.set ra _) ra=_
  rw [ix_set_eq S.hr]; simp
 ·show ix (h.set ra _) wa=_
  rw [ix_set_ne hrw]
  have:=S.hl
  simpa using this
 ·show ix (h.set ra _) p=_
  rw [ix_set_ne (by omega)]; exact hp.2.2
 ·have hq':=S.nq (by simpa using hq)
  refine ⟨hq'.1,by show q < (h.set ra _).length; rw [List.length_set]; exact hq'.2.1,?_⟩
  show ix (h.set ra _) q=_
  rw [ix_set_ne (by omega)]; exact hq'.2.2
theorem S6.stL (S:S6 D0 c n ra wa i P Q h0 p q D ⟨t,h,k⟩) (h7:D 7=true) (hrw:ra ≠ wa) (hwa:wa < h0.length):S6 D0 c n ra wa i P Q h0 p q (fun j=>D j || j == 11) ⟨t,h.set wa ((ptrs Q i n).set i (.ms q 0 n n 1)),k⟩:=by
 have hp:=S.nq h7
 refine ⟨S.k,S.len,S.kp,fun e he hDe=>?_,fun b hb h1 h2=>?_,by show h0.length≤(h.set wa _).length; rw [List.length_set]; exact S.ge,?_,?_,fun hq=>?_,fun _=>⟨hp.1,by show q < (h.set wa _).length; rw [List.length_set]; exact hp.2.1,?_⟩,fun h1 h2=>S.pq (by simpa using h1) h7,by have:=S.c9; simpa using this,fun _=>by simp [h7]⟩
 ·refine S.told e he ?_
  simp [s6T] at he
  rcases he with rfl | rfl | rfl | rfl | rfl | rfl | rfl | rfl | rfl | rfl <;> simpa using hDe
 ·show ix (h.set wa _) b=_
  rw [ix_set_ne (Ne.symm h2)]; exact S.low b hb h1 h2
 ·show ix (h.set wa _) ra=_
  rw [ix_set_ne (Ne.symm hrw)]
  have:=S.hr
  simpa using this
 ·show ix (h.set wa _) wa=_
  rw [ix_set_eq S.hl]; simp
 ·have hq':=S.np (by simpa using hq)
  refine ⟨hq'.1,by show p < (h.set wa _).length; rw [List.length_set]; exact hq'.2.1,?_⟩
  show ix (h.set wa _) p=_
  rw [ix_set_ne (by omega)]; exact hq'.2.2
 ·show ix (h.set wa _) q=_
  rw [ix_set_ne (by omega)]; exact hp.2.2
end Go.Proofs.YtafenffmgpcjcaaGreat
namespace Go.Proofs.YtafenffmgpcjcaaGreat
open Go.RowKit Go.Proofs.YtafenffmgpcjcaaGreat.Vf
set_option linter.unusedVariables false
set_option linter.unusedSimpArgs false
set_option maxRecDepth 100000
set_option maxHeartbeats 4000000
structure Fo (D:List (List Int)) (n ra wa:Nat) (P Q:Nat→Nat) (i:Nat) (h:List (List AV)):Prop where
 old:∀ a,a < i→ix h (Q a)=some (rowBo (folRow D n a))∧Q a ≠ ra∧Q a ≠ wa
 hr:ix h ra=some (ptrs P i n)
 hl:ix h wa=some (ptrs Q i n)
 ne:ra ≠ wa
def upd (P:Nat→Nat) (i p:Nat) (a:Nat):Nat:=if a=i then p else P a
theorem S6.done {D0:List (List Int)} {c:Cap} {n ra wa i p q:Nat} {P Q:Nat→Nat} {h0:List (List AV)} {D:Nat→Bool} {s:St} (F:Fo D0 n ra wa P Q i h0) (S:S6 D0 c n ra wa i P Q h0 p q D s) (hD:∀ m,m < 12→D m=true) (hi:i < n) :
  Fi D0 n ra wa (upd P i p) (upd Q i q) i (List.replicate n false) (List.replicate n false) s.h:=by
 have hp:=S.np (hD 5 (by decide))
 have hq:=S.nq (hD 7 (by decide))
 have hpq:=S.pq (hD 5 (by decide)) (hD 7 (by decide))
 have hr:=S.hr
 have hl:=S.hl
 rw [if_pos (hD 9 (by decide)),ptrs_set _ hi] at hr
 rw [if_pos (hD 11 (by decide)),ptrs_set _ hi] at hl
 have hra:=ix_lt F.hr
 have hwa:=ix_lt F.hl
 have eP:upd P i p i=p:=if_pos rfl
 have eQ:upd Q i q i=q:=if_pos rfl
 have eQa:∀ a,a < i→upd Q i q a=Q a:=fun a ha=>if_neg (by omega)
 refine ⟨fun a ha=>?_,by rw [eP]; exact hp.2.2,by rw [eQ]; exact hq.2.2,hr,hl,by rw [eP,eQ]; exact ⟨hpq,by omega,by omega,by omega,by omega,F.ne⟩,fun a ha=>?_⟩
 ·obtain ⟨o1,o2,o3⟩:=F.old a ha
  have:=ix_lt o1
  rw [eQa a ha,eP,eQ,S.low _ this o2 o3]
  exact ⟨o1,by omega,by omega⟩
 ·obtain ⟨o1,o2,o3⟩:=F.old a ha
  rw [eQa a ha]
  exact ⟨o2,o3⟩
theorem Fi.next {D0:List (List Int)} {n ra wa i:Nat} {P Q:Nat→Nat} {r:List Bool} {h:List (List AV)} (F:Fi D0 n ra wa P Q i r (folRow D0 n i) h):Fo D0 n ra wa P Q (i+1) h :=
 ⟨fun a ha=>by
  by_cases e:a=i
  ·subst e
   exact ⟨F.pl,F.ne.2.2.2.1,F.ne.2.2.2.2.1⟩
  ·exact ⟨(F.old a (by omega)).1,F.far a (by omega)⟩,F.hr,F.hl,F.ne.2.2.2.2.2⟩
def folwI (D0:List (List Int)) (c:Cap) (n ra wa i:Nat) (s:St):Prop:=∃ P Q h,Fo D0 n ra wa P Q i h ∧
 Vf.Sl [(0,.f (.sl (encL rowF D0) c)),(3,.f (intF n)),(4,.ms ra 0 n n 1),(5,.ms wa 0 n n 1),(15,.f (intF n)),(16,.f (intF i))] 143 h [] s
def folw0 (D0:List (List Int)) (c:Cap) (n ra wa:Nat) (s:St):Prop:=∃ P Q h,Fo D0 n ra wa P Q 0 h ∧
 Vf.Sl [(0,.f (.sl (encL rowF D0) c)),(3,.f (intF n)),(4,.ms ra 0 n n 1),(5,.ms wa 0 n n 1)] 143 h [] s
def folwM (D0:List (List Int)) (c:Cap) (n ra wa i:Nat) (s:St):Prop:=∃ P Q h,Fi D0 n ra wa P Q i (List.replicate n false) (List.replicate n false) h ∧
 Vf.Sl (s6K D0 c n ra wa i) 143 h [] s
def folwJ (D0:List (List Int)) (c:Cap) (n ra wa i:Nat) (P Q:Nat→Nat) (j:Nat) (s:St):Prop:=∃ h,Fi D0 n ra wa P Q i (reR D0 n i j 0) (leR D0 n i j 0) h ∧
 Vf.Sl (s6K D0 c n ra wa i ++ [(35,.f (intF n)),(36,.f (intF j))]) 143 h [] s
def folwK (D0:List (List Int)) (c:Cap) (n ra wa i:Nat) (P Q:Nat→Nat) (j k:Nat) (s:St):Prop:=∃ h,Fi D0 n ra wa P Q i (reR D0 n i j k) (leR D0 n i j k) h ∧
 Vf.Sl ([(0,.f (.sl (encL rowF D0) c)),(3,.f (intF n)),(4,.ms ra 0 n n 1),(5,.ms wa 0 n n 1),(6,.f (intF i)),(7,.f (intF j)),(15,.f (intF n)),(16,.f (intF i)),(35,.f (intF n)),(36,.f (intF j)),(39,.f (intF j)),(40,.f (intF k))]) 143 h [] s
theorem follows_g (D0:List (List Int)) (c:Cap) (n:Nat) (hd:D0.length=n) (hn:n≤1000):Gives Tryz.prog 120 [.sl (encL rowF D0) c] (.sl (encL browF (folAll D0 n)) .un):=by
 have hn2:n < 2^32:=by omega
 refine Gives.ofW Tryz.func120 rfl rfl rfl (by decide) ?_
 refine W.two (W.x mixed (by kernel_rfl) ?_)
 simp
 refine W.two (W.x mixed (by kernel_rfl) ?_)
 simp [hd]
 refine W.two (W.mono (Q:=fun ex s'=>ex=.normal∧∃ ra wa,folw0 D0 c n ra wa s') (W.two_orders mixed (x:=1) (y:=3) (l1:=[0,1,2,3,4,5]) (l2:=[0,2,3,1,4,5]) (by kernel_rfl) rfl rfl ?_ ?_) ?_)
 ·simp [make_pp id hn2]
  exact ⟨0,1,id,id,_,⟨fun a ha=>absurd ha (Nat.not_lt_zero a),rfl,rfl,by decide⟩,Sl.of rfl rfl rfl⟩
 ·simp [make_pp id hn2]
  exact ⟨1,0,id,id,_,⟨fun a ha=>absurd ha (Nat.not_lt_zero a),rfl,rfl,by decide⟩,Sl.of rfl rfl rfl⟩
 rintro _ ⟨ts,hh,kk⟩ ⟨rfl,ra,wa,P,Q,_,F,rfl,rfl,ff,rfl⟩
 simp
 refine W.two (W.two (W.x mixed (by kernel_rfl) ?_))
 simp
 refine W.blk (forW n (folwI D0 c n ra wa) ⟨P,Q,_,F,Sl.of rfl rfl rfl⟩ ?_)
 clear F
 rintro i ⟨ts,hh,kk⟩ hi ⟨P,Q,_,F,rfl,rfl,ff,rfl⟩
 refine W.two (W.x mixed (by kernel_rfl) ?_)
 by_cases hlt:i < n
 case neg =>
  obtain rfl:i=n:=by omega
  simp
  refine W.two (W.x mixed (by kernel_rfl) ?_)
  simp
  refine W.x mixed (by kernel_rfl) ?_
  simp
  have hfl:∀ a,(folRow D0 i a).length=i:=fun a=>by simp [folRow]
  exact ret_bools hfl F.hl (fun a ha=>(F.old a ha).1) rfl
 have hw1:=wrap64 (x:=(i:Int)+1) (by omega) (by omega)
 have hi1:i+1≤n:=hlt
 simp [hlt]
 refine W.two (W.x mixed (by kernel_rfl) ?_)
 simp
 refine W.two (W.blk (W.two (W.x mixed (by kernel_rfl) ?_)))
 simp
 refine W.two (W.mono (Q:=fun ex s'=>ex=.normal∧folwM D0 c n ra wa i s') (W.draw_sem mixed (fun D s=>∃ p q,S6 D0 c n ra wa i P Q hh p q D s) (noGuard_of (by kernel_rfl)) ⟨0,0,rfl,rfl,?_,fun e _ h=>(by cases h),fun _ _ _ _=>rfl,Nat.le_refl _,F.hr,F.hl,fun h=>by (cases h),fun h=>by (cases h),fun h=>by (cases h),fun h=>by (cases h),fun h=>by (cases h)⟩ ?_ ?_ (by kernel_rfl)) ?_)
 ·intro e he
  simp [s6K] at he
  rcases he with rfl | rfl | rfl | rfl | rfl | rfl | rfl <;> rfl
 ·rintro D ⟨t,h,k⟩ m o ho hD hdep ⟨p,q,S⟩
  have hT:=S.told
  have hra:=ix_lt F.hr
  have hwa:=ix_lt F.hl
  have k3:ix t 3=some (.f (intF n)):=S.kp (3,_) (by simp [s6K])
  have k4:ix t 4=some (.ms ra 0 n n 1):=S.kp (4,_) (by simp [s6K])
  have k5:ix t 5=some (.ms wa 0 n n 1):=S.kp (5,_) (by simp [s6K])
  have k6:ix t 6=some (.f (intF i)):=S.kp (6,_) (by simp [s6K])
  match m,ho with
  | 0,ho =>
   obtain rfl:=Option.some.inj ho
   simp [k4]
   exact ⟨p,q,S.put (by decide) (by decide) (by decide) (by decide) (by decide) rfl (by simp [s6T])⟩
  | 1,ho =>
   obtain rfl:=Option.some.inj ho
   simp [k6]
   exact ⟨p,q,S.put (by decide) (by decide) (by decide) (by decide) (by decide) rfl (by simp [s6T])⟩
  | 2,ho =>
   obtain rfl:=Option.some.inj ho
   simp [k5]
   exact ⟨p,q,S.put (by decide) (by decide) (by decide) (by decide) (by decide) rfl (by simp [s6T])⟩
  | 3,ho =>
   obtain rfl:=Option.some.inj ho
   simp [k6]
   exact ⟨p,q,S.put (by decide) (by decide) (by decide) (by decide) (by decide) rfl (by simp [s6T])⟩
  | 4,ho =>
   obtain rfl:=Option.some.inj ho
   simp [k3]
   exact ⟨p,q,S.put (by decide) (by decide) (by decide) (by decide) (by decide) rfl (by simp [s6T])⟩
  | 5,ho =>
   obtain rfl:=Option.some.inj ho
   have d4:D 4=true:=hdep ⟨4,.data⟩ (by simp) rfl
   have f4:ix t 23=some (.f (intF n)):=hT (4,23,.f (intF n)) (by simp [s6T]) d4
   simp [f4,make_bo hn2]
   exact ⟨_,q,S.mkP hD hra hwa⟩
  | 6,ho =>
   obtain rfl:=Option.some.inj ho
   simp [k3]
   exact ⟨p,q,S.put (by decide) (by decide) (by decide) (by decide) (by decide) rfl (by simp [s6T])⟩
  | 7,ho =>
   obtain rfl:=Option.some.inj ho
   have d6:D 6=true:=hdep ⟨6,.data⟩ (by simp) rfl
   have f6:ix t 25=some (.f (intF n)):=hT (6,25,.f (intF n)) (by simp [s6T]) d6
   simp [f6,make_bo hn2]
   exact ⟨p,_,S.mkQ hD hra hwa⟩
  | 8,ho =>
   obtain rfl:=Option.some.inj ho
   have d0:D 0=true:=hdep ⟨0,.data⟩ (by simp) rfl
   have f0:ix t 19=some (.ms ra 0 n n 1):=hT (0,19,.ms ra 0 n n 1) (by simp [s6T]) d0
   have d1:D 1=true:=hdep ⟨1,.data⟩ (by simp) rfl
   have f1:ix t 20=some (.f (intF i)):=hT (1,20,.f (intF i)) (by simp [s6T]) d1
   simp [f0,f1,hlt]
   exact ⟨p,q,S.put (by decide) (by decide) (by decide) (by decide) (by decide) rfl (by simp [s6T])⟩
  | 9,ho =>
   obtain rfl:=Option.some.inj ho
   have d8:D 8=true:=hdep ⟨8,.data⟩ (by simp) rfl
   have f8:ix t 27=some (.ref ra i):=hT (8,27,.ref ra i) (by simp [s6T]) d8
   have d5:D 5=true:=hdep ⟨5,.data⟩ (by simp) rfl
   have f5:ix t 24=some (.ms p 0 n n 1):=hT (5,24,.ms p 0 n n 1) (by simp [s6T]) d5
   have hb:=S.hr
   rw [hD] at hb
   simp at hb
   simp [f8,f5,hb,hlt,hi1]
   exact ⟨p,q,S.stR d5 F.ne hra⟩
  | 10,ho =>
   obtain rfl:=Option.some.inj ho
   have d2:D 2=true:=hdep ⟨2,.data⟩ (by simp) rfl
   have f2:ix t 21=some (.ms wa 0 n n 1):=hT (2,21,.ms wa 0 n n 1) (by simp [s6T]) d2
   have d3:D 3=true:=hdep ⟨3,.data⟩ (by simp) rfl
   have f3:ix t 22=some (.f (intF i)):=hT (3,22,.f (intF i)) (by simp [s6T]) d3
   simp [f2,f3,hlt]
   exact ⟨p,q,S.put (by decide) (by decide) (by decide) (by decide) (by decide) rfl (by simp [s6T])⟩
  | 11,ho =>
   obtain rfl:=Option.some.inj ho
   have d10:D 10=true:=hdep ⟨10,.data⟩ (by simp) rfl
   have f10:ix t 28=some (.ref wa i):=hT (10,28,.ref wa i) (by simp [s6T]) d10
   have d7:D 7=true:=hdep ⟨7,.data⟩ (by simp) rfl
   have f7:ix t 26=some (.ms q 0 n n 1):=hT (7,26,.ms q 0 n n 1) (by simp [s6T]) d7
   have hb:=S.hl
   rw [hD] at hb
   simp at hb
   simp [f10,f7,hb,hlt,hi1]
   exact ⟨p,q,S.stL d7 F.ne hwa⟩
  | _+12,ho=>simp at ho
 ·rintro D s1 hall ⟨p,q,S⟩
  refine ⟨rfl,_,_,s1.h,S.done F (fun m hm=>hall m hm) hlt,rfl,S.k,?_⟩
  obtain ⟨ts1,h1,k1⟩:=s1
  exact (Sl.of (h:=h1) (k:=k1) (picks_of S.kp) S.len rfl).2.2
 rintro _ ⟨ts,hh2,kk⟩ ⟨rfl,P2,Q2,_,G,rfl,rfl,ff2,rfl⟩
 simp [s6K]
 clear F
 have gp:=ptrs_at (P:=P2) (Nat.lt_succ_self i) hlt
 have gq:=ptrs_at (P:=Q2) (Nat.lt_succ_self i) hlt
 refine W.two (W.x mixed (by kernel_rfl) ?_)
 have hr0:=G.hr
 have hp0:=G.pr
 simp at hr0 hp0
 simp [hr0,hp0,gp,hlt,hi1]
 have G2:=G.setR (reR D0 n i 0 0)
 rw [reR_zero D0]
 rw [leR_zero D0 (n:=n) (i:=i)] at G2
 clear G hr0 hp0
 refine W.two (W.x mixed (by kernel_rfl) ?_)
 simp
 refine W.blk (forW n (folwJ D0 c n ra wa i P2 Q2) ⟨_,G2,Sl.of rfl rfl rfl⟩ ?_)
 clear G2
 rintro j ⟨ts,hh3,kk⟩ hj ⟨_,G,rfl,rfl,ff3,rfl⟩
 simp [s6K]
 refine W.two (W.x mixed (by kernel_rfl) ?_)
 by_cases hjl:j < n
 case neg =>
  obtain rfl:j=n:=by omega
  simp
  refine W.two (W.x mixed (by kernel_rfl) ?_)
  simp
  refine W.x mixed (by kernel_rfl) ?_
  simp [hw1]
  rw [leR_all] at G
  exact ⟨P2,Q2,_,G.next,Sl.of rfl rfl rfl⟩
 have hw2:=wrap64 (x:=(j:Int)+1) (by omega) (by omega)
 have hj1:j+1≤n:=hjl
 simp [hjl]
 refine W.two (W.x mixed (by kernel_rfl) ?_)
 simp
 refine W.two (W.blk (W.two (W.x mixed (by kernel_rfl) ?_)))
 simp
 refine W.two (W.x mixed (by kernel_rfl) ?_)
 simp
 refine W.blk (forW j (folwK D0 c n ra wa i P2 Q2 j) ⟨_,G,Sl.of rfl rfl rfl⟩ ?_)
 clear G
 rintro k ⟨ts,hh4,kk⟩ hk ⟨_,G,rfl,rfl,ff4,rfl⟩
 refine W.two (W.x mixed (by kernel_rfl) ?_)
 by_cases hkl:k < j
 case neg =>
  obtain rfl:k=j:=by omega
  simp
  refine W.two (W.x mixed (by kernel_rfl) ?_)
  simp
  refine W.x mixed (by kernel_rfl) ?_
  simp [hw2]
  rw [reR_end,leR_end] at G
  exact ⟨_,G,Sl.of rfl rfl rfl⟩
 have hw3:=wrap64 (x:=(k:Int)+1) (by omega) (by omega)
 have hkn:k < n:=by omega
 simp [hkl]
 refine W.two (W.x mixed (by kernel_rfl) ?_)
 simp
 refine W.two (W.blk (W.two (W.x mixed (by kernel_rfl) ?_)))
 simp
 refine W.two (W.x mixed (by kernel_rfl) ?_)
 simp
 refine call_g (kind_g D0 c k j (by omega)) ?_
 simp
 have hr0:=G.hr
 have hl0:=G.hl
 have hp0:=G.pr
 have hq0:=G.pl
 have hne:=G.ne
 simp at hr0 hl0 hp0 hq0
 have ej:=reR_j D0 (i:=i) (m:=k) hjl
 have ek:=reR_k D0 (i:=i) (m:=k) hkl hkn
 have lj:=leR_j D0 (i:=i) (m:=k) hjl
 have lk:=leR_k D0 (i:=i) (m:=k) hkl hkn
 have sR:=reR_set D0 (n:=n) (i:=i) (j:=j) (k:=k)
 have sL:=leR_set D0 (n:=n) (i:=i) (j:=j) (k:=k)
 have gej:=rowBo_at ej
 have gek:=rowBo_at ek
 have glj:=rowBo_at lj
 have glk:=rowBo_at lk
 have G1:=G.setR (reR D0 n i j (k+1))
 have G2:=G1.setL (leR D0 n i j (k+1))
 have hr1:=G1.hr
 have hl1:=G1.hl
 have hp1:=G1.pr
 have hq1:=G1.pl
 have gek1:=rowBo_at (reR_k D0 (i:=i) (m:=k+1) hkl hkn)
 generalize (decide (j=i) || fRq D0 i j k)=b1 at *
 generalize fLq D0 i j k=b2 at *
 generalize folP D0 i k=fp at *
 obtain ⟨b3,b4⟩:=fp
 simp only at gek glk gek1 sR sL hr1 hl1 hp1 hq1
 refine W.blk (W.two (W.x mixed (by kernel_rfl) ?_))
 by_cases k2:kindM D0 k j=2
 ·have sR2:(reR D0 n i j k).set j (b1 || b3)=reR D0 n i j (k+1):=by rw [← sR]; simp [k2]
  have sL2:(leR D0 n i j k).set j (b2 || b3)=leR D0 n i j (k+1):=by rw [← sL]; simp [k2]
  simp [k2]
  clear sR sL G
  refine W.x mixed (by kernel_rfl) ?_
  cases b1 <;> cases b2 <;> cases b3 <;> (
   simp at sR2 sL2
   simp [hr0,hp0,hl0,hq0,gp,gq,gej,gek,glj,glk,hlt,hjl,hkn,hi1,hj1,sR2,sL2,hr1,hl1,hp1,hq1,gek1]
   refine W.x mixed (by kernel_rfl) ?_
   simp [hw3]
   exact ⟨_,G2,Sl.of rfl rfl rfl⟩)
 ·simp [k2]
  by_cases k1:kindM D0 k j=1
  ·have sR2:(reR D0 n i j k).set j (b1 || b3)=reR D0 n i j (k+1):=by rw [← sR]; simp [k1]
   have sL2:(leR D0 n i j k).set j (b2 || b4)=leR D0 n i j (k+1):=by rw [← sL]; simp [k1]
   clear sR sL G
   refine W.x mixed (by kernel_rfl) ?_
   cases b1 <;> cases b2 <;> cases b3 <;> cases b4 <;> (
    simp at sR2 sL2
    simp [k1,hr0,hp0,hl0,hq0,gp,gq,gej,gek,glj,glk,hlt,hjl,hkn,hi1,hj1,sR2,sL2,hr1,hl1,hp1,hq1,gek1]
    refine W.x mixed (by kernel_rfl) ?_
    simp [hw3]
    exact ⟨_,G2,Sl.of rfl rfl rfl⟩)
  ·have k0:kindM D0 k j=0:=by
    have h1:=k1
    have h2:=k2
    unfold kindM at h1 h2 ⊢
    split
    ·rfl
    ·rename_i h
     rw [if_neg h] at h1 h2
     split
     ·rename_i h3
      rw [if_pos h3] at h1 h2
      omega
     ·rfl
   obtain ⟨n1,n2⟩:=set_none (n:=n) (i:=i) k0
   refine W.x mixed (by kernel_rfl) ?_
   simp [k1]
   refine W.x mixed (by kernel_rfl) ?_
   simp [hw3]
   exact ⟨_,by rw [n1,n2]; exact G,Sl.of rfl rfl rfl⟩
theorem fol_ok (D:List (List Int)) (n:Nat):AOk (folAll D n) n:=fun i j h=>by
 unfold afterM folAll at h
 rw [List.getElem?_map] at h
 cases hi:(List.range n)[i]? with
 | none=>rw [hi] at h; simp at h
 | some a =>
  rw [hi] at h
  obtain ⟨hin,rfl⟩:=List.getElem?_eq_some_iff.1 hi
  rw [List.length_range] at hin
  simp only [Option.map_some,List.getElem_range,folRow,List.getD_eq_getElem?_getD,List.getElem?_map] at h
  by_cases hj:j < n
  ·rw [List.getElem?_range hj] at h
   simp only [Option.map_some,Option.getD_some] at h
   refine ⟨?_,hj⟩
   rcases Nat.lt_trichotomy i j with h1 | h1 | h1
   ·exact h1
   ·subst h1; rw [folP_self] at h; cases h
   ·rw [folP_low D i j h1] at h; cases h
  ·rw [List.getElem?_eq_none (by simpa using hj)] at h
   simp at h
theorem crit_g (D:List (List Int)) (c:Cap) (hn:D.length≤1000):Gives Tryz.prog 60 [.sl (encL rowF D) c] (.sl (encL intF (critL (folAll D D.length) D.length)) (critC D.length)) :=
 critical_g D (folAll D D.length) c D.length rfl hn (by simp [folAll]) (fun r hr=>by
  obtain ⟨i,_,rfl⟩:=List.mem_map.1 hr
  simp [folRow]) (fol_ok D D.length) (follows_g D c D.length rfl hn)
theorem crit0 (ch:ChipD) (c3:Cap):Gives Tryz.prog 60 [.sl (encL rowF (jobM d0 ch).deps) c3] (.sl (encL intF [0,1]) .un):=by
 rw [deps0]
 have h:=crit_g [[0,2],[0,0]] c3 (by decide)
 have e:critL (folAll [[0,2],[0,0]] [[(0:Int),2],[0,0]].length) [[(0:Int),2],[0,0]].length=[0,1]:=by kernel_rfl
 rw [e] at h
 exact h
theorem prgU0:PrgU d0:=prgU_of (of_decide_eq_true (by kernel_rfl)) (by
 intro t ht
 simp [d0] at ht
 rcases ht with rfl | rfl <;> simp [IOk])
def awV (dd:PrgD):Nat→AV
 | 0=>.agg (aPrg dd)
 | 1=>.f (fChip (chipN8 1))
 | 2=>.f (fPlc 2 (.sl [] .nil) 0 17 (.sl (encL intF [0,1]) .un))
 | 3=>.f (.sl (encL intF [0,1]) .full)
 | 4=>.agg [.f (intF 2),.f (.sl [] .nil),.f (intF 0),.f (intF 17),.f (.sl (encL intF [0,1]) .full)]
 | 5=>.f (boolF true)
 | 6=>.f (boolF true)
 | 7=>.agg (aPrg dd)
 | 8=>.f (fChip (chipN8 2))
 | 9=>.f (fPlc 1 (sl (encL intF [0,1])) 3 0 (.sl [] .nil))
 | 10=>.f (.sl (encL intF [0,1]) .full)
 | 11=>.agg [.f (intF 1),.f (.sl (encL intF [0,1]) .full),.f (intF 3),.f (intF 0),.f (.sl [] .nil)]
 | 12=>.f (boolF true)
 | 13=>.f (boolF true)
 | 14=>.f (boolF true)
 | 15=>.agg (aPrg dd)
 | 16=>.f (fChip (chipN8 2))
 | 17=>.f (fPlc 3 (.sl [] .nil) 2 19 (.sl [] .nil))
 | 18=>.agg [.f (intF 3),.f (.sl [] .nil),.f (intF 2),.f (intF 19),.f (.sl [] .nil)]
 | 19=>.f (boolF true)
 | 20=>.f (boolF true)
 | 21=>.f (boolF true)
 | 22=>.agg (aPrg dd)
 | 23=>.f (fChip (chipN8 2))
 | 24=>.f (.sl (encL intF [0,1]) .full)
 | 25=>.f (boolF true)
 | 26=>.f (boolF true)
 | 27=>.f (boolF true)
 | 28=>.agg (aPrg dd)
 | 29=>.f (fChip (chipN8 2))
 | 30=>.f (.sl (encL intF [1,0]) .full)
 | 31=>.f (boolF false)
 | 32=>.f (boolF true)
 | 33=>.f (boolF true)
 | 34=>.f (boolF true)
 | 35=>.agg ((cChip chip0).map .f)
 | 36=>.f (intF 9)
 | 37=>.f (boolF true)
 | 38=>.f (boolF true)
 | _=>undefA
def awS (dd:PrgD) (D:Nat→Bool) (st:St):Prop:=DrwT [aPrg dd] [(1,.ref 0 0)] 3 39 (awV dd) 42 D st∧(D 39=true→ix st.t 0=some (.f (boolF true)))
theorem awS_put {dd:PrgD} {D:Nat→Bool} {t:List AV} {h:List (List AV)} {k:List (Nat × Nat)} (S:awS dd D ⟨t,h,k⟩) (m:Nat) (hm:m < 39) {x:AV} (hx:awV dd m=x):awS dd (fun j=>D j || j == m) ⟨putT t (some (3+m)) x,h,k⟩ :=
 ⟨S.1.put m hm (by decide) rfl hx,fun h9=>by
  have h9:D 39=true:=by
   have hne:¬ 39=m:=by omega
   simpa [hne] using h9
  have:=S.2 h9
  simp only [ix,putT] at this ⊢
  rw [List.getElem?_set_ne (by omega)]
  exact this⟩
theorem awS_end {dd:PrgD} {D:Nat→Bool} {t:List AV} {h:List (List AV)} {k:List (Nat × Nat)} (S:awS dd D ⟨t,h,k⟩):awS dd (fun j=>D j || j == 39) ⟨putT t (some 0) (.f (boolF true)),h,k⟩:=by
 obtain ⟨⟨h1,h2,h3,h4,h5⟩,_⟩:=S
 have h3:t.length=42:=h3
 refine ⟨⟨h1,h2,by simp only [putT,List.length_set]; exact h3,fun p hp=>?_,fun j hj hd=>?_⟩,fun _=>by simp only [ix,putT]; rw [List.getElem?_set_self (by omega)]⟩
 ·simp at hp
  subst hp
  have:=h4 (1,.ref 0 0) (by simp)
  simp only [ix,putT] at this ⊢
  rw [List.getElem?_set_ne (by decide)]
  exact this
 ·have hd:D j=true:=by
   have hne:¬ j=39:=by omega
   simpa [hne] using hd
  have:=h5 j hj hd
  simp only [ix,putT] at this ⊢
  rw [List.getElem?_set_ne (by omega)]
  exact this
theorem awake_g:Gives Tryz.prog 7 [] (boolF true):=by
 have p1:=place_g d0 (chipN8 1) 9 [0,1] .un prgU0 (crit0 _)
 have p2:=place_g d0 (chipN8 2) 9 [0,1] .un prgU0 (crit0 _)
 have p3:=place_g d0 (chipN8 2) 2 [0,1] .un prgU0 (crit0 _)
 have v1:=valid_g d0 (chipN8 2) [0,1] .full prgU0 (by decide)
 have v2:=valid_g d0 (chipN8 2) [1,0] .full prgU0 (by decide)
 have ck:=chip_g chip0
 rw [plc1] at p1
 rw [plc2] at p2
 rw [plc3] at p3
 rw [val1] at v1
 rw [val2] at v2
 rw [chk0] at ck
 have s1:=same_g 2 2 0 0 17 17 [] [] [0,1] [0,1] .nil .un .nil .full (by decide) (by decide)
 have s2:=same_g 1 1 3 3 0 0 [0,1] [0,1] [] [] .un .nil .full .nil (by decide) (by decide)
 have s3:=same_g 3 3 2 2 19 19 [] [] [] [] .nil .nil .nil .nil (by decide) (by decide)
 have sg:=sample_g
 generalize d0=dd at sg p1 p2 p3 v1 v2
 refine Gives.ofW Tryz.func7 rfl rfl rfl (by decide) ?_
 refine W.two (W.x mixed (by kernel_rfl) ?_)
 simp
 refine W.two (W.x mixed (by kernel_rfl) ?_)
 simp
 refine call_g sg ?_
 simp
 refine W.two (W.mono (Q:=fun ex s'=>ex=.normal∧Vf.Sl [(0,.f (boolF true))] 42 [aPrg dd] [] s') (W.draw_semG mixed (awS dd) ⟨⟨rfl,rfl,rfl,?_,fun i _ h=>(by cases h)⟩,fun h=>(by cases h)⟩ ?_ ?_ (by kernel_rfl)) ?_)
 ·intro p hp
  simp at hp
  subst hp
  rfl
 ·rintro D ⟨t,h,kk⟩ j o ho hD hdep T
  obtain ⟨e1,e2,hl,hkp,hT⟩:=T.1
  cases e1
  cases e2
  have k1:ix t 1=some (.ref 0 0):=hkp (1,_) (by simp)
  match j,ho with
  | 0,ho =>
   obtain rfl:=Option.some.inj ho
   simp [k1,aPrg]
   exact awS_put T 0 (by decide) rfl
  | 1,ho =>
   obtain rfl:=Option.some.inj ho
   simp
   refine call_g (lchip_g 1) ?_
   simp
   exact awS_put T 1 (by decide) rfl
  | 2,ho =>
   obtain rfl:=Option.some.inj ho
   have w0:D 0=true:=hdep ⟨0,.data⟩ (by simp) rfl
   have f0:ix t 3=some (.agg (aPrg dd)):=hT 0 (by decide) w0
   have w1:D 1=true:=hdep ⟨1,.data⟩ (by simp) rfl
   have f1:ix t 4=some (.f (fChip (chipN8 1))):=hT 1 (by decide) w1
   simp [f0,f1,aPrg]
   refine call_g (p1) ?_
   simp
   exact awS_put T 2 (by decide) rfl
  | 3,ho =>
   obtain rfl:=Option.some.inj ho
   simp
   exact awS_put T 3 (by decide) rfl
  | 4,ho =>
   obtain rfl:=Option.some.inj ho
   have w3:D 3=true:=hdep ⟨3,.data⟩ (by simp) rfl
   have f3:ix t 6=some (.f (.sl (encL intF [0,1]) .full)):=hT 3 (by decide) w3
   simp [f3]
   exact awS_put T 4 (by decide) rfl
  | 5,ho =>
   obtain rfl:=Option.some.inj ho
   have w2:D 2=true:=hdep ⟨2,.data⟩ (by simp) rfl
   have f2:ix t 5=some (.f (fPlc 2 (.sl [] .nil) 0 17 (.sl (encL intF [0,1]) .un))):=hT 2 (by decide) w2
   have w4:D 4=true:=hdep ⟨4,.data⟩ (by simp) rfl
   have f4:ix t 7=some (.agg [.f (intF 2),.f (.sl [] .nil),.f (intF 0),.f (intF 17),.f (.sl (encL intF [0,1]) .full)]):=hT 4 (by decide) w4
   simp [f2,f4]
   refine call_g (s1) ?_
   simp
   exact awS_put T 5 (by decide) rfl
  | 6,ho =>
   obtain rfl:=Option.some.inj ho
   have w5:D 5=true:=hdep ⟨5,.data⟩ (by simp) rfl
   have f5:ix t 8=some (.f (boolF true)):=hT 5 (by decide) w5
   simp [f5]
   exact awS_put T 6 (by decide) rfl
  | 7,ho =>
   obtain rfl:=Option.some.inj ho
   have w6:D 6=true:=hdep ⟨6,.guard⟩ (by simp) rfl
   have f6:ix t 9=some (.f (boolF true)):=hT 6 (by decide) w6
   simp [f6,k1,aPrg]
   exact awS_put T 7 (by decide) rfl
  | 8,ho =>
   obtain rfl:=Option.some.inj ho
   have w6:D 6=true:=hdep ⟨6,.guard⟩ (by simp) rfl
   have f6:ix t 9=some (.f (boolF true)):=hT 6 (by decide) w6
   simp [f6]
   refine call_g (lchip_g 2) ?_
   simp
   exact awS_put T 8 (by decide) rfl
  | 9,ho =>
   obtain rfl:=Option.some.inj ho
   have w6:D 6=true:=hdep ⟨6,.guard⟩ (by simp) rfl
   have f6:ix t 9=some (.f (boolF true)):=hT 6 (by decide) w6
   have w7:D 7=true:=hdep ⟨7,.data⟩ (by simp) rfl
   have f7:ix t 10=some (.agg (aPrg dd)):=hT 7 (by decide) w7
   have w8:D 8=true:=hdep ⟨8,.data⟩ (by simp) rfl
   have f8:ix t 11=some (.f (fChip (chipN8 2))):=hT 8 (by decide) w8
   simp [f6,f7,f8,aPrg]
   refine call_g (p2) ?_
   simp
   exact awS_put T 9 (by decide) rfl
  | 10,ho =>
   obtain rfl:=Option.some.inj ho
   have w6:D 6=true:=hdep ⟨6,.guard⟩ (by simp) rfl
   have f6:ix t 9=some (.f (boolF true)):=hT 6 (by decide) w6
   simp [f6]
   exact awS_put T 10 (by decide) rfl
  | 11,ho =>
   obtain rfl:=Option.some.inj ho
   have w6:D 6=true:=hdep ⟨6,.guard⟩ (by simp) rfl
   have f6:ix t 9=some (.f (boolF true)):=hT 6 (by decide) w6
   have w10:D 10=true:=hdep ⟨10,.data⟩ (by simp) rfl
   have f10:ix t 13=some (.f (.sl (encL intF [0,1]) .full)):=hT 10 (by decide) w10
   simp [f6,f10]
   exact awS_put T 11 (by decide) rfl
  | 12,ho =>
   obtain rfl:=Option.some.inj ho
   have w6:D 6=true:=hdep ⟨6,.guard⟩ (by simp) rfl
   have f6:ix t 9=some (.f (boolF true)):=hT 6 (by decide) w6
   have w9:D 9=true:=hdep ⟨9,.data⟩ (by simp) rfl
   have f9:ix t 12=some (.f (fPlc 1 (sl (encL intF [0,1])) 3 0 (.sl [] .nil))):=hT 9 (by decide) w9
   have w11:D 11=true:=hdep ⟨11,.data⟩ (by simp) rfl
   have f11:ix t 14=some (.agg [.f (intF 1),.f (.sl (encL intF [0,1]) .full),.f (intF 3),.f (intF 0),.f (.sl [] .nil)]):=hT 11 (by decide) w11
   simp [f6,f9,f11]
   refine call_g (s2) ?_
   simp
   exact awS_put T 12 (by decide) rfl
  | 13,ho =>
   obtain rfl:=Option.some.inj ho
   have w6:D 6=true:=hdep ⟨6,.data⟩ (by simp) rfl
   have f6:ix t 9=some (.f (boolF true)):=hT 6 (by decide) w6
   have w12:D 12=true:=hdep ⟨12,.data⟩ (by simp) rfl
   have f12:ix t 15=some (.f (boolF true)):=hT 12 (by decide) w12
   simp [f6,f12]
   exact awS_put T 13 (by decide) rfl
  | 14,ho =>
   obtain rfl:=Option.some.inj ho
   have w13:D 13=true:=hdep ⟨13,.data⟩ (by simp) rfl
   have f13:ix t 16=some (.f (boolF true)):=hT 13 (by decide) w13
   simp [f13]
   exact awS_put T 14 (by decide) rfl
  | 15,ho =>
   obtain rfl:=Option.some.inj ho
   have w14:D 14=true:=hdep ⟨14,.guard⟩ (by simp) rfl
   have f14:ix t 17=some (.f (boolF true)):=hT 14 (by decide) w14
   simp [f14,k1,aPrg]
   exact awS_put T 15 (by decide) rfl
  | 16,ho =>
   obtain rfl:=Option.some.inj ho
   have w14:D 14=true:=hdep ⟨14,.guard⟩ (by simp) rfl
   have f14:ix t 17=some (.f (boolF true)):=hT 14 (by decide) w14
   simp [f14]
   refine call_g (lchip_g 2) ?_
   simp
   exact awS_put T 16 (by decide) rfl
  | 17,ho =>
   obtain rfl:=Option.some.inj ho
   have w14:D 14=true:=hdep ⟨14,.guard⟩ (by simp) rfl
   have f14:ix t 17=some (.f (boolF true)):=hT 14 (by decide) w14
   have w15:D 15=true:=hdep ⟨15,.data⟩ (by simp) rfl
   have f15:ix t 18=some (.agg (aPrg dd)):=hT 15 (by decide) w15
   have w16:D 16=true:=hdep ⟨16,.data⟩ (by simp) rfl
   have f16:ix t 19=some (.f (fChip (chipN8 2))):=hT 16 (by decide) w16
   simp [f14,f15,f16,aPrg]
   refine call_g (p3) ?_
   simp
   exact awS_put T 17 (by decide) rfl
  | 18,ho =>
   obtain rfl:=Option.some.inj ho
   have w14:D 14=true:=hdep ⟨14,.guard⟩ (by simp) rfl
   have f14:ix t 17=some (.f (boolF true)):=hT 14 (by decide) w14
   simp [f14]
   exact awS_put T 18 (by decide) rfl
  | 19,ho =>
   obtain rfl:=Option.some.inj ho
   have w14:D 14=true:=hdep ⟨14,.guard⟩ (by simp) rfl
   have f14:ix t 17=some (.f (boolF true)):=hT 14 (by decide) w14
   have w17:D 17=true:=hdep ⟨17,.data⟩ (by simp) rfl
   have f17:ix t 20=some (.f (fPlc 3 (.sl [] .nil) 2 19 (.sl [] .nil))):=hT 17 (by decide) w17
   have w18:D 18=true:=hdep ⟨18,.data⟩ (by simp) rfl
   have f18:ix t 21=some (.agg [.f (intF 3),.f (.sl [] .nil),.f (intF 2),.f (intF 19),.f (.sl [] .nil)]):=hT 18 (by decide) w18
   simp [f14,f17,f18]
   refine call_g (s3) ?_
   simp
   exact awS_put T 19 (by decide) rfl
  | 20,ho =>
   obtain rfl:=Option.some.inj ho
   have w14:D 14=true:=hdep ⟨14,.data⟩ (by simp) rfl
   have f14:ix t 17=some (.f (boolF true)):=hT 14 (by decide) w14
   have w19:D 19=true:=hdep ⟨19,.data⟩ (by simp) rfl
   have f19:ix t 22=some (.f (boolF true)):=hT 19 (by decide) w19
   simp [f14,f19]
   exact awS_put T 20 (by decide) rfl
  | 21,ho =>
   obtain rfl:=Option.some.inj ho
   have w20:D 20=true:=hdep ⟨20,.data⟩ (by simp) rfl
   have f20:ix t 23=some (.f (boolF true)):=hT 20 (by decide) w20
   simp [f20]
   exact awS_put T 21 (by decide) rfl
  | 22,ho =>
   obtain rfl:=Option.some.inj ho
   have w21:D 21=true:=hdep ⟨21,.guard⟩ (by simp) rfl
   have f21:ix t 24=some (.f (boolF true)):=hT 21 (by decide) w21
   simp [f21,k1,aPrg]
   exact awS_put T 22 (by decide) rfl
  | 23,ho =>
   obtain rfl:=Option.some.inj ho
   have w21:D 21=true:=hdep ⟨21,.guard⟩ (by simp) rfl
   have f21:ix t 24=some (.f (boolF true)):=hT 21 (by decide) w21
   simp [f21]
   refine call_g (lchip_g 2) ?_
   simp
   exact awS_put T 23 (by decide) rfl
  | 24,ho =>
   obtain rfl:=Option.some.inj ho
   have w21:D 21=true:=hdep ⟨21,.guard⟩ (by simp) rfl
   have f21:ix t 24=some (.f (boolF true)):=hT 21 (by decide) w21
   simp [f21]
   exact awS_put T 24 (by decide) rfl
  | 25,ho =>
   obtain rfl:=Option.some.inj ho
   have w21:D 21=true:=hdep ⟨21,.guard⟩ (by simp) rfl
   have f21:ix t 24=some (.f (boolF true)):=hT 21 (by decide) w21
   have w22:D 22=true:=hdep ⟨22,.data⟩ (by simp) rfl
   have f22:ix t 25=some (.agg (aPrg dd)):=hT 22 (by decide) w22
   have w23:D 23=true:=hdep ⟨23,.data⟩ (by simp) rfl
   have f23:ix t 26=some (.f (fChip (chipN8 2))):=hT 23 (by decide) w23
   have w24:D 24=true:=hdep ⟨24,.data⟩ (by simp) rfl
   have f24:ix t 27=some (.f (.sl (encL intF [0,1]) .full)):=hT 24 (by decide) w24
   simp [f21,f22,f23,f24,aPrg]
   refine call_g (v1) ?_
   simp
   exact awS_put T 25 (by decide) rfl
  | 26,ho =>
   obtain rfl:=Option.some.inj ho
   have w21:D 21=true:=hdep ⟨21,.data⟩ (by simp) rfl
   have f21:ix t 24=some (.f (boolF true)):=hT 21 (by decide) w21
   have w25:D 25=true:=hdep ⟨25,.data⟩ (by simp) rfl
   have f25:ix t 28=some (.f (boolF true)):=hT 25 (by decide) w25
   simp [f21,f25]
   exact awS_put T 26 (by decide) rfl
  | 27,ho =>
   obtain rfl:=Option.some.inj ho
   have w26:D 26=true:=hdep ⟨26,.data⟩ (by simp) rfl
   have f26:ix t 29=some (.f (boolF true)):=hT 26 (by decide) w26
   simp [f26]
   exact awS_put T 27 (by decide) rfl
  | 28,ho =>
   obtain rfl:=Option.some.inj ho
   have w27:D 27=true:=hdep ⟨27,.guard⟩ (by simp) rfl
   have f27:ix t 30=some (.f (boolF true)):=hT 27 (by decide) w27
   simp [f27,k1,aPrg]
   exact awS_put T 28 (by decide) rfl
  | 29,ho =>
   obtain rfl:=Option.some.inj ho
   have w27:D 27=true:=hdep ⟨27,.guard⟩ (by simp) rfl
   have f27:ix t 30=some (.f (boolF true)):=hT 27 (by decide) w27
   simp [f27]
   refine call_g (lchip_g 2) ?_
   simp
   exact awS_put T 29 (by decide) rfl
  | 30,ho =>
   obtain rfl:=Option.some.inj ho
   have w27:D 27=true:=hdep ⟨27,.guard⟩ (by simp) rfl
   have f27:ix t 30=some (.f (boolF true)):=hT 27 (by decide) w27
   simp [f27]
   exact awS_put T 30 (by decide) rfl
  | 31,ho =>
   obtain rfl:=Option.some.inj ho
   have w27:D 27=true:=hdep ⟨27,.guard⟩ (by simp) rfl
   have f27:ix t 30=some (.f (boolF true)):=hT 27 (by decide) w27
   have w28:D 28=true:=hdep ⟨28,.data⟩ (by simp) rfl
   have f28:ix t 31=some (.agg (aPrg dd)):=hT 28 (by decide) w28
   have w29:D 29=true:=hdep ⟨29,.data⟩ (by simp) rfl
   have f29:ix t 32=some (.f (fChip (chipN8 2))):=hT 29 (by decide) w29
   have w30:D 30=true:=hdep ⟨30,.data⟩ (by simp) rfl
   have f30:ix t 33=some (.f (.sl (encL intF [1,0]) .full)):=hT 30 (by decide) w30
   simp [f27,f28,f29,f30,aPrg]
   refine call_g (v2) ?_
   simp
   exact awS_put T 31 (by decide) rfl
  | 32,ho =>
   obtain rfl:=Option.some.inj ho
   have w27:D 27=true:=hdep ⟨27,.guard⟩ (by simp) rfl
   have f27:ix t 30=some (.f (boolF true)):=hT 27 (by decide) w27
   have w31:D 31=true:=hdep ⟨31,.data⟩ (by simp) rfl
   have f31:ix t 34=some (.f (boolF false)):=hT 31 (by decide) w31
   simp [f27,f31]
   exact awS_put T 32 (by decide) rfl
  | 33,ho =>
   obtain rfl:=Option.some.inj ho
   have w27:D 27=true:=hdep ⟨27,.data⟩ (by simp) rfl
   have f27:ix t 30=some (.f (boolF true)):=hT 27 (by decide) w27
   have w32:D 32=true:=hdep ⟨32,.data⟩ (by simp) rfl
   have f32:ix t 35=some (.f (boolF true)):=hT 32 (by decide) w32
   simp [f27,f32]
   exact awS_put T 33 (by decide) rfl
  | 34,ho =>
   obtain rfl:=Option.some.inj ho
   have w33:D 33=true:=hdep ⟨33,.data⟩ (by simp) rfl
   have f33:ix t 36=some (.f (boolF true)):=hT 33 (by decide) w33
   simp [f33]
   exact awS_put T 34 (by decide) rfl
  | 35,ho =>
   obtain rfl:=Option.some.inj ho
   have w34:D 34=true:=hdep ⟨34,.guard⟩ (by simp) rfl
   have f34:ix t 37=some (.f (boolF true)):=hT 34 (by decide) w34
   simp [f34]
   exact awS_put T 35 (by decide) rfl
  | 36,ho =>
   obtain rfl:=Option.some.inj ho
   have w34:D 34=true:=hdep ⟨34,.guard⟩ (by simp) rfl
   have f34:ix t 37=some (.f (boolF true)):=hT 34 (by decide) w34
   have w35:D 35=true:=hdep ⟨35,.data⟩ (by simp) rfl
   have f35:ix t 38=some (.agg ((cChip chip0).map .f)):=hT 35 (by decide) w35
   simp [f34,f35]
   refine call_g (ck) ?_
   simp
   exact awS_put T 36 (by decide) rfl
  | 37,ho =>
   obtain rfl:=Option.some.inj ho
   have w34:D 34=true:=hdep ⟨34,.guard⟩ (by simp) rfl
   have f34:ix t 37=some (.f (boolF true)):=hT 34 (by decide) w34
   have w36:D 36=true:=hdep ⟨36,.data⟩ (by simp) rfl
   have f36:ix t 39=some (.f (intF 9)):=hT 36 (by decide) w36
   simp [f34,f36]
   exact awS_put T 37 (by decide) rfl
  | 38,ho =>
   obtain rfl:=Option.some.inj ho
   have w34:D 34=true:=hdep ⟨34,.data⟩ (by simp) rfl
   have f34:ix t 37=some (.f (boolF true)):=hT 34 (by decide) w34
   have w37:D 37=true:=hdep ⟨37,.data⟩ (by simp) rfl
   have f37:ix t 40=some (.f (boolF true)):=hT 37 (by decide) w37
   simp [f34,f37]
   exact awS_put T 38 (by decide) rfl
  | 39,ho =>
   obtain rfl:=Option.some.inj ho
   have w38:D 38=true:=hdep ⟨38,.data⟩ (by simp) rfl
   have f38:ix t 41=some (.f (boolF true)):=hT 38 (by decide) w38
   simp [f38]
   exact awS_end T
  | _+40,ho=>simp at ho
 ·rintro D ⟨t,h,kk⟩ hD T
  obtain ⟨⟨e1,e2,hl,hkp,hT⟩,h0⟩:=T
  cases e1
  cases e2
  refine ⟨rfl,Sl.of (picks_of ?_) hl rfl⟩
  intro p hp
  simp at hp
  subst hp
  exact h0 (hD 39 (by decide))
 rintro _ ⟨ts,hh,kk⟩ ⟨rfl,rfl,rfl,ff,rfl⟩
 simp
 refine W.x mixed (by kernel_rfl) ?_
 simp
end Go.Proofs.YtafenffmgpcjcaaGreat
