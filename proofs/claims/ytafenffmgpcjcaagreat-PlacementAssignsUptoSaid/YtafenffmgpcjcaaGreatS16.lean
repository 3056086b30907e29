/- Texts of the proof: S16. -/
import Derived.Test.YtafenffmgpcjcaaGreatS15
import Derived.Test.YtafenffmgpcjcaaGreatVC1
import Derived.Test.YtafenffmgpcjcaaGreatS6
namespace Go.Proofs.YtafenffmgpcjcaaGreat
open Go.RowKit Go.Proofs.YtafenffmgpcjcaaGreat.Vf
set_option linter.unusedVariables false
set_option linter.unusedSimpArgs false
set_option maxRecDepth 100000
set_option maxHeartbeats 4000000
def fits1 (j : JobD) (i : Nat) : Bool:=match j.units[i]?,j.costs[i]? with
 | some un,some co=>withinM (usAdd ⟨0,0,(0,0)⟩ un co) j.chip
 | _,_=>true
theorem find_hit {p : Nat→Bool} {n i : Nat} (h : noneT p (List.range n) i) (hi : i < n) (hp : p i = true) : (List.range n).find? p = some i:=by
 rw [List.find?_range_eq_some]
 exact ⟨hp,List.mem_range.2 hi,fun q hq=>by simpa using h q q hq (List.getElem?_range (by omega))⟩
theorem find_none {p : Nat→Bool} {n : Nat} (h : noneT p (List.range n) n) : (List.range n).find? p = none:=by
 rw [List.find?_eq_none]
 intro q hq
 have hq:=List.mem_range.1 hq
 simpa using h q q hq (List.getElem?_range hq)
def obsR (j : JobD) (cr : List Int) (cc : Cap) : FV:=match (List.range j.units.length).find? fun i=>!fits1 j i with
 | some i=>.tup [intF 18,.sl [intF i] .full]
 | none=>if (earE j.deps j.deps.length).any (fun s=>decide (j.chip.stages ≤ s)) then .tup [intF 17,.sl (encL intF cr) cc] else .tup [intF 0,.sl [] .nil]
def obI (j : JobD) (c1 c2 c3 : Cap) (i : Nat) (st : St) : Prop:=noneT (fun i=>!fits1 j i) (List.range j.units.length) i ∧
 Vf.Sl [(0,.f (.fp (cJob j c1 c2 c3))),(11,.f (intF j.units.length)),(12,.f (intF i))] 51 [] [] st
def obJ (j : JobD) (c1 c2 c3 : Cap) (S : List Int) (i : Nat) (st : St) : Prop:=noneT (fun s=>decide (j.chip.stages ≤ s)) S i ∧
 Vf.Sl [(0,.f (.fp (cJob j c1 c2 c3))),(32,.f (sl (encL intF S))),(33,.f (intF S.length)),(34,.f (intF i))] 51 [] [] st
theorem obstacle_g (j : JobD) (c1 c2 c3 : Cap) (cr : List Int) (cc : Cap) (hn : j.units.length ≤ 1000) (hc : j.costs.length = j.units.length) (hd : j.deps.length = j.units.length)
  (hcr : Gives Tryz.prog 60 [.sl (encL rowF j.deps) c3] (.sl (encL intF cr) cc)) :
  Gives Tryz.prog 30 [.fp (cJob j c1 c2 c3)] (obsR j cr cc):=by
 refine Gives.of mixed Tryz.func30 rfl rfl rfl (by kernel_rfl) ?_
 generalize hv : obsR j cr cc = v
 unfold obsR at hv
 simp
 refine forX mixed j.units.length (obI j c1 c2 c3) (by kernel_rfl) ⟨noneT.zero,Sl.of rfl rfl rfl⟩ ?_
 rintro i ⟨ts,hh,kk⟩ hi ⟨hno,rfl,rfl,f,rfl⟩
 by_cases hlt : i < j.units.length
 ·obtain ⟨un,hun,hun'⟩:=nth_of hlt
  obtain ⟨co,hco,hco'⟩:=nth_of (show i < j.costs.length by omega)
  have hw:=wrap64 (x:=(i : Int) + 1) (by omega) (by omega)
  have hf : fits1 j i = withinM (usAdd ⟨0,0,(0,0)⟩ un co) j.chip:=by unfold fits1; rw [hun',hco']
  simp [hlt]
  refine call_g (add_g j c1 c2 c3 ⟨0,0,(0,0)⟩ i hun' hco') ?_
  simp
  refine call_g (within_g (usAdd ⟨0,0,(0,0)⟩ un co) j.chip) ?_
  rw [← hf]
  cases hb : fits1 j i with
  | false =>
   rw [find_hit hno hlt (by rw [hb]; rfl)] at hv
   subst hv
   simp
  | true =>
   simp [hw]
   exact ⟨hno.next (x:=i) (by simp [hlt]) (by rw [hb]; rfl),Sl.of rfl rfl rfl⟩
 ·obtain rfl : i = j.units.length:=by omega
  rw [find_none hno] at hv
  simp only at hv
  simp
  refine call_g (earliest_g j.deps c3 (by omega)) ?_
  simp
  have hE : (earE j.deps j.deps.length).length = j.units.length:=by rw [earE_length,hd]
  generalize earE j.deps j.deps.length = E at *
  refine forX mixed E.length (obJ j c1 c2 c3 E) (by kernel_rfl) ⟨noneT.zero,Sl.of rfl rfl rfl⟩ ?_
  rintro i ⟨ts,hh,kk⟩ hi ⟨hno2,rfl,rfl,f2,rfl⟩
  by_cases hlt2 : i < E.length
  ·obtain ⟨x,hx,hx'⟩:=nth_of hlt2
   have hw:=wrap64 (x:=(i : Int) + 1) (by omega) (by omega)
   by_cases c0 : j.chip.stages ≤ x
   ·have ha : (E.any fun s=>decide (j.chip.stages ≤ s)) = true:=any_hit hx' (by simpa using c0)
    rw [ha,if_pos rfl] at hv
    subst hv
    simp [hlt2,hx,c0]
    refine call_g hcr ?_
    simp
   ·simp [hlt2,hx,c0,hw]
    exact ⟨hno2.next hx' (by simpa using c0),Sl.of rfl rfl rfl⟩
  ·obtain rfl : i = E.length:=by omega
   rw [hno2.all (by simp),if_neg (by decide)] at hv
   subst hv
   simp
def plcJ (j : JobD) (b : Int) (cr : List Int) (cc : Cap) : FV:=match (List.range j.units.length).find? fun i=>!fits1 j i with
 | some i=>fPlc 2 (.sl [] .nil) 0 18 (.sl (encL intF [(i : Int)]) .full)
 | none=>if (earE j.deps j.deps.length).any (fun s=>decide (j.chip.stages ≤ s)) then fPlc 2 (.sl [] .nil) 0 17 (.sl (encL intF cr) cc) else fSRes (srchM j (min b 1048576).toNat 0 0 0 (List.replicate j.units.length 0))
def plcF (d : PrgD) (c : ChipD) (b : Int) (cr : List Int) (cc : Cap) : FV :=
 if (prgCheckW d).1 = 0 then (if chipCheck c = 0 then (if b < 0 then fPlc 2 (.sl [] .nil) 0 2 (.sl [] .nil) else plcJ (jobM d c) b cr cc) else fPlc 2 (.sl [] .nil) 0 (chipCheck c) (.sl [] .nil)) else fPlc 2 (.sl [] .nil) 0 (prgCheckW d).1 (.sl [] .nil)
theorem place_g (d : PrgD) (c : ChipD) (b : Int) (cr : List Int) (cc : Cap) (hU : PrgU d) (hcr : ∀ c3,Gives Tryz.prog 60 [.sl (encL rowF (jobM d c).deps) c3] (.sl (encL intF cr) cc)) :
  Gives Tryz.prog 11 [fPrg d,fChip c,intF b] (plcF d c b cr cc):=by
 refine Gives.of mixed Tryz.func11 rfl rfl rfl (by kernel_rfl) ?_
 generalize hv : plcF d c b cr cc = v
 unfold plcF at hv
 simp [fPrg,cPrg]
 refine call_g (prg_g d hU.ok) ?_
 by_cases h1 : (prgCheckW d).1 = 0
 case neg =>
  rw [if_neg h1] at hv
  subst hv
  simp [h1]
  refine call_g (infeasible_g (prgCheckW d).1 0 [] .nil) ?_
  simp
 have hC:=prgC_of h1
 rw [if_pos h1] at hv
 simp [h1]
 refine call_g (chip_g c) ?_
 by_cases h2 : chipCheck c = 0
 case neg =>
  rw [if_neg h2] at hv
  subst hv
  simp [h2]
  refine call_g (infeasible_g (chipCheck c) 0 [] .nil) ?_
  simp
 rw [if_pos h2] at hv
 obtain ⟨k1,k2⟩:=chip_few h2
 obtain ⟨c1,c2,c3,hJ⟩:=newJob_g d c hU hC
 have hl:=bldM_len hU hC
 have hju : (jobM d c).units.length = (bldM d).length:=rfl
 have hjc : (jobM d c).costs.length = (jobM d c).units.length:=by simp [jobM]
 have hjd : (jobM d c).deps.length = (jobM d c).units.length:=by simp [jobM,depsM]
 have hjr : ∀ i,i < (jobM d c).units.length→∃ r,(jobM d c).deps[i]? = some r∧r.length = (jobM d c).units.length:=fun i hi=>by
  have hi : i < (bldM d).length:=hi
  exact ⟨(List.range (bldM d).length).map fun b=>depM (rdF d (bldM d)) (wrF d (bldM d)) (bldM d) i b,by simp [jobM,depsM,hi],by simp [jobM]⟩
 have hjchip : (jobM d c).chip = c:=rfl
 simp [h2]
 by_cases h3 : b < 0
 ·rw [if_pos h3] at hv
  subst hv
  simp [h3]
  refine call_g (infeasible_g 2 0 [] .nil) ?_
  simp
 rw [if_neg h3] at hv
 simp [h3]
 refine call_g hJ ?_
 have hob:=obstacle_g (jobM d c) c1 c2 c3 cr cc (by omega) hjc hjd (hcr c3)
 generalize jobM d c = j at *
 simp
 refine call_g hob ?_
 unfold plcJ at hv
 unfold obsR
 cases hf : (List.range j.units.length).find? fun i=>!fits1 j i with
 | some i =>
  rw [hf] at hv
  simp only at hv
  subst hv
  simp
  refine call_g (infeasible_g 18 0 [(i : Int)] .full) ?_
  simp
 | none =>
  rw [hf] at hv
  simp only at hv
  cases he : (earE j.deps j.deps.length).any (fun s=>decide (j.chip.stages ≤ s)) with
  | true =>
   rw [he,if_pos rfl] at hv
   subst hv
   simp
   refine call_g (infeasible_g 17 0 cr cc) ?_
   simp
  | false =>
   rw [he,if_neg (by decide)] at hv
   subst hv
   have hB : (((min b 1048576).toNat : Nat) : Int) = min b 1048576:=Int.toNat_of_nonneg (by omega)
   have hs:=search_g j c1 c2 c3 (min b 1048576).toNat (by omega) hjc hjr (by rw [hjchip]; exact k1) (by rw [hjchip]; exact k2) (by omega)
   rw [hB] at hs
   simp
   rw [ops_min (q:=.i64) (a:=b) (b:=1048576) rfl rfl]
   simp
   refine call_g hs ?_
   cases hR : srchM j (min b 1048576).toNat 0 0 0 (List.replicate j.units.length 0) <;> simp [fSRes]
abbrev chipN8 (n : Int) : ChipD:=⟨n,4,4,8,8,8,8,8⟩
theorem deps0 (c : ChipD) : (jobM d0 c).deps = [[0,2],[0,0]]:=by kernel_rfl
theorem plc1 (cr : List Int) (cc : Cap) : plcF d0 (chipN8 1) 9 cr cc = fPlc 2 (.sl [] .nil) 0 17 (.sl (encL intF cr) cc):=by kernel_rfl
theorem plc2 (cr : List Int) (cc : Cap) : plcF d0 (chipN8 2) 9 cr cc = fPlc 1 (sl (encL intF [0,1])) 3 0 (.sl [] .nil):=by kernel_rfl
theorem plc3 (cr : List Int) (cc : Cap) : plcF d0 (chipN8 2) 2 cr cc = fPlc 3 (.sl [] .nil) 2 19 (.sl [] .nil):=by kernel_rfl
theorem val1 : validM d0 (chipN8 2) [0,1] = true:=by kernel_rfl
theorem val2 : validM d0 (chipN8 2) [1,0] = false:=by kernel_rfl
theorem chk0 : chipCheck chip0 = 9:=by kernel_rfl
abbrev browF (r : List Bool) : FV:=.sl (encL boolF r) .un
def afterM (A : List (List Bool)) (i j : Nat) : Bool:=match A[i]? with
 | some r=>r.getD j false
 | none=>false
def szIn (A : List (List Bool)) (i : Nat) (S : List Int) : Nat→List Int
 | 0=>S.set i 1
 | j + 1=>if afterM A i j then (szIn A i S j).set i (max ((szIn A i S j).getD i 0) (IntKind.i64.wrap ((szIn A i S j).getD j 0 + 1))) else szIn A i S j
def szM (A : List (List Bool)) (n : Nat) : Nat→List Int × Nat
 | 0=>(List.replicate n 0,0)
 | k + 1=>(szIn A (n - 1 - k) (szM A n k).1 n,if k = 0 ∨ (szIn A (n - 1 - k) (szM A n k).1 n).getD (szM A n k).2 0 ≤ (szIn A (n - 1 - k) (szM A n k).1 n).getD (n - 1 - k) 0 then n - 1 - k else (szM A n k).2)
theorem szIn_length (A : List (List Bool)) (i : Nat) (S : List Int) : ∀ j,(szIn A i S j).length = S.length
 | 0=>by simp [szIn]
 | j + 1=>by rw [szIn]; split <;> simp [szIn_length A i S j]
theorem szM_length (A : List (List Bool)) (n : Nat) : ∀ k,(szM A n k).1.length = n
 | 0=>by simp [szM]
 | k + 1=>by rw [szM]; simp [szIn_length,szM_length A n k]
theorem szM_first (A : List (List Bool)) (n : Nat) : ∀ k,0 < n→(szM A n k).2 < n
 | 0,h=>h
 | k + 1,h=>by
  have:=szM_first A n k h
  rw [szM]; simp only; split
  ·omega
  ·exact this
def cpOk (A : List (List Bool)) (S : List Int) (a j : Nat) : Bool:=afterM A a j && decide (S.getD j 0 = S.getD a 0 - 1)
def cpW (A : List (List Bool)) (S : List Int) (n : Nat) : Nat→Nat→List Int
 | 0,a=>[(a : Int)]
 | f + 1,a=>if S.getD a 0 ≤ 1 then [(a : Int)] else match (List.range n).find? (cpOk A S a) with
  | some j=>(a : Int) :: cpW A S n f j
  | none=>[(a : Int)]
def critL (A : List (List Bool)) (n : Nat) : List Int:=if n = 0 then [] else cpW A (szM A n n).1 n n (szM A n n).2
def critC (n : Nat) : Cap:=if n = 0 then .nil else .un
abbrev gz (S : List Int) (q : Nat) : Int:=S.getD q 0
theorem gz_set_ne {S : List Int} {i q : Nat} (x : Int) (h : i ≠ q) : gz (S.set i x) q = gz S q:=by
 unfold gz; rw [List.getD_eq_getElem?_getD,List.getD_eq_getElem?_getD,List.getElem?_set_ne h]
theorem gz_set_eq {S : List Int} {i : Nat} (x : Int) (h : i < S.length) : gz (S.set i x) i = x:=by
 unfold gz; rw [List.getD_eq_getElem?_getD,List.getElem?_set_self h]; rfl
def AOk (A : List (List Bool)) (n : Nat) : Prop:=∀ i j,afterM A i j = true→i < j∧j < n
structure Siz (A : List (List Bool)) (n lo : Nat) (S : List Int) : Prop where
 len : S.length = n
 one : ∀ q,lo ≤ q→q < n→1 ≤ gz S q∧gz S q ≤ n - q
 up : ∀ q j,lo ≤ q→q < n→afterM A q j = true→gz S j + 1 ≤ gz S q
 hit : ∀ q,lo ≤ q→q < n→gz S q = 1 ∨ ∃ j,afterM A q j = true∧gz S q = gz S j + 1
theorem szIn_siz {A : List (List Bool)} {n i : Nat} {S : List Int} (hA : AOk A n) (hn : n ≤ 1000) (hi : i < n) (h : Siz A n (i + 1) S) : ∀ j,j ≤ n →
  (∀ q,q ≠ i→gz (szIn A i S j) q = gz S q)∧1 ≤ gz (szIn A i S j) i∧gz (szIn A i S j) i ≤ n - i∧(∀ j',j' < j→afterM A i j' = true→gz S j' + 1 ≤ gz (szIn A i S j) i) ∧
  (gz (szIn A i S j) i = 1 ∨ ∃ j',j' < j∧afterM A i j' = true∧gz (szIn A i S j) i = gz S j' + 1):=by
 intro j
 induction j with
 | zero =>
  intro _
  have e : gz (szIn A i S 0) i = 1:=by rw [szIn]; exact gz_set_eq 1 (by rw [h.len]; exact hi)
  refine ⟨fun q hq=>by rw [szIn]; exact gz_set_ne _ (Ne.symm hq),by rw [e]; exact Int.le_refl _,by rw [e]; omega,fun j' hj=>by omega,.inl e⟩
 | succ j ih =>
  intro hj
  obtain ⟨a,b,c,d,e⟩:=ih (by omega)
  have hl : (szIn A i S j).length = n:=by rw [szIn_length,h.len]
  rw [szIn]
  by_cases ha : afterM A i j = true
  ·rw [if_pos ha]
   have hij:=hA i j ha
   have hsj:=h.one j (by omega) hij.2
   have ej : (szIn A i S j).getD j 0 = gz S j:=a j (by omega)
   have ei : (szIn A i S j).getD i 0 = gz (szIn A i S j) i:=rfl
   have hw : IntKind.i64.wrap (gz S j + 1) = gz S j + 1:=wrap64 (by omega) (by omega)
   rw [ej,ei,hw]
   have hself:=gz_set_eq (S:=szIn A i S j) (i:=i) (max (gz (szIn A i S j) i) (gz S j + 1)) (by rw [hl]; exact hi)
   rw [hself]
   refine ⟨fun q hq=>by rw [gz_set_ne _ (Ne.symm hq)]; exact a q hq,by omega,by omega,fun j' hj' ha'=>?_,?_⟩
   ·rcases Nat.lt_or_ge j' j with h1 | h1
    ·have:=d j' h1 ha'; omega
    ·obtain rfl : j' = j:=by omega
     omega
   ·by_cases hm : gz (szIn A i S j) i ≤ gz S j + 1
    ·exact .inr ⟨j,by omega,ha,by omega⟩
    ·rcases e with e | ⟨j',h1,h2,h3⟩
     ·exact .inl (by omega)
     ·exact .inr ⟨j',by omega,h2,by omega⟩
  ·rw [if_neg ha]
   refine ⟨a,b,c,fun j' hj' ha'=>?_,?_⟩
   ·rcases Nat.lt_or_ge j' j with h1 | h1
    ·exact d j' h1 ha'
    ·obtain rfl : j' = j:=by omega
     exact absurd ha' ha
   ·rcases e with e | ⟨j',h1,h2,h3⟩
    ·exact .inl e
    ·exact .inr ⟨j',by omega,h2,h3⟩
theorem szM_siz {A : List (List Bool)} {n : Nat} (hA : AOk A n) (hn : n ≤ 1000) : ∀ k,k ≤ n→Siz A n (n - k) (szM A n k).1
 | 0,_=>⟨szM_length A n 0,fun q h1 h2=>by omega,fun q j h1 h2=>by omega,fun q h1 h2=>by omega⟩
 | k + 1,hk=>by
  have ih:=szM_siz hA hn k (by omega)
  have hi : n - 1 - k < n:=by omega
  have en : n - (k + 1) = n - 1 - k:=by omega
  rw [show n - k = n - 1 - k + 1 by omega] at ih
  obtain ⟨a,b,c,d,e⟩:=szIn_siz hA hn hi ih n (Nat.le_refl _)
  rw [szM]
  show Siz A n (n - (k + 1)) (szIn A (n - 1 - k) (szM A n k).1 n)
  rw [en]
  have hlR : (szIn A (n - 1 - k) (szM A n k).1 n).length = n:=by rw [szIn_length,szM_length]
  generalize (szM A n k).1 = S at *
  generalize szIn A (n - 1 - k) S n = R at *
  refine ⟨hlR,fun q h1 h2=>?_,fun q j h1 h2 h3=>?_,fun q h1 h2=>?_⟩
  ·by_cases hq : q = n - 1 - k
   ·subst hq; exact ⟨b,c⟩
   ·rw [a q hq]; exact ih.one q (by omega) h2
  ·have hj:=hA q j h3
   rw [a j (by omega)]
   by_cases hq : q = n - 1 - k
   ·subst hq; exact d j hj.2 h3
   ·rw [a q hq]; exact ih.up q j (by omega) h2 h3
  ·by_cases hq : q = n - 1 - k
   ·subst hq
    rcases e with e | ⟨j,h3,h4,h5⟩
    ·exact .inl e
    ·exact .inr ⟨j,h4,by rw [h5,a j (by have:=hA _ _ h4; omega)]⟩
   ·rcases ih.hit q (by omega) h2 with e2 | ⟨j,h4,h5⟩
    ·exact .inl (by rw [a q hq]; exact e2)
    ·exact .inr ⟨j,h4,by rw [a q hq,a j (by have:=hA _ _ h4; omega)]; exact h5⟩
theorem find_range_least {p : Nat→Bool} {n j : Nat} (h : (List.range n).find? p = some j) : j < n∧p j = true∧∀ q,q < j→p q = false:=by
 rw [List.find?_range_eq_some] at h
 exact ⟨List.mem_range.1 h.2.1,h.1,fun q hq=>by simpa using h.2.2 q hq⟩
theorem cpW_some {A : List (List Bool)} {n : Nat} {S : List Int} (h : Siz A n 0 S) (hA : AOk A n) {a : Nat} (ha : a < n) (h1 : ¬ gz S a ≤ 1) : ∃ j,(List.range n).find? (cpOk A S a) = some j∧a < j∧j < n∧afterM A a j = true∧gz S j = gz S a - 1∧∀ q,q < j→cpOk A S a q = false:=by
 cases hf : (List.range n).find? (cpOk A S a) with
 | none =>
  exfalso
  rw [List.find?_eq_none] at hf
  rcases h.hit a (by omega) ha with e | ⟨j,h2,h3⟩
  ·omega
  ·exact hf j (List.mem_range.2 (hA a j h2).2) (by unfold cpOk; simp only [Bool.and_eq_true,decide_eq_true_eq]; exact ⟨h2,by show gz S j = gz S a - 1; omega⟩)
 | some j =>
  obtain ⟨h2,h3,h4⟩:=find_range_least hf
  unfold cpOk at h3
  simp only [Bool.and_eq_true,decide_eq_true_eq] at h3
  exact ⟨j,rfl,(hA a j h3.1).1,h2,h3.1,h3.2,h4⟩
theorem cpW_fuel {A : List (List Bool)} {n : Nat} {S : List Int} (h : Siz A n 0 S) (hA : AOk A n) : ∀ (f a : Nat),a < n→gz S a ≤ f + 1→cpW A S n (f + 1) a = cpW A S n f a∧((cpW A S n f a).length : Int) = gz S a∧(cpW A S n f a).head? = some (a : Int)
 | 0,a,ha,hf=>by
  have h1:=(h.one a (by omega) ha).1
  have hf : gz S a ≤ 1:=by omega
  have e1 : cpW A S n (0 + 1) a = [(a : Int)]:=by rw [cpW]; exact if_pos hf
  have e0 : cpW A S n 0 a = [(a : Int)]:=rfl
  rw [e1,e0]
  exact ⟨rfl,by show ((1 : Nat) : Int) = _; omega,rfl⟩
 | f + 1,a,ha,hf=>by
  by_cases h1 : gz S a ≤ 1
  ·have h2:=(h.one a (by omega) ha).1
   rw [cpW,if_pos h1,cpW,if_pos h1]
   exact ⟨rfl,by show ((1 : Nat) : Int) = _; omega,rfl⟩
  ·obtain ⟨j,e,h2,h3,h4,h5,h6⟩:=cpW_some h hA ha h1
   obtain ⟨g1,g2,g3⟩:=cpW_fuel h hA f j h3 (by omega)
   rw [cpW,if_neg h1,e,cpW,if_neg h1,e]
   simp only
   rw [g1]
   exact ⟨rfl,by rw [List.length_cons]; omega,rfl⟩
def crtI (d : List (List Int)) (A : List (List Bool)) (c : Cap) (n k : Nat) (s : St) : Prop:=Vf.Sl [(0,.f (.sl (encL rowF d) c)),(3,.f (intF n)),(4,.f (.sl (encL browF A) .un)),(5,.ms 0 0 n n 1),(6,.f (intF (szM A n k).2)),(7,.f (intF ((n : Int) - 1 - k)))] 108 [rowA (szM A n k).1] [] s
def crtJ (d : List (List Int)) (A : List (List Bool)) (c : Cap) (n k j : Nat) (s : St) : Prop:=Vf.Sl [(0,.f (.sl (encL rowF d) c)),(3,.f (intF n)),(4,.f (.sl (encL browF A) .un)),(5,.ms 0 0 n n 1),(6,.f (intF (szM A n k).2)),(7,.f (intF ((n - 1 - k : Nat) : Int))),(27,.f (intF n)),(28,.f (intF j))] 108 [rowA (szIn A (n - 1 - k) (szM A n k).1 j)] [] s
theorem cpW_step {A : List (List Bool)} {n : Nat} {S : List Int} (h : Siz A n 0 S) (hA : AOk A n) {a : Nat} (ha : a < n) :
  (gz S a ≤ 1∧cpW A S n n a = [(a : Int)]) ∨ (¬ gz S a ≤ 1∧∃ j,j < n∧gz S j = gz S a - 1∧(∀ q,q < j→cpOk A S a q = false)∧cpOk A S a j = true∧cpW A S n n a = (a : Int) :: cpW A S n n j):=by
 obtain ⟨m,rfl⟩ : ∃ m,n = m + 1:=⟨n - 1,by omega⟩
 by_cases h1 : gz S a ≤ 1
 ·exact .inl ⟨h1,by rw [cpW]; exact if_pos h1⟩
 ·obtain ⟨j,e,h2,h3,h4,h5,h6⟩:=cpW_some h hA ha h1
  have hj:=h.one j (by omega) h3
  obtain ⟨g1,_⟩:=cpW_fuel h hA m j h3 (by omega)
  refine .inr ⟨h1,j,h3,h5,h6,(find_range_least e).2.1,?_⟩
  rw [g1,cpW]
  refine (if_neg h1).trans ?_
  rw [e]
def LineT (k : List (Nat × Nat)) (x : AV) (L : List Int) : Prop:=x = .f (.sl (encL intF L) .full) ∨ ∃ t,x = .own (encL intF L) t∧k[t]? = some (L.length,1)
theorem line_app {k : List (Nat × Nat)} {x : AV} {L : List Int} (h : LineT k x L) (hL : L.length ≤ 100000) (j : Int) : ∃ t' k',opAppend (tyOf Tryz.prog) k 29 x (.f (.sl [intF j] .full)) = some (.own (encL intF (L ++ [j])) t',k')∧LineT k' (.own (encL intF (L ++ [j])) t') (L ++ [j]):=by
 have hc : ∀ u ∈ encL intF L,(u.cells.length == 1) = true:=fun u hu=>by
  obtain ⟨y,_,rfl⟩:=List.mem_map.1 hu
  rfl
 have hall : (encL intF L).all (fun u=>u.cells.length == 1) = true:=List.all_eq_true.2 hc
 have hl : (encL intF L).length = L.length:=by simp
 have he : encL intF L ++ [intF j] = encL intF (L ++ [j]):=by simp [encL]
 rcases h with rfl | ⟨t,rfl,ht⟩
 ·refine ⟨k.length,k ++ [(L.length + 1,1)],?_,.inr ⟨_,rfl,by simp⟩⟩
  unfold opAppend
  simp only [ty29,ty3,elems]
  rw [if_neg (by decide),if_pos (by rfl),if_neg (by simp),if_pos ⟨by decide,hall,by simp; omega,by simp; omega⟩,he]
  simp
 ·have htl:=(List.getElem?_eq_some_iff.1 ht).1
  refine ⟨t,k.set t (L.length + 1,1),?_,.inr ⟨_,rfl,by rw [List.getElem?_set_self htl]; simp⟩⟩
  unfold opAppend
  simp only [ty29,ty3,elems]
  rw [if_neg (by decide),if_pos (by rfl),if_neg (by simp),if_pos ⟨by rw [hl]; exact ht,by simp; omega,by simp; omega⟩,he]
  simp
def wkI (A : List (List Bool)) (n : Nat) (S R : List Int) (m : Nat) (s : St) : Prop:=∃ a L x k,a < n∧m = (gz S a).toNat∧L.length + m ≤ n + 1∧LineT k x L∧L ++ (cpW A S n n a).tail = R ∧
 Vf.Sl [(3,.f (intF n)),(4,.f (.sl (encL browF A) .un)),(5,.ms 0 0 n n 1),(9,x),(10,.f (intF a))] 108 [rowA S] k s
def wkJ (A : List (List Bool)) (n : Nat) (S : List Int) (a : Nat) (x : AV) (k : List (Nat × Nat)) (j : Nat) (s : St) : Prop:=noneT (cpOk A S a) (List.range n) j ∧
 Vf.Sl [(3,.f (intF n)),(4,.f (.sl (encL browF A) .un)),(5,.ms 0 0 n n 1),(9,x),(10,.f (intF a)),(78,.f (intF n)),(79,.f (intF j))] 108 [rowA S] k s
theorem critical_g (d : List (List Int)) (A : List (List Bool)) (c : Cap) (n : Nat) (hd : d.length = n) (hn : n ≤ 1000) (hA : A.length = n) (hr : ∀ r ∈ A,r.length = n) (hAO : AOk A n)
  (hfo : Gives Tryz.prog 120 [.sl (encL rowF d) c] (.sl (encL browF A) .un)) :
  Gives Tryz.prog 60 [.sl (encL rowF d) c] (.sl (encL intF (critL A n)) (critC n)):=by
 refine Gives.ofW Tryz.func60 rfl rfl rfl (by decide) ?_
 have hmk : n < 2^32:=by omega
 refine W.two (W.x mixed (by kernel_rfl) ?_)
 simp
 refine W.scp ?_
 refine W.two (W.x mixed (by kernel_rfl) ?_)
 simp [hd]
 refine W.two (W.x mixed (by kernel_rfl) ?_)
 simp
 refine call_g hfo ?_
 simp
 refine W.two (W.x mixed (by kernel_rfl) ?_)
 simp [make_i hmk]
 refine W.two (W.x mixed (by kernel_rfl) ?_)
 simp
 have hw0:=wrap64 (x:=(n : Int) - 1) (by omega) (by omega)
 refine W.two (W.two (W.x mixed (by kernel_rfl) ?_))
 simp [hw0]
 refine W.blk (forW n (crtI d A c n) ?_ ?_)
 ·unfold crtI
  simp [szM]
  exact Sl.of rfl rfl rfl
 rintro k ⟨ts,hh,kk⟩ hk ⟨rfl,rfl,f,rfl⟩
 refine W.two (W.x mixed (by kernel_rfl) ?_)
 by_cases hkn : k < n
 ·have g0 : (0 : Int) ≤ (n : Int) - 1 - k:=by omega
  have ge : (n : Int) - 1 - k = ((n - 1 - k : Nat) : Int):=by omega
  have hlen:=szM_length A n k
  have hif : n - 1 - k < n:=by omega
  have hif2 : n - 1 - k + 1 ≤ n:=by omega
  rw [ge]
  simp
  refine W.two (W.blk (W.two (W.x mixed (by kernel_rfl) ?_)))
  simp [hif,hif2,hlen]
  refine W.two (W.two (W.x mixed (by kernel_rfl) ?_))
  simp
  refine W.blk (forX mixed n (crtJ d A c n k) (by kernel_rfl) (Sl.of rfl rfl rfl) ?_)
  rintro j ⟨ts,hh,kk⟩ hj ⟨rfl,rfl,f,rfl⟩
  have hsl : (szIn A (n - 1 - k) (szM A n k).1 j).length = n:=by rw [szIn_length,hlen]
  have hs : szIn A (n - 1 - k) (szM A n k).1 (j + 1) = if afterM A (n - 1 - k) j then (szIn A (n - 1 - k) (szM A n k).1 j).set (n - 1 - k) (max ((szIn A (n - 1 - k) (szM A n k).1 j).getD (n - 1 - k) 0) (IntKind.i64.wrap ((szIn A (n - 1 - k) (szM A n k).1 j).getD j 0 + 1))) else szIn A (n - 1 - k) (szM A n k).1 j:=rfl
  by_cases hjn : j < n
  ·have hw':=wrap64 (x:=(j : Int) + 1) (by omega) (by omega)
   obtain ⟨r,hrr,hrr'⟩:=nth_of (show n - 1 - k < A.length by omega)
   have hrl : r.length = n:=hr r (List.mem_of_getElem? hrr')
   obtain ⟨b,hb,hb'⟩:=nth_of (show j < r.length by omega)
   have haf : afterM A (n - 1 - k) j = b:=by unfold afterM; rw [hrr']; simp only; rw [List.getD_eq_getElem?_getD,hb']; rfl
   rw [haf] at hs
   cases b with
   | false =>
    simp [hjn,hif,hA,hrr,hrl,hb,hw']
    unfold crtJ
    rw [hs]
    exact Sl.of rfl rfl rfl
   | true =>
    rw [if_pos rfl] at hs
    generalize szIn A (n - 1 - k) (szM A n k).1 j = S at *
    obtain ⟨x,hx,hx'⟩:=nth_of (show n - 1 - k < S.length by omega)
    obtain ⟨y,hy,hy'⟩:=nth_of (show j < S.length by omega)
    have gx:=rowA_at hx'
    have gy:=rowA_at hy'
    have dx : S.getD (n - 1 - k) 0 = x:=by rw [List.getD_eq_getElem?_getD,hx']; rfl
    have dy : S.getD j 0 = y:=by rw [List.getD_eq_getElem?_getD,hy']; rfl
    rw [dx,dy] at hs
    simp [hjn,hif,hA,hrr,hrl,hb,hsl,gx,gy]
    rw [ops_max (q:=.i64) (a:=x) (b:=IntKind.i64.wrap (y + 1)) rfl rfl]
    simp [hsl,hif,hif2,hw',hjn]
    unfold crtJ
    rw [hs]
    exact Sl.of rfl rfl rfl
  ·obtain rfl : n = j:=by omega
   have hM : szM A n (k + 1) = (szIn A (n - 1 - k) (szM A n k).1 n,if k = 0 ∨ (szIn A (n - 1 - k) (szM A n k).1 n).getD (szM A n k).2 0 ≤ (szIn A (n - 1 - k) (szM A n k).1 n).getD (n - 1 - k) 0 then n - 1 - k else (szM A n k).2):=rfl
   have hfs:=szM_first A n k (by omega)
   have hw7:=wrap64 (x:=((n - 1 - k : Nat) : Int) - 1) (by omega) (by omega)
   have e7 : ((n - 1 - k : Nat) : Int) - 1 = (n : Int) - 1 - ((k + 1 : Nat) : Int):=by omega
   rw [e7] at hw7
   simp
   generalize szIn A (n - 1 - k) (szM A n k).1 n = S at *
   generalize (szM A n k).2 = fst at *
   obtain ⟨x,hx,hx'⟩:=nth_of (show n - 1 - k < S.length by omega)
   obtain ⟨y,hy,hy'⟩:=nth_of (show fst < S.length by omega)
   have gx:=rowA_at hx'
   have gy:=rowA_at hy'
   have dx : S.getD (n - 1 - k) 0 = x:=by rw [List.getD_eq_getElem?_getD,hx']; rfl
   have dy : S.getD fst 0 = y:=by rw [List.getD_eq_getElem?_getD,hy']; rfl
   rw [dx,dy] at hM
   refine W.two (W.x mixed (by kernel_rfl) ?_)
   by_cases k0 : k = 0
   ·have e1 : ((n - 1 - k : Nat) : Int) = (n : Int) - 1:=by omega
    rw [if_pos (.inl k0)] at hM
    simp [hw0,e1]
    refine W.x mixed (by kernel_rfl) ?_
    simp
    refine W.x mixed (by kernel_rfl) ?_
    have e8 : (n : Int) - 1 - 1 = (n : Int) - 1 - ((k + 1 : Nat) : Int):=by omega
    have hw7' : IntKind.i64.wrap ((n : Int) - 1 - 1) = (n : Int) - 1 - ((k + 1 : Nat) : Int):=by rw [e8]; exact hw7
    simp [hw7']
    refine ⟨by omega,?_⟩
    unfold crtI
    rw [hM]
    simp only [e1]
    exact Sl.of rfl rfl rfl
   ·have e1 : ¬((n - 1 - k : Nat) : Int) = (n : Int) - 1:=by omega
    by_cases c1 : y ≤ x
    ·rw [if_pos (.inr c1)] at hM
     simp [hw0,e1,hsl,hif,hfs,gx,gy,c1]
     refine W.x mixed (by kernel_rfl) ?_
     simp
     refine W.x mixed (by kernel_rfl) ?_
     simp only [← e7] at hw7
     simp [hw7]
     refine ⟨by omega,?_⟩
     unfold crtI
     rw [hM,← e7]
     exact Sl.of rfl rfl rfl
    ·rw [if_neg (by rintro (h | h); exact k0 h; exact c1 h)] at hM
     simp [hw0,e1,hsl,hif,hfs,gx,gy,c1]
     refine W.x mixed (by kernel_rfl) ?_
     simp
     refine W.x mixed (by kernel_rfl) ?_
     simp only [← e7] at hw7
     simp [hw7]
     refine ⟨by omega,?_⟩
     unfold crtI
     rw [hM,← e7]
     exact Sl.of rfl rfl rfl
 ·obtain rfl : k = n:=by omega
  have hk1 : ¬((k : Int) ≤ (k : Int) - 1):=by omega
  simp [hk1]
  refine W.two (W.x mixed (by kernel_rfl) ?_)
  by_cases n0 : k = 0
  ·subst n0
   simp [critL,critC,encL]
  ·simp [n0]
   refine W.two (W.x mixed (by kernel_rfl) ?_)
   simp
   refine W.two (W.x mixed (by kernel_rfl) ?_)
   simp
   refine W.two (W.x mixed (by kernel_rfl) ?_)
   simp
   have hsiz:=szM_siz hAO hn k (Nat.le_refl _)
   rw [Nat.sub_self] at hsiz
   have hfirst:=szM_first A k k (by omega)
   have hR : critL A k = cpW A (szM A k k).1 k k (szM A k k).2:=by unfold critL; rw [if_neg n0]
   have hcc : critC k = .un:=by unfold critC; rw [if_neg n0]
   rw [hR,hcc]
   generalize (szM A k k).2 = a0 at *
   generalize (szM A k k).1 = S at *
   generalize hRR : cpW A S k k a0 = R
   have hS : S.length = k:=hsiz.len
   have ho0:=hsiz.one a0 (by omega) hfirst
   have hst : [(a0 : Int)] ++ (cpW A S k k a0).tail = R:=by
    rw [← hRR]
    rcases cpW_step hsiz hAO hfirst with ⟨_,e⟩ | ⟨_,j,_,_,_,_,e⟩ <;> rw [e] <;> rfl
   refine loopW (gz S a0).toNat (wkI A k S R) ?_ ?_
   ·refine ⟨a0,[(a0 : Int)],.f (.sl (encL intF [(a0 : Int)]) .full),[],hfirst,rfl,by simp only [List.length_singleton]; omega,.inl rfl,hst,?_⟩
    exact Sl.of rfl rfl rfl
   clear hst hRR ho0 hfirst
   rintro m ⟨ts,hh,kk⟩ ⟨a,L,x,k2,ha,hm,hLm,hln,hst,rfl,rfl,f,rfl⟩
   have hoa:=hsiz.one a (by omega) ha
   obtain ⟨xa,hxa,hxa'⟩:=nth_of (show a < S.length by omega)
   have gxa:=rowA_at hxa'
   have dxa : gz S a = xa:=by unfold gz; rw [List.getD_eq_getElem?_getD,hxa']; rfl
   refine W.two (W.x mixed (by kernel_rfl) ?_)
   rcases cpW_step hsiz hAO ha with ⟨h1,e⟩ | ⟨h1,j,hj,hgj,hno0,hyes,e⟩
   ·rw [dxa] at h1
    have h1' : ¬ 1 < xa:=by omega
    simp [hS,ha,gxa,h1']
    rw [e,List.tail_cons,List.append_nil] at hst
    subst hst
    rcases hln with rfl | ⟨t9,rfl,_⟩
    ·refine weakT_W (d:=9) rfl weak_un ?_
     refine W.x mixed (by kernel_rfl) ?_
     simp
    ·refine W.x mixed (by kernel_rfl) ?_
     simp
   ·rw [dxa] at h1 hgj
    have h1' : 1 < xa:=by omega
    have hoj:=hsiz.one j (by omega) hj
    rw [dxa] at hm
    simp [hS,ha,gxa,h1']
    refine W.blk (W.two (W.x mixed (by kernel_rfl) ?_))
    simp
    refine W.blk (forW k (wkJ A k S a x kk) ⟨.zero,Sl.of rfl rfl rfl⟩ ?_)
    rintro q ⟨ts,hh,kk⟩ hq ⟨hno,rfl,rfl,f,rfl⟩
    refine W.two (W.x mixed (by kernel_rfl) ?_)
    have hqj : q ≤ j:=by
     rcases Nat.lt_or_ge j q with h | h
     ·have:=hno j j h (range_at (show j < k by omega))
      rw [hyes] at this; cases this
     ·exact h
    have hqk : q < k:=by omega
    have hw':=wrap64 (x:=(q : Int) + 1) (by omega) (by omega)
    obtain ⟨xq,hxq,hxq'⟩:=nth_of (show q < S.length by omega)
    have gxq:=rowA_at hxq'
    have dxq : gz S q = xq:=by unfold gz; rw [List.getD_eq_getElem?_getD,hxq']; rfl
    obtain ⟨r,hrr,hrr'⟩:=nth_of (show a < A.length by omega)
    have hrl : r.length = k:=hr r (List.mem_of_getElem? hrr')
    obtain ⟨b,hb,hb'⟩:=nth_of (show q < r.length by omega)
    have haf : afterM A a q = b:=by unfold afterM; rw [hrr']; simp only; rw [List.getD_eq_getElem?_getD,hb']; rfl
    have hwx:=wrap64 (x:=xa - 1) (by omega) (by omega)
    have hcp : cpOk A S a q = (b && decide (xq = xa - 1)):=by
     unfold cpOk
     rw [haf]
     show (b && decide (gz S q = gz S a - 1)) = _
     rw [dxq,dxa]
    simp [hqk]
    refine W.two (W.x mixed (by kernel_rfl) ?_)
    simp
    refine W.two (W.blk (W.two (W.x mixed (by kernel_rfl) ?_)))
    simp
    refine W.two (W.x mixed (by kernel_rfl) ?_)
    cases hc2 : (b && decide (xq = xa - 1)) with
    | true =>
     rw [hc2] at hcp
     obtain rfl : q = j:=by
      rcases Nat.lt_or_ge q j with h | h
      ·rw [hno0 q h] at hcp; cases hcp
      ·omega
     simp only [Bool.and_eq_true,decide_eq_true_eq] at hc2
     obtain ⟨rfl,hxe⟩:=hc2
     simp [ha,hA,hrr,hrl,hb,hS,hqk,gxa,gxq,hwx,hxe,-opAppend]
     obtain ⟨t',k',e9,hl9⟩:=line_app hln (by omega) q
     rw [e,List.tail_cons] at hst
     refine W.x mixed (by kernel_rfl) ?_
     simp [-opAppend]
     rw [e9]
     simp
     refine ⟨(gz S q).toNat,by rw [hgj]; omega,q,L ++ [(q : Int)],_,k',hqk,rfl,by rw [hgj]; simp only [List.length_append,List.length_singleton]; omega,hl9,?_,Sl.of rfl rfl rfl⟩
     rw [← hst]
     rcases cpW_step hsiz hAO hqk with ⟨_,e2⟩ | ⟨_,j2,_,_,_,_,e2⟩ <;> rw [e2] <;> simp
    | false =>
     have hnx : noneT (cpOk A S a) (List.range k) (q + 1):=hno.next (range_at hqk) (by rw [hcp,hc2])
     cases b with
     | false =>
      simp [ha,hA,hrr,hrl,hb,hS,hqk,gxa,gxq,hwx]
      refine W.x mixed (by kernel_rfl) ?_
      simp
      refine W.x mixed (by kernel_rfl) ?_
      simp [hw']
      exact ⟨hnx,Sl.of rfl rfl rfl⟩
     | true =>
      have hxe : ¬ xq = xa - 1:=by simpa using hc2
      simp [ha,hA,hrr,hrl,hb,hS,hqk,gxa,gxq,hwx,hxe]
      refine W.x mixed (by kernel_rfl) ?_
      simp
      refine W.x mixed (by kernel_rfl) ?_
      simp [hw']
      exact ⟨hnx,Sl.of rfl rfl rfl⟩
def gp (l : List (Bool × Bool)) (k : Nat) : Bool × Bool:=l.getD k (false,false)
def fR (D : List (List Int)) (l : List (Bool × Bool)) (j m : Nat) : Bool:=(List.range m).any fun k=>(gp l k).1 && decide (kindM D k j ≠ 0)
def fL (D : List (List Int)) (l : List (Bool × Bool)) (j m : Nat) : Bool:=(List.range m).any fun k=>(decide (kindM D k j = 2) && (gp l k).1) || (decide (kindM D k j = 1) && (gp l k).2)
def folTo (D : List (List Int)) (i : Nat) : Nat→List (Bool × Bool)
 | 0=>[]
 | j + 1=>folTo D i j ++ [(decide (j = i) || fR D (folTo D i j) j j,fL D (folTo D i j) j j)]
theorem folTo_len (D : List (List Int)) (i : Nat) : ∀ n,(folTo D i n).length = n
 | 0=>rfl
 | n + 1=>by rw [folTo,List.length_append,folTo_len D i n]; rfl
theorem folTo_pre (D : List (List Int)) (i : Nat) {k n : Nat} (h : k < n) : ∀ m,n ≤ m→gp (folTo D i m) k = gp (folTo D i n) k:=by
 intro m hm
 induction m with
 | zero=>omega
 | succ m ih =>
  by_cases e : n = m + 1
  ·rw [e]
  ·rw [← ih (by omega),folTo]
   unfold gp
   rw [List.getD_eq_getElem?_getD,List.getD_eq_getElem?_getD,List.getElem?_append_left (by rw [folTo_len]; omega)]
def folP (D : List (List Int)) (i k : Nat) : Bool × Bool:=gp (folTo D i (k + 1)) k
theorem folP_eq (D : List (List Int)) (i : Nat) {k n : Nat} (h : k < n) : gp (folTo D i n) k = folP D i k:=folTo_pre D i (Nat.lt_succ_self k) n h
def fRq (D : List (List Int)) (i j m : Nat) : Bool:=(List.range m).any fun k=>(folP D i k).1 && decide (kindM D k j ≠ 0)
def fLq (D : List (List Int)) (i j m : Nat) : Bool:=(List.range m).any fun k=>(decide (kindM D k j = 2) && (folP D i k).1) || (decide (kindM D k j = 1) && (folP D i k).2)
theorem any_same {p q : Nat→Bool} {n : Nat} (h : ∀ k,k < n→p k = q k) : (List.range n).any p = (List.range n).any q:=by
 rw [Bool.eq_iff_iff,List.any_eq_true,List.any_eq_true]
 constructor
 ·rintro ⟨k,hk,e⟩; exact ⟨k,hk,by rw [← h k (List.mem_range.1 hk)]; exact e⟩
 ·rintro ⟨k,hk,e⟩; exact ⟨k,hk,by rw [h k (List.mem_range.1 hk)]; exact e⟩
theorem folP_1 (D : List (List Int)) (i j : Nat) : (folP D i j).1 = (decide (j = i) || fRq D i j j):=by
 have h : fR D (folTo D i j) j j = fRq D i j j:=any_same fun k hk=>by rw [folP_eq D i hk]
 rw [← h]
 unfold folP gp
 rw [folTo,List.getD_eq_getElem?_getD,List.getElem?_append_right (by rw [folTo_len]; exact Nat.le_refl _),folTo_len]
 simp
theorem folP_2 (D : List (List Int)) (i j : Nat) : (folP D i j).2 = fLq D i j j:=by
 have h : fL D (folTo D i j) j j = fLq D i j j:=any_same fun k hk=>by rw [folP_eq D i hk]
 rw [← h]
 unfold folP gp
 rw [folTo,List.getD_eq_getElem?_getD,List.getElem?_append_right (by rw [folTo_len]; exact Nat.le_refl _),folTo_len]
 simp
theorem any_next (p : Nat→Bool) (n : Nat) : (List.range (n + 1)).any p = ((List.range n).any p || p n):=by
 rw [List.range_succ,List.any_append]; simp
theorem fRq_next (D : List (List Int)) (i j m : Nat) : fRq D i j (m + 1) = (fRq D i j m || ((folP D i m).1 && decide (kindM D m j ≠ 0))):=any_next _ _
theorem fLq_next (D : List (List Int)) (i j m : Nat) : fLq D i j (m + 1) = (fLq D i j m || ((decide (kindM D m j = 2) && (folP D i m).1) || (decide (kindM D m j = 1) && (folP D i m).2))):=any_next _ _
theorem any_false {p : Nat→Bool} {n : Nat} (h : ∀ k,k < n→p k = false) : (List.range n).any p = false:=by
 rw [List.any_eq_false]
 intro k hk
 rw [h k (List.mem_range.1 hk)]
 decide
theorem folP_low (D : List (List Int)) (i : Nat) : ∀ j,j < i→folP D i j = (false,false):=by
 intro j
 induction j using Nat.strongRecOn with
 | ind j ih =>
  intro hj
  have h1 : fRq D i j j = false:=any_false fun k hk=>by rw [ih k hk (by omega)]; rfl
  have h2 : fLq D i j j = false:=any_false fun k hk=>by rw [ih k hk (by omega)]; simp
  apply Prod.ext
  ·rw [folP_1,h1,decide_eq_false (by omega)]; rfl
  ·rw [folP_2,h2]
theorem folP_self (D : List (List Int)) (i : Nat) : folP D i i = (true,false):=by
 have h2 : fLq D i i i = false:=any_false fun k hk=>by rw [folP_low D i k hk]; simp
 apply Prod.ext
 ·rw [folP_1,decide_eq_true rfl]; rfl
 ·rw [folP_2,h2]
def folRow (D : List (List Int)) (n i : Nat) : List Bool:=(List.range n).map fun j=>(folP D i j).2
def folAll (D : List (List Int)) (n : Nat) : List (List Bool):=(List.range n).map (folRow D n)
end Go.Proofs.YtafenffmgpcjcaaGreat
