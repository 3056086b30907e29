/- Texts of the proof: ES14. -/
import Derived.Test.YtafenffmgpcjcaaGreatES13
import Derived.Test.YtafenffmgpcjcaaGreatES10
namespace Go.Proofs.YtafenffmgpcjcaaGreat
open Go.RowKit Go.Proofs.YtafenffmgpcjcaaGreat.Vf
set_option linter.unusedVariables false
set_option linter.unusedSimpArgs false
set_option maxRecDepth 100000
set_option maxHeartbeats 4000000
@[simp] theorem ownF_cells (l : List FV) : (ownF l).cells = [ownF l]:=by unfold ownF; split <;> rfl
@[simp] theorem ownF_one (l : List FV) : (AV.f (ownF l)).one = true:=by unfold ownF; split <;> rfl
theorem ownF_ne {l : List FV} (h : l ≠ []) : ownF l = sl l:=if_neg h
section
variable {α : Type} (lt eq : α→α→Bool) (x : α)
def hasO (l : List α) (i : Nat) : Bool:=(l.take i).any fun y=>!lt y x
def putO (l : List α) (i : Nat) : List α:=if hasO lt x l i = true then insBy lt eq x (l.take i) else l.take i
variable {lt eq x} {l : List α} {i : Nat} {y : α}
theorem hasO_next (h : l[i]? = some y) : hasO lt x l (i + 1) = (hasO lt x l i || !lt y x):=by
 unfold hasO
 rw [take_snoc h,List.any_append]
 simp
theorem hasO_low (hp : hasO lt x l i = false) : ∀ y ∈ l.take i,lt y x = true:=fun y hy=>by
 have:=List.any_eq_false.1 hp y hy
 simpa using this
theorem putO_old (h : l[i]? = some y) (hp : hasO lt x l i = true) : putO lt eq x l (i + 1) = putO lt eq x l i ++ [y]∧hasO lt x l (i + 1) = true:=by
 have h2 : hasO lt x l (i + 1) = true:=by rw [hasO_next h,hp]; rfl
 refine ⟨?_,h2⟩
 unfold putO
 rw [if_pos h2,if_pos hp,take_snoc h,insBy_app [y] hp]
theorem putO_low (h : l[i]? = some y) (hp : hasO lt x l i = false) (hl : lt y x = true) : putO lt eq x l (i + 1) = putO lt eq x l i ++ [y]∧hasO lt x l (i + 1) = false:=by
 have h2 : hasO lt x l (i + 1) = false:=by rw [hasO_next h,hp,hl]; rfl
 refine ⟨?_,h2⟩
 unfold putO
 rw [if_neg (by rw [h2]; decide),if_neg (by rw [hp]; decide),take_snoc h]
theorem putO_same (h : l[i]? = some y) (hp : hasO lt x l i = false) (hl : lt y x = false) (he : eq y x = true) : putO lt eq x l (i + 1) = putO lt eq x l i ++ [y]∧hasO lt x l (i + 1) = true:=by
 have h2 : hasO lt x l (i + 1) = true:=by rw [hasO_next h,hp,hl]; rfl
 refine ⟨?_,h2⟩
 unfold putO
 rw [if_pos h2,if_neg (by rw [hp]; decide),take_snoc h,insBy_none [y] (hasO_low hp),insBy,hl,he]
 rfl
theorem putO_put (h : l[i]? = some y) (hp : hasO lt x l i = false) (hl : lt y x = false) (he : eq y x = false) : putO lt eq x l (i + 1) = putO lt eq x l i ++ [x] ++ [y]∧hasO lt x l (i + 1) = true:=by
 have h2 : hasO lt x l (i + 1) = true:=by rw [hasO_next h,hp,hl]; rfl
 refine ⟨?_,h2⟩
 unfold putO
 rw [if_pos h2,if_neg (by rw [hp]; decide),take_snoc h,insBy_none [y] (hasO_low hp),insBy,hl,he]
 simp
theorem putO_end (hp : hasO lt x l l.length = true) : putO lt eq x l l.length = insBy lt eq x l:=by
 unfold putO
 rw [if_pos hp,List.take_length]
theorem putO_last (hp : hasO lt x l l.length = false) : putO lt eq x l l.length ++ [x] = insBy lt eq x l:=by
 unfold putO
 have h:=hasO_low hp
 rw [if_neg (by rw [hp]; decide),List.take_length]
 rw [List.take_length] at h
 have:=insBy_none (eq:=eq) [] h
 rw [List.append_nil] at this
 rw [this]; rfl
theorem putO_len (l : List α) (i : Nat) : (putO lt eq x l i).length ≤ l.length + 1:=by
 unfold putO
 have h1 : (l.take i).length ≤ l.length:=by rw [List.length_take]; omega
 split
 ·have:=insBy_len (lt:=lt) (eq:=eq) x (l.take i); omega
 ·omega
end
theorem insBy_ne {α : Type} {lt eq : α→α→Bool} (x : α) (l : List α) : insBy lt eq x l ≠ []:=by
 cases l with
 | nil=>simp [insBy]
 | cons y l=>rw [insBy]; split; simp; split <;> simp
abbrev ltZ (y x : Int) : Bool:=decide (y < x)
abbrev eqZ (y x : Int) : Bool:=decide (y = x)
def raiI (l : List Int) (c : Cap) (x : Int) (i : Nat) (s : St) : Prop:=∃ g k y t,OwnT k (encL intF (putO ltZ eqZ x l i)) 1 y t∧Vf.Sl [(0,.f (.sl (encL intF l) c)),(1,.f (intF x)),(5,y),(6,.f (boolF (hasO ltZ x l i))),(7,.f (intF i))] 48 g k s
theorem raddZ_g (l : List Int) (x : Int) (hl : l.length ≤ 1000000) : Gives Tryz.prog 189 [ownF (encL intF l),intF x] (ownF (encL intF (insZ x l))):=by
 refine Gives.of mixed Tryz.func189 rfl rfl rfl (by kernel_rfl) ?_
 obtain ⟨c,hc⟩:=ownF_is (encL intF l)
 rw [hc]
 simp
 refine forX mixed l.length (raiI l c x) (by kernel_rfl) ⟨[],_,_,0,.nil,Sl.of rfl rfl rfl⟩ ?_
 rintro i ⟨ts,hh,kk⟩ hi ⟨g,k,z,t,ho,rfl,rfl,f,rfl⟩
 have hpl:=putO_len (lt:=ltZ) (eq:=eqZ) (x:=x) l i
 by_cases hlt : i < l.length
 ·obtain ⟨y,hy,hy'⟩:=nth_of hlt
  have hw:=wrap64 (x:=(i : Int) + 1) (by omega) (by omega)
  obtain ⟨t',k',e,ho',_⟩:=append_own ty29 ty3 (by simp) ho (y:=.f (.sl [intF y] .full)) rfl (by simp) (by simp) (by simp; omega) (by simp; omega)
  have e2 : encL intF (putO ltZ eqZ x l i) ++ [intF y] = encL intF (putO ltZ eqZ x l i ++ [y]):=by simp [encL]
  rw [e2] at e ho'
  cases hp : hasO ltZ x l i with
  | true =>
   obtain ⟨q1,q2⟩:=putO_old (eq:=eqZ) hy' hp
   rw [← q1] at e ho'
   simp [hlt,hp,hy,-opAppend]
   rw [e]
   simp [hw]
   exact ⟨_,_,_,_,ho',by rw [q2]; exact Sl.of rfl rfl rfl⟩
  | false =>
   by_cases c1 : y < x
   ·obtain ⟨q1,q2⟩:=putO_low (eq:=eqZ) hy' hp (by simpa using c1)
    have c1' : ¬ x ≤ y:=by omega
    rw [← q1] at e ho'
    simp [hlt,hp,hy,c1',-opAppend]
    rw [e]
    simp [hw]
    exact ⟨_,_,_,_,ho',by rw [q2]; exact Sl.of rfl rfl rfl⟩
   ·have c1' : x ≤ y:=by omega
    by_cases c2 : y = x
    ·obtain ⟨q1,q2⟩:=putO_same (eq:=eqZ) hy' hp (by simpa using c1) (by simpa using c2)
     rw [← q1] at e ho'
     subst c2
     simp [hlt,hp,hy,-opAppend]
     rw [e]
     simp [hw]
     exact ⟨_,_,_,_,ho',by rw [q2]; exact Sl.of rfl rfl rfl⟩
    ·obtain ⟨q1,q2⟩:=putO_put (eq:=eqZ) hy' hp (by simpa using c1) (by simpa using c2)
     clear e ho'
     obtain ⟨t1,k1,e1,ho1,_⟩:=append_own ty29 ty3 (by simp) ho (y:=.f (.sl [intF x] .full)) rfl (by simp) (by simp) (by simp; omega) (by simp; omega)
     rw [enc_one] at e1 ho1
     obtain ⟨t2,k2,e2,ho2,_⟩:=append_own ty29 ty3 (by simp) ho1 (y:=.f (.sl [intF y] .full)) rfl (by simp) (by simp) (by simp; omega) (by simp; omega)
     rw [enc_one,← q1] at e2 ho2
     simp [hlt,hp,hy,c1',c2,-opAppend]
     rw [e1]
     simp [hlt,hy,-opAppend]
     rw [e2]
     simp [hw]
     exact ⟨_,_,_,_,ho2,by rw [q2]; exact Sl.of rfl rfl rfl⟩
 ·obtain rfl : i = l.length:=by omega
  cases hp : hasO ltZ x l l.length with
  | true =>
   rw [putO_end hp] at ho
   simp [hp]
   rw [ho.ret]
  | false =>
   obtain ⟨t1,k1,e1,ho1,_⟩:=append_own ty29 ty3 (by simp) ho (y:=.f (.sl [intF x] .full)) rfl (by simp) (by simp) (by simp; omega) (by simp; omega)
   rw [enc_one,putO_last (eq:=eqZ) hp] at e1 ho1
   simp [hp,-opAppend]
   rw [e1]
   simp
   exact (ownF_ne (by simp [encL,insBy_ne])).symm
end Go.Proofs.YtafenffmgpcjcaaGreat
namespace Go.Proofs.YtafenffmgpcjcaaGreat
open Go.RowKit Go.Proofs.YtafenffmgpcjcaaGreat.Vf
set_option linter.unusedVariables false
set_option linter.unusedSimpArgs false
set_option maxRecDepth 100000
set_option maxHeartbeats 4000000
theorem rless_g (a b : FR) : Gives Tryz.prog 242 [fRp a,fRp b] (boolF (ltR a b)):=by
 refine Gives.of mixed Tryz.func242 rfl rfl rfl (by kernel_rfl) ?_
 obtain ⟨a1,a2⟩:=a
 obtain ⟨b1,b2⟩:=b
 by_cases c1 : a1 < b1
 ·simp [ltR,c1]
 by_cases c2 : a1 = b1
 ·by_cases c3 : a2 < b2 <;> simp [ltR,c1,c2,c3]
 ·simp [ltR,c1,c2]
abbrev eqR (a b : FR) : Bool:=decide (a.1 = b.1) && decide (a.2 = b.2)
def rafI (l : List FR) (c : Cap) (x : FR) (i : Nat) (s : St) : Prop:=∃ g k y t,OwnT k (encL fRp (putO ltR eqR x l i)) 2 y t∧Vf.Sl [(0,.f (.sl (encL fRp l) c)),(3,.ref 0 0),(5,y),(6,.f (boolF (hasO ltR x l i))),(7,.f (intF i))] 49 ([.f (intF x.1),.f (intF x.2)] :: g) k s
theorem enc_oneR (l : List FR) (x : FR) : encL fRp l ++ [.agg [intF x.1,intF x.2]] = encL fRp (l ++ [x]):=by simp [encL]
theorem raddF_g (l : List FR) (x : FR) (hl : l.length ≤ 1000000) : Gives Tryz.prog 188 [ownF (encL fRp l),fRp x] (ownF (encL fRp (insR x l))):=by
 refine Gives.of mixed Tryz.func188 rfl rfl rfl (by kernel_rfl) ?_
 obtain ⟨c,hc⟩:=ownF_is (encL fRp l)
 rw [hc]
 simp
 refine forX mixed l.length (rafI l c x) (by kernel_rfl) ⟨[],_,_,0,.nil,Sl.of rfl rfl rfl⟩ ?_
 rintro i ⟨ts,hh,kk⟩ hi ⟨g,k,z,t,ho,rfl,rfl,f,rfl⟩
 have hpl:=putO_len (lt:=ltR) (eq:=eqR) (x:=x) l i
 by_cases hlt : i < l.length
 ·obtain ⟨y,hy,hy'⟩:=nth_of hlt
  have hw:=wrap64 (x:=(i : Int) + 1) (by omega) (by omega)
  obtain ⟨t',k',e,ho',_⟩:=append_own ty187 ty71 (by simp) ho (y:=.f (.sl [.agg [intF y.1,intF y.2]] .full)) rfl (by simp) (by simp) (by simp; omega) (by simp; omega)
  rw [enc_oneR] at e ho'
  have hL:=rless_g y x
  cases hp : hasO ltR x l i with
  | true =>
   obtain ⟨q1,q2⟩:=putO_old (eq:=eqR) hy' hp
   rw [← q1] at e ho'
   simp [hlt,hp,hy,-opAppend]
   rw [e]
   simp [hw]
   exact ⟨_,_,_,_,ho',by rw [q2]; exact Sl.of rfl rfl rfl⟩
  | false =>
   simp [hlt,hp,hy,-opAppend]
   refine call_g hL ?_
   cases c1 : ltR y x with
   | true =>
    obtain ⟨q1,q2⟩:=putO_low (eq:=eqR) hy' hp c1
    rw [← q1] at e ho'
    simp [hlt,hy,-opAppend]
    rw [e]
    simp [hw]
    exact ⟨_,_,_,_,ho',by rw [q2]; exact Sl.of rfl rfl rfl⟩
   | false =>
    cases c2 : (decide (y.1 = x.1) && decide (y.2 = x.2)) with
    | true =>
     obtain ⟨q1,q2⟩:=putO_same (eq:=eqR) hy' hp c1 c2
     rw [← q1] at e ho'
     have hx : y = x:=by simp at c2; exact Prod.ext c2.1 c2.2
     subst hx
     simp [hlt,hy,-opAppend]
     rw [e]
     simp [hw]
     exact ⟨_,_,_,_,ho',by rw [q2]; exact Sl.of rfl rfl rfl⟩
    | false =>
     obtain ⟨q1,q2⟩:=putO_put (eq:=eqR) hy' hp c1 c2
     clear e ho'
     obtain ⟨t1,k1,e1,ho1,_⟩:=append_own ty187 ty71 (by simp) ho (y:=.f (.sl [.agg [intF x.1,intF x.2]] .full)) rfl (by simp) (by simp) (by simp; omega) (by simp; omega)
     rw [enc_oneR] at e1 ho1
     obtain ⟨t2,k2,e2,ho2,_⟩:=append_own ty187 ty71 (by simp) ho1 (y:=.f (.sl [.agg [intF y.1,intF y.2]] .full)) rfl (by simp) (by simp) (by simp; omega) (by simp; omega)
     rw [enc_oneR,← q1] at e2 ho2
     have c3 : (!decide (y.1 = x.1) || !decide (y.2 = x.2)) = true:=by rw [← Bool.not_and,c2]; rfl
     simp [hlt,hy,c3,-opAppend]
     rw [e1]
     simp [hlt,hy,-opAppend]
     rw [e2]
     simp [hw]
     exact ⟨_,_,_,_,ho2,by rw [q2]; exact Sl.of rfl rfl rfl⟩
 ·obtain rfl : i = l.length:=by omega
  cases hp : hasO ltR x l l.length with
  | true =>
   rw [putO_end hp] at ho
   simp [hp]
   rw [ho.ret]
  | false =>
   obtain ⟨t1,k1,e1,ho1,_⟩:=append_own ty187 ty71 (by simp) ho (y:=.f (.sl [.agg [intF x.1,intF x.2]] .full)) rfl (by simp) (by simp) (by simp; omega) (by simp; omega)
   rw [enc_oneR,putO_last (eq:=eqR) hp] at e1 ho1
   simp [hp,-opAppend]
   rw [e1]
   simp
   exact (ownF_ne (by simp [encL,insBy_ne])).symm
def FL (n : List ExD) : List FR:=allIn insR [] (fldsTo n)
def HL (n : List ExD) : List Int:=allIn insZ [] (hdrsTo n)
theorem allIn_snoc {α : Type} (ins : α→List α→List α) (a l : List α) (x : α) : allIn ins a (l ++ [x]) = ins x (allIn ins a l):=by unfold allIn; rw [List.foldl_append]; rfl
theorem FL_next {l : List ExD} {i : Nat} {x : ExD} (hx : l[i]? = some x) : FL (l.take (i + 1)) = if x.op = 2 then insR (x.n,x.w) (FL (l.take i)) else FL (l.take i):=by
 unfold FL
 rw [fldsTo_next hx]
 split
 ·rw [allIn_snoc]
 ·rfl
theorem HL_next {l : List ExD} {i : Nat} {x : ExD} (hx : l[i]? = some x) : HL (l.take (i + 1)) = if x.op = 4 then insZ x.n (HL (l.take i)) else HL (l.take i):=by
 unfold HL
 rw [hdrsTo_next hx]
 split
 ·rw [allIn_snoc]
 ·rfl
theorem FL_len (l : List ExD) (i : Nat) : (FL (l.take i)).length ≤ l.length:=by
 have h:=allIn_len (ins:=insR) (fun x l=>insBy_len x l) (fldsTo (l.take i)) []
 have h2:=fldsTo_len l i
 unfold FL
 simp only [List.length_nil,Nat.zero_add] at h
 omega
theorem HL_len (l : List ExD) (i : Nat) : (HL (l.take i)).length ≤ l.length:=by
 have h:=allIn_len (ins:=insZ) (fun x l=>insBy_len x l) (hdrsTo (l.take i)) []
 have h2:=hdrsTo_len l i
 unfold HL
 simp only [List.length_nil,Nat.zero_add] at h
 omega
theorem rfields_g (n : List ExD) (c : Cap) (hl : n.length ≤ 1000000) : Gives Tryz.prog 136 [.sl (encL fEx n) c] (ownF (encL fRp (FL n))):=by
 refine Gives.of mixed Tryz.func136 rfl rfl rfl (by kernel_rfl) ?_
 simp
 refine forX mixed n.length (fun i st=>∃ g,Vf.Sl [(0,.f (.sl (encL fEx n) c)),(3,.f (ownF (encL fRp (FL (n.take i))))),(4,.f (intF i))] 31 g [] st) (by kernel_rfl) ⟨[],Sl.of rfl rfl rfl⟩ ?_
 rintro i ⟨ts,hh,kk⟩ hi ⟨g,rfl,rfl,f,rfl⟩
 by_cases hlt : i < n.length
 ·obtain ⟨x,hx,hx'⟩:=nth_of hlt
  have hw:=wrap64 (x:=(i : Int) + 1) (by omega) (by omega)
  have hnx:=FL_next hx'
  have hle:=FL_len n i
  by_cases c2 : x.op = 2
  ·rw [if_pos c2] at hnx
   simp [hlt,hx,c2]
   refine call_g (raddF_g (FL (n.take i)) (x.n,x.w) (by omega)) ?_
   simp [hw]
   exact ⟨_,by rw [hnx]; exact Sl.of rfl rfl rfl⟩
  ·rw [if_neg c2] at hnx
   simp [hlt,hx,c2,hw]
   exact ⟨_,by rw [hnx]; exact Sl.of rfl rfl rfl⟩
 ·obtain rfl : i = n.length:=by omega
  simp
theorem rheadersL_g (n : List ExD) (c : Cap) (hl : n.length ≤ 1000000) : Gives Tryz.prog 137 [.sl (encL fEx n) c] (ownF (encL intF (HL n))):=by
 refine Gives.of mixed Tryz.func137 rfl rfl rfl (by kernel_rfl) ?_
 simp
 refine forX mixed n.length (fun i st=>∃ g,Vf.Sl [(0,.f (.sl (encL fEx n) c)),(3,.f (ownF (encL intF (HL (n.take i))))),(4,.f (intF i))] 25 g [] st) (by kernel_rfl) ⟨[],Sl.of rfl rfl rfl⟩ ?_
 rintro i ⟨ts,hh,kk⟩ hi ⟨g,rfl,rfl,f,rfl⟩
 by_cases hlt : i < n.length
 ·obtain ⟨x,hx,hx'⟩:=nth_of hlt
  have hw:=wrap64 (x:=(i : Int) + 1) (by omega) (by omega)
  have hnx:=HL_next hx'
  have hle:=HL_len n i
  by_cases c2 : x.op = 4
  ·rw [if_pos c2] at hnx
   simp [hlt,hx,c2]
   refine call_g (raddZ_g (HL (n.take i)) x.n (by omega)) ?_
   simp [hw]
   exact ⟨_,by rw [hnx]; exact Sl.of rfl rfl rfl⟩
  ·rw [if_neg c2] at hnx
   simp [hlt,hx,c2,hw]
   exact ⟨_,by rw [hnx]; exact Sl.of rfl rfl rfl⟩
 ·obtain rfl : i = n.length:=by omega
  simp
abbrev cAc (a : Tri) : List FV:=[ownF (encL fRp a.F),ownF (encL intF a.M),ownF (encL intF a.G)]
abbrev aAc (a : Tri) : List AV:=[.f (ownF (encL fRp a.F)),.f (ownF (encL intF a.M)),.f (ownF (encL intF a.G))]
abbrev nAc : List AV:=[.f (.sl [] .nil),.f (.sl [] .nil),.f (.sl [] .nil)]
def rE (a : Tri) (n : List ExD) : Tri:=⟨allIn insR a.F (FL n),allIn insZ a.M (HL n),a.G⟩
def rH (a : Tri) (h : Int) : Tri:=⟨a.F,insZ h a.M,a.G⟩
def rG (a : Tri) (r : Int) : Tri:=⟨a.F,a.M,insZ r a.G⟩
def rF (a : Tri) (x : FR) : Tri:=⟨insR x a.F,a.M,a.G⟩
theorem allR_len (l a : List FR) : (allIn insR a l).length ≤ a.length + l.length:=allIn_len (fun x l=>insBy_len x l) l a
theorem allZ_len (l a : List Int) : (allIn insZ a l).length ≤ a.length + l.length:=allIn_len (fun x l=>insBy_len x l) l a
theorem FLn_len (n : List ExD) : (FL n).length ≤ n.length:=by have:=FL_len n n.length; rwa [List.take_length] at this
theorem HLn_len (n : List ExD) : (HL n).length ≤ n.length:=by have:=HL_len n n.length; rwa [List.take_length] at this
@[simp] theorem one_sl {l : List FV} {c : Cap} : (AV.f (.sl l c)).one = true:=rfl
@[simp] theorem one_int {k : IntKind} {x : Int} : (AV.f (.sc (.int k x))).one = true:=rfl
@[simp] theorem one_bool {x : Bool} : (AV.f (.sc (.bool x))).one = true:=rfl
@[simp] theorem one_str {x : ByteArray} : (AV.f (.sc (.string x))).one = true:=rfl
@[simp] theorem one_fp {l : List FV} : (AV.f (.fp l)).one = true:=rfl
@[simp] theorem one_ref {b o : Nat} : (AV.ref b o).one = true:=rfl
def rreI (a : Tri) (n : List ExD) (c : Cap) (c1 c2 : Cap) (i : Nat) (st : St) : Prop:=∃ g,Vf.Sl [(2,.ref 0 0),(4,.ref 1 0),(5,.f (.sl (encL fRp (FL n)) c1)),(6,.f (.sl (encL intF (HL n)) c2)),(7,.f (intF i))] 42 (aAc ⟨allIn insR a.F ((FL n).take i),a.M,a.G⟩ :: nAc :: g) [] st
def rreJ (a : Tri) (n : List ExD) (c : Cap) (c1 c2 : Cap) (i : Nat) (st : St) : Prop:=∃ g,Vf.Sl [(2,.ref 0 0),(4,.ref 1 0),(6,.f (.sl (encL intF (HL n)) c2)),(8,.f (intF i))] 42 (aAc ⟨allIn insR a.F (FL n),allIn insZ a.M ((HL n).take i),a.G⟩ :: nAc :: g) [] st
theorem rreading_g (a : Tri) (n : List ExD) (c : Cap) (hn : n.length ≤ 100000) (ha : triB a 100000) : Gives Tryz.prog 193 [.agg (cAc a),.sl (encL fEx n) c] (.agg (cAc (rE a n))):=by
 refine Gives.of mixed Tryz.func193 rfl rfl rfl (by kernel_rfl) ?_
 obtain ⟨a1,a2,a3⟩:=ha
 have hf:=FLn_len n
 have hh:=HLn_len n
 simp [-AV.one]
 refine call_g (rfields_g n c (by omega)) ?_
 simp [-AV.one]
 refine call_g (rheadersL_g n c (by omega)) ?_
 obtain ⟨c1,e1⟩:=ownF_is (encL fRp (FL n))
 obtain ⟨c2,e2⟩:=ownF_is (encL intF (HL n))
 rw [e1,e2]
 simp [-AV.one]
 refine forX mixed (FL n).length (rreI a n c c1 c2) (by kernel_rfl) ⟨[],Sl.of rfl rfl rfl⟩ ?_
 rintro i ⟨ts,hh,kk⟩ hi ⟨g,rfl,rfl,f,rfl⟩
 by_cases hlt : i < (FL n).length
 ·obtain ⟨x,hx,hx'⟩:=nth_of hlt
  have hw:=wrap64 (x:=(i : Int) + 1) (by omega) (by omega)
  have hl:=allR_len ((FL n).take i) a.F
  rw [List.length_take] at hl
  simp [hlt,hx,-AV.one]
  refine call_g (raddF_g (allIn insR a.F ((FL n).take i)) x (by omega)) ?_
  simp [hw,-AV.one]
  unfold rreI
  rw [allIn_next hx']
  exact ⟨_,Sl.of rfl rfl rfl⟩
 obtain rfl : i = (FL n).length:=by omega
 rw [List.take_length]
 simp [-AV.one]
 refine forX mixed (HL n).length (rreJ a n c c1 c2) (by kernel_rfl) ⟨_,Sl.of rfl rfl rfl⟩ ?_
 clear hi hlt
 rintro i ⟨ts,hh,kk⟩ hi ⟨g,rfl,rfl,f,rfl⟩
 by_cases hlt : i < (HL n).length
 ·obtain ⟨x,hx,hx'⟩:=nth_of hlt
  have hw:=wrap64 (x:=(i : Int) + 1) (by omega) (by omega)
  have hl:=allZ_len ((HL n).take i) a.M
  rw [List.length_take] at hl
  simp [hlt,hx,-AV.one]
  refine call_g (raddZ_g (allIn insZ a.M ((HL n).take i)) x (by omega)) ?_
  simp [hw,-AV.one]
  unfold rreJ
  rw [allIn_next hx']
  exact ⟨_,Sl.of rfl rfl rfl⟩
 obtain rfl : i = (HL n).length:=by omega
 rw [List.take_length]
 simp [rE,-AV.one]
theorem ins_rE_b {a : Tri} {n : List ExD} {m k : Nat} (h : triB a m) (hn : n.length ≤ k) : triB (rE a n) (m + k):=by
 obtain ⟨a1,a2,a3⟩:=h
 have h1:=allR_len (FL n) a.F
 have h2:=allZ_len (HL n) a.M
 have h3:=FLn_len n
 have h4:=HLn_len n
 exact ⟨show (allIn insR a.F (FL n)).length ≤ m + k by omega,show (allIn insZ a.M (HL n)).length ≤ m + k by omega,show a.G.length ≤ m + k by omega⟩
theorem ins_rH_b {a : Tri} {h : Int} {m : Nat} (hb : triB a m) : triB (rH a h) (m + 1):=by
 obtain ⟨a1,a2,a3⟩:=hb
 have : (insZ h a.M).length ≤ a.M.length + 1:=insBy_len h a.M
 exact ⟨show a.F.length ≤ m + 1 by omega,show (insZ h a.M).length ≤ m + 1 by omega,show a.G.length ≤ m + 1 by omega⟩
theorem ins_rG_b {a : Tri} {h : Int} {m : Nat} (hb : triB a m) : triB (rG a h) (m + 1):=by
 obtain ⟨a1,a2,a3⟩:=hb
 have : (insZ h a.G).length ≤ a.G.length + 1:=insBy_len h a.G
 exact ⟨show a.F.length ≤ m + 1 by omega,show a.M.length ≤ m + 1 by omega,show (insZ h a.G).length ≤ m + 1 by omega⟩
theorem ins_rF_b {a : Tri} {h : FR} {m : Nat} (hb : triB a m) : triB (rF a h) (m + 1):=by
 obtain ⟨a1,a2,a3⟩:=hb
 have : (insR h a.F).length ≤ a.F.length + 1:=insBy_len h a.F
 exact ⟨show (insR h a.F).length ≤ m + 1 by omega,show a.M.length ≤ m + 1 by omega,show a.G.length ≤ m + 1 by omega⟩
theorem FL_same (n : List ExD) : SameM (FL n) (fldsM n):=by
 unfold FL fldsM
 refine SameM.trans (allIn_mem insR_mem (fldsTo n) []) ?_
 exact (canR_mem _).symm
theorem HL_same (n : List ExD) : SameM (HL n) (hdrsM n):=by
 unfold HL hdrsM
 refine SameM.trans (allIn_mem insZ_mem (hdrsTo n) []) ?_
 exact (canZ_mem _).symm
theorem SameT.e {a b : Tri} (h : SameT a b) (n : List ExD) : SameT (rE a n) (triE b n) :=
 ⟨SameM.trans (allIn_mem insR_mem (FL n) a.F) (h.F.app (FL_same n)),SameM.trans (allIn_mem insZ_mem (HL n) a.M) (h.M.app (HL_same n)),h.G⟩
theorem ins_app {a b : List Int} (h : SameM a b) (x : Int) : SameM (insZ x a) (b ++ [x]):=fun z=>by
 rw [insZ_mem,List.mem_append,List.mem_singleton,h z]
theorem SameT.h {a b : Tri} (h : SameT a b) (x : Int) : SameT (rH a x) (triH b x):=⟨h.F,ins_app h.M x,h.G⟩
theorem SameT.g {a b : Tri} (h : SameT a b) (x : Int) : SameT (rG a x) (triR b x):=⟨h.F,h.M,ins_app h.G x⟩
theorem SameT.f {a b : Tri} (h : SameT a b) (x : FR) : SameT (rF a x) (triF b [x]):=⟨fun z=>by
 show z ∈ insR x a.F ↔ z ∈ b.F ++ [x]
 rw [insR_mem,List.mem_append,List.mem_singleton,h.F z],h.M,h.G⟩
def rdStepR (a : Tri) (s : StD) : Tri :=
 if s.kind = 1 then (if s.dh = -1 then rE a s.value.l else rH (rE a s.value.l) s.dh)
 else if s.kind = 2 then rH a s.hdr
 else if s.kind = 4 then (if s.dh = -1 then rG (rE a s.index.l) s.reg else rG (rH (rE a s.index.l) s.dh) s.reg)
 else if s.kind = 5 then rE (rE a s.index.l) s.value.l
 else a
def rdR (l : List StD) : Tri:=l.foldl rdStepR ⟨[],[],[]⟩
theorem rdR_next {l : List StD} {i : Nat} {s : StD} (h : l[i]? = some s) : rdR (l.take (i + 1)) = rdStepR (rdR (l.take i)) s:=by
 unfold rdR
 rw [← take_one h,List.foldl_append]; rfl
theorem SameT.hr {a b : Tri} (h : SameT a b) (x y : Int) : SameT (rG (rH a x) y) (triH (triR b y) x):=⟨h.F,ins_app h.M x,ins_app h.G y⟩
theorem rdStepR_same {a b : Tri} (h : SameT a b) (s : StD) : SameT (rdStepR a s) (rdStep b s):=by
 unfold rdStepR rdStep
 split
 ·split
  ·exact h.e _
  ·exact (h.e _).h _
 split
 ·exact h.h _
 split
 ·split
  ·exact (h.e _).g _
  ·exact (h.e _).hr _ _
 split
 ·exact (h.e _).e _
 ·exact h
theorem rdR_same (l : List StD) : SameT (rdR l) (rdTo l):=by
 have : ∀ (l : List StD) (a b : Tri),SameT a b→SameT (l.foldl rdStepR a) (l.foldl rdStep b):=by
  intro l
  induction l with
  | nil=>exact fun a b h=>h
  | cons s l ih=>exact fun a b h=>ih _ _ (rdStepR_same h s)
 exact this l _ _ ⟨SameM.rfl_,SameM.rfl_,SameM.rfl_⟩
theorem rdR_b {d : PrgD} {l : List StD} (h : ∀ s ∈ l,StOk d s) (i : Nat) : triB (rdR (l.take i)) (50 * i):=by
 induction i with
 | zero=>exact ⟨Nat.zero_le _,Nat.zero_le _,Nat.zero_le _⟩
 | succ i ih =>
  by_cases hi : i < l.length
  ·rw [rdR_next (List.getElem?_eq_getElem hi)]
   have hs:=h _ (List.getElem_mem hi)
   generalize l[i] = s at *
   obtain ⟨h1,h2,h3,h4⟩:=hs
   unfold rdStepR
   split
   ·have e:=ins_rE_b ih (h3 (by omega))
    split
    ·exact e.mono (by omega)
    ·exact (ins_rH_b e).mono (by omega)
   split
   ·exact (ins_rH_b ih).mono (by omega)
   split
   ·have e:=ins_rE_b ih (h4 (by omega))
    split
    ·exact (ins_rG_b e).mono (by omega)
    ·exact (ins_rG_b (ins_rH_b e)).mono (by omega)
   split
   ·exact (ins_rE_b (ins_rE_b ih (h4 (by omega))) (h3 (by omega))).mono (by omega)
   ·exact ih.mono (by omega)
  ·rw [List.take_of_length_le (by omega)] at ih ⊢
   exact ih.mono (by omega)
def rrdI (d : PrgD) (l : List StD) (i : Nat) (s : St) : Prop:=∃ g,Vf.Sl [(2,.ref 0 0),(9,.ref 1 0),(10,.f (sl (encL fSt l))),(11,.f (intF i))] 107 (aPrg d :: aAc (rdR (l.take i)) :: g) [] s
theorem ractReads_g (d : PrgD) (hn : NmOk d) (r : Int) : Gives Tryz.prog 140 [fPrg d,intF r] (fTri (rdR (bodyM d r))):=by
 refine Gives.of mixed Tryz.func140 rfl rfl rfl (by kernel_rfl) ?_
 obtain ⟨hlen,hok⟩:=bodyM_ok d r
 generalize hL : bodyM d r = L at *
 simp [fPrg,cPrg,-AV.one]
 refine call_g (ract_g d hn r) ?_
 by_cases h0 : (actCheck d r).2 = 0
 case neg =>
  have : L = []:=by
   rw [← hL]
   unfold bodyM
   unfold actCheck at h0
   split
   ·rfl
   ·rename_i a ha
    rw [ha] at h0
    exact if_neg h0
  subst this
  simp [h0,rdR,encL,ownF]
 rcases actAt (d:=d) r with ⟨c1,hr⟩ | ⟨c1,c2,hr⟩ | ⟨c1,c2,c3,a,ha,ha',hr⟩
 ·unfold actCheck at h0; rw [hr] at h0; cases h0
 ·unfold actCheck at h0; rw [hr] at h0; cases h0
 have c0 : 0 ≤ r:=by omega
 have hb : L = a.body.l:=by
  rw [← hL]
  unfold bodyM
  rw [hr]
  unfold actCheck at h0
  rw [hr] at h0
  exact if_pos h0
 rw [hb] at hlen hok ⊢
 clear hL hb
 simp [h0,c0,c1,c2,c3,ha,-AV.one]
 refine forX mixed a.body.l.length (rrdI d a.body.l) (by kernel_rfl) ⟨[],Sl.of rfl rfl rfl⟩ ?_
 rintro i ⟨ts,hh,kk⟩ hi ⟨g,rfl,rfl,f,rfl⟩
 by_cases hlt : i < a.body.l.length
 ·obtain ⟨x,hx,hx'⟩:=nth_of hlt
  have hw:=wrap64 (x:=(i : Int) + 1) (by omega) (by omega)
  have hx2:=hok x (List.mem_of_getElem? hx')
  obtain ⟨s1,s2,s3,s4⟩:=hx2
  have hB:=rdR_b hok i
  have hnx:=rdR_next hx'
  have hB2 : triB (rdR (a.body.l.take i)) 100000:=hB.mono (by omega)
  generalize hT : rdR (a.body.l.take i) = T at *
  have fin : ∀ {R : Tri} {ts : List AV} {g2 : List (List AV)},rdStepR T x = R→Vf.Sl [(2,.ref 0 0),(9,.ref 1 0),(10,.f (sl (encL fSt a.body.l))),(11,.f (intF ((i + 1 : Nat) : Int)))] 107 (aPrg d :: aAc R :: g2) [] ⟨ts,aPrg d :: aAc R :: g2,[]⟩→rrdI d a.body.l (i + 1) ⟨ts,aPrg d :: aAc R :: g2,[]⟩:=fun {R ts g2} e h=>by
   unfold rrdI
   rw [hnx,e]
   exact ⟨_,h⟩
  simp [hlt,hx,-AV.one]
  rcases s1 with k1 | k2 | k3 | k4 | k5
  ·have hv:=s3 (.inl k1)
   have hE:=ins_rE_b hB hv
   simp [k1,-AV.one]
   refine call_g (rreading_g T x.value.l .un (by omega) hB2) ?_
   by_cases cd : x.dh = -1
   ·have e : rdStepR T x = rE T x.value.l:=by unfold rdStepR; rw [if_pos k1,if_pos cd]
    simp [k1,cd,hw,-AV.one]
    exact fin e (Sl.of rfl rfl rfl)
   ·have e : rdStepR T x = rH (rE T x.value.l) x.dh:=by unfold rdStepR; rw [if_pos k1,if_neg cd]
    simp [k1,cd,-AV.one]
    refine call_g (raddZ_g (rE T x.value.l).M x.dh (by have:=hE.2.1; omega)) ?_
    simp [k1,hw,-AV.one]
    exact fin e (Sl.of rfl rfl rfl)
  ·have e : rdStepR T x = rH T x.hdr:=by unfold rdStepR; rw [if_neg (by omega),if_pos k2]
   simp [k2,-AV.one]
   refine call_g (raddZ_g T.M x.hdr (by have:=hB.2.1; omega)) ?_
   simp [k2,hw,-AV.one]
   exact fin e (Sl.of rfl rfl rfl)
  ·have e : rdStepR T x = T:=by unfold rdStepR; rw [if_neg (by omega),if_neg (by omega),if_neg (by omega),if_neg (by omega)]
   simp [k3,hw,-AV.one]
   exact fin e (Sl.of rfl rfl rfl)
  ·have hv:=s4 (.inl k4)
   have hE:=ins_rE_b hB hv
   simp [k4,-AV.one]
   refine call_g (rreading_g T x.index.l .un (by omega) hB2) ?_
   by_cases cd : x.dh = -1
   ·have e : rdStepR T x = rG (rE T x.index.l) x.reg:=by unfold rdStepR; rw [if_neg (by omega),if_neg (by omega),if_pos k4,if_pos cd]
    simp [k4,cd,-AV.one]
    refine call_g (raddZ_g (rE T x.index.l).G x.reg (by have:=hE.2.2; omega)) ?_
    simp [k4,hw,-AV.one]
    exact fin e (Sl.of rfl rfl rfl)
   ·have e : rdStepR T x = rG (rH (rE T x.index.l) x.dh) x.reg:=by unfold rdStepR; rw [if_neg (by omega),if_neg (by omega),if_pos k4,if_neg cd]
    simp [k4,cd,-AV.one]
    refine call_g (raddZ_g (rE T x.index.l).M x.dh (by have:=hE.2.1; omega)) ?_
    simp [k4,-AV.one]
    refine call_g (raddZ_g (rE T x.index.l).G x.reg (by have:=hE.2.2; omega)) ?_
    simp [k4,hw,-AV.one]
    exact fin e (Sl.of rfl rfl rfl)
  ·have hv:=s4 (.inr k5)
   have hv2:=s3 (.inr k5)
   have hE:=ins_rE_b hB hv
   have e : rdStepR T x = rE (rE T x.index.l) x.value.l:=by unfold rdStepR; rw [if_neg (by omega),if_neg (by omega),if_neg (by omega),if_pos k5]
   simp [k5,-AV.one]
   refine call_g (rreading_g T x.index.l .un (by omega) hB2) ?_
   simp [k5,-AV.one]
   refine call_g (rreading_g (rE T x.index.l) x.value.l .un (by omega) (hE.mono (by omega))) ?_
   simp [k5,hw,-AV.one]
   exact fin e (Sl.of rfl rfl rfl)
 ·obtain rfl : i = a.body.l.length:=by omega
  rw [List.take_length]
  simp [-AV.one]
def rFs (a : Tri) (l : List FR) : Tri:=⟨allIn insR a.F l,a.M,a.G⟩
theorem SameT.fs {a b : Tri} (h : SameT a b) (x : Int) (l : List FR) : SameT (rH (rFs a l) x) (triF (triH b x) l):=⟨SameM.trans (allIn_mem insR_mem l a.F) (h.F.app SameM.rfl_),ins_app h.M x,h.G⟩
theorem ins_rFs_b {a : Tri} {l : List FR} {m k : Nat} (hb : triB a m) (hl : l.length ≤ k) : triB (rFs a l) (m + k):=by
 obtain ⟨a1,a2,a3⟩:=hb
 have:=allR_len l a.F
 exact ⟨show (allIn insR a.F l).length ≤ m + k by omega,show a.M.length ≤ m + k by omega,show a.G.length ≤ m + k by omega⟩
def wrStepR (d : PrgD) (a : Tri) (s : StD) : Tri :=
 if s.kind = 1 ∨ s.kind = 4 then rF a (s.dh,s.df)
 else if s.kind = 2 ∨ s.kind = 3 then rH (rFs a (hdrRefs s.hdr (nFld d s.hdr))) s.hdr
 else if s.kind = 5 then rG a s.reg
 else a
def wrR (d : PrgD) (l : List StD) : Tri:=l.foldl (wrStepR d) ⟨[],[],[]⟩
theorem wrR_next {d : PrgD} {l : List StD} {i : Nat} {s : StD} (h : l[i]? = some s) : wrR d (l.take (i + 1)) = wrStepR d (wrR d (l.take i)) s:=by
 unfold wrR
 rw [← take_one h,List.foldl_append]; rfl
theorem wrStepR_same {d : PrgD} {a b : Tri} (h : SameT a b) (s : StD) : SameT (wrStepR d a s) (wrStep d b s):=by
 unfold wrStepR wrStep
 split
 ·exact h.f _
 split
 ·exact h.fs _ _
 split
 ·exact h.g _
 ·exact h
theorem wrR_same (d : PrgD) (l : List StD) : SameT (wrR d l) (wrTo d l):=by
 have : ∀ (l : List StD) (a b : Tri),SameT a b→SameT (l.foldl (wrStepR d) a) (l.foldl (wrStep d) b):=by
  intro l
  induction l with
  | nil=>exact fun a b h=>h
  | cons s l ih=>exact fun a b h=>ih _ _ (wrStepR_same h s)
 exact this l _ _ ⟨SameM.rfl_,SameM.rfl_,SameM.rfl_⟩
theorem wrR_b {d : PrgD} (hF : ∀ x ∈ d.headers.l,x.fields.l.length ≤ 1000) (l : List StD) (i : Nat) : triB (wrR d (l.take i)) (1001 * i):=by
 induction i with
 | zero=>exact ⟨Nat.zero_le _,Nat.zero_le _,Nat.zero_le _⟩
 | succ i ih =>
  by_cases hi : i < l.length
  ·rw [wrR_next (List.getElem?_eq_getElem hi)]
   unfold wrStepR
   split
   ·exact (ins_rF_b ih).mono (by omega)
   split
   ·exact (ins_rH_b (ins_rFs_b ih (k:=1000) (by rw [hdrRefs_len]; exact nFld_le hF _))).mono (by omega)
   split
   ·exact (ins_rG_b ih).mono (by omega)
   ·exact ih.mono (by omega)
  ·rw [List.take_of_length_le (by omega)] at ih ⊢
   exact ih.mono (by omega)
def rwrI (d : PrgD) (l : List StD) (i : Nat) (s : St) : Prop:=∃ g,Vf.Sl [(2,.ref 0 0),(9,.ref 1 0),(10,.f (sl (encL fSt l))),(11,.f (intF i))] 91 (aPrg d :: aAc (wrR d (l.take i)) :: g) [] s
def rwrJ (d : PrgD) (l : List StD) (i : Nat) (T : Tri) (K : Int) (y : StD) (g : List (List AV)) (j : Nat) (s : St) : Prop :=
 Vf.Sl [(2,.ref 0 0),(9,.ref 1 0),(10,.f (sl (encL fSt l))),(11,.f (intF i)),(12,.ref (g.length + 1 + 1) 0),(13,.f (intF j))] 91 (aPrg d :: aAc (rFs T (hdrRefs y.hdr j)) :: (g ++ [[.f (intF K),.f (intF y.dh),.f (intF y.df),.f (intF y.reg),.f (intF y.hdr),.f (sl (encL fEx y.index.l)),.f (sl (encL fEx y.value.l))]])) [] s
theorem ractWrites_g (d : PrgD) (hn : NmOk d) (hF : ∀ x ∈ d.headers.l,x.fields.l.length ≤ 1000) (r : Int) : Gives Tryz.prog 134 [fPrg d,intF r] (fTri (wrR d (bodyM d r))):=by
 refine Gives.of mixed Tryz.func134 rfl rfl rfl (by kernel_rfl) ?_
 obtain ⟨hlen,hok⟩:=bodyM_ok d r
 generalize hL : bodyM d r = L at *
 simp [fPrg,cPrg,-AV.one]
 refine call_g (ract_g d hn r) ?_
 by_cases h0 : (actCheck d r).2 = 0
 case neg =>
  have : L = []:=by
   rw [← hL]
   unfold bodyM
   unfold actCheck at h0
   split
   ·rfl
   ·rename_i a ha
    rw [ha] at h0
    exact if_neg h0
  subst this
  simp [h0,wrR,encL,ownF]
 rcases actAt (d:=d) r with ⟨c1,hr⟩ | ⟨c1,c2,hr⟩ | ⟨c1,c2,c3,a,ha,ha',hr⟩
 ·unfold actCheck at h0; rw [hr] at h0; cases h0
 ·unfold actCheck at h0; rw [hr] at h0; cases h0
 have c0 : 0 ≤ r:=by omega
 have hb : L = a.body.l:=by
  rw [← hL]
  unfold bodyM
  rw [hr]
  unfold actCheck at h0
  rw [hr] at h0
  exact if_pos h0
 rw [hb] at hlen hok ⊢
 clear hL hb
 simp [h0,c0,c1,c2,c3,ha,-AV.one]
 refine forX mixed a.body.l.length (rwrI d a.body.l) (by kernel_rfl) ⟨[],Sl.of rfl rfl rfl⟩ ?_
 rintro i ⟨ts,hh,kk⟩ hi ⟨g,rfl,rfl,f,rfl⟩
 by_cases hlt : i < a.body.l.length
 ·obtain ⟨x,hx,hx'⟩:=nth_of hlt
  have hw:=wrap64 (x:=(i : Int) + 1) (by omega) (by omega)
  have hx2:=hok x (List.mem_of_getElem? hx')
  obtain ⟨s1,s2,s3,s4⟩:=hx2
  have hB:=wrR_b hF a.body.l i
  have hnx:=wrR_next (d:=d) hx'
  generalize hT : wrR d (a.body.l.take i) = T at *
  have fin : ∀ {R : Tri} {ts : List AV} {g2 : List (List AV)},wrStepR d T x = R→Vf.Sl [(2,.ref 0 0),(9,.ref 1 0),(10,.f (sl (encL fSt a.body.l))),(11,.f (intF ((i + 1 : Nat) : Int)))] 91 (aPrg d :: aAc R :: g2) [] ⟨ts,aPrg d :: aAc R :: g2,[]⟩→rwrI d a.body.l (i + 1) ⟨ts,aPrg d :: aAc R :: g2,[]⟩:=fun {R ts g2} e h=>by
   unfold rwrI
   rw [hnx,e]
   exact ⟨_,h⟩
  simp [hlt,hx,-AV.one]
  rcases s1 with k1 | k2 | k2 | k1 | k5
  case inl | inr.inr.inr.inl =>
   have e : wrStepR d T x = rF T (x.dh,x.df):=by unfold wrStepR; rw [if_pos (by omega)]
   simp [k1,-AV.one]
   refine call_g (raddF_g T.F (x.dh,x.df) (by have:=hB.1; omega)) ?_
   simp [hw,-AV.one]
   exact fin e (Sl.of rfl rfl rfl)
  case inr.inl | inr.inr.inl =>
   obtain ⟨b1,b2⟩:=s2 (by omega)
   obtain ⟨y,hy,hy'⟩:=nth_of (show x.hdr.toNat < d.headers.l.length by omega)
   have b3 : x.hdr.toNat < d.headers.l.length:=by omega
   have hnf : nFld d x.hdr = y.fields.l.length:=by unfold nFld; rw [hy']
   have hfl:=hF y (List.mem_of_getElem? hy')
   have e : wrStepR d T x = rH (rFs T (hdrRefs x.hdr y.fields.l.length)) x.hdr:=by unfold wrStepR; rw [if_neg (by omega),if_pos (by omega),hnf]
   simp [k2,-AV.one]
   refine forX mixed y.fields.l.length (rwrJ d a.body.l i T _ x g) (by kernel_rfl) (Sl.of rfl rfl rfl) ?_
   rintro j ⟨ts,hh,kk⟩ hj ⟨rfl,rfl,ff,rfl⟩
   by_cases hjt : j < y.fields.l.length
   ·have hwj:=wrap64 (x:=(j : Int) + 1) (by omega) (by omega)
    have hl:=allR_len (hdrRefs x.hdr j) T.F
    rw [hdrRefs_len] at hl
    have hB1:=hB.1
    simp [hjt,b1,b3,hy,aPrg,rFs,-AV.one]
    refine call_g (raddF_g (allIn insR T.F (hdrRefs x.hdr j)) (x.hdr,(j : Int)) (by omega)) ?_
    simp [hwj,-AV.one]
    unfold rwrJ rFs
    rw [hdrRefs_next,allIn_snoc]
    exact Sl.of rfl rfl rfl
   ·obtain rfl : j = y.fields.l.length:=by omega
    simp [b1,b3,hy,aPrg,rFs,-AV.one]
    refine call_g (raddZ_g T.M x.hdr (by have:=hB.2.1; omega)) ?_
    simp [hw,-AV.one]
    exact fin e (Sl.of rfl rfl rfl)
  case inr.inr.inr.inr =>
   have e : wrStepR d T x = rG T x.reg:=by unfold wrStepR; rw [if_neg (by omega),if_neg (by omega),if_pos k5]
   simp [k5,-AV.one]
   refine call_g (raddZ_g T.G x.reg (by have:=hB.2.2; omega)) ?_
   simp [k5,hw,-AV.one]
   exact fin e (Sl.of rfl rfl rfl)
 ·obtain rfl : i = a.body.l.length:=by omega
  rw [List.take_length]
  simp [-AV.one]
def rfnI (d : PrgD) (n i : Nat) (s : St) : Prop:=∃ g,Vf.Sl [(1,.f (intF n)),(2,.ref 0 0),(5,.f (intF (cntTo (d.headers.l.take i)))),(6,.f (intF i))] 22 (aPrg d :: g) [] s
theorem rcnt_g (d : PrgD) (hs : PrgS d) (n : Nat) (hn : n ≤ d.headers.l.length) : Gives Tryz.prog 192 [fPrg d,intF n] (intF (cntTo (d.headers.l.take n))):=by
 refine Gives.of mixed Tryz.func192 rfl rfl rfl (by kernel_rfl) ?_
 have hh:=hs.h
 simp [fPrg,cPrg]
 refine forX mixed n (rfnI d n) (by kernel_rfl) ⟨[],Sl.of rfl rfl rfl⟩ ?_
 rintro i ⟨ts,hh,kk⟩ hi ⟨g,rfl,rfl,f,rfl⟩
 by_cases hlt : i < n
 ·obtain ⟨x,hx,hx'⟩:=nth_of (show i < d.headers.l.length by omega)
  have hw:=wrap64 (x:=(i : Int) + 1) (by omega) (by omega)
  have hb:=cntTo_bd (l:=d.headers.l.take i) fun y hy=>hs.f y (List.mem_of_mem_take hy)
  rw [List.length_take] at hb
  have hf:=hs.f x (List.mem_of_getElem? hx')
  have hw2:=wrap64 (x:=cntTo (d.headers.l.take i) + x.fields.l.length) (by omega) (by omega)
  simp [hlt,hx,(show i < d.headers.l.length by omega),aPrg,hw,hw2]
  exact ⟨_,by rw [cntTo_next hx']; exact Sl.of rfl rfl rfl⟩
 ·obtain rfl : i = n:=by omega
  simp
theorem fst_1 (d : PrgD) : fstTo d 1 4 = cntTo d.headers.l:=by simp [fstTo,cntAt]
theorem fst_2 (d : PrgD) : fstTo d 2 4 = cntTo d.headers.l + d.headers.l.length:=by simp [fstTo,cntAt]
theorem fst_3 (d : PrgD) : fstTo d 3 4 = cntTo d.headers.l + d.headers.l.length + d.meta_.l.length:=by simp [fstTo,cntAt]
theorem rvalidCell_g (d : PrgD) (hs : PrgS d) (i : Int) : Gives Tryz.prog 190 [fPrg d,intF i] (intF (cellM d 1 i)):=by
 refine Gives.of mixed Tryz.func190 rfl rfl rfl (by kernel_rfl) ?_
 have hb:=cntTo_bd hs.f
 have h1:=hs.h
 have hc:=rcnt_g d hs d.headers.l.length (Nat.le_refl _)
 rw [List.take_length] at hc
 have e1 : cntAt d 1 = d.headers.l.length:=rfl
 by_cases c1 : i < 0
 ·have hv : cellM d 1 i = -1:=if_pos (.inl c1)
  simp [fPrg,cPrg,c1,hv]
 by_cases c2 : (d.headers.l.length : Int) ≤ i
 ·have hv : cellM d 1 i = -1:=if_pos (.inr c2)
  simp [fPrg,cPrg,c1,c2,hv]
 have hv : cellM d 1 i = cntTo d.headers.l + i:=by unfold cellM; rw [if_neg (by rw [e1]; omega)]; show fstTo d 1 4 + i = _; rw [fst_1]
 have w1:=wrap64 (x:=cntTo d.headers.l + i) (by omega) (by omega)
 simp [fPrg,cPrg,c1,c2]
 refine call_g hc ?_
 simp [w1,hv]
theorem rregCell_g (d : PrgD) (hs : PrgS d) (i : Int) : Gives Tryz.prog 191 [fPrg d,intF i] (intF (cellM d 3 i)):=by
 refine Gives.of mixed Tryz.func191 rfl rfl rfl (by kernel_rfl) ?_
 have hb:=cntTo_bd hs.f
 have h1:=hs.h
 have h2:=hs.m
 have h3:=hs.r
 have hc:=rcnt_g d hs d.headers.l.length (Nat.le_refl _)
 rw [List.take_length] at hc
 have e1 : cntAt d 3 = d.regs.l.length:=rfl
 by_cases c1 : i < 0
 ·have hv : cellM d 3 i = -1:=if_pos (.inl c1)
  simp [fPrg,cPrg,c1,hv]
 by_cases c2 : (d.regs.l.length : Int) ≤ i
 ·have hv : cellM d 3 i = -1:=if_pos (.inr c2)
  simp [fPrg,cPrg,c1,c2,hv]
 have hv : cellM d 3 i = cntTo d.headers.l + d.headers.l.length + d.meta_.l.length + i:=by unfold cellM; rw [if_neg (by rw [e1]; omega)]; show fstTo d 3 4 + i = _; rw [fst_3]
 have w1:=wrap64 (x:=cntTo d.headers.l + d.headers.l.length) (by omega) (by omega)
 have w2:=wrap64 (x:=cntTo d.headers.l + d.headers.l.length + d.meta_.l.length) (by omega) (by omega)
 have w3:=wrap64 (x:=cntTo d.headers.l + d.headers.l.length + d.meta_.l.length + i) (by omega) (by omega)
 simp [fPrg,cPrg,c1,c2]
 refine call_g hc ?_
 simp [w1,w2,w3,hv]
theorem rfieldCell_g (d : PrgD) (hs : PrgS d) (h f : Int) : Gives Tryz.prog 139 [fPrg d,fRef h f] (intF (fieldCell d h f)):=by
 refine Gives.of mixed Tryz.func139 rfl rfl rfl (by kernel_rfl) ?_
 have hb:=cntTo_bd hs.f
 have h1:=hs.h
 have h2:=hs.m
 have hc:=rcnt_g d hs d.headers.l.length (Nat.le_refl _)
 rw [List.take_length] at hc
 have e2 : cntAt d 2 = d.meta_.l.length:=rfl
 generalize hv : fieldCell d h f = v
 unfold fieldCell at hv
 by_cases c0 : h = -1
 ·rw [if_pos c0] at hv
  subst c0
  by_cases c1 : f < 0
  ·have hv2 : cellM d 2 f = -1:=if_pos (.inl c1)
   rw [hv2] at hv
   subst hv
   simp [fPrg,cPrg,c1,(show ¬ 0 ≤ f by omega)]
  by_cases c2 : (d.meta_.l.length : Int) ≤ f
  ·have hv2 : cellM d 2 f = -1:=if_pos (.inr c2)
   rw [hv2] at hv
   subst hv
   simp [fPrg,cPrg,c1,(show 0 ≤ f by omega),(show ¬ f < (d.meta_.l.length : Int) by omega)]
  have hv2 : cellM d 2 f = cntTo d.headers.l + d.headers.l.length + f:=by unfold cellM; rw [if_neg (by rw [e2]; omega)]; show fstTo d 2 4 + f = _; rw [fst_2]
  rw [hv2] at hv
  subst hv
  have w1:=wrap64 (x:=cntTo d.headers.l + d.headers.l.length) (by omega) (by omega)
  have w2:=wrap64 (x:=cntTo d.headers.l + d.headers.l.length + f) (by omega) (by omega)
  simp [fPrg,cPrg,c1,(show 0 ≤ f by omega),(show f < (d.meta_.l.length : Int) by omega)]
  refine call_g hc ?_
  simp [w1,w2]
 rw [if_neg c0] at hv
 by_cases c1 : h < 0
 ·rw [if_pos (.inl c1)] at hv
  subst hv
  simp [fPrg,cPrg,c0,c1]
 by_cases c2 : (d.headers.l.length : Int) ≤ h
 ·rw [if_pos (.inr c2)] at hv
  subst hv
  simp [fPrg,cPrg,c0,c1,c2]
 rw [if_neg (by omega)] at hv
 obtain ⟨y,hy,hy'⟩:=nth_of (show h.toNat < d.headers.l.length by omega)
 have b3 : h.toNat < d.headers.l.length:=by omega
 have b4 : 0 ≤ h:=by omega
 rw [hy'] at hv
 have hv : (if f < 0 ∨ (y.fields.l.length : Int) ≤ f then -1 else f + cntTo (d.headers.l.take h.toNat)) = v:=hv
 by_cases c3 : f < 0
 ·rw [if_pos (.inl c3)] at hv
  subst hv
  simp [fPrg,cPrg,c0,c1,c2,c3]
 by_cases c4 : (y.fields.l.length : Int) ≤ f
 ·rw [if_pos (.inr c4)] at hv
  subst hv
  simp [fPrg,cPrg,c0,c1,c2,c3,b3,b4,hy,c4]
 rw [if_neg (by omega)] at hv
 subst hv
 have hcn:=rcnt_g d hs h.toNat (by omega)
 rw [show ((h.toNat : Nat) : Int) = h by omega] at hcn
 have hb2:=cntTo_bd (l:=d.headers.l.take h.toNat) fun y hy=>hs.f y (List.mem_of_mem_take hy)
 rw [List.length_take] at hb2
 have hfl:=hs.f y (List.mem_of_getElem? hy')
 have w1:=wrap64 (x:=f + cntTo (d.headers.l.take h.toNat)) (by omega) (by omega)
 have w2 : IntKind.i64.wrap (cntTo (d.headers.l.take h.toNat) + f) = f + cntTo (d.headers.l.take h.toNat):=by rw [Int.add_comm]; exact w1
 simp [fPrg,cPrg,c0,c1,c2,c3,b3,b4,hy,c4]
 refine call_g hcn ?_
 simp [w1,w2]
theorem insZ_at {l : List Int} {n : Int} {i : Nat} (h : ∀ y ∈ l.take i,y < n) {y : Int} (hy : l[i]? = some y) (hge : n ≤ y) : insZ n l = if y = n then l else l.take i ++ n :: l.drop i:=by
 have hd : l.drop i = y :: l.drop (i + 1):=by
  obtain ⟨hi,e⟩:=List.getElem?_eq_some_iff.1 hy
  rw [List.drop_eq_getElem_cons hi,e]
 have e:=insBy_none (lt:=ltZ) (eq:=eqZ) (x:=n) (l.drop i) (fun y hy=>by simpa using h y hy)
 rw [List.take_append_drop] at e
 show insBy ltZ eqZ n l = _
 rw [e,hd,insBy,if_neg (by simp; omega)]
 by_cases hq : y = n
 ·rw [if_pos (by simpa using hq),if_pos hq,← hd,List.take_append_drop]
 ·rw [if_neg (by simpa using hq),if_neg hq]
theorem insZ_end {l : List Int} {n : Int} (h : ∀ y ∈ l,y < n) : insZ n l = l ++ [n]:=by
 have e:=insBy_none (lt:=ltZ) (eq:=eqZ) (x:=n) [] (fun y hy=>by simpa using h y hy)
 rw [List.append_nil] at e
 exact e
theorem ints_all (l : List Int) : (encL intF l).all (fun u=>u.cells.length == 1) = true:=by
 rw [List.all_eq_true]
 intro u hu
 obtain ⟨x,_,rfl⟩:=List.mem_map.1 hu
 rfl
theorem app_two (k : List (Nat × Nat)) (a : List Int) (n : Int) (ha : a.length ≤ 10000000) : ∃ x1 k1 x2 k2 t2,opAppend (tyOf Tryz.prog) k 29 (.f (.sl [] .full)) (.f (sl (encL intF a))) = some (x1,k1) ∧
  opAppend (tyOf Tryz.prog) k1 29 x1 (.f (.sl [intF n] .full)) = some (x2,k2)∧OwnT k2 (encL intF (a ++ [n])) 1 x2 t2:=by
 by_cases h : a = []
 ·subst h
  have e:=append_full (k:=k) (ys:=[intF n]) (c:=.full) (y:=.f (.sl [intF n] .full)) (by decide) ty29 ty3 (by simp) rfl (by simp) (by simp) (by simp) (by simp)
  refine ⟨.f (.sl [] .full),k,_,_,k.length,?_,e,.inr ⟨by simp [encL],rfl,by simp⟩⟩
  simp [encL]
 ·have hne : encL intF a ≠ []:=by simpa [encL] using h
  have e:=append_full (k:=k) (ys:=encL intF a) (c:=.full) (y:=.f (sl (encL intF a))) (by decide) ty29 ty3 (by simp) rfl hne (by simp [encL]) (by simp; omega) (by simp; omega)
  have ho : OwnT (k ++ [((encL intF a).length,1)]) (encL intF a) 1 (.own (encL intF a) k.length) k.length:=.inr ⟨hne,rfl,by simp⟩
  obtain ⟨t',k',e2,ho',_⟩:=append_own ty29 ty3 (by simp) ho (y:=.f (.sl [intF n] .full)) rfl (by simp) (by simp) (by simp; omega) (by simp; omega)
  rw [enc_one] at e2 ho'
  exact ⟨_,_,_,_,_,e,e2,ho'⟩
theorem sliceD {l : List Int} {c : Cap} {i : Nat} (hi : i ≤ l.length) : opSlice (tyOf Tryz.prog) 29 (.f (.sl (encL intF l) c)) (some (.f (intF i))) none none = some (.f (sl (encL intF (l.drop i)))):=by
 simp [opSlice,optIdx,idx,hi,encL]
 rw [List.take_of_length_le (by simp)]
def rinI (l : List Int) (c : Cap) (n : Int) (i : Nat) (s : St) : Prop:=(∀ j y,j < i→l[j]? = some y→y < n)∧∃ g,Vf.Sl [(0,.f (.sl (encL intF l) c)),(1,.f (intF n)),(5,.f (intF i))] 52 g [] s
theorem rinsert_g (l : List Int) (n : Int) (hl : l.length ≤ 10000000) : Gives Tryz.prog 138 [ownF (encL intF l),intF n] (ownF (encL intF (insM n l))):=by
 refine Gives.of mixed Tryz.func138 rfl rfl rfl (by kernel_rfl) ?_
 obtain ⟨c,hc⟩:=ownF_is (encL intF l)
 generalize hv : ownF (encL intF (insM n l)) = v
 rw [hc]
 simp
 refine forX mixed l.length (rinI l c n) (by kernel_rfl) ⟨fun j y h=>by omega,[],Sl.of rfl rfl rfl⟩ ?_
 rintro i ⟨ts,hh,kk⟩ hi ⟨hno,g,rfl,rfl,f,rfl⟩
 have hlow : ∀ y ∈ l.take i,y < n:=fun y hy=>by
  obtain ⟨j,hj,e⟩:=List.getElem_of_mem hy
  rw [List.length_take] at hj
  exact hno j y (by omega) (by rw [← e,List.getElem_take]; exact List.getElem?_eq_getElem (by omega))
 by_cases hlt : i < l.length
 ·obtain ⟨y,hy,hy'⟩:=nth_of hlt
  have hw:=wrap64 (x:=(i : Int) + 1) (by omega) (by omega)
  by_cases c1 : y < n
  ·simp [hlt,hy,c1,hw]
   refine ⟨fun j z hj hz=>?_,_,Sl.of rfl rfl rfl⟩
   rcases Nat.lt_or_ge j i with h1 | h1
   ·exact hno j z h1 hz
   ·obtain rfl : j = i:=by omega
    rw [hy'] at hz
    obtain rfl:=Option.some.inj hz
    exact c1
  ·by_cases c2 : n < 0
   ·have e : insM n l = l:=if_pos c2
    rw [e,hc] at hv
    subst hv
    simp [hlt,hy,c1,c2]
   have e : insM n l = insZ n l:=if_neg c2
   rw [e,insZ_at hlow hy' (by omega)] at hv
   by_cases c3 : y = n
   ·rw [if_pos c3,hc] at hv
    subst hv
    simp [hlt,hy,c1,c2,c3]
   rw [if_neg c3] at hv
   subst hv
   obtain ⟨x1,k1,x2,k2,t2,e1,e2,ho⟩:=app_two [] (l.take i) n (by rw [List.length_take]; omega)
   obtain ⟨x3,t3,k3,e3,ho3,_⟩:=append_own0 ty29 ty3 (by simp) ho (y:=.f (sl (encL intF (l.drop i)))) rfl (ints_all _) (by simp; omega) (by simp; omega)
   rw [show encL intF (l.take i ++ [n]) ++ encL intF (l.drop i) = encL intF (l.take i ++ n :: l.drop i) by simp [encL]] at ho3
   have hs1:=sliceF (enc:=intF) (l:=l) (c:=c) (i:=i) ty29 ty3 (by simp) (fun _=>rfl) (Nat.le_of_lt hlt)
   have hs2:=sliceD (l:=l) (c:=c) (i:=i) (Nat.le_of_lt hlt)
   simp [hlt,hy,c1,c2,c3,-opAppend]
   rw [hs1]
   simp [-opAppend]
   rw [e1]
   simp [-opAppend]
   rw [e2]
   simp [-opAppend]
   rw [hs2]
   simp [-opAppend]
   rw [e3]
   simp
   rw [ho3.ret]
 ·obtain rfl : i = l.length:=by omega
  by_cases c2 : n < 0
  ·have e : insM n l = l:=if_pos c2
   rw [e,hc] at hv
   subst hv
   simp [c2]
  rw [List.take_length] at hlow
  have e : insM n l = insZ n l:=if_neg c2
  rw [e,insZ_end hlow] at hv
  subst hv
  obtain ⟨x1,k1,x2,k2,t2,e1,e2,ho⟩:=app_two [] l n hl
  obtain ⟨x3,t3,k3,e3,ho3,_⟩:=append_own0 ty29 ty3 (by simp) ho (y:=.f (sl [])) rfl (by simp) (by simp; omega) (by simp; omega)
  rw [List.append_nil] at ho3
  have hs1:=sliceF (enc:=intF) (l:=l) (c:=c) (i:=l.length) ty29 ty3 (by simp) (fun _=>rfl) (Nat.le_refl _)
  rw [List.take_length] at hs1
  have hs2:=sliceD (l:=l) (c:=c) (i:=l.length) (Nat.le_refl _)
  simp [c2,-opAppend]
  rw [hs1]
  simp [-opAppend]
  rw [e1]
  simp [-opAppend]
  rw [e2]
  simp [-opAppend]
  rw [hs2]
  simp [-opAppend]
  rw [e3]
  simp
  rw [ho3.ret]
theorem insAll_app (L a b : List Int) : insAll L (a ++ b) = insAll (insAll L a) b:=by unfold insAll; rw [List.foldl_append]
theorem insAll_map {α : Type} (f : α→Int) {L : List Int} {l : List α} {i : Nat} {x : α} (h : l[i]? = some x) : insAll L ((l.take (i + 1)).map f) = insM (f x) (insAll L ((l.take i).map f)):=by
 rw [take_snoc h,List.map_append,insAll_app]; rfl
def rga1 (d : PrgD) (L : List Int) (T : Tri) (c2 c3 c4 : Cap) (i : Nat) (s : St) : Prop:=∃ g,Vf.Sl [(1,.f (ownF (encL intF (insAll L ((T.F.map fun r : FR=>fieldCell d r.1 r.2).take i))))),(2,.f (.sl (encL fRp T.F) c2)),(3,.f (.sl (encL intF T.M) c3)),(4,.f (.sl (encL intF T.G) c4)),(5,.ref 0 0),(11,.f (intF i))] 57 (aPrg d :: g) [] s
def rga2 (d : PrgD) (L : List Int) (T : Tri) (c2 c3 c4 : Cap) (i : Nat) (s : St) : Prop:=∃ g,Vf.Sl [(1,.f (ownF (encL intF (insAll L ((T.M.map (cellM d 1)).take i))))),(3,.f (.sl (encL intF T.M) c3)),(4,.f (.sl (encL intF T.G) c4)),(5,.ref 0 0),(12,.f (intF i))] 57 (aPrg d :: g) [] s
def rga3 (d : PrgD) (L : List Int) (T : Tri) (c2 c3 c4 : Cap) (i : Nat) (s : St) : Prop:=∃ g,Vf.Sl [(1,.f (ownF (encL intF (insAll L ((T.G.map (cellM d 3)).take i))))),(4,.f (.sl (encL intF T.G) c4)),(5,.ref 0 0),(13,.f (intF i))] 57 (aPrg d :: g) [] s
theorem rgather_g (d : PrgD) (hs : PrgS d) (L : List Int) (T : Tri) (hL : L.length ≤ 7000000) (hT : triB T 1000000) : Gives Tryz.prog 135 [fPrg d,ownF (encL intF L),ownF (encL fRp T.F),ownF (encL intF T.M),ownF (encL intF T.G)] (ownF (encL intF (gathM d L T))):=by
 refine Gives.of mixed Tryz.func135 rfl rfl rfl (by kernel_rfl) ?_
 obtain ⟨c2,e2⟩:=ownF_is (encL fRp T.F)
 obtain ⟨c3,e3⟩:=ownF_is (encL intF T.M)
 obtain ⟨c4,e4⟩:=ownF_is (encL intF T.G)
 obtain ⟨b1,b2,b3⟩:=hT
 rw [e2,e3,e4]
 unfold gathM
 simp [fPrg,cPrg]
 refine forX mixed T.F.length (rga1 d L T c2 c3 c4) (by kernel_rfl) ⟨[],Sl.of rfl rfl rfl⟩ ?_
 rintro i ⟨ts,hh,kk⟩ hi ⟨g,rfl,rfl,f,rfl⟩
 by_cases hlt : i < T.F.length
 ·obtain ⟨x,hx,hx'⟩:=nth_of hlt
  have hw:=wrap64 (x:=(i : Int) + 1) (by omega) (by omega)
  have hl:=insAll_len ((T.F.map fun r : FR=>fieldCell d r.1 r.2).take i) L
  rw [List.length_take,List.length_map] at hl
  simp [hlt,hx,aPrg]
  refine call_g (rfieldCell_g d hs x.1 x.2) ?_
  simp
  refine call_g (rinsert_g (insAll L ((T.F.map fun r : FR=>fieldCell d r.1 r.2).take i)) (fieldCell d x.1 x.2) (by omega)) ?_
  simp [hw]
  unfold rga1
  rw [insAll_next (x:=fieldCell d x.1 x.2) (by rw [List.getElem?_map,hx']; rfl)]
  exact ⟨_,Sl.of rfl rfl rfl⟩
 obtain rfl : i = T.F.length:=by omega
 rw [List.take_of_length_le (by simp)]
 have hl1:=insAll_len (T.F.map fun r : FR=>fieldCell d r.1 r.2) L
 rw [List.length_map] at hl1
 generalize insAll L (T.F.map fun r : FR=>fieldCell d r.1 r.2) = L1 at *
 simp
 clear hlt hi
 refine forX mixed T.M.length (rga2 d L1 T c2 c3 c4) (by kernel_rfl) ⟨_,Sl.of rfl rfl rfl⟩ ?_
 rintro i ⟨ts,hh,kk⟩ hi ⟨g,rfl,rfl,f,rfl⟩
 by_cases hlt : i < T.M.length
 ·obtain ⟨x,hx,hx'⟩:=nth_of hlt
  have hw:=wrap64 (x:=(i : Int) + 1) (by omega) (by omega)
  have hl:=insAll_len ((T.M.map (cellM d 1)).take i) L1
  rw [List.length_take,List.length_map] at hl
  simp [hlt,hx,aPrg]
  refine call_g (rvalidCell_g d hs x) ?_
  simp
  refine call_g (rinsert_g (insAll L1 ((T.M.map (cellM d 1)).take i)) (cellM d 1 x) (by omega)) ?_
  simp [hw]
  unfold rga2
  rw [insAll_next (x:=cellM d 1 x) (by rw [List.getElem?_map,hx']; rfl)]
  exact ⟨_,Sl.of rfl rfl rfl⟩
 obtain rfl : i = T.M.length:=by omega
 rw [List.take_of_length_le (by simp)]
 have hl2:=insAll_len (T.M.map (cellM d 1)) L1
 rw [List.length_map] at hl2
 generalize insAll L1 (T.M.map (cellM d 1)) = L2 at *
 simp
 clear hlt hi
 refine forX mixed T.G.length (rga3 d L2 T c2 c3 c4) (by kernel_rfl) ⟨_,Sl.of rfl rfl rfl⟩ ?_
 rintro i ⟨ts,hh,kk⟩ hi ⟨g,rfl,rfl,f,rfl⟩
 by_cases hlt : i < T.G.length
 ·obtain ⟨x,hx,hx'⟩:=nth_of hlt
  have hw:=wrap64 (x:=(i : Int) + 1) (by omega) (by omega)
  have hl:=insAll_len ((T.G.map (cellM d 3)).take i) L2
  rw [List.length_take,List.length_map] at hl
  simp [hlt,hx,aPrg]
  refine call_g (rregCell_g d hs x) ?_
  simp
  refine call_g (rinsert_g (insAll L2 ((T.G.map (cellM d 3)).take i)) (cellM d 3 x) (by omega)) ?_
  simp [hw]
  unfold rga3
  rw [insAll_next (x:=cellM d 3 x) (by rw [List.getElem?_map,hx']; rfl)]
  exact ⟨_,Sl.of rfl rfl rfl⟩
 obtain rfl : i = T.G.length:=by omega
 rw [List.take_of_length_le (by simp)]
 simp
def actsR (d : PrgD) (f : Int→Tri) (L l : List Int) : List Int:=l.foldl (fun L a=>gathM d L (f a)) L
theorem actsR_next {d : PrgD} {f : Int→Tri} {L l : List Int} {i : Nat} {x : Int} (h : l[i]? = some x) : actsR d f L (l.take (i + 1)) = gathM d (actsR d f L (l.take i)) (f x):=by
 unfold actsR
 rw [← take_one h,List.foldl_append]; rfl
theorem actsR_len {d : PrgD} {f : Int→Tri} (hf : ∀ a,triB (f a) 13000) (l : List Int) : ∀ L : List Int,(actsR d f L l).length ≤ L.length + 39000 * l.length:=by
 induction l with
 | nil=>intro L; exact Nat.le_add_right _ _
 | cons a l ih =>
  intro L
  have h1:=ih (gathM d L (f a))
  have h2:=gathM_len d L (f a)
  obtain ⟨b1,b2,b3⟩:=hf a
  show (actsR d f (gathM d L (f a)) l).length ≤ _
  simp only [List.length_cons]
  omega
theorem actsR_same {d : PrgD} {f g : Int→Tri} (h : ∀ a,SameT (f a) (g a)) : ∀ (l L K : List Int),SameM L K→SameM (actsR d f L l) (actsTo d g K l)
 | [],L,K,hL=>hL
 | a :: l,L,K,hL=>actsR_same h l _ _ (gathM_same hL (h a))
def keysR (d : PrgD) (l : List KeyD) : List Int:=insAll [] (l.map fun k=>fieldCell d k.h k.f)
theorem keysR_same (d : PrgD) (l : List KeyD) : SameM (keysR d l) (keysTo d [] l):=by
 have : ∀ (l : List KeyD) (L K : List Int),SameM L K→SameM (insAll L (l.map fun k=>fieldCell d k.h k.f)) (keysTo d K l):=by
  intro l
  induction l with
  | nil=>exact fun L K h=>h
  | cons k l ih =>
   intro L K h
   exact ih _ _ fun z=>by
    show z ∈ insM (fieldCell d k.h k.f) L ↔ z ∈ putM K (fieldCell d k.h k.f)
    rw [insM_mem,mem_put,h z]
 exact this l [] [] SameM.rfl_
theorem SameT.can {a b : Tri} (h : SameT a b) : SameT a (triC b):=⟨h.F.trans (canR_mem _).symm,h.M.trans (canZ_mem _).symm,h.G.trans (canZ_mem _).symm⟩
def ruWr (d : PrgD) (u : UnitD) : List Int:=match tblOf d u.table with
 | none=>[]
 | some t=>actsR d (fun a=>wrR d (bodyM d a)) [] t.acts.l
def ruRd (d : PrgD) (u : UnitD) : List Int:=if u.table = -1 then gathM d [] ⟨FL u.cond.l,HL u.cond.l,[]⟩ else match tblOf d u.table with
 | none=>[]
 | some t=>actsR d (fun a=>rdR (bodyM d a)) (keysR d t.keys.l) t.acts.l
theorem ruWr_same (d : PrgD) (u : UnitD) : SameM (ruWr d u) (unitWrM d u):=by
 unfold ruWr unitWrM
 cases tblOf d u.table with
 | none=>exact SameM.rfl_
 | some t=>exact SameM.trans (actsR_same (fun a=>(wrR_same d (bodyM d a)).can) t.acts.l [] [] SameM.rfl_) (canZ_mem _).symm
theorem ruRd_same (d : PrgD) (u : UnitD) : SameM (ruRd d u) (unitRdM d u):=by
 unfold ruRd unitRdM
 split
 ·exact SameM.trans (gathM_same (b:=⟨fldsM u.cond.l,hdrsM u.cond.l,[]⟩) SameM.rfl_ ⟨FL_same _,HL_same _,SameM.rfl_⟩) (canZ_mem _).symm
 ·cases tblOf d u.table with
  | none=>exact SameM.rfl_
  | some t=>exact SameM.trans (actsR_same (fun a=>(rdR_same (bodyM d a)).can) t.acts.l _ _ (keysR_same d t.keys.l)) (canZ_mem _).symm
theorem wrR_bd (d : PrgD) (hF : ∀ x ∈ d.headers.l,x.fields.l.length ≤ 1000) (a : Int) : triB (wrR d (bodyM d a)) 13000:=by
 have h:=wrR_b hF (bodyM d a) (bodyM d a).length
 rw [List.take_length] at h
 have hl:=(bodyM_ok d a).1
 exact h.mono (by omega)
theorem rdR_bd (d : PrgD) (a : Int) : triB (rdR (bodyM d a)) 13000:=by
 have h:=rdR_b (bodyM_ok d a).2 (bodyM d a).length
 rw [List.take_length] at h
 have hl:=(bodyM_ok d a).1
 exact h.mono (by omega)
def rcwI (d : PrgD) (u : UnitD) (t : TblD) (i : Nat) (s : St) : Prop:=∃ g,Vf.Sl [(2,.ref 0 0),(3,.ref 1 0),(5,.f (ownF (encL intF (actsR d (fun a=>wrR d (bodyM d a)) [] (t.acts.l.take i))))),(6,.ref 2 0),(7,.f (intF i))] 53 (aPrg d :: cUnitA u :: cTblA t :: g) [] s
theorem rwrites_g (d : PrgD) (hn : NmOk d) (hC : PrgC d) (u : UnitD) : Gives Tryz.prog 82 [fPrg d,fUnit u] (ownF (encL intF (ruWr d u))):=by
 have hS:=prgS_of hC
 refine Gives.of mixed Tryz.func82 rfl rfl rfl (by kernel_rfl) ?_
 rcases tblAt (d:=d) u.table with ⟨c1,hr⟩ | ⟨c1,c2,hr⟩ | ⟨c0,c1,c2,c3,t,hx,hx',hr⟩
 ·have hv : ruWr d u = []:=by unfold ruWr tblOf; rw [hr]
  simp [fPrg,cPrg,c1,hv,encL,ownF]
 ·have hv : ruWr d u = []:=by unfold ruWr tblOf; rw [hr]
  simp [fPrg,cPrg,c1,c2,hv,encL,ownF]
 have hv : ruWr d u = actsR d (fun a=>wrR d (bodyM d a)) [] t.acts.l:=by unfold ruWr tblOf; rw [hr]
 have hts:=tblOf_small hC (show tblOf d u.table = some t by unfold tblOf; exact hr)
 rw [hv]
 simp [fPrg,cPrg,c0,c1,c2,c3,hx]
 refine forX mixed t.acts.l.length (rcwI d u t) (by kernel_rfl) ⟨[],Sl.of rfl rfl rfl⟩ ?_
 rintro i ⟨ts,hh,kk⟩ hi ⟨g,rfl,rfl,f,rfl⟩
 by_cases hlt : i < t.acts.l.length
 ·obtain ⟨a,ha,ha'⟩:=nth_of hlt
  have hw:=wrap64 (x:=(i : Int) + 1) (by omega) (by omega)
  have hl:=actsR_len (d:=d) (wrR_bd d hS.f) (t.acts.l.take i) []
  rw [List.length_take,List.length_nil] at hl
  simp [hlt,ha,aPrg]
  refine call_g (ractWrites_g d hn hS.f a) ?_
  simp
  refine call_g (rgather_g d hS _ (wrR d (bodyM d a)) (by omega) ((wrR_bd d hS.f a).mono (by omega))) ?_
  simp [hw]
  unfold rcwI
  rw [actsR_next ha']
  exact ⟨_,Sl.of rfl rfl rfl⟩
 ·obtain rfl : i = t.acts.l.length:=by omega
  rw [List.take_length]
  simp
def rcrK (d : PrgD) (u : UnitD) (t : TblD) (i : Nat) (s : St) : Prop:=∃ g,Vf.Sl [(2,.ref 0 0),(3,.ref 1 0),(5,.f (ownF (encL intF (keysR d (t.keys.l.take i))))),(6,.ref 2 0),(7,.f (intF i))] 82 (aPrg d :: cUnitA u :: cTblA t :: g) [] s
def rcrI (d : PrgD) (u : UnitD) (t : TblD) (i : Nat) (s : St) : Prop:=∃ g,Vf.Sl [(2,.ref 0 0),(3,.ref 1 0),(5,.f (ownF (encL intF (actsR d (fun a=>rdR (bodyM d a)) (keysR d t.keys.l) (t.acts.l.take i))))),(6,.ref 2 0),(8,.f (intF i))] 82 (aPrg d :: cUnitA u :: cTblA t :: g) [] s
theorem keysR_len (d : PrgD) (l : List KeyD) : (keysR d l).length ≤ l.length:=by
 have:=insAll_len (l.map fun k=>fieldCell d k.h k.f) []
 simpa [keysR] using this
theorem rreads_g (d : PrgD) (hn : NmOk d) (hC : PrgC d) (u : UnitD) (hu : u.cond.l.length ≤ 1000000) : Gives Tryz.prog 86 [fPrg d,fUnit u] (ownF (encL intF (ruRd d u))):=by
 have hS:=prgS_of hC
 refine Gives.of mixed Tryz.func86 rfl rfl rfl (by kernel_rfl) ?_
 by_cases h1 : u.table = -1
 ·have hv : ruRd d u = gathM d [] ⟨FL u.cond.l,HL u.cond.l,[]⟩:=if_pos h1
  have hg:=rgather_g d hS [] ⟨FL u.cond.l,HL u.cond.l,[]⟩ (Nat.zero_le _) ⟨Nat.le_trans (FLn_len _) hu,Nat.le_trans (HLn_len _) hu,Nat.zero_le _⟩
  rw [show ownF (encL intF []) = .sl [] .nil from rfl] at hg
  rw [hv]
  simp [fPrg,cPrg,h1]
  refine call_g (rfields_g u.cond.l .un (by omega)) ?_
  simp
  refine call_g (rheadersL_g u.cond.l .un (by omega)) ?_
  simp
  refine call_g hg ?_
  simp
 rcases tblAt (d:=d) u.table with ⟨c1,hr⟩ | ⟨c1,c2,hr⟩ | ⟨c0,c1,c2,c3,t,hx,hx',hr⟩
 ·have hv : ruRd d u = []:=by unfold ruRd tblOf; rw [if_neg h1,hr]
  simp [fPrg,cPrg,h1,c1,hv,encL,ownF]
 ·have hv : ruRd d u = []:=by unfold ruRd tblOf; rw [if_neg h1,hr]
  simp [fPrg,cPrg,h1,c1,c2,hv,encL,ownF]
 have hv : ruRd d u = actsR d (fun a=>rdR (bodyM d a)) (keysR d t.keys.l) t.acts.l:=by unfold ruRd tblOf; rw [if_neg h1,hr]
 have hts:=tblOf_small hC (show tblOf d u.table = some t by unfold tblOf; exact hr)
 rw [hv]
 simp [fPrg,cPrg,h1,c0,c1,c2,c3,hx]
 refine forX mixed t.keys.l.length (rcrK d u t) (by kernel_rfl) ⟨[],Sl.of rfl rfl rfl⟩ ?_
 rintro i ⟨ts,hh,kk⟩ hi ⟨g,rfl,rfl,f,rfl⟩
 by_cases hlt : i < t.keys.l.length
 ·obtain ⟨k,hk,hk'⟩:=nth_of hlt
  have hw:=wrap64 (x:=(i : Int) + 1) (by omega) (by omega)
  have hl:=keysR_len d (t.keys.l.take i)
  rw [List.length_take] at hl
  simp [hlt,hk,aPrg]
  refine call_g (rfieldCell_g d hS k.h k.f) ?_
  simp
  refine call_g (rinsert_g (keysR d (t.keys.l.take i)) (fieldCell d k.h k.f) (by omega)) ?_
  simp [hw]
  have e : insM (fieldCell d k.h k.f) (keysR d (t.keys.l.take i)) = keysR d (t.keys.l.take (i + 1)):=(insAll_map (fun k : KeyD=>fieldCell d k.h k.f) hk').symm
  rw [e]
  exact ⟨_,Sl.of rfl rfl rfl⟩
 obtain rfl : i = t.keys.l.length:=by omega
 rw [List.take_length]
 simp [aPrg]
 refine forX mixed t.acts.l.length (rcrI d u t) (by kernel_rfl) ⟨_,Sl.of rfl rfl rfl⟩ ?_
 clear hi hlt
 rintro i ⟨ts,hh,kk⟩ hi ⟨g,rfl,rfl,f,rfl⟩
 by_cases hlt : i < t.acts.l.length
 ·obtain ⟨a,ha,ha'⟩:=nth_of hlt
  have hw:=wrap64 (x:=(i : Int) + 1) (by omega) (by omega)
  have hkl:=keysR_len d t.keys.l
  have hl:=actsR_len (d:=d) (rdR_bd d) (t.acts.l.take i) (keysR d t.keys.l)
  rw [List.length_take] at hl
  simp [hlt,ha,aPrg]
  refine call_g (ractReads_g d hn a) ?_
  simp
  refine call_g (rgather_g d hS _ (rdR (bodyM d a)) (by omega) ((rdR_bd d a).mono (by omega))) ?_
  simp [hw]
  unfold rcrI
  rw [actsR_next ha']
  exact ⟨_,Sl.of rfl rfl rfl⟩
 ·obtain rfl : i = t.acts.l.length:=by omega
  rw [List.take_length]
  simp
theorem opNil_bool {T : TV} {op : BinOp} {ty : TypeId} {a b : Bool} : opNil T op ty (.f (.sc (.bool a))) (.f (.sc (.bool b))) = none:=by
 unfold opNil
 split <;> first | rfl | (split <;> first | rfl | (rename_i h; simp [isNilA] at h))
theorem bin_neq_b {P : Program} {T : TV} {ty : TypeId} {x y : Operand} {a b : Bool} (hu : runPure P (underlying ty) = some .bool) : opBin P T .neq ty x y (.f (.sc (.bool a))) (.f (.sc (.bool b))) = some (.f (.sc (.bool (a != b)))):=by
 unfold opBin
 rw [opNil_bool]
 cases a <;> cases b <;> simp [AV.val,aggCells,cellVal,eqGuard,binOp,Op.equal] <;> (rw [show Op.maxDepth = Op.maxDepth - 1 + 1 from rfl]; simp only [Op.equalIn,runPure_bind,runPure_map,hu,Option.bind_some]; first | exact ⟨.bool true,rfl,rfl⟩ | exact ⟨.bool false,rfl,rfl⟩)
@[simp] theorem neqB {T : TV} {x y : Operand} {a b : Bool} : opBin Tryz.prog T .neq 4 x y (.f (.sc (.bool a))) (.f (.sc (.bool b))) = some (.f (.sc (.bool (a != b)))):=bin_neq_b (by kernel_rfl)
def rcoJ (a b : List Int) (ca cb : Cap) (x : Int) (i j : Nat) (s : St) : Prop:=noneT (fun y=>x == y) b j∧∃ g,Vf.Sl [(0,.f (.sl (encL intF a) ca)),(1,.f (.sl (encL intF b) cb)),(5,.f (intF i)),(6,.f (intF j))] 28 g [] s
theorem rcommon_g (a b : List Int) (ca cb : Cap) (ha : a.length < 2^62) (hb : b.length < 2^62) : Gives Tryz.prog 85 [.sl (encL intF a) ca,.sl (encL intF b) cb] (boolF (comB a b)):=by
 refine Gives.of mixed Tryz.func85 rfl rfl rfl (by kernel_rfl) ?_
 generalize hv : comB a b = v
 unfold comB at hv
 simp
 refine forX mixed a.length (fun i s=>noneT (fun x=>b.any fun y=>x == y) a i∧∃ g,Vf.Sl [(0,.f (.sl (encL intF a) ca)),(1,.f (.sl (encL intF b) cb)),(5,.f (intF i))] 28 g [] s) (by kernel_rfl) ⟨.zero,[],Sl.of rfl rfl rfl⟩ ?_
 rintro i ⟨ts,hh,kk⟩ hi ⟨hno,g,rfl,rfl,f,rfl⟩
 by_cases hlt : i < a.length
 ·obtain ⟨x,hx,hx'⟩:=nth_of hlt
  have hw:=wrap64 (x:=(i : Int) + 1) (by omega) (by omega)
  simp [hlt]
  refine forX mixed b.length (rcoJ a b ca cb x i) (by kernel_rfl) ⟨.zero,_,Sl.of rfl rfl rfl⟩ ?_
  rintro j ⟨ts,hh,kk⟩ hj ⟨hno2,g,rfl,rfl,f,rfl⟩
  by_cases hjt : j < b.length
  ·obtain ⟨y,hy,hy'⟩:=nth_of hjt
   have hw':=wrap64 (x:=(j : Int) + 1) (by omega) (by omega)
   by_cases he : x = y
   ·rw [any_hit hx' (any_hit (p:=fun y=>x == y) hy' (by simpa using he))] at hv
    subst hv
    simp [hlt,hx,hjt,hy,he]
   ·simp [hlt,hx,hjt,hy,he,hw']
    exact ⟨hno2.next hy' (by simpa using he),_,Sl.of rfl rfl rfl⟩
  ·obtain rfl : j = b.length:=by omega
   simp [hw]
   exact ⟨hno.next hx' (hno2.all hjt),_,Sl.of rfl rfl rfl⟩
 ·obtain rfl : i = a.length:=by omega
  rw [hno.all hlt] at hv
  subst hv
  simp
def rguI (u : UnitD) (n : Int) (i : Nat) (s : St) : Prop:=noneT (fun g : GuardD=>g.unit == n) u.guards.l i∧∃ g,Vf.Sl [(1,.f (intF n)),(2,.ref 0 0),(5,.f (intF i))] 21 (cUnitA u :: g) [] s
theorem rguarded_g (u : UnitD) (n : Int) (hb : u.guards.l.length < 2^62) : Gives Tryz.prog 84 [fUnit u,intF n] (boolF (u.guards.l.any fun g=>g.unit == n)):=by
 refine Gives.of mixed Tryz.func84 rfl rfl rfl (by kernel_rfl) ?_
 generalize hv : (u.guards.l.any fun g=>g.unit == n) = v
 simp
 refine forX mixed u.guards.l.length (rguI u n) (by kernel_rfl) ⟨.zero,[],Sl.of rfl rfl rfl⟩ ?_
 rintro i ⟨ts,hh,kk⟩ hi ⟨hno,g,rfl,rfl,f,rfl⟩
 by_cases hlt : i < u.guards.l.length
 ·obtain ⟨x,hx,hx'⟩:=nth_of hlt
  have hw:=wrap64 (x:=(i : Int) + 1) (by omega) (by omega)
  by_cases he : x.unit = n
  ·rw [any_hit hx' (by simpa using he)] at hv
   subst hv
   simp [hlt,hx,he]
  ·simp [hlt,hx,he,hw]
   exact ⟨hno.next hx' (by simpa using he),_,Sl.of rfl rfl rfl⟩
 ·obtain rfl : i = u.guards.l.length:=by omega
  rw [hno.all hlt] at hv
  subst hv
  simp
def rexJ (us : List UnitD) (c : Cap) (i j : Nat) (g0 : GuardD) (v : UnitD) (a b : Nat) (s : St) : Prop:=noneT (gdEq ⟨g0.unit,!g0.thn⟩) v.guards.l b∧∃ g,Vf.Sl [(0,.f (.sl (encL fUnit us) c)),(1,.f (intF i)),(2,.f (intF j)),(7,.f (intF a)),(8,.f (intF b))] 87 g [] s
theorem rexcl_g (us : List UnitD) (c : Cap) (i j : Nat) (u v : UnitD) (hi : us[i]? = some u) (hj : us[j]? = some v) (hu : u.guards.l.length < 2^62) (hv0 : v.guards.l.length < 2^62) : Gives Tryz.prog 83 [.sl (encL fUnit us) c,intF i,intF j] (boolF (exclM u v)):=by
 refine Gives.of mixed Tryz.func83 rfl rfl rfl (by kernel_rfl) ?_
 obtain ⟨hlt,_⟩:=List.getElem?_eq_some_iff.1 hi
 obtain ⟨hlt2,_⟩:=List.getElem?_eq_some_iff.1 hj
 obtain ⟨x,hx,hx'⟩:=nth_of hlt
 rw [hi] at hx'
 obtain rfl:=Option.some.inj hx'
 obtain ⟨y,hy,hy'⟩:=nth_of hlt2
 rw [hj] at hy'
 obtain rfl:=Option.some.inj hy'
 have n1 : ¬ ((i : Int) < 0):=by omega
 have n2 : ¬ ((j : Int) < 0):=by omega
 have n3 : ¬ us.length ≤ i:=by omega
 have n4 : ¬ us.length ≤ j:=by omega
 generalize hv : exclM u v = q
 unfold exclM at hv
 simp [hlt,hlt2,hx,hy,n1,n2,n3,n4]
 refine forX mixed u.guards.l.length (fun a s=>noneT (fun g=>v.guards.l.any (gdEq ⟨g.unit,!g.thn⟩)) u.guards.l a∧∃ g,Vf.Sl [(0,.f (.sl (encL fUnit us) c)),(1,.f (intF i)),(2,.f (intF j)),(7,.f (intF a))] 87 g [] s) (by kernel_rfl) ⟨.zero,[],Sl.of rfl rfl rfl⟩ ?_
 rintro a ⟨ts,hh,kk⟩ ha ⟨hno,g,rfl,rfl,f,rfl⟩
 by_cases hat : a < u.guards.l.length
 ·obtain ⟨g0,hg,hg'⟩:=nth_of hat
  have hw:=wrap64 (x:=(a : Int) + 1) (by omega) (by omega)
  simp [hat,hlt,hx]
  refine forX mixed v.guards.l.length (rexJ us c i j g0 v a) (by kernel_rfl) ⟨.zero,_,Sl.of rfl rfl rfl⟩ ?_
  rintro b ⟨ts,hh,kk⟩ hb ⟨hno2,g,rfl,rfl,f,rfl⟩
  by_cases hbt : b < v.guards.l.length
  ·obtain ⟨g1,hg1,hg1'⟩:=nth_of hbt
   have hw':=wrap64 (x:=(b : Int) + 1) (by omega) (by omega)
   by_cases he : g0.unit = g1.unit
   ·cases ht : g0.thn <;> cases ht1 : g1.thn
    all_goals first
     | (have hh : gdEq ⟨g0.unit,!g0.thn⟩ g1 = true:=by simp [gdEq,he,ht,ht1]
        rw [any_hit hg' (any_hit hg1' hh)] at hv
        subst hv
        simp [hat,hlt,hlt2,hx,hy,hg,hbt,hg1,he,ht,ht1]
        done)
     | (have hh : gdEq ⟨g0.unit,!g0.thn⟩ g1 = false:=by simp [gdEq,he,ht,ht1]
        simp [hat,hlt,hlt2,hx,hy,hg,hbt,hg1,he,ht,ht1,hw']
        exact ⟨hno2.next hg1' hh,_,Sl.of rfl rfl rfl⟩)
   ·have hh : gdEq ⟨g0.unit,!g0.thn⟩ g1 = false:=by simp [gdEq,he]
    simp [hat,hlt,hlt2,hx,hy,hg,hbt,hg1,he,hw']
    exact ⟨hno2.next hg1' hh,_,Sl.of rfl rfl rfl⟩
  ·obtain rfl : b = v.guards.l.length:=by omega
   simp [hlt2,hy,hw]
   exact ⟨hno.next hg' (hno2.all hbt),_,Sl.of rfl rfl rfl⟩
 ·obtain rfl : a = u.guards.l.length:=by omega
  rw [hno.all hat] at hv
  subst hv
  simp [hlt,hx]
theorem rkind_g (D : List (List Int)) (c : Cap) (i j : Nat) (hi : i < D.length) : Gives Tryz.prog 71 [.sl (encL rowF D) c,intF i,intF j] (intF (kindM D i j)):=by
 refine Gives.of mixed Tryz.func71 rfl rfl rfl (by kernel_rfl) ?_
 obtain ⟨r,hr,hr'⟩:=nth_of hi
 have hD : D.getD i [] = r:=by rw [List.getD_eq_getElem?_getD,hr']; rfl
 by_cases c1 : j ≤ i
 ·have hv : kindM D i j = 0:=if_pos (.inl c1)
  simp [c1,hv]
 by_cases c2 : r.length ≤ j
 ·have hv : kindM D i j = 0:=by unfold kindM; rw [hD,if_pos (.inr c2)]
  simp [c1,c2,hi,hr,hv]
 obtain ⟨x,hx,hx'⟩:=nth_of (show j < r.length by omega)
 have hX : r.getD j 0 = x:=by rw [List.getD_eq_getElem?_getD,hx']; rfl
 have hv : kindM D i j = if x = 1 ∨ x = 2 then x else 0:=by unfold kindM; rw [hD,if_neg (by omega),hX]
 rw [hv]
 have c3 : j < r.length:=by omega
 by_cases k1 : x = 1
 ·simp [c1,c2,c3,hi,hr,hx,k1]
 by_cases k2 : x = 2
 ·simp [c1,c2,c3,hi,hr,hx,k2]
 simp [c1,c2,c3,hi,hr,hx,k1,k2]
end Go.Proofs.YtafenffmgpcjcaaGreat
