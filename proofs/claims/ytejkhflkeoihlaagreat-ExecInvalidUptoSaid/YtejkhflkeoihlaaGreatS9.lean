/- Texts of the proof: S9. -/
import Derived.Test.YtejkhflkeoihlaaGreatQNg
import Derived.Test.YtejkhflkeoihlaaGreatS6
namespace Go.Proofs.YtejkhflkeoihlaaGreat
open Go.RowKit Go.Proofs.YtejkhflkeoihlaaGreat.Vf
set_option linter.unusedVariables false
set_option linter.unusedSimpArgs false
set_option maxRecDepth 100000
theorem flat_len {α : Type} {enc : α→List Value} {size : Nat} (h : ∀ x,(enc x).length = size) (l : List α) : (l.flatMap enc).length = l.length * size:=by
 induction l with
 | nil=>simp
 | cons x l ih=>rw [List.flatMap_cons,List.length_append,h,ih,List.length_cons,Nat.add_mul]; omega
theorem flat_get {α : Type} {enc : α→List Value} {size : Nat} (h : ∀ x,(enc x).length = size) {l : List α} {k i : Nat} {x : α} {v : Value} (hk : l[k]? = some x) (hi : (enc x)[i]? = some v) : (l.flatMap enc)[k * size + i]? = some v:=by
 induction l generalizing k with
 | nil=>cases hk
 | cons y l ih =>
  cases k with
  | zero =>
   obtain rfl : y = x:=by simpa using hk
   have hl : i < (enc y).length:=(List.getElem?_eq_some_iff.1 hi).1
   rw [List.flatMap_cons,Nat.zero_mul,Nat.zero_add,List.getElem?_append_left hl]
   exact hi
  | succ k =>
   rw [List.flatMap_cons,List.getElem?_append_right (by rw [h,Nat.add_mul]; omega),h,show (k + 1) * size + i - size = k * size + i by rw [Nat.add_mul]; omega]
   exact ih (by simpa using hk)
theorem flat_flatK {α : Type} [Inhabited α] (enc : α→List Value) (k : Nat) (hk : ∀ x,(enc x).length = k) (l : List α) : Sort.flatK enc k l.toArray = (l.flatMap enc).toArray:=by
 rcases Nat.eq_zero_or_pos k with rfl | hpos
 ·apply Array.ext
  ·simp [Sort.flatK,flat_len hk]
  ·intro i h1 h2
   simp [Sort.flatK] at h1
 ·apply Array.ext
  ·simp [Sort.flatK,flat_len hk]
  ·intro i h1 h2
   have hi : i < l.length * k:=by simpa [Sort.flatK] using h1
   have hq : i / k < l.length:=Nat.div_lt_of_lt_mul (by rw [Nat.mul_comm]; exact hi)
   have hr : i % k < k:=Nat.mod_lt _ hpos
   have hx : l[i / k]? = some l[i / k]:=List.getElem?_eq_getElem hq
   have hv : (enc l[i / k])[i % k]? = some ((enc l[i / k])[i % k]'(by rw [hk]; exact hr)):=List.getElem?_eq_getElem _
   have h3:=flat_get hk hx hv
   have h4 : i / k * k + i % k = i:=by rw [Nat.mul_comm]; exact Nat.div_add_mod i k
   rw [h4] at h3
   have h5 : (l.flatMap enc).toArray[i] = (enc l[i / k])[i % k]'(by rw [hk]; exact hr):=by
    have h6 : (l.flatMap enc).toArray[i]? = some ((enc l[i / k])[i % k]'(by rw [hk]; exact hr)):=by rw [List.getElem?_toArray]; exact h3
    rw [Array.getElem?_eq_getElem h2] at h6
    exact Option.some.inj h6
   rw [h5]
   simp [Sort.flatK,hq,hk,hr]
def frE (x : Int × Int) : List Value:=[.int .i64 x.1,.int .i64 x.2]
theorem frE_len : ∀ x,(frE x).length = 2:=fun _=>rfl
abbrev fRp (p : Int × Int) : FV:=fRef p.1 p.2
def rowR (l : List (Int × Int)) : List AV:=l.flatMap fun p=>[.f (intF p.1),.f (intF p.2)]
theorem rowR_map (l : List (Int × Int)) : rowR l = (l.flatMap frE).map fun v=>AV.f (.sc v):=by
 induction l with
 | nil=>rfl
 | cons p l ih=>rw [List.flatMap_cons,List.map_append,← ih]; rfl
theorem rowR_len (l : List (Int × Int)) : (rowR l).length = l.length * 2:=by rw [rowR_map,List.length_map,flat_len frE_len]
def sortRM (l : List (Int × Int)) : List (Int × Int):=(Sort.pdq (ltOf cmpF) l.toArray 0 l.length (Lib.bitLen l.length) true true).toList
theorem sortRM_len (l : List (Int × Int)) : (sortRM l).length = l.length:=by
 have h:=Sort.pdq_sorts (ltOf cmpF) swoF l.toArray 0 l.length (Lib.bitLen l.length) true true (Nat.zero_le _) (by simp) (.inl rfl)
 have:=h.1.1
 simpa [sortRM] using this
theorem rowR_holds {B : Base} {L : Lk} {h : List (List AV)} {k : List (Nat × Nat)} {w : World} {b g : Nat} {l : List (Int × Int)} (H : Mem B L h k w) (hm : L.m[b]? = some g) (hb : ix h b = some (rowR l)) : Sort.Holds id w g 0 (l.flatMap frE).toArray:=fun j hj=>by
 have hj : j < (l.flatMap frE).length:=by simpa using hj
 obtain ⟨_,q2,v,q3,q4,_⟩:=H.heap b g j _ (.f (.sc (l.flatMap frE)[j])) hm hb (by rw [rowR_map]; simp [hj])
 rw [Nat.zero_add]
 refine ⟨?_,q2⟩
 rw [q3]
 cases q4 with | f x v hx=>cases hx; simp only [id]; rw [getElem!_pos _ _ (by simpa using hj)]; simp
theorem two_vals {w : World} {L : Lk} {k : List (Nat × Nat)} {x y : AV} {vals : Array Value} (h : RepL w L k [x,y] vals) : ∃ u v,vals = #[u,v]∧RepA w L k x u∧RepA w L k y v:=by
 obtain ⟨h1,h2⟩:=h
 obtain ⟨u,hu,hr⟩:=h2 0 x rfl
 obtain ⟨v,hv,hr2⟩:=h2 1 y rfl
 refine ⟨u,v,?_,hr,hr2⟩
 have h1 : vals.size = 2:=h1
 apply Array.ext
 ·simp [h1]
 ·intro i g1 g2
  have : i = 0 ∨ i = 1:=by omega
  rcases this with rfl | rfl
  ·rw [Array.getElem?_eq_getElem g1] at hu; simpa using hu
  ·rw [Array.getElem?_eq_getElem g1] at hv; simpa using hv
theorem fn_val {w : World} {L : Lk} {k : List (Nat × Nat)} {v : Value} {f : FuncId} (h : RepA w L k (.f (.fn f [])) v) : v = .func (.func f) #[] #[]:=by
 cases h with
 | f x v hx=>cases hx with
  | fn f cs a vs ha hv hr =>
   have : a = #[]:=Array.eq_empty_of_size_eq_zero ha
   rw [this]
theorem sortR_x {cl : FuncId} (eg : ∀ args w,(callFunc cl args).run Tryz.prog w = .ok (.enter cl args) w) (hcl : ∀ (x y : Int × Int) (w : World),Calls Tryz.prog cl #[.agg #[.int .i64 x.1,.int .i64 x.2],.agg #[.int .i64 y.1,.int .i64 y.2]] w fun e w'=>e = .returned (.int .i64 (cmpF x y))∧Grew w w')
  {h : List (List AV)} {k : List (Nat × Nat)} {x : AV} {l : List (Int × Int)} (hr : RowB h x l.length (rowR l) 2) (hl : l.length < 2^62) :
  GivesX Tryz.prog 305 [x,.f (.fn cl [])] h k (fun y h' k'=>y = .tup []∧h' = rPut h x (rowR (sortRM l))∧k' = k):=by
 refine ⟨⟨_,Tryz.func305,rfl,by decide⟩,fun B L w vals H hv=>?_⟩
 obtain ⟨v,v2,rfl,hx,hx2⟩:=two_vals hv
 obtain rfl:=fn_val hx2
 have htup : ∀ {w' : World} {L' : Lk} {k' : List (Nat × Nat)},RepA w' L' k' (.tup []) (.tuple #[]):=.tup [] #[] (fun _=>undef) rfl (fun j y h=>by simp at h) (fun j y h=>by simp at h)
 rcases hr with ⟨h0,rfl⟩ | ⟨b,cap,rfl,hb,hcap⟩
 ·obtain ⟨c,rfl⟩:=nil_val hx
  have hcon:=AnyF.slices_SortFunc_none sortFR none c (.func (.func cl) #[] #[]) w
  change Calls Tryz.prog 305 _ _ _ at hcon
  refine hcon.mono ?_
  rintro e w' ⟨rfl,rfl⟩
  exact ⟨_,_,_,_,L,⟨rfl,rfl,rfl⟩,rfl,H,Ext.refl _ _ _,htup,Nat.le_refl _⟩
 ·obtain ⟨g,hm,rfl⟩:=ms_val hx
  have hh:=rowR_holds H hm hb
  have hg:=(H.mge b g hm).2
  have hcmp : CmpLays Tryz.prog cl #[] frE 2 cmpF g 0 l.toArray.size w:=fun m os dk _ x y=>hcl x y (sortWorldK frE 2 w g 0 m dk os)
  have hH : Sort.HoldsK frE 2 w g 0 l.toArray:=by
   unfold Sort.HoldsK
   rw [flat_flatK frE 2 frE_len]
   exact hh
  have hcon:=AnyQ.slices_SortFunc_eq sortFR 2 Tryz.isAgg170 Tryz.sizeOf170 frE frE_len (fun x v hv=>by simp [frE] at hv; rcases hv with rfl | rfl <;> rfl) cmpF swoF cl #[] g 0 cap l.toArray w eg hcmp hH hg (by simp; omega)
  change Calls Tryz.prog 305 _ _ _ at hcon
  have e0 : l.toArray.size = l.length:=by simp
  rw [e0] at hcon
  refine hcon.mono ?_
  rintro e w' ⟨rfl,n,os,rfl⟩
  have hps : (Sort.pdq (ltOf cmpF) l.toArray 0 l.length (Lib.bitLen l.length) true true) = (sortRM l).toArray:=by simp [sortRM]
  unfold sortWorldK Sort.putRowK
  rw [hps,flat_flatK frE 2 frE_len]
  have T:=turned_put id (q:=n) (os:=os) (d:=((sortRM l).flatMap frE).toArray) hh (by simp only [List.size_toArray,flat_len frE_len,sortRM_len]) hg
  rw [List.map_id] at T
  obtain ⟨H',he⟩:=H.turn T hm hb (by rw [rowR_len]; simp only [List.toList_toArray,flat_len frE_len,sortRM_len]) (fun v hv=>by
   obtain ⟨x,_,hx⟩:=List.mem_flatMap.1 (show v ∈ (sortRM l).flatMap frE by simpa using hv)
   rcases List.mem_cons.1 hx with rfl | hx
   ·rfl
   ·obtain rfl:=List.mem_singleton.1 hx; rfl)
  exact ⟨_,_,_,_,L,⟨rfl,by rw [rowR_map]; rfl,rfl⟩,rfl,H',he,htup,Nat.le_refl _⟩
theorem sortedC_enters : ∀ args w,(callFunc 306 args).run Tryz.prog w = .ok (.enter 306 args) w:=enters_of Tryz.func306 (by kernel_rfl) rfl
theorem fieldsC_enters : ∀ args w,(callFunc 315 args).run Tryz.prog w = .ok (.enter 315 args) w:=enters_of Tryz.func315 (by kernel_rfl) rfl
end Go.Proofs.YtejkhflkeoihlaaGreat
namespace Go.Proofs.YtejkhflkeoihlaaGreat
open Go.RowKit Go.Proofs.YtejkhflkeoihlaaGreat.Vf
set_option linter.unusedVariables false
set_option linter.unusedSimpArgs false
set_option maxRecDepth 100000
set_option maxHeartbeats 4000000
theorem uFr : runPure Tryz.prog (underlying 170) = some (.struct #[⟨ "Header", 3, 0, false, "", "", 0⟩, ⟨ "Field", 3, 1, false, "", "", 8⟩]) := by kernel_rfl
@[simp] theorem eqlFr {T : TV} {x y : Operand} {a a' b b' : Int} : opBin Tryz.prog T .eql 170 x y (.agg [.f (intF a),.f (intF b)]) (.agg [.f (intF a'),.f (intF b')]) = some (.f (.sc (.bool (decide (a = a') && decide (b = b'))))) :=
 (opBin_eq (by kernel_rfl) rfl rfl (pureEq2 9999 uFr (by kernel_rfl) (by decide) (by decide) (by kernel_rfl) (by kernel_rfl) (by kernel_rfl) (by kernel_rfl) (pureEqInt (k':=.i64) 9998 (by kernel_rfl)) (pureEqInt (k':=.i64) 9998 (by kernel_rfl)))).1
@[simp] theorem neqFr {T : TV} {x y : Operand} {a a' b b' : Int} : opBin Tryz.prog T .neq 170 x y (.agg [.f (intF a),.f (intF b)]) (.agg [.f (intF a'),.f (intF b')]) = some (.f (.sc (.bool (!(decide (a = a') && decide (b = b')))))) :=
 (opBin_eq (by kernel_rfl) rfl rfl (pureEq2 9999 uFr (by kernel_rfl) (by decide) (by decide) (by kernel_rfl) (by kernel_rfl) (by kernel_rfl) (by kernel_rfl) (pureEqInt (k':=.i64) 9998 (by kernel_rfl)) (pureEqInt (k':=.i64) 9998 (by kernel_rfl)))).2
abbrev FR:=Int × Int
def keepR (l : List FR) (m : Nat) : Bool:=decide (m = 0 ∨ l[m]? ≠ l[m - 1]?)
def compTo (l : List FR) : Nat→List FR
 | 0=>[]
 | m + 1=>compTo l m ++ (if keepR l m = true then l[m]?.toList else [])
def compFM (l : List FR) : List FR:=compTo l l.length
theorem compTo_len (l : List FR) (m : Nat) : (compTo l m).length ≤ m:=by
 induction m with
 | zero=>exact Nat.le_refl _
 | succ m ih =>
  rw [compTo,List.length_append]
  have : (if keepR l m = true then l[m]?.toList else []).length ≤ 1:=by
   split
   ·cases l[m]? <;> simp
   ·simp
  omega
theorem compTo_all {l : List FR} : ∀ {m : Nat},m ≤ l.length→(∀ j,j < m→keepR l j = true)→compTo l m = l.take m
 | 0,_,_=>by simp [compTo]
 | m + 1,hm,h=>by
  rw [compTo,compTo_all (by omega) fun j hj=>h j (by omega),if_pos (h m (by omega)),List.take_add_one]
theorem compFM_len (l : List FR) : (compFM l).length ≤ l.length:=compTo_len _ _
def padR (l : List FR) : List FR:=compFM l ++ List.replicate (l.length - (compFM l).length) (0,0)
theorem padR_len (l : List FR) : (padR l).length = l.length:=by have:=compFM_len l; simp [padR]; omega
theorem retR_av {T : TV} {rs : List ResultVar} {h0 hh : List (List AV)} {k0 : List (Nat × Nat)} {R : AV→List (List AV)→List (Nat × Nat)→Prop} {t : List AV} {x : AV} (hres : resultA T rs ⟨t,hh,k0⟩ = some x) (hl : hh.length = h0.length) (hb : BelC h0 hh k0.length) (hx : Bel h0.length k0.length x) (hR : R x hh k0) : RetR T rs h0 k0 R .ret ⟨t,hh,k0⟩:=by
 refine ⟨.inr rfl,?_⟩
 rw [hres]
 exact ⟨hh,[],k0,[],x,(List.append_nil _).symm,hl,(List.append_nil _).symm,Nat.le_refl _,hb,.inl ⟨rfl,hx⟩,hR⟩
theorem rowR_at {l : List FR} : ∀ {j : Nat} {p : FR},l[j]? = some p→((rowR l).drop (j * 2)).take 2 = [.f (intF p.1),.f (intF p.2)]:=by
 induction l with
 | nil=>intro j p h; cases h
 | cons q l ih =>
  intro j p h
  cases j with
  | zero => obtain rfl : q = p := by simpa using h
            rfl
  | succ j =>
   rw [show (j + 1) * 2 = j * 2 + 2 by omega]
   exact ih (by simpa using h)
theorem rowR_over {l : List FR} : ∀ {j : Nat} {p : FR},j < l.length→over (rowR l) (j * 2) [.f (intF p.1),.f (intF p.2)] = rowR (l.set j p):=by
 induction l with
 | nil=>intro j p h; simp at h
 | cons q l ih =>
  intro j p h
  cases j with
  | zero=>rfl
  | succ j =>
   have:=ih (j:=j) (p:=p) (by simpa using h)
   rw [show (j + 1) * 2 = j * 2 + 2 by omega]
   exact congrArg (fun t=>AV.f (intF q.1) :: AV.f (intF q.2) :: t) this
structure CpIn (l : List FR) (m k : Nat) (dk : List FR) : Prop where
 size : dk.length = l.length
 lt : k < m
 le : m ≤ l.length
 high : ∀ j,k ≤ j→dk[j]? = l[j]?
 low : dk.take k = compTo l m
theorem CpIn.len {l dk : List FR} {m k : Nat} (h : CpIn l m k dk) : (compTo l m).length = k:=by
 rw [← h.low,List.length_take]; have:=h.size; have:=h.lt; have:=h.le; omega
theorem CpIn.keep {l dk : List FR} {m k : Nat} (h : CpIn l m k dk) {x y : FR} (hx : l[m]? = some x) (hy : l[m - 1]? = some y) (hne : x ≠ y) : CpIn l (m + 1) (k + 1) (dk.set k x):=by
 have hm:=(List.getElem?_eq_some_iff.1 hx).1
 have h1:=h.size; have h2:=h.lt
 refine ⟨by simp [h1],by omega,hm,fun j hj=>by rw [List.getElem?_set_ne (by omega)]; exact h.high j (by omega),?_⟩
 have hk : keepR l m = true:=decide_eq_true (.inr (by rw [hx,hy]; simpa using hne))
 have htk : (dk.set k x).take k = dk.take k:=by
  apply List.ext_getElem?
  intro j
  simp only [List.getElem?_take]
  by_cases hj : j < k
  ·rw [if_pos hj,if_pos hj,List.getElem?_set_ne (by omega)]
  ·rw [if_neg hj,if_neg hj]
 rw [compTo,if_pos hk,← h.low,List.take_add_one,List.getElem?_set_self (by omega),htk,hx]
theorem CpIn.skip {l dk : List FR} {m k : Nat} (h : CpIn l m k dk) {x : FR} (hx : l[m]? = some x) (hy : l[m - 1]? = some x) : CpIn l (m + 1) k dk:=by
 have hm:=(List.getElem?_eq_some_iff.1 hx).1
 have h2:=h.lt
 refine ⟨h.size,by omega,hm,h.high,?_⟩
 have hk : keepR l m = false := decide_eq_false (by rw [hx, hy]; intro e; rcases e with e | e
                                                    ·omega
                                                    ·exact e rfl)
 rw [compTo,if_neg (by rw [hk]; decide),List.append_nil]
 exact h.low
theorem CpIn.start {l : List FR} {i : Nat} {x : FR} (hall : ∀ j,j < i + 1→keepR l j = true) (hx : l[i + 1]? = some x) (hy : l[i]? = some x) : CpIn l (i + 2) (i + 1) l:=by
 have hm:=(List.getElem?_eq_some_iff.1 hx).1
 refine ⟨rfl,by omega,hm,fun _ _=>rfl,?_⟩
 have hk : keepR l (i + 1) = false := decide_eq_false (by rw [hx, Nat.add_sub_cancel, hy]; intro e; rcases e with e | e
                                                          ·omega
                                                          ·exact e rfl)
 rw [compTo,if_neg (by rw [hk]; decide),List.append_nil,compTo_all (by omega) hall]
theorem CpIn.fin {l dk : List FR} {k : Nat} (h : CpIn l l.length k dk) : (compFM l).length = k∧over (rowR dk) (k * 2) (zeroRow [.f (intF 0),.f (intF 0)] (l.length - k)) = rowR (padR l):=by
 have hk:=h.len
 have h1:=h.size; have h2:=h.lt
 refine ⟨hk,?_⟩
 have hz : ∀ (n : Nat) (d : List FR) (j : Nat),d.length = j + n→over (rowR d) (j * 2) (zeroRow [.f (intF 0),.f (intF 0)] n) = rowR (d.take j ++ List.replicate n (0,0)):=fun n=>by
  induction n with
  | zero=>intro d j hd; rw [List.replicate_zero,List.append_nil,List.take_of_length_le (by omega)]; rfl
  | succ n ih =>
   intro d j hd
   have e1 : over (rowR d) (j * 2) (zeroRow [.f (intF 0),.f (intF 0)] (n + 1)) = over (rowR (d.set j (0,0))) ((j + 1) * 2) (zeroRow [.f (intF 0),.f (intF 0)] n):=by
    rw [← rowR_over (p:=(0,0)) (by omega),show (j + 1) * 2 = j * 2 + 2 by omega]
    rfl
   rw [e1,ih (d.set j (0,0)) (j + 1) (by simp; omega)]
   congr 1
   rw [List.take_add_one,List.getElem?_set_self (by omega),List.replicate_succ,show (some ((0,0) : FR)).toList = [(0,0)] from rfl,List.append_assoc,List.singleton_append]
   congr 1
   apply List.ext_getElem?
   intro q
   simp only [List.getElem?_take]
   by_cases hq : q < j
   ·rw [if_pos hq,if_pos hq,List.getElem?_set_ne (by omega)]
   ·rw [if_neg hq,if_neg hq]
 rw [hz (l.length - k) dk k (by omega),h.low]
 unfold padR
 rw [show compTo l l.length = compFM l from rfl,show (compFM l).length = k from hk]
theorem rowR_bel {n m : Nat} (l : List FR) : ∀ z ∈ rowR l,Bel n m z:=fun z hz=>by
 rw [rowR_map] at hz
 obtain ⟨v,_,rfl⟩:=List.mem_map.1 hz
 exact .f _
def cpI (b cap : Nat) (l : List FR) (h : List (List AV)) (k : List (Nat × Nat)) (i : Nat) (s : St) : Prop:=(∀ j,j < i + 1→keepR l j = true)∧Vf.Sl [(0,.ms b 0 l.length cap 2),(3,.f (intF ((i : Int) + 1)))] 61 h k s
def cpJ (b cap i : Nat) (l : List FR) (h : List (List AV)) (k : List (Nat × Nat)) (j : Nat) (s : St) : Prop:=∃ q dk,CpIn l (i + 2 + j) q dk∧Vf.Sl [(0,.ms b 0 l.length cap 2),(3,.f (intF q)),(4,.ms b ((i + 1) * 2) (l.length - (i + 1)) (cap - (i + 1)) 2),(5,.f (intF ((j : Int) + 1)))] 61 (h.set b (rowR dk)) k s
theorem clear_ms {T : TV} {t e : TypeId} {s0 b0 : Nat} {z : List AV} {ety : Ty} (ht : T t = some ⟨s0,b0,.slice e,z⟩) (he : T e = some ety) {h : List (List AV)} {cs : List AV} {b off len cap : Nat} (hb : ix h b = some cs) (hz : ety.size ≠ 0) (hl : off + len * ety.size ≤ cs.length) (h1 : ety.z.all AV.one = true) (h0 : len ≠ 0) :
  opClear T h t (.ms b off len cap ety.size) = some (h.set b (over cs off (zeroRow ety.z len))):=by
 simp only [opClear,ht,he,hb]
 rw [if_pos ⟨trivial,hz,hl,h1,h0⟩]
theorem slice_lo {T : TV} {t e : TypeId} {s0 b0 : Nat} {z : List AV} {ety : Ty} (ht : T t = some ⟨s0,b0,.slice e,z⟩) (he : T e = some ety) {b off len cap a : Nat} {x : Int} (hx : x = a) (h1 : a ≤ len) (h2 : len ≤ cap) (h3 : a < cap ∨ a = 0) :
  opSlice T t (.ms b off len cap ety.size) (some (.f (intF x))) none none = some (.ms b (off + a * ety.size) (len - a) (cap - a) ety.size):=by
 subst hx
 simp [opSlice,ht,he,optIdx,idx,h1,h2,h3]
theorem slice_hi {T : TV} {t e : TypeId} {s0 b0 : Nat} {z : List AV} {ety : Ty} (ht : T t = some ⟨s0,b0,.slice e,z⟩) (he : T e = some ety) {b off len cap a : Nat} {x : Int} (hx : x = a) (h1 : a ≤ len) (h2 : len ≤ cap) :
  opSlice T t (.ms b off len cap ety.size) none (some (.f (intF x))) none = some (.ms b off a cap ety.size):=by
 subst hx
 simp [opSlice,ht,he,optIdx,idx,h1,h2]
theorem compR_x {h : List (List AV)} {k : List (Nat × Nat)} {x : AV} {l : List FR} (hr : RowB h x l.length (rowR l) 2) (hl : l.length < 2^62) :
  GivesX Tryz.prog 308 [x] h k (fun y h' k'=>y = rCut x (compFM l).length∧h' = rPut h x (rowR (padR l))∧k' = k):=by
 refine GivesX.of_W Tryz.func308 rfl rfl rfl (by decide) ?_
 rcases hr with ⟨h0,rfl⟩ | ⟨b,cap,rfl,hb,hcap⟩
 ·obtain rfl : l = []:=List.eq_nil_of_length_eq_zero h0
  refine W.x mixed (by kernel_rfl) ?_
  simp
  exact retR_av rfl rfl .refl (.f _) ⟨rfl,rfl,rfl⟩
 have hbl : b < h.length:=(List.getElem?_eq_some_iff.1 hb).1
 have hset0 : h.set b (rowR l) = h:=by
  apply List.ext_getElem?
  intro q
  by_cases e : b = q
  ·subst e; rw [List.getElem?_set_self hbl]; exact hb.symm
  ·rw [List.getElem?_set_ne e]
 have hset : ∀ c,ix (h.set b c) b = some c:=fun c=>List.getElem?_set_self hbl
 have hall : (∀ j,j < l.length→keepR l j = true)→compFM l = l∧padR l = l:=fun hk=>by
  have e : compFM l = l:=by unfold compFM; rw [compTo_all (Nat.le_refl _) hk,List.take_length]
  refine ⟨e,?_⟩
  unfold padR
  rw [e,Nat.sub_self,List.replicate_zero,List.append_nil]
 have hfin : ∀ t : List AV,(∀ j,j < l.length→keepR l j = true)→(ix t 2).getD undefA = .ms b 0 l.length cap 2→RetR (tyOf Tryz.prog) [.tmp 2] h k (fun y h' k'=>y = rCut (.ms b 0 l.length cap 2) (compFM l).length∧h' = rPut h (.ms b 0 l.length cap 2) (rowR (padR l))∧k' = k) .ret ⟨t,h,k⟩:=fun t hk ht=>by
  obtain ⟨e1,e2⟩:=hall hk
  refine retR_av (x:=.ms b 0 l.length cap 2) (by simp [resultA,mapO,ht]) rfl .refl (.ms _ _ _ _ _ hbl) ⟨by rw [e1]; rfl,by rw [e2]; exact hset0.symm,rfl⟩
 refine W.two (W.x mixed (by kernel_rfl) ?_)
 simp
 by_cases h2 : (l.length : Int) < 2
 ·refine W.two (W.x mixed (by kernel_rfl) ?_)
  simp [h2]
  exact hfin _ (fun j hj=>decide_eq_true (.inl (by omega))) rfl
 refine W.two (W.x mixed (by kernel_rfl) ?_)
 simp [h2]
 refine W.two (W.two (W.x mixed (by kernel_rfl) ?_))
 simp
 refine W.blk (forW (l.length - 1) (cpI b cap l h k) ⟨fun j hj=>by simp [keepR]; omega,Sl.of rfl rfl rfl⟩ ?_)
 rintro i ⟨ts,hh,kk⟩ hi ⟨hkeep,rfl,rfl,f,rfl⟩
 by_cases hlt : i < l.length - 1
 case neg =>
  have hlt' : ¬ (i : Int) + 1 < l.length:=by omega
  refine W.x mixed (by kernel_rfl) ?_
  simp [hlt']
  refine W.x mixed (by kernel_rfl) ?_
  simp
  exact hfin _ (fun j hj=>hkeep j (by omega)) rfl
 have hlt' : (i : Int) + 1 < l.length:=by omega
 have hge : (0 : Int) ≤ (i : Int) + 1:=by omega
 have hi1 : i + 1 < l.length:=by omega
 have hi0 : i < l.length:=by omega
 obtain ⟨p,hp,hp'⟩:=nth_of (show i < l.length by omega)
 obtain ⟨q,hq,hq'⟩:=nth_of (show i + 1 < l.length by omega)
 have hw:=wrap64 (x:=(i : Int)) (by omega) (by omega)
 have hw2:=wrap64 (x:=(i : Int) + 1 + 1) (by omega) (by omega)
 have a1:=rowR_at hp'
 have a2:=rowR_at hq'
 have l1 : 2 ≤ (rowR l).length - i * 2:=by rw [rowR_len]; omega
 have l2 : 2 ≤ (rowR l).length - (i + 1) * 2:=by rw [rowR_len]; omega
 refine W.two (W.x mixed (by kernel_rfl) ?_)
 simp [hlt']
 refine W.two (W.blk (W.two (W.x mixed (by kernel_rfl) ?_)))
 simp [hlt',hge,hw,hb,hi1,hi0,a1,a2,l1,l2]
 by_cases he : q = p
 case neg =>
  have hb2 : (decide (q.1 = p.1) && decide (q.2 = p.2)) = false:=by
   rw [Bool.and_eq_false_iff]
   by_cases e1 : q.1 = p.1
   ·exact .inr (decide_eq_false fun e2=>he (Prod.ext e1 e2))
   ·exact .inl (decide_eq_false e1)
  refine W.cond (q:=false) (by simp [hb2]) (W.skip ?_)
  simp
  refine W.x mixed (by kernel_rfl) ?_
  simp [hw2]
  refine ⟨by omega,fun j hj=>?_,Sl.of rfl rfl rfl⟩
  by_cases e : j < i + 1
  ·exact hkeep j e
  ·obtain rfl : j = i + 1:=by omega
   exact decide_eq_true (.inr (by rw [hq',Nat.add_sub_cancel,hp']; simpa using he))
 subst he
 have hcs : i + 1 < cap:=by omega
 refine W.cond (q:=true) (by simp) ?_
 simp only [if_true]
 refine W.two (W.x mixed (by kernel_rfl) ?_)
 simp
 rw [slice_lo ty318 ty170 (a:=i + 1) (by omega) (by omega) hcap (.inl hcs)]
 simp
 refine W.two (W.two (W.x mixed (by kernel_rfl) ?_))
 simp
 refine W.blk (forW (l.length - (i + 2)) (cpJ b cap i l hh kk) ⟨i + 1,l,CpIn.start hkeep hq' hp',by rw [hset0]; exact Sl.of rfl rfl rfl⟩ ?_)
 rintro j ⟨ts,h2,k2⟩ hj ⟨n,dk,hc,rfl,rfl,ff,rfl⟩
 have hn:=hc.lt
 have hm:=hc.le
 have hds:=hc.size
 by_cases hjl : j < l.length - (i + 2)
 case neg =>
  have hj' : ¬ ((j : Int) + 1 < ((l.length - (i + 1) : Nat) : Int)):=by omega
  refine W.x mixed (by kernel_rfl) ?_
  simp [hj']
  have hjm : i + 2 + j = l.length:=by omega
  rw [hjm] at hc hn
  obtain ⟨e1,e2⟩:=hc.fin
  refine W.two (W.regClear (L1:=[_,_,_]) rfl rfl rfl ?_)
  simp
  rw [slice_lo ty318 ty170 (a:=n) rfl (by omega) hcap (by omega)]
  simp
  refine ⟨_,clear_ms ty318 ty170 (hset _) (by simp) (by rw [rowR_len]; simp; omega) (by simp) (by omega),?_⟩
  simp only [St.put,List.set_set]
  rw [show over (rowR dk) (n * 2) (zeroRow _ (l.length - n)) = rowR (padR l) from e2]
  refine W.x mixed (by kernel_rfl) ?_
  simp
  rw [slice_hi ty318 ty170 (a:=n) rfl (by omega) hcap]
  simp
  exact retR_av (x:=.ms b 0 n cap 2) (by simp [resultA,mapO]) (by simp) (.set (rowR_bel _)) (.ms _ _ _ _ _ hbl) ⟨by rw [e1]; rfl,rfl,rfl⟩
 have hj' : ((j : Int) + 1 < ((l.length - (i + 1) : Nat) : Int)):=by omega
 have hgj : (0 : Int) ≤ (j : Int) + 1:=by omega
 have hj1 : j + 1 < l.length - (i + 1):=by omega
 have hj0 : j < l.length - (i + 1):=by omega
 obtain ⟨u,hu,hu'⟩:=nth_of (show i + 2 + j < l.length by omega)
 obtain ⟨v,hv,hv'⟩:=nth_of (show i + 1 + j < l.length by omega)
 have du : dk[i + 2 + j]? = some u:=by rw [hc.high _ (by omega)]; exact hu'
 have dv : dk[i + 1 + j]? = some v:=by rw [hc.high _ (by omega)]; exact hv'
 have b1 : ((rowR dk).drop ((i + 1) * 2 + (j + 1) * 2)).take 2 = [.f (intF u.1),.f (intF u.2)]:=by rw [show (i + 1) * 2 + (j + 1) * 2 = (i + 2 + j) * 2 by omega]; exact rowR_at du
 have b2 : ((rowR dk).drop ((i + 1) * 2 + j * 2)).take 2 = [.f (intF v.1),.f (intF v.2)]:=by rw [show (i + 1) * 2 + j * 2 = (i + 1 + j) * 2 by omega]; exact rowR_at dv
 have l3 : 2 ≤ (rowR dk).length - ((i + 1) * 2 + (j + 1) * 2):=by rw [rowR_len]; omega
 have l4 : 2 ≤ (rowR dk).length - ((i + 1) * 2 + j * 2):=by rw [rowR_len]; omega
 have hwj:=wrap64 (x:=(j : Int)) (by omega) (by omega)
 have hwj2:=wrap64 (x:=(j : Int) + 1 + 1) (by omega) (by omega)
 refine W.two (W.x mixed (by kernel_rfl) ?_)
 simp [hj']
 refine W.two (W.blk (W.two (W.x mixed (by kernel_rfl) ?_)))
 have hsetb : ∀ c,ix (hh.set b c) b = some c:=fun c=>hset c
 simp [hj',hgj,hwj,hsetb,hj1,hj0,b1,b2,l3,l4]
 by_cases huv : u = v
 ·subst huv
  refine W.cond (q:=false) (by simp) (W.skip ?_)
  simp
  refine W.x mixed (by kernel_rfl) ?_
  simp [hwj2]
  exact ⟨by omega,n,dk,hc.skip hu' (by rw [show i + 2 + j - 1 = i + 1 + j by omega]; exact hv'),Sl.of rfl rfl rfl⟩
 have hb3 : (!decide (u.1 = v.1) || !decide (u.2 = v.2)) = true:=by
  by_cases e1 : u.1 = v.1
  ·have e2 : ¬ u.2 = v.2:=fun e2=>huv (Prod.ext e1 e2)
   simp [e2]
  ·simp [e1]
 have hnl : n < l.length:=by omega
 have hwn:=wrap64 (x:=(n : Int) + 1) (by omega) (by omega)
 have l5 : n * 2 + 2 ≤ (rowR dk).length:=by rw [rowR_len]; omega
 refine W.cond (q:=true) (by simp [hb3]) ?_
 simp only [if_true]
 refine W.two (W.x mixed (by kernel_rfl) ?_)
 simp [hgj,hsetb,hj1,b1,l3,hnl,l5,rowR_over (l:=dk) (j:=n) (p:=u) (by omega)]
 refine W.x mixed (by kernel_rfl) ?_
 simp [hwn]
 refine W.x mixed (by kernel_rfl) ?_
 simp [hwj2]
 exact ⟨by omega,n + 1,dk.set n u,hc.keep hu' (by rw [show i + 2 + j - 1 = i + 1 + j by omega]; exact hv') huv,Sl.of rfl rfl rfl⟩
end Go.Proofs.YtejkhflkeoihlaaGreat
namespace Go.Proofs.YtejkhflkeoihlaaGreat
open Go.RowKit Go.Proofs.YtejkhflkeoihlaaGreat.Vf
set_option linter.unusedVariables false
set_option linter.unusedSimpArgs false
set_option maxRecDepth 100000
set_option maxHeartbeats 4000000
def canR (l : List FR) : List FR:=compFM (sortRM l)
theorem canR_nil : canR [] = []:=by
 refine List.eq_nil_of_length_eq_zero ?_
 have h1:=compFM_len (sortRM [])
 rw [sortRM_len] at h1
 exact Nat.le_zero.1 h1
theorem canR_len (l : List FR) : (canR l).length ≤ l.length:=by
 have:=compFM_len (sortRM l)
 rw [sortRM_len] at this
 exact this
theorem compTo_ne {l : List FR} : ∀ {m : Nat},0 < m→m ≤ l.length→compTo l m ≠ []
 | 0,h,_=>absurd h (Nat.lt_irrefl 0)
 | 1,_,hm=>by
  obtain ⟨x,hx,hx'⟩:=nth_of (show 0 < l.length by omega)
  simp [compTo,keepR,hx']
 | m + 2,_,hm=>by
  rw [compTo]
  intro e
  exact compTo_ne (m:=m + 1) (by omega) (by omega) (List.append_eq_nil_iff.1 e).1
theorem canR_ne {l : List FR} (h : l ≠ []) : canR l ≠ []:=by
 have h1 : 0 < l.length:=List.length_pos_iff.2 h
 have h2:=sortRM_len l
 exact compTo_ne (by omega) (Nat.le_refl _)
def fldsTo (l : List ExD) : List FR:=(l.filter fun x=>x.op == 2).map fun x=>(x.n,x.w)
def fldsM (l : List ExD) : List FR:=canR (fldsTo l)
theorem fldsTo_next {l : List ExD} {i : Nat} {x : ExD} (hx : l[i]? = some x) : fldsTo (l.take (i + 1)) = if x.op = 2 then fldsTo (l.take i) ++ [(x.n,x.w)] else fldsTo (l.take i):=by
 unfold fldsTo
 rw [List.take_add_one,hx,List.filter_append,List.map_append]
 by_cases h : x.op = 2 <;> simp [h]
theorem fldsTo_len (l : List ExD) (i : Nat) : (fldsTo (l.take i)).length ≤ l.length:=by
 unfold fldsTo
 rw [List.length_map]
 exact Nat.le_trans (List.length_filter_le _ _) (by simp; omega)
theorem fRp_scs (l : List FR) : Scs (encL fRp l):=fun x hx y hy=>by
 obtain ⟨z,_,rfl⟩:=List.mem_map.1 hx
 rcases List.mem_cons.1 (show y ∈ [intF z.1,intF z.2] from hy) with rfl | hy
 ·exact ⟨_,rfl⟩
 ·obtain rfl:=List.mem_singleton.1 hy; exact ⟨_,rfl⟩
theorem fRp_cells (l : List FR) : ((encL fRp l).flatMap FV.cells).map AV.f = rowR l:=by
 induction l with
 | nil=>rfl
 | cons x l ih=>show AV.f (intF x.1) :: AV.f (intF x.2) :: _ = AV.f (intF x.1) :: AV.f (intF x.2) :: _; congr 2
theorem rowR_one (l : List FR) : (rowR l).all AV.one = true:=by
 induction l with
 | nil=>rfl
 | cons x r ih=>show (AV.one _ && (AV.one _ && (rowR r).all AV.one)) = true; rw [ih]; rfl
theorem rowR_fz (H : List (List AV)) (l : List FR) : mapO (fzH 0 H 0) (rowR l) = some (l.flatMap fun p=>[intF p.1,intF p.2]):=by
 induction l with
 | nil=>rfl
 | cons x r ih=>show mapO (fzH 0 H 0) (.f (intF x.1) :: .f (intF x.2) :: rowR r) = _; rw [mapO,mapO,ih]; rfl
theorem frs_one (l : List FR) : (l.flatMap fun p=>[intF p.1,intF p.2]).all (fun y=>(AV.f y).one) = true:=by
 induction l with
 | nil=>rfl
 | cons x r ih=>show (AV.one _ && (AV.one _ && (r.flatMap fun p=>[intF p.1,intF p.2]).all (fun y=>(AV.f y).one))) = true; rw [ih]; rfl
theorem chunk_frs (l : List FR) : chunk true 2 l.length (l.flatMap fun p=>[intF p.1,intF p.2]) = encL fRp l:=by
 induction l with
 | nil=>rfl
 | cons x r ih =>
  show FV.agg [intF x.1,intF x.2] :: chunk true 2 r.length (r.flatMap fun p=>[intF p.1,intF p.2]) = _
  rw [ih]; rfl
theorem compFM_pre (l : List FR) : (rowR (padR l)).take ((compFM l).length * 2) = rowR (compFM l):=by
 unfold padR
 have e : rowR (compFM l ++ List.replicate (l.length - (compFM l).length) (0,0)) = rowR (compFM l) ++ rowR (List.replicate (l.length - (compFM l).length) (0,0)):=by simp [rowR]
 rw [e,List.take_append_of_le_length (by rw [rowR_len]; omega),List.take_of_length_le (by rw [rowR_len]; omega)]
theorem ret_cutR {H : List (List AV)} {b : Nat} {l : List FR} {cap : Nat} {R : FV→Prop} (hb : ix H b = some (rowR (padR l))) (hcap : l.length ≤ cap) (h : R (sl (encL fRp (compFM l)))) : RetV H (.ms b 0 (compFM l).length cap 2) R:=by
 refine ⟨1,_,?_,h⟩
 show (match ix H b with
  | some cs=>if _ then _ else _
  | none=>none) = _
 have hc:=compFM_len l
 have ht : ((rowR (padR l)).drop 0).take ((compFM l).length * 2) = rowR (compFM l):=by rw [List.drop_zero]; exact compFM_pre l
 rw [hb]
 show (if _ then _ else _) = _
 rw [ht,if_pos ⟨by omega,by omega,by rw [rowR_len,padR_len]; omega,by omega,rowR_one _⟩,rowR_fz]
 simp only
 rw [if_pos (frs_one _)]
 show some (FV.sl (chunk true 2 (compFM l).length ((compFM l).flatMap fun p=>[intF p.1,intF p.2])) .un) = _
 rw [chunk_frs]
def flI (l : List ExD) (c : Cap) (i : Nat) (s : St) : Prop:=∃ g k x tk,OwnT k (encL fRp (fldsTo (l.take i))) 2 x tk∧Vf.Sl [(3,x),(6,.f (.sl (encL fEx l) c)),(7,.f (intF l.length)),(8,.f (intF i))] 28 g k s
theorem exFlds_g (l : List ExD) (c : Cap) (hl : l.length ≤ 1000000) : Gives Tryz.prog 268 [.sl (encL fEx l) c] (ownF (encL fRp (fldsM l))):=by
 refine Gives.of_Wd Tryz.func268 rfl rfl rfl (by decide) ?_
 refine Wd.two (W.x mixed (by kernel_rfl) ?_)
 simp
 refine Wd.two (W.x mixed (by kernel_rfl) ?_)
 simp
 refine Wd.two (W.two (W.x mixed (by kernel_rfl) ?_))
 simp
 refine W.blk (forW l.length (flI l c) ⟨_,_,_,0,.nil,Sl.of rfl rfl rfl⟩ ?_)
 rintro i ⟨ts,hh,kk⟩ hi ⟨g,k,x,tk,ho,rfl,rfl,f,rfl⟩
 by_cases hlt : i < l.length
 ·obtain ⟨y,hy,hy'⟩:=nth_of hlt
  have hw:=wrap64 (x:=(i : Int) + 1) (by omega) (by omega)
  have hn:=fldsTo_next hy'
  have hln:=fldsTo_len l i
  by_cases h4 : y.op = 2
  ·rw [if_pos h4] at hn
   refine W.x mixed (by kernel_rfl) ?_
   simp [hlt,hy,h4,-opAppend]
   obtain ⟨t',k',e,ho',_⟩:=append_own ty318 ty170 (by simp) ho (y:=.f (.sl [fRp (y.n,y.w)] .full)) rfl (by simp) (by simp) (by simp; omega) (by simp; omega)
   rw [encL_snoc,← hn] at e ho'
   rw [e]
   simp [hw]
   exact ⟨_,_,_,_,ho',Sl.of rfl rfl rfl⟩
  ·rw [if_neg h4] at hn
   refine W.x mixed (by kernel_rfl) ?_
   simp [hlt,hy,h4,hw]
   exact ⟨_,_,_,_,by rw [hn]; exact ho,Sl.of rfl rfl rfl⟩
 obtain rfl : i = l.length:=by omega
 refine W.x mixed (by kernel_rfl) ?_
 simp
 rw [List.take_length] at ho
 have hln:=fldsTo_len l l.length
 rw [List.take_length] at hln
 rcases ho with ⟨h0,rfl⟩ | ⟨h0,rfl,hk⟩
 ·have h0' : fldsTo l = []:=by simpa [encL] using h0
  have hm : fldsM l = []:=by unfold fldsM; rw [h0']; exact canR_nil
  refine Wd.x mixed (by kernel_rfl) ?_
  simp
  refine call_x (sortR_x fieldsC_enters fieldsC_any (l:=[]) (.inl ⟨rfl,rfl⟩) (by decide)) ?_
  rintro _ _ _ ⟨rfl,rfl,rfl⟩
  simp [rPut]
  refine call_x (compR_x (l:=[]) (.inl ⟨rfl,rfl⟩) (by decide)) ?_
  rintro _ _ _ ⟨rfl,rfl,rfl⟩
  simp [rPut,rCut,hm,ownF,encL]
 ·have hne : fldsTo l ≠ []:=fun e=>h0 (by rw [e]; rfl)
  refine Wd.thaw1 (d:=3) (t:=tk) (sz:=2) (l:=encL fRp (fldsTo l)) rfl hk (by decide) (fRp_scs _) ?_
  rintro cap ⟨ts,hh,kk⟩ hcap ⟨rfl,rfl,ff,rfl⟩
  rw [fRp_cells]
  rw [encL_length] at hcap ⊢
  refine Wd.x mixed (by kernel_rfl) ?_
  simp
  refine call_x (sortR_x fieldsC_enters fieldsC_any (l:=fldsTo l) (.inr ⟨0,cap,rfl,rfl,hcap⟩) (by omega)) ?_
  rintro _ _ _ ⟨rfl,rfl,rfl⟩
  simp [rPut]
  have hsl:=sortRM_len (fldsTo l)
  refine call_x (compR_x (l:=sortRM (fldsTo l)) (.inr ⟨0,cap,by rw [hsl],rfl,by omega⟩) (by omega)) ?_
  rintro _ _ _ ⟨rfl,rfl,rfl⟩
  simp [rPut,rCut]
  exact ret_cutR rfl (by rw [hsl]; exact hcap) (by unfold ownF fldsM; rw [if_neg (fun e=>canR_ne hne (by simpa [encL] using e))]; rfl)
end Go.Proofs.YtejkhflkeoihlaaGreat
namespace Go.Proofs.YtejkhflkeoihlaaGreat
open Go.RowKit Go.Proofs.YtejkhflkeoihlaaGreat.Vf
set_option linter.unusedVariables false
set_option linter.unusedSimpArgs false
abbrev fKm (x : Int × Int) : FV:=.agg [u32F x.1,u32F x.2]
set_option maxRecDepth 100000 in
set_option maxHeartbeats 600000 in
theorem cloneU0 (w : World) (a : Option Addr) (c : Nat) : Calls Tryz.prog 26 #[.slice a 0 c] w fun e w'=>(e = .returned (.slice none 0 0) ∨ ∃ b,b < w'.heap.size∧e = .returned (.slice (some ⟨b,0,none⟩) 0 0))∧Below w.heap.size w w':=by
 go_enter Tryz.func26,Tryz.ntmps26
 have q22 : ∀ (w : World) (a : Option Addr) (n c n' c' : Nat),(binOp .eql 57 (.slice a n c) (.slice none n' c')).run Tryz.prog w = .ok (.bool a.isNone) w:=fun w a n c n' c'=>Lib.run_eql_slice_nil w _ _ a n c n' c' Tryz.underlying57
 cases a with
 | none =>
  go_wp2_with fail
  go_returns
  exact ⟨.inl rfl,Below.refl _ _⟩
 | some p =>
  go_wp2_with fail
  go_returns
  exact ⟨.inr ⟨w.heap.size,by simp,rfl⟩,(Below.refl _ _).alloc (Nat.le_refl _) _⟩
set_option maxRecDepth 100000 in
set_option maxHeartbeats 4000000 in
theorem cloneU_t (g : Int) (l : List Int) (hl : l.length ≤ 4000000) : GivesT Tryz.prog 26 [sl (encL u32F (g :: l))] (encL u32F (g :: l)) 1:=by
 refine GivesT.of mixed Tryz.func26 rfl rfl rfl (by kernel_rfl) ?_
 simp [encL,opBin,opNil,isNilA,-opAppend]
 rw [append_full (ys:=u32F g :: List.map u32F l) (by decide) ty57 ty62 (by simp) rfl (by simp) (by simp) (by simp; omega) (by simp; omega)]
 simp
theorem cloneU_g (l : List Int) (hl : l.length ≤ 4000000) : Gives Tryz.prog 26 [sl (encL u32F l)] (sl (encL u32F l)):=by
 cases l with
 | nil=>exact (of_empty ⟨_,Tryz.func26,rfl,by decide⟩ cloneU0).full
 | cons g l=>exact (cloneU_t g l (by simp at hl; omega)).gives
set_option maxRecDepth 100000 in
set_option maxHeartbeats 600000 in
theorem cloneZ0 (w : World) (a : Option Addr) (c : Nat) : Calls Tryz.prog 69 #[.slice a 0 c] w fun e w'=>(e = .returned (.slice none 0 0) ∨ ∃ b,b < w'.heap.size∧e = .returned (.slice (some ⟨b,0,none⟩) 0 0))∧Below w.heap.size w w':=by
 go_enter Tryz.func69,Tryz.ntmps69
 have q22 : ∀ (w : World) (a : Option Addr) (n c n' c' : Nat),(binOp .eql 29 (.slice a n c) (.slice none n' c')).run Tryz.prog w = .ok (.bool a.isNone) w:=fun w a n c n' c'=>Lib.run_eql_slice_nil w _ _ a n c n' c' Tryz.underlying29
 cases a with
 | none =>
  go_wp2_with fail
  go_returns
  exact ⟨.inl rfl,Below.refl _ _⟩
 | some p =>
  go_wp2_with fail
  go_returns
  exact ⟨.inr ⟨w.heap.size,by simp,rfl⟩,(Below.refl _ _).alloc (Nat.le_refl _) _⟩
set_option maxRecDepth 100000 in
set_option maxHeartbeats 4000000 in
theorem cloneZ_t (g : Int) (l : List Int) (hl : l.length ≤ 4000000) : GivesT Tryz.prog 69 [sl (encL intF (g :: l))] (encL intF (g :: l)) 1:=by
 refine GivesT.of mixed Tryz.func69 rfl rfl rfl (by kernel_rfl) ?_
 simp [encL,opBin,opNil,isNilA,-opAppend]
 rw [append_full (ys:=intF g :: List.map intF l) (by decide) ty29 ty3 (by simp) rfl (by simp) (by simp) (by simp; omega) (by simp; omega)]
 simp
theorem cloneZ_g (l : List Int) (hl : l.length ≤ 4000000) : Gives Tryz.prog 69 [sl (encL intF l)] (sl (encL intF l)):=by
 cases l with
 | nil=>exact (of_empty ⟨_,Tryz.func69,rfl,by decide⟩ cloneZ0).full
 | cons g l=>exact (cloneZ_t g l (by simp at hl; omega)).gives
set_option maxRecDepth 100000 in
set_option maxHeartbeats 600000 in
theorem cloneK0 (w : World) (a : Option Addr) (c : Nat) : Calls Tryz.prog 144 #[.slice a 0 c] w fun e w'=>(e = .returned (.slice none 0 0) ∨ ∃ b,b < w'.heap.size∧e = .returned (.slice (some ⟨b,0,none⟩) 0 0))∧Below w.heap.size w w':=by
 go_enter Tryz.func144,Tryz.ntmps144
 have q22 : ∀ (w : World) (a : Option Addr) (n c n' c' : Nat),(binOp .eql 214 (.slice a n c) (.slice none n' c')).run Tryz.prog w = .ok (.bool a.isNone) w:=fun w a n c n' c'=>Lib.run_eql_slice_nil w _ _ a n c n' c' Tryz.underlying214
 cases a with
 | none =>
  go_wp2_with fail
  go_returns
  exact ⟨.inl rfl,Below.refl _ _⟩
 | some p =>
  go_wp2_with fail
  go_returns
  exact ⟨.inr ⟨w.heap.size,by simp,rfl⟩,(Below.refl _ _).alloc (Nat.le_refl _) _⟩
set_option maxRecDepth 100000 in
set_option maxHeartbeats 4000000 in
theorem cloneK_t (g : (Int × Int)) (l : List (Int × Int)) (hl : l.length ≤ 4000000) : GivesT Tryz.prog 144 [sl (encL fKm (g :: l))] (encL fKm (g :: l)) 2:=by
 refine GivesT.of mixed Tryz.func144 rfl rfl rfl (by kernel_rfl) ?_
 simp [encL,opBin,opNil,isNilA,-opAppend]
 rw [append_full (ys:=fKm g :: List.map fKm l) (by decide) ty214 ty277 (by simp) rfl (by simp) (by simp) (by simp; omega) (by simp; omega)]
 simp
theorem cloneK_g (l : List (Int × Int)) (hl : l.length ≤ 4000000) : Gives Tryz.prog 144 [sl (encL fKm l)] (sl (encL fKm l)):=by
 cases l with
 | nil=>exact (of_empty ⟨_,Tryz.func144,rfl,by decide⟩ cloneK0).full
 | cons g l=>exact (cloneK_t g l (by simp at hl; omega)).gives
set_option maxRecDepth 100000
set_option maxHeartbeats 4000000
structure CallD where
 act : Int
 args : List Int
structure RowD where
 id : Int
 keys : List (Int × Int)
 prio : Int
 call : CallD
structure CfgD where
 rows : List (List RowD)
 next : List Int
 dfl : List CallD
 regs : List (List Int)
abbrev fCallD (x : CallD) : FV:=.agg [intF x.act,sl (encL u32F x.args)]
abbrev fRow (x : RowD) : FV:=.agg [intF x.id,sl (encL fKm x.keys),intF x.prio,intF x.call.act,sl (encL u32F x.call.args)]
abbrev fU32 (l : List Int) : FV:=sl (encL u32F l)
abbrev fRows (l : List RowD) : FV:=sl (encL fRow l)
def fRowsO (l : List RowD) : FV:=ownF (encL fRow l)
@[simp] theorem fRowsO_cells (l : List RowD) : (fRowsO l).cells = [fRowsO l]:=by unfold fRowsO ownF; split <;> rfl
abbrev cCfg (c : CfgD) : List FV:=[sl (encL fRows c.rows),sl (encL intF c.next),sl (encL fCallD c.dfl),sl (encL fU32 c.regs)]
abbrev fCfg (c : CfgD) : FV:=.agg (cCfg c)
abbrev cCfgO (c : CfgD) : List FV:=[ownF (encL fRowsO c.rows),sl (encL intF c.next),ownF (encL fCallD c.dfl),ownF (encL fU32 c.regs)]
abbrev fCfgO (c : CfgD) : FV:=.agg (cCfgO c)
structure CfgB (c : CfgD) : Prop where
 rows : c.rows.length ≤ 4000000
 row : ∀ l ∈ c.rows,l.length ≤ 4000000∧∀ x ∈ l,x.keys.length ≤ 4000000∧x.call.args.length ≤ 4000000
 next : c.next.length ≤ 4000000
 dfl : c.dfl.length ≤ 4000000∧∀ x ∈ c.dfl,x.args.length ≤ 4000000
 regs : c.regs.length ≤ 4000000∧∀ x ∈ c.regs,x.length ≤ 4000000
theorem cloneCall_g (x : CallD) (hl : x.args.length ≤ 4000000) : Gives Tryz.prog 145 [fCallD x] (fCallD x):=by
 refine Gives.of mixed Tryz.func145 rfl rfl rfl (by kernel_rfl) ?_
 simp
 refine call_g (cloneU_g x.args hl) ?_
 simp
def crI (l : List (List Int)) (c : Cap) (i : Nat) (s : St) : Prop:=∃ g k x tk,OwnT k (encL fU32 (l.take i)) 1 x tk∧Vf.Sl [(3,x),(6,.f (.sl (encL fU32 l) c)),(7,.f (intF l.length)),(8,.f (intF i))] 19 g k s
theorem take_one {α : Type} {l : List α} {i : Nat} {x : α} (h : l[i]? = some x) : l.take i ++ [x] = l.take (i + 1):=by rw [List.take_add_one,h]; rfl
theorem encL_take {α : Type} {e : α→FV} {l : List α} {i : Nat} {x : α} (h : l[i]? = some x) : encL e (l.take (i + 1)) = encL e (l.take i) ++ [e x]:=by
 rw [List.take_add_one,h]
 simp [encL]
theorem cloneRegs_g (l : List (List Int)) (c : Cap) (hl : l.length ≤ 4000000) (hb : ∀ x ∈ l,x.length ≤ 4000000) : Gives Tryz.prog 29 [.sl (encL fU32 l) c] (ownF (encL fU32 l)):=by
 refine Gives.of mixed Tryz.func29 rfl rfl rfl (by kernel_rfl) ?_
 simp
 refine forX mixed l.length (crI l c) (by kernel_rfl) ⟨_,_,_,0,.nil,Sl.of rfl rfl rfl⟩ ?_
 rintro i ⟨ts,hh,kk⟩ hi ⟨g,k,x,tk,ho,rfl,rfl,f,rfl⟩
 by_cases hlt : i < l.length
 ·obtain ⟨y,hy,hy'⟩:=nth_of hlt
  have hw:=wrap64 (x:=(i : Int) + 1) (by omega) (by omega)
  simp [hlt,hy]
  refine call_g (cloneU_g y (hb y (List.mem_of_getElem? hy'))) ?_
  simp [-opAppend]
  obtain ⟨t',k',e,ho',_⟩:=append_own ty40 ty57 (by simp) ho (y:=.f (.sl [fU32 y] .full)) rfl (by simp) (by simp) (by simp; omega) (by simp; omega)
  rw [encL_snoc,take_one hy'] at e ho'
  rw [e]
  simp [hw]
  exact ⟨_,_,_,_,ho',Sl.of rfl rfl rfl⟩
 ·obtain rfl : i = l.length:=by omega
  rw [List.take_length] at ho
  simp [ho.ret]
theorem build_own {k : List (Nat × Nat)} {l : List FV} {sz t : Nat} {y : AV} (h : OwnT k l sz y t) : opBuildSlice (tyOf Tryz.prog) 38 1 [(0,y)] = some (.f (.sl [ownF l] .full)):=by
 rcases h with ⟨rfl,rfl⟩ | ⟨h1,rfl,_⟩
 ·simp [ownF]
 ·simp [ownF,h1]
theorem own_stays {k k' : List (Nat × Nat)} {lx ly : List FV} {sx tx ty t' : Nat} {x : AV} (hx : OwnT k lx sx x tx) (hne : lx ≠ []→ly ≠ []→tx ≠ ty) (h : ∀ i,i < k.length→(ly ≠ []→i ≠ ty)→k'[i]? = k[i]?∧t' ≠ i) : OwnT k' lx sx x tx∧(lx ≠ []→t' ≠ tx) :=
 ⟨hx.keep fun h1=>(h tx (hx.lt h1) (hne h1)).1,fun h1=>(h tx (hx.lt h1) (hne h1)).2⟩
def ccR (c : CfgD) (i : Nat) (s : St) : Prop:=∃ g k x tk,OwnT k (encL fRowsO (c.rows.take i)) 1 x tk∧Vf.Sl [(1,.ref 0 0),(2,.ref 1 0),(3,.ref 2 0),(17,.f (sl (encL fRows c.rows))),(18,.f (intF c.rows.length)),(19,.f (intF i))] 74
 ((cCfg c).map .f :: [.f (.sl [] .nil),.f (.sl [] .nil),.f (.sl [] .nil),.f (.sl [] .nil)] :: [x,.f (sl (encL intF c.next)),.f (.sl [] .nil),.f (.sl [] .nil)] :: g) k s
def ccS (c : CfgD) (i : Nat) (r : List RowD) (j : Nat) (s : St) : Prop:=∃ g k x tk y ty,OwnT k (encL fRowsO (c.rows.take i)) 1 x tk∧OwnT k (encL fRow (r.take j)) 5 y ty∧(encL fRowsO (c.rows.take i) ≠ []→encL fRow (r.take j) ≠ []→tk ≠ ty) ∧
 Vf.Sl [(1,.ref 0 0),(2,.ref 1 0),(3,.ref 2 0),(6,y),(17,.f (sl (encL fRows c.rows))),(18,.f (intF c.rows.length)),(19,.f (intF i)),(23,.f (fRows r)),(24,.f (intF r.length)),(25,.f (intF j))] 74
 ((cCfg c).map .f :: [.f (.sl [] .nil),.f (.sl [] .nil),.f (.sl [] .nil),.f (.sl [] .nil)] :: [x,.f (sl (encL intF c.next)),.f (.sl [] .nil),.f (.sl [] .nil)] :: g) k s
def ccD (c : CfgD) (i : Nat) (s : St) : Prop:=∃ g k x tk y ty,OwnT k (encL fRowsO c.rows) 1 x tk∧OwnT k (encL fCallD (c.dfl.take i)) 2 y ty∧(encL fRowsO c.rows ≠ []→encL fCallD (c.dfl.take i) ≠ []→tk ≠ ty) ∧
 Vf.Sl [(1,.ref 0 0),(2,.ref 1 0),(3,.ref 2 0),(55,.f (sl (encL fCallD c.dfl))),(56,.f (intF c.dfl.length)),(57,.f (intF i))] 74
 ((cCfg c).map .f :: [.f (.sl [] .nil),.f (.sl [] .nil),.f (.sl [] .nil),.f (.sl [] .nil)] :: [x,.f (sl (encL intF c.next)),y,.f (.sl [] .nil)] :: g) k s
theorem cloneCfg_g (c : CfgD) (hB : CfgB c) : Gives Tryz.prog 70 [fCfg c] (fCfgO c):=by
 have b1:=hB.rows
 have b2:=hB.dfl.1
 refine Gives.of mixed Tryz.func70 rfl rfl rfl (by kernel_rfl) ?_
 simp
 refine call_g (cloneZ_g c.next hB.next) ?_
 simp
 refine forX mixed c.rows.length (ccR c) (by kernel_rfl) ⟨[],[],.f (.sl [] .nil),0,.nil,Sl.of rfl rfl rfl⟩ ?_
 rintro i ⟨ts,hh,kk⟩ hi ⟨g,k,x,tk,ho,rfl,rfl,f,rfl⟩
 by_cases hlt : i < c.rows.length
 ·obtain ⟨r,hr,hr'⟩:=nth_of hlt
  have hw:=wrap64 (x:=(i : Int) + 1) (by omega) (by omega)
  obtain ⟨br,brr⟩:=hB.row r (List.mem_of_getElem? hr')
  simp [hlt,hr]
  refine forX mixed r.length (ccS c i r) (by kernel_rfl) ⟨g,_,x,tk,.f (.sl [] .nil),0,ho,.nil,fun _ h=>absurd rfl h,Sl.of rfl rfl rfl⟩ ?_
  rintro j ⟨ts,hh,kk⟩ hj ⟨g,k,x,tk,y,ty,hox,hoy,hne,rfl,rfl,f,rfl⟩
  by_cases hjl : j < r.length
  ·obtain ⟨q,hq,hq'⟩:=nth_of hjl
   have hwj:=wrap64 (x:=(j : Int) + 1) (by omega) (by omega)
   obtain ⟨bk,ba⟩:=brr q (List.mem_of_getElem? hq')
   simp [hjl,hq]
   refine call_g (cloneK_g q.keys bk) ?_
   simp
   refine call_g (cloneCall_g q.call ba) ?_
   simp [-opAppend]
   obtain ⟨t',k',e,ho',hl',hk'⟩:=append_own ty117 ty218 (by simp) hoy (y:=.f (.sl [fRow q] .full)) rfl (by simp) (by simp) (by simp; omega) (by simp; omega)
   obtain ⟨hox',hne'⟩:=own_stays hox hne hk'
   rw [encL_snoc,take_one hq'] at e ho'
   rw [e]
   simp [hwj]
   exact ⟨_,_,_,_,_,_,hox',ho',fun h1 _ h2=>hne' h1 h2.symm,Sl.of rfl rfl rfl⟩
  ·obtain rfl : j = r.length:=by omega
   rw [List.take_length] at hoy hne
   simp [-opAppend,-opBuildSlice]
   rw [build_own hoy]
   simp [-opAppend]
   obtain ⟨t',k',e,ho',hl',hk'⟩:=append_own ty38 ty117 (by simp) hox (y:=.f (.sl [fRowsO r] .full)) rfl (by simp) (by simp) (by simp; omega) (by simp; omega)
   rw [encL_snoc,take_one hr'] at e ho'
   rw [show ownF (encL fRow r) = fRowsO r from rfl,e]
   simp [hw]
   exact ⟨_,_,_,_,ho',Sl.of rfl rfl rfl⟩
 ·obtain rfl : i = c.rows.length:=by omega
  rw [List.take_length] at ho
  simp
  refine forX mixed c.dfl.length (ccD c) (by kernel_rfl) ⟨g,_,x,tk,.f (.sl [] .nil),0,ho,.nil,fun _ h=>absurd rfl h,Sl.of rfl rfl rfl⟩ ?_
  rintro i ⟨ts,hh,kk⟩ hi ⟨g,k,x,tk,y,ty,hox,hoy,hne,rfl,rfl,f,rfl⟩
  by_cases hlt : i < c.dfl.length
  ·obtain ⟨q,hq,hq'⟩:=nth_of hlt
   have hw:=wrap64 (x:=(i : Int) + 1) (by omega) (by omega)
   have ba:=hB.dfl.2 q (List.mem_of_getElem? hq')
   simp [hlt,hq]
   refine call_g (cloneCall_g q ba) ?_
   simp [-opAppend]
   obtain ⟨t',k',e,ho',hl',hk'⟩:=append_own ty39 ty120 (by simp) hoy (y:=.f (.sl [fCallD q] .full)) rfl (by simp) (by simp) (by simp; omega) (by simp; omega)
   obtain ⟨hox',hne'⟩:=own_stays hox hne hk'
   rw [encL_snoc,take_one hq'] at e ho'
   rw [e]
   simp [hw]
   exact ⟨_,_,_,_,_,_,hox',ho',fun h1 _ h2=>hne' h1 h2.symm,Sl.of rfl rfl rfl⟩
  ·obtain rfl : i = c.dfl.length:=by omega
   rw [List.take_length] at hoy hne
   simp
   obtain ⟨c3,hc3⟩:=ownF_is (encL fU32 c.regs)
   have hq:=cloneRegs_g c.regs .un hB.regs.1 hB.regs.2
   have hr : fCfgO c = .agg [ownF (encL fRowsO c.rows),sl (encL intF c.next),ownF (encL fCallD c.dfl),.sl (encL fU32 c.regs) c3]:=by rw [← hc3]
   rw [hc3] at hq
   refine call_g hq ?_
   rw [hr]
   rcases hox with ⟨h1,rfl⟩ | ⟨h1,rfl,h2⟩ <;> rcases hoy with ⟨h3,rfl⟩ | ⟨h3,rfl,h4⟩ <;> simp [ownF,h1,h3]
end Go.Proofs.YtejkhflkeoihlaaGreat
