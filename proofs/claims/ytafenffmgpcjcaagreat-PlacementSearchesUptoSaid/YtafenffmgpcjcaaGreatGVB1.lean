/- Texts of the proof: GVB1. -/
import Derived.Test.YtafenffmgpcjcaaGreatGVA1
namespace Go.Proofs.YtafenffmgpcjcaaGreat.Vf
open Go.RowKit
set_option linter.unusedVariables false
set_option linter.unusedSimpArgs false
variable {B:Base} {L:Lk} {h:List (List AV)} {k:List (Nat × Nat)} {w:World} {P:Program} {T:TV}
def HasBody (P : Program) (f : FuncId) : Prop := ∃ fn, P.funcs[f]? = some fn ∧ fn.body.isSome = true ∧ fn.name ≠ "runtime.NumGoroutine"
def Gives (P:Program) (f:FuncId) (args:List FV) (r:FV):Prop :=
 HasBody P f∧∀ (w:World) (F:Cells) (vals:Array Value),(∀ b o,F b o→b < w.heap.size)→vals.size=args.length→(∀ (j:Nat) x,args[j]?=some x→∃ v,vals[j]?=some v∧Rep w F x v) →
  Calls P f vals w fun e w'=>∃ v F',e=.returned v∧Rep w' F' r v∧Below w.heap.size w w'∧(∀ b o,F b o→F' b o)∧(∀ b o,F' b o→F b o∨w.heap.size≤b)∧∀ b o,F' b o→b < w'.heap.size
def GivesT (P:Program) (f:FuncId) (args:List FV) (l:List FV) (sz:Nat):Prop :=
 HasBody P f∧∀ (w:World) (F:Cells) (vals:Array Value),(∀ b o,F b o→b < w.heap.size)→vals.size=args.length→(∀ (j:Nat) x,args[j]?=some x→∃ v,vals[j]?=some v∧Rep w F x v) →
  Calls P f vals w fun e w'=>∃ b o cap F',e=.returned (.slice (some ⟨b,o,none⟩) l.length cap)∧Rep w' F' (.sl l .un) (.slice (some ⟨b,o,none⟩) l.length cap)∧Below w.heap.size w w'∧(∀ b o,F b o→F' b o)∧(∀ b o,F' b o→F b o∨w.heap.size≤b)∧(∀ b o,F' b o→b < w'.heap.size) ∧
   w.heap.size≤b∧b < w'.heap.size∧(l.length≤cap∧o=0)∧(∀ j,o+l.length * sz≤j→¬ F' b j)∧(∀ j,o≤j→j < o+cap * sz→w'.frozen? ⟨b,j,none⟩=false∧∃ v,w'.cell? ⟨b,j,none⟩=some v)∧∀ x ∈ l,x.cells.length=sz
inductive CallTo (P:Program) (f:FuncId) (as:List FV) (k:List (Nat × Nat)):AV→List (Nat × Nat)→Prop
 | val (r:FV) (h:Gives P f as r):CallTo P f as k (.f r) k
 | tok (l:List FV) (sz:Nat) (h:GivesT P f as l sz):CallTo P f as k (.own l k.length) (k ++ [(l.length,sz)])
theorem CallTo.body {P:Program} {f:FuncId} {as:List FV} {k k':List (Nat × Nat)} {x:AV} (h:CallTo P f as k x k'):HasBody P f:=by
 cases h with
 | val r h=>exact h.1
 | tok l sz h=>exact h.1
def GivesR (P:Program) (f:FuncId) (args:List AV) (h:List (List AV)) (k:List (Nat × Nat)) (x:AV) (h':List (List AV)) (k':List (Nat × Nat)):Prop :=
 HasBody P f∧∀ (B:Base) (L:Lk) (w:World) (vals:Array Value),Mem B L h k w→RepL w L k args vals →
  Calls P f vals w fun e w'=>∃ v L',e=.returned v∧Mem B L' h' k' w'∧Ext L k w L' k' w'∧RepA w' L' k' x v∧k.length≤k'.length
def GivesX (P:Program) (f:FuncId) (args:List AV) (h:List (List AV)) (k:List (Nat × Nat)) (R:AV→List (List AV)→List (Nat × Nat)→Prop):Prop :=
 HasBody P f∧∀ (B:Base) (L:Lk) (w:World) (vals:Array Value),Mem B L h k w→RepL w L k args vals →
  Calls P f vals w fun e w'=>∃ x h' k' v L',R x h' k'∧e=.returned v∧Mem B L' h' k' w'∧Ext L k w L' k' w'∧RepA w' L' k' x v∧k.length≤k'.length
theorem GivesR.x {P:Program} {f:FuncId} {args:List AV} {h h':List (List AV)} {k k':List (Nat × Nat)} {x:AV} (hg:GivesR P f args h k x h' k'):GivesX P f args h k (fun y g l=>y=x∧g=h'∧l=k') :=
 ⟨hg.1,fun B L w vals hm hv=>(hg.2 B L w vals hm hv).mono fun e w' ⟨v,L',h1,h2,h3,h4,h5⟩=>⟨x,h',k',v,L',⟨rfl,rfl,rfl⟩,h1,h2,h3,h4,h5⟩⟩
structure St where
 t:List AV
 h:List (List AV)
 k:List (Nat × Nat)
structure Rel (B:Base) (L:Lk) (s:St) (a:Act) (w:World):Prop where
 mem:Mem B L s.h s.k w
 d:a.defers=[]
 tmps:RepL w L s.k s.t a.tmps
theorem Rel.ev {s:St} {a:Act} (H:Rel B L s a w) (x:Operand):RepA w L s.k (evA s.t x) (a.eval x):=by
 cases x with
 | tmp i =>
  show RepA w L s.k ((s.t[i]?).getD undefA) (a.tmps.getD i undef)
  cases hi:s.t[i]? with
  | none =>
   have:a.tmps[i]?=none:=by rw [Array.getElem?_eq_none]; rw [H.tmps.1]; exact List.getElem?_eq_none_iff.1 hi
   simp only [Option.getD_none,Array.getD_eq_getD_getElem?,this]
   exact .f _ _ (.sc _)
  | some x =>
   obtain ⟨v,hv,hr⟩:=H.tmps.2 i x hi
   simpa [hv] using hr
 | const v=>exact constA_rep v
 | global g=>exact .f _ _ (.sc _)
 | func f=>exact .f _ _ (.fn f [] #[] (fun _=>undef) rfl (by simp) (by simp))
def St.put (s:St) (d:Option Tmp) (x:AV):St:=match d with
 | some d=>{ s with t:=s.t.set d x }
 | none=>s
def St.to (s:St) (d:Option Tmp) (r:AV × List (List AV) × List (Nat × Nat)):St:=St.put ⟨s.t,r.2.1,r.2.2⟩ d r.1
theorem RepL.set {cs:List AV} {a:Array Value} {x:AV} {v:Value} {d:Nat} (H:RepL w L k cs a) (hx:RepA w L k x v):RepL w L k (cs.set d x) (a.setIfInBounds d v):=by
 refine ⟨by simpa using H.1,fun j y hj=>?_⟩
 rcases get_set hj with ⟨hne,hj⟩ | ⟨rfl,rfl,hlt⟩
 ·obtain ⟨u,hu,hr⟩:=H.2 j y hj
  exact ⟨u,by rw [Array.getElem?_setIfInBounds_ne (by omega)]; exact hu,hr⟩
 ·exact ⟨v,by rw [Array.getElem?_setIfInBounds_self_of_lt (by rw [H.1]; exact hlt)],hx⟩
theorem Rel.put {s:St} {a:Act} {d:Option Tmp} {x:AV} {v:Value} (H:Rel B L s a w) (hx:RepA w L s.k x v):Rel B L (s.put d x) (a.put d v) w:=by
 cases d with
 | none=>exact H
 | some d=>exact ⟨H.mem,H.d,H.tmps.set hx⟩
def fzA:AV→Option FV
 | .f x=>some x
 | .own l _=>some (.sl l .un)
 | .agg cs=>match mapO cellFz cs with
  | some fs=>some (.agg fs)
  | none=>none
 | _=>none
theorem fzA_rep {x:AV} {v:Value} {y:FV} (hx:RepA w L k x v) (h:fzA x=some y):Rep w L.F y v:=by
 unfold fzA at h
 split at h
 ·obtain rfl:=Option.some.inj h
  cases hx with | f x v hx=>exact hx
 ·obtain rfl:=Option.some.inj h
  cases hx with | own l t b o cap h=>exact h
 ·rename_i cs
  split at h
  case h_2=>cases h
  rename_i fs hfs
  obtain rfl:=Option.some.inj h
  obtain ⟨h1,h2⟩:=mapO_get hfs
  cases hx with
  | agg cs a vs ha hv hr =>
   have key:∀ (j:Nat) y,fs[j]?=some y→Rep w L.F y (vs j)∧a[j]?=some (vs j):=fun j y hj=>by
    have hjl:j < cs.length:=by rw [← h1]; exact (List.getElem?_eq_some_iff.1 hj).1
    obtain ⟨y',hy',hcf⟩:=h2 j cs[j] (List.getElem?_eq_getElem hjl)
    rw [hj] at hy'
    obtain rfl:=Option.some.inj hy'
    exact ⟨cellFz_rep (hr j _ (List.getElem?_eq_getElem hjl)) hcf,hv j _ (List.getElem?_eq_getElem hjl)⟩
   exact .agg fs a vs (by rw [ha,h1]) (fun j y hj=>(key j y hj).2) (fun j y hj=>(key j y hj).1)
 ·cases h
def boolA (want:Bool):AV→Option Bool
 | .f (.sc (.bool b))=>some (b == want)
 | .f (.sc (.tuple _))=>some false
 | _=>none
def yieldedA (ops:Array Oper) (t:List AV) (j:Nat) (want:Bool):Option Bool :=
 match (ops[j]?).bind (·.dst) with
 | some d=>match ix t d with
  | some v=>boolA want v
  | none=>none
 | none=>none
theorem yieldedA_rep {s:St} {a:Act} (H:Rel B L s a w) {ops:Array Oper} {j:Nat} {b want:Bool} (hy:yieldedA ops s.t j want=some b):(yielded ops a.tmps j == some want)=b:=by
 unfold yieldedA at hy
 simp only [ix] at hy
 split at hy
 case h_2=>cases hy
 rename_i d hd
 split at hy
 case h_2=>cases hy
 rename_i x hx
 obtain ⟨v,hv,hr⟩:=H.tmps.2 d _ hx
 unfold boolA at hy
 split at hy
 ·obtain rfl:=Option.some.inj hy
  cases hr with
  | f x v hx=>cases hx; simp [yielded,hd,hv]
 ·obtain rfl:=Option.some.inj hy
  cases hr with
  | f x v hx=>cases hx; simp [yielded,hd,hv]
 ·cases hy
def calleeA (ρ:Operand→AV):Op→Option (FuncId × List FV)
 | .call ⟨.value g,args,_⟩=>match ρ g with
  | .f (.fn f cs)=>match mapO (fun x=>fzA (ρ x)) args.toList with
   | some as=>some (f,as ++ cs)
   | none=>none
  | _=>none
 | _=>none
def fnOf:AV→Option (FuncId × List AV)
 | .f (.fn f cs)=>some (f,cs.map .f)
 | .fnr f cs=>some (f,cs)
 | _=>none
def calleeR (ρ:Operand→AV):Op→Option (FuncId × List AV)
 | .call ⟨.value g,args,_⟩=>match fnOf (ρ g) with
  | some (f,cs)=>some (f,args.toList.map ρ ++ cs)
  | none=>none
 | _=>none
def wOp (P:Program) (T:TV) (rf:Bool) (o:Oper) (s:St) (K:St→Prop):Prop :=
 match calleeA (evA s.t) o.op with
 | some (f,as)=>(∃ x k',CallTo P f as s.k x k'∧K ((⟨s.t,s.h,k'⟩:St).put o.dst x))∨(rf=true∧∃ f' as' R,calleeR (evA s.t) o.op=some (f',as')∧GivesX P f' as' s.h s.k R∧∀ x h' k',R x h' k'→K (s.to o.dst (x,h',k')))
 | none=>match (if rf then calleeR (evA s.t) o.op else none) with
  | some (f,as)=>∃ R,GivesX P f as s.h s.k R∧∀ x h' k',R x h' k'→K (s.to o.dst (x,h',k'))
  | none=>match evOp P T (evA s.t) s.h s.k o with
   | some r=>K (s.to o.dst r)
   | none=>match (if rf then evKill T (evA s.t) s.h s.k o.op else none) with
    | some r=>K (s.to o.dst r)
    | none=>False
def wOps (P:Program) (T:TV) (rf:Bool) (ops:Array Oper):List Oper→St→(St→Prop)→Prop
 | [],s,K=>K s
 | o::rest,s,K=>match o.guard with
  | none=>wOp P T rf o s fun s'=>wOps P T rf ops rest s' K
  | some (j,want)=>match yieldedA ops s.t j want with
   | some b=>if b=true then wOp P T rf o s fun s'=>wOps P T rf ops rest s' K else wOps P T rf ops rest (s.put o.dst undefA) K
   | none=>False
def Post (B:Base) (L:Lk) (s:St) (w:World) (Q:Exit→St→Prop):Exit→Act→World→Prop :=
 fun e a' w'=>∃ s' L',Q e s'∧Rel B L' s' a' w'∧Ext L s.k w L' s'.k w'∧s.k.length≤s'.k.length
theorem Post.of {s s1:St} {L1:Lk} {w1:World} {Q:Exit→St→Prop} {e:Exit} {a:Act} {w':World} (he:Ext L s.k w L1 s1.k w1) (hl:s.k.length≤s1.k.length) (h:Post B L1 s1 w1 Q e a w'):Post B L s w Q e a w':=by
 obtain ⟨s',L',hq,hr,he',hl'⟩:=h
 exact ⟨s',L',hq,hr,he.trans he' hl,Nat.le_trans hl hl'⟩
theorem run_callFunc {f:FuncId} (h:HasBody P f) (args:Array Value):(callFunc f args).run P w=.ok (.enter f args) w:=by
 obtain ⟨fn,h1,h2,h3⟩:=h
 have:¬ (fn.body=none):=by cases hb:fn.body <;> simp_all
 simp [callFunc,h1,h3,this]
theorem refCall_run {o:Oper} {s:St} {a:Act} {K:St→Prop} {Q:Exit→Act→World→Prop} {K':Act→World→Prop} {f:FuncId} {as:List AV} {R:AV→List (List AV)→List (Nat × Nat)→Prop} (H:Rel B L s a w) (hc:calleeR (evA s.t) o.op=some (f,as)) (hgr:GivesX P f as s.h s.k R) (hk:∀ x h' k',R x h' k'→K (s.to o.dst (x,h',k')))
  (hK:∀ s' L' a' w',K s'→Rel B L' s' a' w'→Ext L s.k w L' s'.k w'→s.k.length≤s'.k.length→K' a' w'):o.wp P a w K' Q:=by
 obtain ⟨hb,hg⟩:=hgr
 unfold calleeR at hc
 split at hc
 case h_2=>cases hc
 rename_i g args ts hop
 split at hc
 case h_2=>cases hc
 rename_i f' cs hev
 obtain ⟨rfl,rfl⟩:f'=f∧args.toList.map (evA s.t) ++ cs=as:=by simpa using hc
 obtain ⟨ca,hv,hcl⟩:∃ ca,a.eval g=.func (.func f') #[] ca∧RepL w L s.k cs ca:=by
  have hgv:=H.ev g
  generalize a.eval g=vg at hgv
  unfold fnOf at hev
  split at hev
  ·rename_i f2 cs2 hq
   obtain ⟨rfl,rfl⟩:f2=f'∧cs2.map AV.f=cs:=by simpa using hev
   rw [hq] at hgv
   cases hgv with
   | f x v hx =>
    cases hx with
    | fn f cs ca vs hca hcv hcr=>exact ⟨ca,rfl,by simpa using hca,fun j y hj=>by
      rw [List.getElem?_map,Option.map_eq_some_iff] at hj
      obtain ⟨u,hu,rfl⟩:=hj
      exact ⟨vs j,hcv j u hu,.f _ _ (hcr j u hu)⟩⟩
  ·rename_i f2 cs2 hq
   obtain ⟨rfl,rfl⟩:f2=f'∧cs2=cs:=by simpa using hev
   rw [hq] at hgv
   cases hgv with
   | fnr f cs ca vs hca hcv hcr=>exact ⟨ca,rfl,hca,fun j y hj=>⟨vs j,hcv j y hj,hcr j y hj⟩⟩
  ·cases hev
 unfold Oper.wp
 have hrun:(execOp a.eval o).run P w=.ok (.enter f' (args.map a.eval ++ ca)) w:=by
  simp only [execOp,hop,resolve,hv,Deferred.ofValue,Sem.run_bind,Sem.run_pure,Result.andThen_ok,invoke]
  rw [run_callFunc hb]; simp
 rw [hrun,Oper.upon_enter]
 refine (hg B L w (args.map a.eval ++ ca) H.mem ⟨by simp [hcl.1],fun j y hj=>?_⟩).mono ?_
 ·rw [List.getElem?_append] at hj
  split at hj
  ·rename_i hlt
   rw [List.getElem?_map,Option.map_eq_some_iff] at hj
   obtain ⟨u,hu,rfl⟩:=hj
   have hul:=(List.getElem?_eq_some_iff.1 hu).1
   exact ⟨a.eval u,by rw [Array.getElem?_append_left (by simpa using hul),Array.getElem?_map]; simp at hu; simp [hu],H.ev u⟩
  ·rename_i hge
   simp only [List.length_map,Array.length_toList] at hge hj
   obtain ⟨v,h1,h2⟩:=hcl.2 _ y hj
   exact ⟨v,by rw [Array.getElem?_append_right (by simp; omega)]; simpa using h1,h2⟩
 ·rintro e w' ⟨x,h',k',v,L',hR,rfl,hm,he,hr,hl⟩
  have hkk:(s.to o.dst (x,h',k')).k=k':=by unfold St.to St.put; cases o.dst <;> rfl
  exact hK _ L' _ w' (hk x h' k' hR) (Rel.put (s:=⟨s.t,h',k'⟩) ⟨hm,H.d,H.tmps.mono he hl⟩ hr) (by rw [hkk]; exact he) (by rw [hkk]; exact hl)
theorem wOp_run (hT:TOk P T) {rf:Bool} {o:Oper} {s:St} {a:Act} {K:St→Prop} {Q:Exit→Act→World→Prop} {K':Act→World→Prop} (H:Rel B L s a w) (hk:wOp P T rf o s K)
  (hK:∀ s' L' a' w',K s'→Rel B L' s' a' w'→Ext L s.k w L' s'.k w'→s.k.length≤s'.k.length→K' a' w'):o.wp P a w K' Q:=by
 unfold wOp at hk
 split at hk
 ·rename_i f as hc
  rcases hk with ⟨y,k',hct,hk⟩ | ⟨_,f',as',R,hc',hg,hk⟩
  case inr=>exact refCall_run H hc' hg hk hK
  have hb:=hct.body
  unfold calleeA at hc
  split at hc
  case h_2=>cases hc
  rename_i g args ts hop
  split at hc
  case h_2=>cases hc
  rename_i f' cs hev
  split at hc
  case h_2=>cases hc
  rename_i as' has
  obtain ⟨rfl,rfl⟩:f'=f∧as' ++ cs=as:=by simpa using hc
  have hgv:=H.ev g
  rw [hev] at hgv
  obtain ⟨h1,h2⟩:=mapO_get has
  generalize hv:a.eval g=vg at hgv
  cases hgv with
  | f x v hx =>
   cases hx with
   | fn f cs ca vs hca hcv hcr =>
    unfold Oper.wp
    have hrun:(execOp a.eval o).run P w=.ok (.enter f' (args.map a.eval ++ ca)) w:=by
     simp only [execOp,hop,resolve,hv,Deferred.ofValue,Sem.run_bind,Sem.run_pure,Result.andThen_ok,invoke]
     rw [run_callFunc hb]; simp
    rw [hrun,Oper.upon_enter]
    have hargs:∀ (j:Nat) x,(as' ++ cs)[j]?=some x→∃ v,(args.map a.eval ++ ca)[j]?=some v∧Rep w L.F x v:=fun j x hj=>by
     rw [List.getElem?_append] at hj
     split at hj
     ·rename_i hlt
      have hja:j < args.toList.length:=by rw [← h1]; exact hlt
      obtain ⟨y,hy,hfz⟩:=h2 j args.toList[j] (List.getElem?_eq_getElem hja)
      rw [hj] at hy
      obtain rfl:=Option.some.inj hy
      refine ⟨a.eval args.toList[j],?_,fzA_rep (H.ev _) hfz⟩
      rw [Array.getElem?_append_left (by simpa using hja)]
      simp at hja
      simp [hja]
     ·rename_i hge
      refine ⟨vs (j - as'.length),?_,hcr _ x hj⟩
      rw [Array.getElem?_append_right (by simp; simp at h1; omega)]
      have:=hcv _ x hj
      simp at h1
      simpa [h1] using this
    have hsz:(args.map a.eval ++ ca).size=(as' ++ cs).length:=by simp [h1,hca]
    cases hct with
    | val r hg =>
     refine (hg.2 w L.F (args.map a.eval ++ ca) H.mem.fz hsz hargs).mono ?_
     rintro e w' ⟨v,F',rfl,hr,hbel,hF,hF1,hF2⟩
     obtain ⟨H1,he⟩:=H.mem.grow hbel hF hF1 hF2
     exact hK _ ⟨L.m,L.t,F'⟩ _ w' hk (Rel.put (s:=s) ⟨H1,H.d,H.tmps.mono he (Nat.le_refl _)⟩ (.f _ _ hr)) (by cases o.dst <;> exact he) (by cases o.dst <;> exact Nat.le_refl _)
    | tok l sz hg =>
     refine (hg.2 w L.F (args.map a.eval ++ ca) H.mem.fz hsz hargs).mono ?_
     rintro e w' ⟨b,off,cap,F',rfl,hr,hbel,hF,hF1,hF2,g1,g2,g3,g4,g5,g6⟩
     obtain ⟨H1,he⟩:=H.mem.grow hbel hF hF1 hF2
     have hH2:=H1.newTok (r:=⟨b,off,cap⟩) (n:=l.length) (sz:=sz) ⟨Nat.le_trans H.mem.size g1,g2,g3,fun i hi=>by have:=(H.mem.mge i b hi).2; omega,g4,g5⟩ (fun i r' hi e=>by
      have hlt:i < s.k.length:=by rw [← H.mem.tlen]; exact (List.getElem?_eq_some_iff.1 hi).1
      have:=(H.mem.tok i _ _ r' hi (List.getElem?_eq_getElem hlt)).2.1
      have e:r'.b=b:=e
      omega)
     have he2:=Ext.push (w:=w') H1.tlen ⟨b,off,cap⟩ (l.length,sz)
     have hel:=he.trans he2 (Nat.le_refl _)
     have hll:s.k.length≤(s.k ++ [(l.length,sz)]).length:=by simp
     have hkk:((⟨s.t,s.h,s.k ++ [(l.length,sz)]⟩:St).put o.dst (.own l s.k.length)).k=s.k ++ [(l.length,sz)]:=by unfold St.put; cases o.dst <;> rfl
     refine hK _ ⟨L.m,L.t ++ [⟨b,off,cap⟩],F'⟩ _ w' hk (Rel.put (s:=⟨s.t,s.h,s.k ++ [(l.length,sz)]⟩) ⟨hH2,H.d,H.tmps.mono hel hll⟩ ?_) (by rw [hkk]; exact hel) (by rw [hkk]; exact hll)
     exact .own l s.k.length b off cap hr l.length sz (by simp) (Nat.le_refl _) g6 (fun _=>by rw [← H1.tlen]; simp)
 ·split at hk
  ·rename_i f as hc
   obtain ⟨R,⟨hb,hg⟩,hk⟩:=hk
   cases rf with
   | false=>cases hc
   | true =>
    simp only [if_true] at hc
    exact refCall_run H hc ⟨hb,hg⟩ hk hK
  have fin:∀ (r:AV × List (List AV) × List (Nat × Nat)),(∃ n v w' L',(execOp a.eval o).run P w=.ok n w'∧(n=.value v∨(n=.skip∧v=undef))∧Mem B L' r.2.1 r.2.2 w'∧Ext L s.k w L' r.2.2 w'∧RepA w' L' r.2.2 r.1 v∧s.k.length≤r.2.2.length)→K (s.to o.dst r)→o.wp P a w K' Q:=fun r he hk=>by
   obtain ⟨x,h',k'⟩:=r
   obtain ⟨n,v,w',L',h1,h2,h3,h4,h5,h6⟩:=he
   have hrel:Rel B L' (s.to o.dst (x,h',k')) (a.put o.dst v) w':=Rel.put (s:=⟨s.t,h',k'⟩) ⟨h3,H.d,H.tmps.mono h4 h6⟩ h5
   have hkk:(s.to o.dst (x,h',k')).k=k':=by unfold St.to St.put; cases o.dst <;> rfl
   have:=hK _ L' _ w' hk hrel (by rw [hkk]; exact h4) (by rw [hkk]; exact h6)
   unfold Oper.wp
   rw [h1]
   rcases h2 with rfl | ⟨rfl,rfl⟩
   ·exact this
   ·exact this
  split at hk
  ·rename_i r hr
   exact fin r (evOp_run hT H.mem (fun x=>H.ev x) hr) hk
  ·split at hk
   case h_2=>exact hk.elim
   rename_i r hr
   cases rf with
   | false=>cases hr
   | true=>exact fin r (evKill_run hT H.mem (fun x=>H.ev x) hr) hk
theorem wOps_run (hT:TOk P T) {rf:Bool} {ops:Array Oper} {Q:Exit→Act→World→Prop} (l:List Oper):∀ {s:St} {L:Lk} {a:Act} {w:World} {K:St→Prop},Rel B L s a w→wOps P T rf ops l s K →
  (∀ s' L' a' w',K s'→Rel B L' s' a' w'→Ext L s.k w L' s'.k w'→s.k.length≤s'.k.length→Q .normal a' w')→wpList P ops Q l a w:=by
 induction l with
 | nil=>intro s L a w K H hk hQ; exact hQ s L a w hk H (Ext.refl _ _ _) (Nat.le_refl _)
 | cons o l ih =>
  intro s L a w K H hk hQ
  have hop:wOp P T rf o s (fun s'=>wOps P T rf ops l s' K)→o.wp P a w (wpList P ops Q l) Q:=fun hw =>
   wOp_run hT H hw fun s' L' a' w' hk' H' he hl=>ih H' hk' fun s2 L2 a2 w2 h1 h2 h3 h4=>hQ s2 L2 a2 w2 h1 h2 (he.trans h3 hl) (Nat.le_trans hl h4)
  simp only [wOps] at hk
  simp only [wpList]
  split at hk
  ·rename_i hg
   have:Region.wanted o (yielded ops a.tmps)=true:=by simp [Region.wanted,hg]
   rw [if_pos this]
   exact .inl (hop hk)
  ·rename_i j want hg
   split at hk
   case h_2=>exact hk.elim
   rename_i b hb
   have hy:=yieldedA_rep H hb
   split at hk
   ·rename_i hbw
    have:Region.wanted o (yielded ops a.tmps)=true:=by rw [Region.wanted,hg]; exact hy.trans hbw
    rw [if_pos this]
    exact .inl (hop hk)
   ·rename_i hbw
    have:Region.wanted o (yielded ops a.tmps)=false:=by rw [Region.wanted,hg]; exact hy.trans (by simpa using hbw)
    rw [if_neg (by simp [this])]
    refine ih (H.put (.f _ _ (.sc _))) hk fun s2 L2 a2 w2 h1 h2 h3 h4=>?_
    have hkk:∀ x,(s.put o.dst x).k=s.k:=fun x=>by unfold St.put; cases o.dst <;> rfl
    rw [hkk] at h3 h4
    exact hQ s2 L2 a2 w2 h1 h2 h3 h4
def Panics (P:Program) (f:FuncId) (args:List FV) (v:Value):Prop :=
 HasBody P f∧∀ (w:World) (F:Cells) (vals:Array Value),(∀ b o,F b o→b < w.heap.size)→vals.size=args.length→(∀ (j:Nat) x,args[j]?=some x→∃ v,vals[j]?=some v∧Rep w F x v) →
  Calls P f vals w fun e w'=>e=.panicked [{ v:=v,recovered:=false }]∧Below w.heap.size w w'
abbrev panicX (v:Value):Exit:=.panic [{ v:=v,recovered:=false }]
theorem calleeA_run {o:Oper} {s:St} {a:Act} {Q:Exit→Act→World→Prop} {K':Act→World→Prop} {f:FuncId} {as:List FV} {v:Value} (H:Rel B L s a w) (hc:calleeA (evA s.t) o.op=some (f,as)) (hp:Panics P f as v)
  (hQ:∀ L' w',Rel B L' s a w'→Ext L s.k w L' s.k w'→Q (panicX v) a w'):o.wp P a w K' Q:=by
 obtain ⟨hb,hg⟩:=hp
 unfold calleeA at hc
 split at hc
 case h_2=>cases hc
 rename_i g args ts hop
 split at hc
 case h_2=>cases hc
 rename_i f' cs hev
 split at hc
 case h_2=>cases hc
 rename_i as' has
 obtain ⟨rfl,rfl⟩:f'=f∧as' ++ cs=as:=by simpa using hc
 have hgv:=H.ev g
 rw [hev] at hgv
 obtain ⟨h1,h2⟩:=mapO_get has
 generalize hv:a.eval g=vg at hgv
 cases hgv with
 | f x v hx =>
  cases hx with
  | fn f cs ca vs hca hcv hcr =>
   unfold Oper.wp
   have hrun:(execOp a.eval o).run P w=.ok (.enter f' (args.map a.eval ++ ca)) w:=by
    simp only [execOp,hop,resolve,hv,Deferred.ofValue,Sem.run_bind,Sem.run_pure,Result.andThen_ok,invoke]
    rw [run_callFunc hb]; simp
   rw [hrun,Oper.upon_enter]
   refine (hg w L.F (args.map a.eval ++ ca) H.mem.fz (by simp [h1,hca]) (fun j x hj=>?_)).mono ?_
   ·rw [List.getElem?_append] at hj
    split at hj
    ·rename_i hlt
     have hja:j < args.toList.length:=by rw [← h1]; exact hlt
     obtain ⟨y,hy,hfz⟩:=h2 j args.toList[j] (List.getElem?_eq_getElem hja)
     rw [hj] at hy
     obtain rfl:=Option.some.inj hy
     refine ⟨a.eval args.toList[j],?_,fzA_rep (H.ev _) hfz⟩
     rw [Array.getElem?_append_left (by simpa using hja)]
     simp at hja
     simp [hja]
    ·rename_i hge
     refine ⟨vs (j - as'.length),?_,hcr _ x hj⟩
     rw [Array.getElem?_append_right (by simp; simp at h1; omega)]
     have:=hcv _ x hj
     simp at h1
     simpa [h1] using this
   ·rintro e w' ⟨rfl,hbel⟩
    obtain ⟨H1,he⟩:=H.mem.grow hbel (F':=L.F) (fun _ _ h=>h) (fun _ _ h=>.inl h) (fun b o h=>Nat.lt_of_lt_of_le (H.mem.fz b o h) hbel.size)
    exact hQ ⟨L.m,L.t,L.F⟩ w' ⟨H1,H.d,H.tmps.mono he (Nat.le_refl _)⟩ he
def wOpP (P:Program) (T:TV) (o:Oper) (s:St) (K:St→Prop) (Z:Value→St→Prop):Prop :=
 wOp P T true o s K∨∃ f as v,calleeA (evA s.t) o.op=some (f,as)∧Panics P f as v∧Z v s
def wOpsP (P:Program) (T:TV) (ops:Array Oper):List Oper→St→(St→Prop)→(Value→St→Prop)→Prop
 | [],s,K,_=>K s
 | o::rest,s,K,Z=>match o.guard with
  | none=>wOpP P T o s (fun s'=>wOpsP P T ops rest s' K Z) Z
  | some (j,want)=>match yieldedA ops s.t j want with
   | some b=>if b=true then wOpP P T o s (fun s'=>wOpsP P T ops rest s' K Z) Z else wOpsP P T ops rest (s.put o.dst undefA) K Z
   | none=>False
theorem wOpsP_run (hT:TOk P T) {ops:Array Oper} {Q:Exit→Act→World→Prop} (l:List Oper):∀ {s:St} {L:Lk} {a:Act} {w:World} {K:St→Prop} {Z:Value→St→Prop},Rel B L s a w→wOpsP P T ops l s K Z →
  (∀ s' L' a' w',K s'→Rel B L' s' a' w'→Ext L s.k w L' s'.k w'→s.k.length≤s'.k.length→Q .normal a' w') →
  (∀ v s' L' a' w',Z v s'→Rel B L' s' a' w'→Ext L s.k w L' s'.k w'→s.k.length≤s'.k.length→Q (panicX v) a' w')→wpList P ops Q l a w:=by
 induction l with
 | nil=>intro s L a w K Z H hk hQ _; exact hQ s L a w hk H (Ext.refl _ _ _) (Nat.le_refl _)
 | cons o l ih =>
  intro s L a w K Z H hk hQ hZ
  have hop:wOpP P T o s (fun s'=>wOpsP P T ops l s' K Z) Z→o.wp P a w (wpList P ops Q l) Q:=fun hw=>by
   rcases hw with hw | ⟨f,as,v,hc,hp,hz⟩
   ·exact wOp_run hT H hw fun s' L' a' w' hk' H' he hl=>ih H' hk' (fun s2 L2 a2 w2 h1 h2 h3 h4=>hQ s2 L2 a2 w2 h1 h2 (he.trans h3 hl) (Nat.le_trans hl h4)) (fun v s2 L2 a2 w2 h1 h2 h3 h4=>hZ v s2 L2 a2 w2 h1 h2 (he.trans h3 hl) (Nat.le_trans hl h4))
   ·exact calleeA_run H hc hp fun L' w' H' he=>hZ v s L' a w' hz H' he (Nat.le_refl _)
  simp only [wOpsP] at hk
  simp only [wpList]
  split at hk
  ·rename_i hg
   have:Region.wanted o (yielded ops a.tmps)=true:=by simp [Region.wanted,hg]
   rw [if_pos this]
   exact .inl (hop hk)
  ·rename_i j want hg
   split at hk
   case h_2=>exact hk.elim
   rename_i b hb
   have hy:=yieldedA_rep H hb
   split at hk
   ·rename_i hbw
    have:Region.wanted o (yielded ops a.tmps)=true:=by rw [Region.wanted,hg]; exact hy.trans hbw
    rw [if_pos this]
    exact .inl (hop hk)
   ·rename_i hbw
    have:Region.wanted o (yielded ops a.tmps)=false:=by rw [Region.wanted,hg]; exact hy.trans (by simpa using hbw)
    rw [if_neg (by simp [this])]
    have hkk:∀ x,(s.put o.dst x).k=s.k:=fun x=>by unfold St.put; cases o.dst <;> rfl
    refine ih (H.put (.f _ _ (.sc _))) hk (fun s2 L2 a2 w2 h1 h2 h3 h4=>?_) (fun v s2 L2 a2 w2 h1 h2 h3 h4=>?_)
    ·rw [hkk] at h3 h4; exact hQ s2 L2 a2 w2 h1 h2 h3 h4
    ·rw [hkk] at h3 h4; exact hZ v s2 L2 a2 w2 h1 h2 h3 h4
theorem wp_loop_ex {c:Code} {Q:Exit→Act→World→Prop} {a:Act} {w:World} (I:Nat→Act→World→Prop)
  (round:∀ n a w,I n a w→c.wp P (Exit.then (fun a' w'=>∃ m,m < n∧I m a' w') Q) a w) (n:Nat) (h₀:I n a w):(Code.loop c).wp P Q a w:=by
 intro b k cs
 have key:∀ n a w,I n a w→∃ e a' w',Q e a' w'∧Arrives P (lone (b.at a (.code c::.inLoop c::k)) cs w) b k cs e a' w':=by
  intro n
  induction n using Nat.strongRecOn with
  | _ n ih =>
   intro a w hI
   obtain ⟨e,a₁,w₁,hq,harr⟩:=round n a w hI b (.inLoop c::k) cs
   cases e with
   | normal =>
    obtain ⟨m,hlt,hI₁⟩:=hq
    obtain ⟨e₂,a₂,w₂,hq₂,harr₂⟩:=ih m hlt a₁ w₁ hI₁
    exact ⟨e₂,a₂,w₂,hq₂,.of_steps (Steps.trans harr (.one step_inLoop)) harr₂⟩
   | exit id=>exact ⟨_,a₁,w₁,hq,.pass (x:=.inLoop c) rfl (fun _ _=>.inl (by simp)) harr⟩
   | goto l=>exact ⟨_,a₁,w₁,hq,.pass (x:=.inLoop c) rfl (fun _ _=>.inl (by simp)) harr⟩
   | ret=>exact ⟨_,a₁,w₁,hq,.pass (x:=.inLoop c) rfl (fun _ _=>.inl (by simp)) harr⟩
   | panic ch=>exact ⟨_,a₁,w₁,hq,.pass (x:=.inLoop c) rfl (fun _ _=>.inl (by simp)) harr⟩
   | outgrown=>exact ⟨_,a₁,w₁,hq,.pass (x:=.inLoop c) rfl (fun _ _=>.inl (by simp)) harr⟩
 obtain ⟨e,a',w',hq,harr⟩:=key n a w h₀
 exact ⟨e,a',w',hq,.of_steps (.one step_loop) harr⟩
def W (P:Program) (c:Code) (s:St) (Q:Exit→St→Prop):Prop :=
 ∀ (B:Base) (L:Lk) (a:Act) (w:World),Rel B L s a w→c.wp P (Post B L s w Q) a w
section rules
variable {s:St} {Q:Exit→St→Prop}
theorem W.mono {c:Code} {Q':Exit→St→Prop} (h:W P c s Q) (hq:∀ e s',Q e s'→Q' e s'):W P c s Q' :=
 fun B L a w H=>wp_mono (h B L a w H) fun e a' w' ⟨s',L',h1,h2⟩=>⟨s',L',hq _ _ h1,h2⟩
theorem W.regionP (hT:TOk P T) {id:Nat} {ops:Array Oper} (h:wOpsP P T ops ops.toList s (Q .normal) (fun v s'=>Q (panicX v) s')):W P (.region id ops false) s Q :=
 fun B L a w H=>wp_region_list (wOpsP_run hT _ H h (fun s' L' a' w' h1 h2 h3 h4=>⟨s',L',h1,h2,h3,h4⟩) (fun v s' L' a' w' h1 h2 h3 h4=>⟨s',L',h1,h2,h3,h4⟩))
theorem Post.here {a:Act} {e:Exit} (H:Rel B L s a w) (h:Q e s):Post B L s w Q e a w:=⟨s,L,h,H,Ext.refl _ _ _,Nat.le_refl _⟩
theorem W.skip (h:Q .normal s):W P .skip s Q:=fun B L a w H=>wp_skip (Post.here H h)
theorem W.label {l:Nat} (h:Q .normal s):W P (.label l) s Q:=fun B L a w H=>wp_label (Post.here H h)
theorem W.exit {id:Nat} (h:Q (.exit id) s):W P (.exit id) s Q:=fun B L a w H=>wp_exit (Post.here H h)
theorem W.goto {l:Nat} (h:Q (.goto l) s):W P (.goto l) s Q:=fun B L a w H=>wp_goto (Post.here H h)
theorem W.ret (h:Q .ret s):W P .ret s Q:=fun B L a w H=>wp_ret (Post.here H h)
def Then (next:St→Prop) (Q:Exit→St→Prop):Exit→St→Prop
 | .normal,s=>next s
 | e,s=>Q e s
theorem W.seq {x y:Code} (h:W P x s (Then (fun s'=>W P y s' Q) Q)):W P (.seq x y) s Q:=fun B L a w H =>
 wp_seq (wp_mono (h B L a w H) fun e a' w' ⟨s',L',h1,h2,h3,h4⟩=>by
  cases e with
  | normal=>exact wp_mono (h1 B L' a' w' h2) fun e a2 w2 hp=>hp.of h3 h4
  | _=>exact ⟨s',L',h1,h2,h3,h4⟩)
theorem W.cond {c:Operand} {x y:Code} {q:Bool} (hc:evA s.t c=.f (.sc (.bool q))) (h:if q then W P x s Q else W P y s Q):W P (.cond c x y) s Q:=fun B L a w H=>by
 have:=H.ev c
 rw [hc] at this
 have hv:a.eval c=.bool q:=by
  generalize a.eval c=v at this
  cases this with | f x v hx=>cases hx; rfl
 cases q
 ·exact wp_cond_false hv (h B L a w H)
 ·exact wp_cond_true hv (h B L a w H)
def InBlock (id:Nat) (Q:Exit→St→Prop):Exit→St→Prop
 | .exit id',s=>if id'=id then Q .normal s else Q (.exit id') s
 | e,s=>Q e s
theorem W.block {id:Nat} {c:Code} (h:W P c s (InBlock id Q)):W P (.block id c) s Q:=fun B L a w H =>
 wp_block (wp_mono (h B L a w H) fun e a' w' ⟨s',L',h1,h2,h3,h4⟩=>by
  cases e with
  | exit id' =>
   simp only [InBlock] at h1
   simp only [Exit.inBlock]
   split
   ·rename_i he; rw [if_pos he] at h1; exact ⟨s',L',h1,h2,h3,h4⟩
   ·rename_i he; rw [if_neg he] at h1; exact ⟨s',L',h1,h2,h3,h4⟩
  | _=>exact ⟨s',L',h1,h2,h3,h4⟩)
theorem W.loop {c:Code} (I:Nat→St→Prop) (n:Nat) (h0:I n s) (round:∀ n s,I n s→W P c s (Then (fun s'=>∃ m,m < n∧I m s') Q)):W P (.loop c) s Q:=fun B L a w H =>
 wp_loop_ex (fun n a' w'=>∃ s' L',I n s'∧Rel B L' s' a' w'∧Ext L s.k w L' s'.k w'∧s.k.length≤s'.k.length) (fun n a' w' ⟨s',L',h1,h2,h3,h4⟩ =>
  wp_mono (round n s' h1 B L' a' w' h2) fun e a2 w2 ⟨s2,L2,g1,g2,g3,g4⟩=>by
   cases e with
   | normal=>obtain ⟨m,hm,hI⟩:=g1; exact ⟨m,hm,s2,L2,hI,g2,h3.trans g3 h4,Nat.le_trans h4 g4⟩
   | _=>exact ⟨s2,L2,g1,g2,h3.trans g3 h4,Nat.le_trans h4 g4⟩) n ⟨s,L,h0,H,Ext.refl _ _ _,Nat.le_refl _⟩
end rules
end Go.Proofs.YtafenffmgpcjcaaGreat.Vf
namespace Go.Proofs.YtafenffmgpcjcaaGreat.Vf
open Go.RowKit
set_option linter.unusedVariables false
set_option linter.unusedSimpArgs false
variable {B:Base} {L:Lk} {h:List (List AV)} {k:List (Nat × Nat)} {w:World} {P:Program} {T:TV}
def fzH (n0:Nat) (h:List (List AV)):Nat→AV→Option FV
 | _,.f x=>some x
 | _,.own l _=>some (.sl l .un)
 | n+1,.agg cs=>match mapO (fzH n0 h n) cs with
  | some fs=>some (.agg fs)
  | none=>none
 | n+1,.tup cs=>match mapO (fzH n0 h n) cs with
  | some fs=>some (.tup fs)
  | none=>none
 | n+1,.ms b off len cap sz=>match ix h b with
  | some cs=>if n0≤b∧sz ≠ 0∧off+len * sz≤cs.length∧len≤cap∧((cs.drop off).take (len * sz)).all AV.one=true then
    (match mapO (fzH n0 h n) ((cs.drop off).take (len * sz)) with
    | some fs=>if fs.all (fun y=>(AV.f y).one) then some (.sl (chunk (sz != 1) sz len fs) .un) else none
    | none=>none) else none
  | none=>none
 | _,_=>none
def Fall (n0:Nat) (L:Lk) (h:List (List AV)):Cells:=fun b o=>L.F b o∨∃ (i:Nat) (cs:List AV),n0≤i∧L.m[i]?=some b∧h[i]?=some cs∧o < cs.length
theorem fzH_rep {n0:Nat} (H:Mem B L h k w):∀ (n:Nat) {x:AV} {v:Value} {y:FV},RepA w L k x v→fzH n0 h n x=some y→Rep w (Fall n0 L h) y v:=by
 have hup:∀ {y:FV} {v:Value},Rep w L.F y v→Rep w (Fall n0 L h) y v:=fun hr=>hr.mono (fun _ _ h=>.inl h) (Keep.refl _ _)
 have hlist:∀ (n:Nat) (ih:∀ {x:AV} {v:Value} {y:FV},RepA w L k x v→fzH n0 h n x=some y→Rep w (Fall n0 L h) y v) (cs:List AV) (a:Array Value) (fs:List FV),RepL w L k cs a→mapO (fzH n0 h n) cs=some fs →
   ∃ vs:Nat→Value,a.size=fs.length∧(∀ (j:Nat) y,fs[j]?=some y→a[j]?=some (vs j))∧∀ (j:Nat) (y:FV),fs[j]?=some y→Rep w (Fall n0 L h) y (vs j):=fun n ih cs a fs hc hfs=>by
  obtain ⟨h1,h2⟩:=mapO_get hfs
  have key:∀ (j:Nat) y,fs[j]?=some y→∃ v,a[j]?=some v∧Rep w (Fall n0 L h) y v:=fun j y hj=>by
   have hjl:j < cs.length:=by rw [← h1]; exact (List.getElem?_eq_some_iff.1 hj).1
   obtain ⟨y',hy',hcf⟩:=h2 j cs[j] (List.getElem?_eq_getElem hjl)
   rw [hj] at hy'
   obtain rfl:=Option.some.inj hy'
   obtain ⟨v,hv,hr⟩:=hc.2 j cs[j] (List.getElem?_eq_getElem hjl)
   exact ⟨v,hv,ih hr hcf⟩
  refine ⟨fun j=>a.getD j undef,by rw [hc.1,h1],fun j y hj=>?_,fun j y hj=>?_⟩ <;> obtain ⟨v,hv,hr⟩:=key j y hj
  ·simp [hv]
  ·simpa [hv] using hr
 intro n
 induction n with
 | zero =>
  intro x v y hx hy
  cases hx with
  | f x v hx=>obtain rfl:=Option.some.inj hy; exact hup hx
  | own l t b o cap hr=>obtain rfl:=Option.some.inj hy; exact hup hr
  | _=>simp [fzH] at hy
 | succ n ih =>
  intro x v y hx hy
  have hc:=hx.cells
  cases hx with
  | f x v hx=>obtain rfl:=Option.some.inj hy; exact hup hx
  | own l t b o cap hr=>obtain rfl:=Option.some.inj hy; exact hup hr
  | ref b off c hm=>simp [fzH] at hy
  | any v h=>simp [fzH] at hy
  | fnr f cs a vs ha hv hr=>simp [fzH] at hy
  | agg cs a vs ha hv hr =>
   simp only [fzH,ix] at hy
   split at hy
   case h_2=>cases hy
   rename_i fs hfs
   obtain rfl:=Option.some.inj hy
   obtain ⟨vs,g1,g2,g3⟩:=hlist n ih cs a fs ⟨ha,fun j z hj=>⟨_,hv j z hj,hr j z hj⟩⟩ hfs
   exact .agg _ _ vs g1 g2 g3
  | tup cs a vs ha hv hr =>
   simp only [fzH,ix] at hy
   split at hy
   case h_2=>cases hy
   rename_i fs hfs
   obtain rfl:=Option.some.inj hy
   obtain ⟨vs,g1,g2,g3⟩:=hlist n ih cs a fs ⟨ha,fun j z hj=>⟨_,hv j z hj,hr j z hj⟩⟩ hfs
   exact .tup _ _ vs g1 g2 g3
  | ms b off len cap sz c hm =>
   simp only [fzH,ix] at hy
   split at hy
   case h_2=>cases hy
   rename_i cs hcs
   split at hy
   case isFalse=>cases hy
   rename_i hcond
   obtain ⟨hn0,hs0,hle,hlc,hone⟩:=hcond
   split at hy
   case h_2=>cases hy
   rename_i fs hfs
   split at hy
   case isFalse=>cases hy
   rename_i hfone
   obtain rfl:=Option.some.inj hy
   obtain ⟨h1,h2⟩:=mapO_get hfs
   have hlen:((cs.drop off).take (len * sz)).length=len * sz:=by simp; omega
   have hcell:∀ j,j < len * sz→∃ x v,((cs.drop off).take (len * sz))[j]?=some x∧w.cell? ⟨c,off+j,none⟩=some v∧RepA w L k x v∧v.oneCell'=true:=fun j hj=>by
    have hj':off+j < cs.length:=by omega
    obtain ⟨_,_,v,q3,q4,q5⟩:=H.heap b c (off+j) cs cs[off+j] hm hcs (List.getElem?_eq_getElem hj')
    exact ⟨cs[off+j],v,by rw [List.getElem?_take_of_lt hj,List.getElem?_drop]; exact List.getElem?_eq_getElem hj',q3,q4,q5⟩
   have hch:=chunk_get (ag:=(sz != 1)) (s:=sz) (n:=len) (cs:=fs) (by rw [h1,hlen]) (by
    by_cases e:sz=1
    ·exact .inr ⟨e,fun y hy=>FV.cells_one (by simpa using List.all_eq_true.1 hfone y hy)⟩
    ·exact .inl (by simp [e]))
   have hflat:Flat w (Fall n0 L h) (chunk (sz != 1) sz len fs) sz ((List.range (len * sz)).map fun j=>(w.cell? ⟨c,off+j,none⟩).getD undef):=by
    refine ⟨by simp [chunk_length],hch.1,fun v hv=>?_,fun i j x y hi hj=>?_⟩
    ·obtain ⟨q,hq,rfl⟩:=List.mem_map.1 hv
     obtain ⟨x,v,_,g2,_,g4⟩:=hcell q (List.mem_range.1 hq)
     rw [g2]; exact g4
    ·have hf:=hch.2 i j x y hi hj
     have hql:i * sz+j < len * sz:=by rw [← hlen,← h1]; exact (List.getElem?_eq_some_iff.1 hf).1
     obtain ⟨u,v,g1,g2,g3,g4⟩:=hcell _ hql
     obtain ⟨y',hy',hcf⟩:=h2 _ u g1
     rw [hf] at hy'
     obtain rfl:=Option.some.inj hy'
     exact ⟨v,by rw [List.getElem?_map,List.getElem?_range hql]; simp [g2],ih g3 hcf⟩
   have:=hflat.rep (c:=.un) (cap:=cap) (b:=c) (o:=off) (by simp) (by simp) (by rw [chunk_length]; exact hlc) (fun j v hj=>by
    have hjl:j < len * sz:=by have:=(List.getElem?_eq_some_iff.1 hj).1; simpa using this
    obtain ⟨u,v',g1,g2,g3,g4⟩:=hcell j hjl
    rw [List.getElem?_map,List.getElem?_range hjl] at hj
    have hv:v'=v:=by simpa [g2] using hj
    subst hv
    exact ⟨g2,.inr ⟨b,cs,hn0,hm,hcs,by omega⟩⟩)
   rw [chunk_length] at this
   exact this
def resA (T:TV) (h:List (List AV)) (t:List AV):ResultVar→Option AV
 | .tmp i=>some ((ix t i).getD undefA)
 | .cell a ty=>opLoad T h ty ((ix t a).getD undefA)
def resultA (T:TV) (rs:List ResultVar) (s:St):Option AV :=
 match mapO (resA T s.h s.t) rs with
 | some [x]=>some x
 | some xs=>some (.tup xs)
 | none=>none
def Ret (T:TV) (rs:List ResultVar) (R:FV→Prop):Exit→St→Prop:=fun e s =>
 (e=.normal∨e=.ret)∧match resultA T rs s with
  | some x=>∃ n y,fzH 0 s.h n x=some y∧R y
  | none=>False
theorem mem0 (w:World) (F:Cells) (hF:∀ b o,F b o→b < w.heap.size):Mem ⟨w,F⟩ ⟨[],[],F⟩ [] [] w :=
 ⟨Below.refl _ _,hF,fun _ _ h=>h,fun _ _ h=>.inl h,rfl,fun b c h=>by simp at h,fun b b' c h=>by simp at h,fun b c j cs x h=>by simp at h,rfl,fun t n sz r h=>by simp at h,fun t t' r r' h=>by simp at h⟩
theorem results_run (hT:TOk P T) {s:St} {a:Act} {fn:Func} {x:AV} (H:Rel B L s a w) (hx:resultA T fn.results.toList s=some x):∃ v,(results fn a.tmps).run P w=.ok v w∧RepA w L s.k x v:=by
 have hone:∀ (r:ResultVar) y,resA T s.h s.t r=some y→∃ v,((match r with
   | .tmp t=>pure (a.tmps.getD t undef)
   | .cell a' t=>do loadVar t (← asAddr (a.tmps.getD a' undef)):Sem Value)).run P w=.ok v w∧RepA w L s.k y v:=fun r y hy=>by
  cases r with
  | tmp i =>
   obtain rfl:=Option.some.inj hy
   exact ⟨_,rfl,H.ev (.tmp i)⟩
  | cell i ty =>
   obtain ⟨v,h1,h2⟩:=opLoad_run hT H.mem (H.ev (.tmp i)) hy
   refine ⟨v,?_,h2⟩
   have h3:(Instr.loadAt ty (a.tmps.getD i undef)).run P w=.ok v w:=h1
   show (do loadVar ty (← asAddr (a.tmps.getD i undef)):Sem Value).run P w=.ok v w
   generalize a.tmps.getD i undef=u at h3 ⊢
   cases u with
   | pointer ad=>cases ad <;> simp [Instr.loadAt,Instr.sureAddr] at h3 <;> simpa [asAddr] using h3
   | _=>simp [Instr.loadAt,Instr.sureAddr] at h3
 unfold resultA at hx
 have hall:∀ xs,mapO (resA T s.h s.t) fn.results.toList=some xs→∃ vs:Array Value,(fn.results.mapM fun
   | .tmp t=>pure (a.tmps.getD t undef)
   | .cell a' t=>do loadVar t (← asAddr (a.tmps.getD a' undef)):Sem (Array Value)).run P w=.ok vs w∧RepL w L s.k xs vs:=fun xs hxs=>by
  obtain ⟨h1,h2⟩:=mapO_get hxs
  have key:∀ r ∈ fn.results.toList,∃ v,((match r with
   | .tmp t=>pure (a.tmps.getD t undef)
   | .cell a' t=>do loadVar t (← asAddr (a.tmps.getD a' undef)):Sem Value)).run P w=.ok v w:=fun r hr=>by
   obtain ⟨q,hq⟩:=List.getElem?_of_mem hr
   obtain ⟨y,_,hy⟩:=h2 q r hq
   obtain ⟨v,hv,_⟩:=hone r y hy
   exact ⟨v,hv⟩
  have hch:∀ r,∃ v,r ∈ fn.results.toList→((match r with
   | .tmp t=>pure (a.tmps.getD t undef)
   | .cell a' t=>do loadVar t (← asAddr (a.tmps.getD a' undef)):Sem Value)).run P w=.ok v w:=fun r=>by
   by_cases hr:r ∈ fn.results.toList
   ·obtain ⟨v,hv⟩:=key r hr; exact ⟨v,fun _=>hv⟩
   ·exact ⟨undef,fun h=>absurd h hr⟩
  refine ⟨((fn.results.toList.map fun r=>Classical.choose (hch r))).toArray,?_,by simpa using h1.symm,fun j y hj=>?_⟩
  ·rw [Array.mapM_eq_mapM_toList]
   simp only [Sem.run_map]
   have:=run_mapM (P:=P) (w:=w) (fun r:ResultVar=>(match r with
    | .tmp t=>pure (a.tmps.getD t undef)
    | .cell a' t=>do loadVar t (← asAddr (a.tmps.getD a' undef)):Sem Value)) (fun r=>Classical.choose (hch r)) fn.results.toList (fun r hr=>Classical.choose_spec (hch r) hr)
   rw [this]
   rfl
  ·have hjl:j < fn.results.toList.length:=by rw [← h1]; exact (List.getElem?_eq_some_iff.1 hj).1
   obtain ⟨y',hy',hc⟩:=h2 j _ (List.getElem?_eq_getElem hjl)
   rw [hj] at hy'
   obtain rfl:=Option.some.inj hy'
   obtain ⟨v,hv,hr⟩:=hone _ y hc
   have hs:=Classical.choose_spec (hch fn.results.toList[j]) (List.getElem_mem hjl)
   have he:v=Classical.choose (hch fn.results.toList[j]):=by
    have:=hv.symm.trans hs
    simpa using this
   refine ⟨v,?_,hr⟩
   rw [List.getElem?_toArray,List.getElem?_map,List.getElem?_eq_getElem hjl]
   simp only [Option.map_some]
   rw [← he]
 split at hx
 ·rename_i y hy
  obtain rfl:=Option.some.inj hx
  obtain ⟨vs,h1,h2⟩:=hall [y] hy
  have hsz:vs.size=1:=h2.1
  obtain ⟨v,hv,hr⟩:=h2.2 0 y rfl
  refine ⟨v,?_,hr⟩
  simp only [results,Sem.run_bind]
  refine Eq.trans (congrArg (fun r=>Result.andThen r _) h1) ?_
  simp only [Result.andThen_ok,Sem.run_pure,hsz,dite_true]
  congr 1
  rw [Array.getElem?_eq_getElem (by omega)] at hv
  simpa using hv
 ·rename_i xs hne hxs
  obtain rfl:=Option.some.inj hx
  obtain ⟨vs,h1,h2⟩:=hall xs hxs
  have hsz:vs.size ≠ 1:=by
   rw [h2.1]
   intro e
   cases xs with
   | nil=>simp at e
   | cons y ys =>
    cases ys with
    | nil=>exact hne y rfl
    | cons z zs=>simp at e
  refine ⟨.tuple vs,?_,h2.tup⟩
  simp only [results,Sem.run_bind]
  refine Eq.trans (congrArg (fun r=>Result.andThen r _) h1) ?_
  simp only [Result.andThen_ok,Sem.run_pure,dif_neg hsz]
 ·cases hx
def initT (n:Nat) (args:List FV):List AV:=args.map .f ++ List.replicate (n - args.length) undefA
theorem init_rel {w:World} {F:Cells} {n:Nat} {args:List FV} {vals:Array Value} (hF:∀ b o,F b o→b < w.heap.size) (hs:vals.size=args.length) (hv:∀ (j:Nat) x,args[j]?=some x→∃ v,vals[j]?=some v∧Rep w F x v) :
  Rel ⟨w,F⟩ ⟨[],[],F⟩ ⟨initT n args,[],[]⟩ { tmps:=vals ++ Array.replicate (n - vals.size) undef,defers:=[] } w:=by
 refine ⟨mem0 w F hF,rfl,⟨by simp [initT,hs],fun j x hj=>?_⟩⟩
 unfold initT at hj
 rw [List.getElem?_append] at hj
 split at hj
 ·rename_i hlt
  rw [List.getElem?_map,Option.map_eq_some_iff] at hj
  obtain ⟨y,hy,rfl⟩:=hj
  obtain ⟨v,hv1,hr⟩:=hv j y hy
  exact ⟨v,by rw [Array.getElem?_append_left (Array.getElem?_eq_some_iff.1 hv1).1]; exact hv1,.f _ _ hr⟩
 ·rename_i hge
  simp only [List.length_map] at hge hj
  have hjl:=(List.getElem?_eq_some_iff.1 hj).1
  rw [List.length_replicate] at hjl
  rw [List.getElem?_replicate_of_lt hjl] at hj
  obtain rfl:=Option.some.inj hj
  refine ⟨undef,?_,.f _ _ (.sc _)⟩
  rw [Array.getElem?_append_right (by omega),Array.getElem?_replicate,if_pos (by omega)]
theorem Gives.of_W (hT : TOk P T) {f : FuncId} {fn : Func} {c : Code} {args : List FV} {r : FV} (hf : P.funcs[f]? = some fn) (hb : fn.body = some c) (hn : fn.name ≠ "runtime.NumGoroutine")
  (hw:W P c ⟨initT fn.ntmps args,[],[]⟩ (Ret T fn.results.toList (·=r))):Gives P f args r:=by
 refine ⟨⟨fn,hf,by rw [hb]; rfl,hn⟩,fun w F vals hF hs hv=>calls_of_wp hf hb ?_⟩
 have hrel:=init_rel (n:=fn.ntmps) hF hs hv
 refine wp_mono (hw _ _ _ _ hrel) fun e a' w' ⟨s',L',hq,H',he,hl⟩=>?_
 obtain ⟨hex,hres⟩:=hq
 split at hres
 case h_2=>exact hres.elim
 rename_i x hx
 obtain ⟨n,y,hy,rfl⟩:=hres
 obtain ⟨v,hv,hr⟩:=results_run hT H' hx
 have hrep:=fzH_rep H'.mem n hr hy
 have fin:a'.defers=[]∧∃ v,(results fn a'.tmps).run P w'=.ok v w'∧∃ v' F',Ending.returned v=.returned v'∧Rep w' F' y v'∧Below w.heap.size w w'∧(∀ b o,F b o→F' b o)∧(∀ b o,F' b o→F b o∨w.heap.size≤b)∧∀ b o,F' b o→b < w'.heap.size:=by
  refine ⟨H'.d,v,hv,v,Fall 0 L' s'.h,rfl,hrep,H'.mem.below,fun b o h=>.inl (H'.mem.f0 b o h),fun b o h=>?_,fun b o h=>?_⟩
  ·rcases h with h | ⟨i,cs,_,h1,_,_⟩
   ·exact H'.mem.f1 b o h
   ·exact .inr (H'.mem.mge i b h1).1
  ·rcases h with h | ⟨i,cs,_,h1,_,_⟩
   ·exact H'.mem.fz b o h
   ·exact (H'.mem.mge i b h1).2
 rcases hex with rfl | rfl
 ·exact fin
 ·exact fin
theorem Panics.of_W (hT : TOk P T) {f : FuncId} {fn : Func} {c : Code} {args : List FV} {v : Value} (hf : P.funcs[f]? = some fn) (hb : fn.body = some c) (hn : fn.name ≠ "runtime.NumGoroutine")
  (hw:W P c ⟨initT fn.ntmps args,[],[]⟩ (fun e _=>e=panicX v)):Panics P f args v:=by
 refine ⟨⟨fn,hf,by rw [hb]; rfl,hn⟩,fun w F vals hF hs hv=>calls_of_wp hf hb ?_⟩
 refine wp_mono (hw _ _ _ _ (init_rel (n:=fn.ntmps) hF hs hv)) fun e a' w' ⟨s',L',hq,H',he,hl⟩=>?_
 subst hq
 exact ⟨H'.d,rfl,H'.mem.below⟩
end Go.Proofs.YtafenffmgpcjcaaGreat.Vf
namespace Go.Proofs.YtafenffmgpcjcaaGreat.Vf
open Go.RowKit
set_option linter.unusedVariables false
set_option linter.unusedSimpArgs false
variable {B:Base} {L:Lk} {h:List (List AV)} {k:List (Nat × Nat)} {w:World} {P:Program} {T:TV}
def OpTo (P:Program) (T:TV) (o:Oper) (s s':St):Prop :=
 match calleeA (evA s.t) o.op with
 | some (f,as)=>∃ x k',CallTo P f as s.k x k'∧s'=(⟨s.t,s.h,k'⟩:St).put o.dst x
 | none=>∃ r,evOp P T (evA s.t) s.h s.k o=some r∧s'=s.to o.dst r
theorem wOp_iff {o:Oper} {s:St} {K:St→Prop}:wOp P T false o s K ↔ ∃ s',OpTo P T o s s'∧K s':=by
 unfold wOp OpTo
 cases hc:calleeA (evA s.t) o.op with
 | some p =>
  simp only [Bool.false_eq_true,false_and,or_false]
  exact ⟨fun ⟨x,k',h1,h2⟩=>⟨_,⟨x,k',h1,rfl⟩,h2⟩,fun ⟨s',⟨x,k',h1,h2⟩,h3⟩=>⟨x,k',h1,h2 ▸ h3⟩⟩
 | none =>
  simp only [Bool.false_eq_true,if_false]
  constructor
  ·intro hk
   cases hr:evOp P T (evA s.t) s.h s.k o with
   | some r=>simp only [hr] at hk; exact ⟨_,⟨r,rfl,rfl⟩,hk⟩
   | none=>simp [hr] at hk
  ·rintro ⟨s',⟨r,hr,rfl⟩,hk⟩
   rw [hr]; exact hk
def Stp (P:Program) (T:TV) (ops:Array Oper) (o:Oper) (s s':St):Prop :=
 match o.guard with
 | none=>OpTo P T o s s'
 | some (j,want)=>match yieldedA ops s.t j want with
  | some b=>if b=true then OpTo P T o s s' else s'=s.put o.dst undefA
  | none=>False
theorem wOps_cons {ops:Array Oper} {o:Oper} {l:List Oper} {s:St} {K:St→Prop}:wOps P T false ops (o::l) s K ↔ ∃ s',Stp P T ops o s s'∧wOps P T false ops l s' K:=by
 simp only [wOps,Stp]
 cases hg:o.guard with
 | none=>exact wOp_iff
 | some p =>
  obtain ⟨j,want⟩:=p
  simp only
  cases hy:yieldedA ops s.t j want with
  | none=>simp
  | some b =>
   simp only
   cases b
   ·simp
   ·simp only [if_true]; exact wOp_iff
structure Cls where
 rd:Bool
 wr:Bool
 al:Bool
 tk:Bool
def clsOf:Op→Cls
 | .load ..=>⟨true,false,false,false⟩
 | .store ..=>⟨false,true,false,false⟩
 | .alloc _=>⟨false,false,true,false⟩
 | .box ..=>⟨false,false,true,false⟩
 | .makeSlice ..=>⟨false,false,true,true⟩
 | .call ⟨.builtin .append,_,_⟩=>⟨false,false,false,true⟩
 | .call ⟨.value _,_,_⟩=>⟨false,false,false,true⟩
 | _=>⟨false,false,false,false⟩
def clash (a b:Op):Bool :=
 let x:=clsOf a; let y:=clsOf b
 (x.wr && (y.rd || y.wr)) || (x.rd && y.wr) || (x.al && (y.al || y.rd || y.wr)) || (x.tk && y.tk)
theorem evOp_pure {ρ:Operand→AV} {o:Oper} (hc:clsOf o.op=⟨false,false,false,false⟩) {r:AV × List (List AV) × List (Nat × Nat)} (ho:evOp P T ρ h k o=some r) :
  r.2.1=h∧r.2.2=k∧∀ h' k',evOp P T ρ h' k' o=some (r.1,h',k'):=by
 obtain ⟨x,h1,k1⟩:=r
 have hs:∀ {q:Option AV},still h k q=some (x,h1,k1)→h1=h∧k1=k∧∀ h' k',still h' k' q=some (x,h',k'):=fun {q} hq=>by
  cases q with
  | none=>simp [still] at hq
  | some y =>
   obtain ⟨rfl,rfl,rfl⟩:y=x∧h=h1∧k=k1:=by simpa [still] using hq
   exact ⟨rfl,rfl,fun _ _=>rfl⟩
 have hs2:∀ {y:AV},some (y,h,k)=some (x,h1,k1)→h1=h∧k1=k∧∀ (h':List (List AV)) (k':List (Nat × Nat)),some (y,h',k')=some (x,h',k'):=fun {y} hq=>by
  obtain ⟨rfl,rfl,rfl⟩:y=x∧h=h1∧k=k1:=by simpa using hq
  exact ⟨rfl,rfl,fun _ _=>rfl⟩
 simp only [evOp] at ho ⊢
 split at ho <;> rename_i hop <;> first
  | exact hs ho
  | exact hs2 ho
  | (rw [hop] at hc; simp [clsOf] at hc; done)
  | (split at ho <;> first | exact hs2 ho | (cases ho; done))
  | (unfold evCall at ho ⊢
     split at ho
     ·split at ho <;> first | exact hs ho | (cases ho; done)
     ·rw [hop] at hc; simp [clsOf] at hc
     ·exact hs ho
     ·cases ho)
  | (cases ho; done)
theorem opPure_congr {ρ ρ':Operand→AV} {o:Oper} (hs:∀ cs b,o.op ≠ .select cs b) (hρ:∀ y ∈ o.op.operands,ρ y=ρ' y):opPure P ρ o=opPure P ρ' o:=by
 unfold opPure
 have h1:o.op.operands.toList.all (fun x=>(ρ x).val.isSome)=o.op.operands.toList.all (fun x=>(ρ' x).val.isSome):=by
  rw [Bool.eq_iff_iff,List.all_eq_true,List.all_eq_true]
  exact ⟨fun h x hx=>by rw [← hρ x (by simpa using hx)]; exact h x hx,fun h x hx=>by rw [hρ x (by simpa using hx)]; exact h x hx⟩
 rw [h1,execOp_congr (ρ:=fun x=>((ρ x).val).getD undef) (ρ':=fun x=>((ρ' x).val).getD undef) o hs (fun y hy=>by simp only [hρ y hy])]
theorem evOp_congr {ρ ρ':Operand→AV} {o:Oper} (hρ:∀ y ∈ o.op.operands,ρ y=ρ' y):evOp P T ρ h k o=evOp P T ρ' h k o:=by
 have hp:(∀ cs b,o.op ≠ .select cs b)→opPure P ρ o=opPure P ρ' o:=fun hs=>opPure_congr hs hρ
 have pairs:∀ ps:Array (Nat × Operand),(∀ x ∈ ps.map (·.2),ρ x=ρ' x)→(ps.toList.map fun p=>(p.1,ρ p.2))=ps.toList.map fun p=>(p.1,ρ' p.2):=fun ps hq =>
  List.map_congr_left fun p hm=>by simp only [hq p.2 (Array.mem_map.2 ⟨p,by simpa using hm,rfl⟩)]
 simp only [evOp,orElse]
 cases hop:o.op <;> simp only [hop,Op.operands] at hρ hp ⊢
 case build t ps=>rw [pairs ps fun x hx=>hρ x (by simpa using hx)]
 case buildSlice t n ps=>rw [pairs ps fun x hx=>hρ x (by simpa using hx)]
 case makeFunc fn first cs=>rw [List.map_congr_left fun x hx=>hρ x (by simp at hx; simp [hx])]
 case slice t x lo hi mx =>
  rw [hp (by simp)]
  cases lo <;> cases hi <;> cases mx <;> simp_all
 case call c =>
  obtain ⟨cal,args,ts⟩:=c
  simp only [Call.operands] at hρ
  have hp':=hp (by simp)
  unfold evCall
  split
  ·split
   ·rename_i a t has hts
    simp only at has
    have h1:ρ a=ρ' a:=hρ a (Array.mem_append_right _ (by rw [← Array.mem_toList_iff,has]; simp))
    rw [← h1]
    cases hq:opLen T t (ρ a) with
    | none=>simp only [orElse]; rw [hp']
    | some z=>rfl
   ·rfl
  ·split
   ·rename_i a b t t' has hts
    simp only at has
    rw [hρ a (Array.mem_append_right _ (by rw [← Array.mem_toList_iff,has]; simp)),hρ b (Array.mem_append_right _ (by rw [← Array.mem_toList_iff,has]; simp))]
   ·rfl
  ·rw [hp']
  ·rfl
 all_goals first
  | rfl
  | (rw [hp (by simp)]; simp_all; done)
  | (simp_all; done)
theorem calleeA_congr {ρ ρ':Operand→AV} {o:Op} (hρ:∀ y ∈ o.operands,ρ y=ρ' y):calleeA ρ o=calleeA ρ' o:=by
 unfold calleeA
 split
 ·rename_i g args ts
  simp only [Op.operands,Call.operands] at hρ
  rw [hρ g (by simp)]
  have:mapO (fun x=>fzA (ρ x)) args.toList=mapO (fun x=>fzA (ρ' x)) args.toList:=by
   have:∀ l:List Operand,(∀ x ∈ l,ρ x=ρ' x)→mapO (fun x=>fzA (ρ x)) l=mapO (fun x=>fzA (ρ' x)) l:=fun l=>by
    induction l with
    | nil=>intro _; rfl
    | cons x l ih=>intro hl; simp only [mapO,hl x (.head _),ih fun y hy=>hl y (.tail _ hy)]
   exact this _ fun x hx=>hρ x (by simp at hx; simp [hx])
  rw [this]
 ·rfl
def Eff (P:Program) (T:TV) (ops:Array Oper) (o:Oper) (t:List AV) (h:List (List AV)) (k:List (Nat × Nat)) (x:AV) (h':List (List AV)) (k':List (Nat × Nat)):Prop :=
 let go:=match calleeA (evA t) o.op with
  | some (f,as)=>CallTo P f as k x k'∧h'=h
  | none=>evOp P T (evA t) h k o=some (x,h',k')
 match o.guard with
 | none=>go
 | some (j,want)=>match yieldedA ops t j want with
  | some b=>if b=true then go else x=undefA∧h'=h∧k'=k
  | none=>False
def putT (t:List AV) (d:Option Tmp) (x:AV):List AV:=match d with
 | some d=>t.set d x
 | none=>t
theorem put_eq (s:St) (d:Option Tmp) (x:AV):s.put d x=⟨putT s.t d x,s.h,s.k⟩:=by unfold St.put putT; cases d <;> rfl
theorem Stp_iff {ops:Array Oper} {o:Oper} {s s':St}:Stp P T ops o s s' ↔ ∃ x h' k',Eff P T ops o s.t s.h s.k x h' k'∧s'=⟨putT s.t o.dst x,h',k'⟩:=by
 have hgo:OpTo P T o s s' ↔ ∃ x h' k',(match calleeA (evA s.t) o.op with
  | some (f,as)=>CallTo P f as s.k x k'∧h'=s.h
  | none=>evOp P T (evA s.t) s.h s.k o=some (x,h',k'))∧s'=⟨putT s.t o.dst x,h',k'⟩:=by
  unfold OpTo
  cases hc:calleeA (evA s.t) o.op with
  | some p =>
   simp only [put_eq]
   exact ⟨fun ⟨x,k',h1,h2⟩=>⟨x,_,k',⟨h1,rfl⟩,h2⟩,fun ⟨x,h',k',⟨h1,e2⟩,h2⟩=>⟨x,k',h1,by rw [h2,e2]⟩⟩
  | none =>
   simp only [St.to,put_eq]
   exact ⟨fun ⟨r,h1,h2⟩=>⟨r.1,r.2.1,r.2.2,h1,h2⟩,fun ⟨x,h',k',h1,h2⟩=>⟨(x,h',k'),h1,h2⟩⟩
 unfold Stp Eff
 cases hg:o.guard with
 | none=>exact hgo
 | some p =>
  obtain ⟨j,want⟩:=p
  simp only
  cases hy:yieldedA ops s.t j want with
  | none=>simp
  | some b =>
   simp only
   cases b
   case true=>simp only [if_true]; exact hgo
   case false =>
    simp only [Bool.false_eq_true,if_false,put_eq]
    exact ⟨fun h=>⟨_,_,_,⟨rfl,rfl,rfl⟩,h⟩,fun ⟨x,h',k',⟨e1,e2,e3⟩,h2⟩=>by rw [h2,e1,e2,e3]⟩
theorem Eff_congr {ops:Array Oper} {o:Oper} {t t':List AV} {x:AV} {h':List (List AV)} {k':List (Nat × Nat)} (ht:∀ i ∈ o.looksAt ops,t[i]?=t'[i]?):Eff P T ops o t h k x h' k' ↔ Eff P T ops o t' h k x h' k':=by
 have hev:∀ y ∈ o.op.operands,evA t y=evA t' y:=fun y hy=>by
  cases y with
  | tmp i=>simp only [evA,ix]; rw [ht i (List.mem_append_left _ (List.mem_filterMap.2 ⟨.tmp i,by simpa using hy,rfl⟩))]
  | _=>rfl
 unfold Eff
 rw [calleeA_congr hev,evOp_congr hev]
 cases hg:o.guard with
 | none=>exact Iff.rfl
 | some p =>
  obtain ⟨j,want⟩:=p
  have:yieldedA ops t j want=yieldedA ops t' j want:=by
   unfold yieldedA
   simp only [ix]
   cases hd:(ops[j]?).bind (·.dst) with
   | none=>rfl
   | some d=>simp only; rw [ht d (List.mem_append_right _ (by simp [hg,hd]))]
  simp only [this]
theorem drop_append {α:Type} {l g:List α} {b:Nat} {x:α} (h:l[b]?=some x):(l ++ g)[b]?=some x:=by
 rw [List.getElem?_append_left (List.getElem?_eq_some_iff.1 h).1]; exact h
theorem evOp_load {ρ:Operand→AV} {o:Oper} {t:TypeId} {a:Operand} (hop:o.op=.load t a) {x:AV} {h':List (List AV)} {k':List (Nat × Nat)} (ho:evOp P T ρ h k o=some (x,h',k')) :
  h'=h∧k'=k∧∀ g k2,evOp P T ρ (h ++ g) k2 o=some (x,h ++ g,k2):=by
 simp only [evOp,hop] at ho ⊢
 cases hl:opLoad T h t (ρ a) with
 | none=>simp [hl,still] at ho
 | some y =>
  obtain ⟨rfl,rfl,rfl⟩:y=x∧h=h'∧k=k':=by simpa [still,hl] using ho
  refine ⟨rfl,rfl,fun g k2=>?_⟩
  have:opLoad T (h ++ g) t (ρ a)=some y:=by
   unfold opLoad at hl ⊢
   cases ht:T t with
   | none=>simp [ht] at hl
   | some ty =>
    simp only [ht] at hl ⊢
    cases hc:cellsAt h (ρ a) with
    | none=>simp [hc] at hl
    | some cs =>
     have:cellsAt (h ++ g) (ρ a)=some cs:=by
      unfold cellsAt at hc ⊢
      simp only [ix] at hc ⊢
      split at hc
      ·obtain ⟨c,h1,rfl⟩:=Option.map_eq_some_iff.1 hc
       rw [drop_append h1]; rfl
      ·exact hc
      ·cases hc
     rw [this]; rw [hc] at hl; exact hl
  rw [this]; rfl
theorem evOp_store {ρ:Operand→AV} {o:Oper} {t:TypeId} {a y:Operand} (hop:o.op=.store t a y) {x:AV} {h':List (List AV)} {k':List (Nat × Nat)} (ho:evOp P T ρ h k o=some (x,h',k')) :
  h'.length=h.length∧k'=k∧∀ g k2,evOp P T ρ (h ++ g) k2 o=some (x,h' ++ g,k2):=by
 simp only [evOp,hop] at ho ⊢
 cases hl:opStore T h t (ρ a) (ρ y) with
 | none=>simp [hl,stored] at ho
 | some h2 =>
  obtain ⟨rfl,rfl,rfl⟩:undefA=x∧h2=h'∧k=k':=by simpa [stored,hl] using ho
  unfold opStore at hl
  simp only [ix] at hl
  split at hl
  case h_2=>cases hl
  rename_i ty b off ht hra
  cases hc:h[b]? with
  | none=>simp [hc] at hl
  | some cs =>
   simp only [hc] at hl
   split at hl
   case isFalse=>cases hl
   rename_i hcond
   obtain rfl:=Option.some.inj hl
   have hbl:=(List.getElem?_eq_some_iff.1 hc).1
   refine ⟨by simp,rfl,fun g k2=>?_⟩
   simp only [opStore,ix,ht,hra,drop_append hc,if_pos hcond,stored]
   rw [List.set_append_left _ _ hbl]
theorem evOp_box {ρ:Operand→AV} {o:Oper} (hc:clsOf o.op=⟨false,false,true,false⟩) {x:AV} {h':List (List AV)} {k':List (Nat × Nat)} (ho:evOp P T ρ h k o=some (x,h',k')) :
  k'=k∧∃ g,h'=h ++ g∧∀ h2 k2,h2.length=h.length→evOp P T ρ h2 k2 o=some (x,h2 ++ g,k2):=by
 have hcase:(∃ t,o.op=.alloc t)∨∃ t y,o.op=.box t y:=by
  cases hop:o.op <;> rw [hop] at hc <;> first
   | exact .inl ⟨_,rfl⟩
   | exact .inr ⟨_,_,rfl⟩
   | (rename_i c; obtain ⟨cal,as,ts⟩:=c; cases cal <;> first | (simp [clsOf] at hc; done) | (rename_i b; cases b <;> simp [clsOf] at hc; done))
   | (simp [clsOf] at hc; done)
 rcases hcase with ⟨t,hop⟩ | ⟨t,y,hop⟩
 ·simp only [evOp,hop] at ho ⊢
  unfold opAlloc at ho ⊢
  cases ht:T t with
  | none=>simp [ht,boxed] at ho
  | some ty =>
   simp only [ht] at ho ⊢
   split at ho
   case isFalse=>cases ho
   rename_i h1
   obtain ⟨rfl,rfl,rfl⟩:AV.ref h.length 0=x∧h ++ [ty.z]=h'∧k=k':=by simpa [boxed] using ho
   exact ⟨rfl,[ty.z],rfl,fun h2 k2 hl=>by rw [if_pos h1,hl]; rfl⟩
 ·simp only [evOp,hop] at ho ⊢
  unfold opBox at ho ⊢
  split at ho
  case isFalse=>cases ho
  rename_i h1
  obtain ⟨rfl,rfl,rfl⟩:AV.ref h.length 0=x∧h ++ [(ρ y).cells]=h'∧k=k':=by simpa [boxed] using ho
  exact ⟨rfl,[(ρ y).cells],rfl,fun h2 k2 hl=>by rw [if_pos h1,hl]; rfl⟩
theorem evOp_make {ρ:Operand→AV} {o:Oper} {t:TypeId} {n c:Operand} (hop:o.op=.makeSlice t n c) {x:AV} {h':List (List AV)} {k':List (Nat × Nat)} (ho:evOp P T ρ h k o=some (x,h',k')) :
  ∃ g,h'=h ++ g∧∀ h2,h2.length=h.length→evOp P T ρ h2 k o=some (x,h2 ++ g,k'):=by
 simp only [evOp,hop] at ho ⊢
 unfold opMake at ho ⊢
 split at ho
 case h_2=>cases ho
 rename_i s1 s2 e s3 n0 c0 ht hn hc
 cases hte:T e with
 | none=>simp [hte] at ho
 | some ty =>
  simp only [hte] at ho ⊢
  split at ho
  case isTrue=>cases ho
  rename_i h1
  split at ho
  ·rename_i h2
   obtain ⟨rfl,rfl,rfl⟩:AV.own [] k.length=x∧h=h'∧k ++ [(0,ty.size)]=k':=by simpa using ho
   exact ⟨[],by simp,fun h3 hl=>by rw [if_neg h1,if_pos h2]; simp⟩
  ·rename_i h2
   split at ho
   case isFalse=>cases ho
   rename_i h3
   obtain ⟨rfl,rfl,rfl⟩:AV.ms h.length 0 n0 c0 ty.size=x∧h ++ [zeroRow ty.z n0]=h'∧k=k':=by simpa using ho
   exact ⟨[zeroRow ty.z n0],rfl,fun h4 hl=>by rw [if_neg h1,if_neg h2,if_pos h3,hl]⟩
theorem evOp_append {ρ:Operand→AV} {o:Oper} {as:Array Operand} {ts:Array TypeId} (hop:o.op=.call ⟨.builtin .append,as,ts⟩) {x:AV} {h':List (List AV)} {k':List (Nat × Nat)} (ho:evOp P T ρ h k o=some (x,h',k')) :
  h'=h∧∀ h2,evOp P T ρ h2 k o=some (x,h2,k'):=by
 simp only [evOp,hop,evCall] at ho ⊢
 split at ho
 ·rename_i a b t t' has hts
  split at ho
  case isFalse=>cases ho
  rename_i he
  cases hr:opAppend T k t (ρ a) (ρ b) with
  | none=>simp [hr,told] at ho
  | some p =>
   obtain ⟨y,k2⟩:=p
   obtain ⟨rfl,rfl,rfl⟩:y=x∧h=h'∧k2=k':=by simpa [told,hr] using ho
   exact ⟨rfl,fun h2=>by rw [if_pos he]; rfl⟩
 ·cases ho
end Go.Proofs.YtafenffmgpcjcaaGreat.Vf
namespace Go.Proofs.YtafenffmgpcjcaaGreat.Vf
open Go.RowKit
set_option linter.unusedVariables false
set_option linter.unusedSimpArgs false
variable {B:Base} {L:Lk} {h:List (List AV)} {k:List (Nat × Nat)} {w:World} {P:Program} {T:TV}
section
variable {ops:Array Oper} {o:Oper} {t:List AV} {x:AV} {h':List (List AV)} {k':List (Nat × Nat)}
theorem callee_cls {ρ:Operand→AV} {q:Op} {f:FuncId} {as:List FV} (h:calleeA ρ q=some (f,as)):∃ g ar ts,q=.call ⟨.value g,ar,ts⟩:=by
 unfold calleeA at h
 split at h
 ·exact ⟨_,_,_,rfl⟩
 ·cases h
theorem Eff_lift {h2 h3:List (List AV)} {k2 k3:List (Nat × Nat)} (H:Eff P T ops o t h k x h' k') (hev:∀ ρ,evOp P T ρ h k o=some (x,h',k')→evOp P T ρ h2 k2 o=some (x,h3,k3))
  (hct:∀ f as,calleeA (evA t) o.op=some (f,as)→CallTo P f as k x k'→h'=h→CallTo P f as k2 x k3∧h3=h2) (hs:h'=h→k'=k→h3=h2∧k3=k2):Eff P T ops o t h2 k2 x h3 k3:=by
 unfold Eff at H ⊢
 have hgo:(match calleeA (evA t) o.op with
  | some (f,as)=>CallTo P f as k x k'∧h'=h
  | none=>evOp P T (evA t) h k o=some (x,h',k'))→(match calleeA (evA t) o.op with
  | some (f,as)=>CallTo P f as k2 x k3∧h3=h2
  | none=>evOp P T (evA t) h2 k2 o=some (x,h3,k3)):=fun hg=>by
  cases hc:calleeA (evA t) o.op with
  | some p=>simp only [hc] at hg ⊢; exact hct _ _ hc hg.1 hg.2
  | none=>simp only [hc] at hg ⊢; exact hev _ hg
 cases hg:o.guard with
 | none=>simp only [hg] at H ⊢; exact hgo H
 | some p =>
  obtain ⟨j,want⟩:=p
  simp only [hg] at H ⊢
  cases hy:yieldedA ops t j want with
  | none=>simp [hy] at H
  | some b =>
   simp only [hy] at H ⊢
   cases b
   case true=>simp only [if_true] at H ⊢; exact hgo H
   case false=>simp only [Bool.false_eq_true,if_false] at H ⊢; exact ⟨H.1,hs H.2.1 H.2.2⟩
theorem Eff_cases (hn:∀ g ar ts,o.op ≠ .call ⟨.value g,ar,ts⟩) (H:Eff P T ops o t h k x h' k'):(∃ ρ,evOp P T ρ h k o=some (x,h',k'))∨(h'=h∧k'=k):=by
 unfold Eff at H
 have hgo:(match calleeA (evA t) o.op with
  | some (f,as)=>CallTo P f as k x k'∧h'=h
  | none=>evOp P T (evA t) h k o=some (x,h',k'))→(∃ ρ,evOp P T ρ h k o=some (x,h',k'))∨(h'=h∧k'=k):=fun hg=>by
  cases hc:calleeA (evA t) o.op with
  | some p=>obtain ⟨g,ar,ts,e⟩:=callee_cls hc; exact absurd e (hn g ar ts)
  | none=>simp only [hc] at hg; exact .inl ⟨_,hg⟩
 cases hg:o.guard with
 | none=>simp only [hg] at H; exact hgo H
 | some p =>
  obtain ⟨j,want⟩:=p
  simp only [hg] at H
  cases hy:yieldedA ops t j want with
  | none=>simp [hy] at H
  | some b =>
   simp only [hy] at H
   cases b
   case true=>simp only [if_true] at H; exact hgo H
   case false=>simp only [Bool.false_eq_true,if_false] at H; exact .inr H.2
theorem Eff_h (H:Eff P T ops o t h k x h' k'):(∃ ρ,evOp P T ρ h k o=some (x,h',k'))∨h'=h:=by
 unfold Eff at H
 have hgo:(match calleeA (evA t) o.op with
  | some (f,as)=>CallTo P f as k x k'∧h'=h
  | none=>evOp P T (evA t) h k o=some (x,h',k'))→(∃ ρ,evOp P T ρ h k o=some (x,h',k'))∨h'=h:=fun hg=>by
  cases hc:calleeA (evA t) o.op with
  | some p=>simp only [hc] at hg; exact .inr hg.2
  | none=>simp only [hc] at hg; exact .inl ⟨_,hg⟩
 cases hg:o.guard with
 | none=>simp only [hg] at H; exact hgo H
 | some p =>
  obtain ⟨j,want⟩:=p
  simp only [hg] at H
  cases hy:yieldedA ops t j want with
  | none=>simp [hy] at H
  | some b =>
   simp only [hy] at H
   cases b
   case true=>simp only [if_true] at H; exact hgo H
   case false=>simp only [Bool.false_eq_true,if_false] at H; exact .inr H.2.1
inductive Shape (o:Oper):Prop
 | pure (h:clsOf o.op=⟨false,false,false,false⟩)
 | load (t:TypeId) (a:Operand) (h:o.op=.load t a)
 | store (t:TypeId) (a y:Operand) (h:o.op=.store t a y)
 | box (h:clsOf o.op=⟨false,false,true,false⟩)
 | make (t:TypeId) (n c:Operand) (h:o.op=.makeSlice t n c)
 | append (as:Array Operand) (ts:Array TypeId) (h:o.op=.call ⟨.builtin .append,as,ts⟩)
 | call (g:Operand) (as:Array Operand) (ts:Array TypeId) (h:o.op=.call ⟨.value g,as,ts⟩)
theorem shape (o:Oper):Shape o:=by
 cases hop:o.op
 case load=>exact .load _ _ hop
 case store=>exact .store _ _ _ hop
 case alloc=>exact .box (by rw [hop]; rfl)
 case box=>exact .box (by rw [hop]; rfl)
 case makeSlice=>exact .make _ _ _ hop
 case call c =>
  obtain ⟨cal,as,ts⟩:=c
  cases cal
  case value g=>exact .call _ _ _ hop
  case builtin b =>
   cases b
   case append=>exact .append _ _ hop
   all_goals exact .pure (by rw [hop]; rfl)
  all_goals exact .pure (by rw [hop]; rfl)
 all_goals exact .pure (by rw [hop]; rfl)
theorem Eff_tk (hc:(clsOf o.op).tk=false) (H:Eff P T ops o t h k x h' k'):k'=k∧∀ k2,Eff P T ops o t h k2 x h' k2:=by
 have key:k'=k∧∀ ρ k2,evOp P T ρ h k o=some (x,h',k')→evOp P T ρ h k2 o=some (x,h',k2):=by
  cases shape o with
  | pure hp =>
   refine ⟨?_,fun ρ k2 he=>?_⟩
   ·rcases Eff_cases (fun g ar ts e=>by rw [e] at hp; cases hp) H with ⟨ρ,he⟩ | he
    ·exact (evOp_pure hp he).2.1
    ·exact he.2
   ·have:=evOp_pure hp he
    obtain rfl:h'=h:=this.1
    exact this.2.2 _ _
  | load ty a hop =>
   refine ⟨?_,fun ρ k2 he=>?_⟩
   ·rcases Eff_cases (fun g ar ts e=>by rw [e] at hop; cases hop) H with ⟨ρ,he⟩ | he
    ·exact (evOp_load hop he).2.1
    ·exact he.2
   ·have:=evOp_load hop he
    obtain rfl:h'=h:=this.1
    simpa using this.2.2 [] k2
  | store ty a y hop =>
   refine ⟨?_,fun ρ k2 he=>?_⟩
   ·rcases Eff_cases (fun g ar ts e=>by rw [e] at hop; cases hop) H with ⟨ρ,he⟩ | he
    ·exact (evOp_store hop he).2.1
    ·exact he.2
   ·simpa using (evOp_store hop he).2.2 [] k2
  | box hp =>
   refine ⟨?_,fun ρ k2 he=>?_⟩
   ·rcases Eff_cases (fun g ar ts e=>by rw [e] at hp; cases hp) H with ⟨ρ,he⟩ | he
    ·exact (evOp_box hp he).1
    ·exact he.2
   ·obtain ⟨_,g,rfl,h2⟩:=evOp_box hp he
    exact h2 h k2 rfl
  | make ty n c hop=>rw [hop] at hc; simp [clsOf] at hc
  | append as ts hop=>rw [hop] at hc; simp [clsOf] at hc
  | call g as ts hop=>rw [hop] at hc; simp [clsOf] at hc
 exact ⟨key.1,fun k2=>Eff_lift H (fun ρ he=>key.2 ρ k2 he) (fun f as hca _ _=>by obtain ⟨g,ar,ts,e⟩:=callee_cls hca; rw [e] at hc; simp [clsOf] at hc) fun e1 _=>⟨e1,rfl⟩⟩
theorem Eff_still (h1:(clsOf o.op).rd=false) (h2:(clsOf o.op).wr=false) (h3:(clsOf o.op).al=false) (H:Eff P T ops o t h k x h' k'):h'=h∧∀ g,Eff P T ops o t g k x g k':=by
 have key:h'=h∧∀ ρ g,evOp P T ρ h k o=some (x,h',k')→evOp P T ρ g k o=some (x,g,k'):=by
  cases shape o with
  | pure hp =>
   refine ⟨?_,fun ρ g he=>?_⟩
   ·rcases Eff_cases (fun g ar ts e=>by rw [e] at hp; cases hp) H with ⟨ρ,he⟩ | he
    ·exact (evOp_pure hp he).1
    ·exact he.1
   ·have:=evOp_pure hp he
    obtain rfl:k'=k:=this.2.1
    exact this.2.2 _ _
  | append as ts hop =>
   refine ⟨?_,fun ρ g he=>(evOp_append hop he).2 g⟩
   rcases Eff_cases (fun g ar ts e=>by rw [e] at hop; cases hop) H with ⟨ρ,he⟩ | he
   ·exact (evOp_append hop he).1
   ·exact he.1
  | load ty a hop=>rw [hop] at h1; simp [clsOf] at h1
  | store ty a y hop=>rw [hop] at h2; simp [clsOf] at h2
  | box hp=>rw [hp] at h3; simp at h3
  | make ty n c hop=>rw [hop] at h3; simp [clsOf] at h3
  | call g as ts hop =>
   have hno:∀ ρ,evOp P T ρ h k o=none:=fun ρ=>by simp [evOp,evCall,hop]
   refine ⟨?_,fun ρ g he=>by rw [hno ρ] at he; cases he⟩
   rcases Eff_h H with ⟨ρ,he⟩ | he
   ·rw [hno ρ] at he; cases he
   ·exact he
 exact ⟨key.1,fun g=>Eff_lift H (fun ρ he=>key.2 ρ g he) (fun f as _ hct _=>⟨hct,rfl⟩) fun _ e2=>⟨rfl,e2⟩⟩
theorem Eff_al (h3:(clsOf o.op).al=true) (H:Eff P T ops o t h k x h' k'):∃ g,h'=h ++ g∧∀ h2,h2.length=h.length→Eff P T ops o t h2 k x (h2 ++ g) k':=by
 have key:∃ g,h'=h ++ g∧∀ ρ h2,h2.length=h.length→evOp P T ρ h k o=some (x,h',k')→evOp P T ρ h2 k o=some (x,h2 ++ g,k'):=by
  cases shape o with
  | box hp =>
   rcases Eff_cases (fun g ar ts e=>by rw [e] at hp; cases hp) H with ⟨ρ,he⟩ | he
   ·obtain ⟨e1,g,rfl,h4⟩:=evOp_box hp he
    refine ⟨g,rfl,fun ρ' h2 hl he'=>?_⟩
    obtain ⟨e1',g',hg,h4'⟩:=evOp_box hp he'
    obtain rfl:=List.append_cancel_left hg
    rw [e1']; exact h4' h2 k hl
   ·refine ⟨[],by simp [he.1],fun ρ' h2 hl he'=>?_⟩
    obtain ⟨e1',g',hg,h4'⟩:=evOp_box hp he'
    have:g'=[]:=by rw [he.1] at hg; simpa using hg.symm
    subst this
    rw [e1']; exact h4' h2 k hl
  | make ty n c hop =>
   rcases Eff_cases (fun g ar ts e=>by rw [e] at hop; cases hop) H with ⟨ρ,he⟩ | he
   ·obtain ⟨g,rfl,h4⟩:=evOp_make hop he
    refine ⟨g,rfl,fun ρ' h2 hl he'=>?_⟩
    obtain ⟨g',hg,h4'⟩:=evOp_make hop he'
    obtain rfl:=List.append_cancel_left hg
    exact h4' h2 hl
   ·refine ⟨[],by simp [he.1],fun ρ' h2 hl he'=>?_⟩
    obtain ⟨g',hg,h4'⟩:=evOp_make hop he'
    have:g'=[]:=by rw [he.1] at hg; simpa using hg.symm
    subst this
    exact h4' h2 hl
  | pure hp=>rw [hp] at h3; simp at h3
  | append as ts hop=>rw [hop] at h3; simp [clsOf] at h3
  | load ty a hop=>rw [hop] at h3; simp [clsOf] at h3
  | store ty a y hop=>rw [hop] at h3; simp [clsOf] at h3
  | call g as ts hop=>rw [hop] at h3; simp [clsOf] at h3
 obtain ⟨g,rfl,hg⟩:=key
 exact ⟨g,rfl,fun h2 hl=>Eff_lift H (fun ρ he=>hg ρ h2 hl he) (fun f as hca _ _=>by obtain ⟨g,ar,ts,e⟩:=callee_cls hca; rw [e] at h3; simp [clsOf] at h3) fun e1 e2=>⟨by
  have:g=[]:=by simpa using e1
  simp [this],e2⟩⟩
theorem Eff_rdwr (h1:(clsOf o.op).rd=true∨(clsOf o.op).wr=true) (H:Eff P T ops o t h k x h' k'):h'.length=h.length∧((clsOf o.op).wr=false→h'=h)∧∀ g,Eff P T ops o t (h ++ g) k x (h' ++ g) k':=by
 have key:h'.length=h.length∧((clsOf o.op).wr=false→h'=h)∧∀ ρ g,evOp P T ρ h k o=some (x,h',k')→evOp P T ρ (h ++ g) k o=some (x,h' ++ g,k'):=by
  cases shape o with
  | load ty a hop =>
   have h0:h'=h:=by
    rcases Eff_cases (fun g ar ts e=>by rw [e] at hop; cases hop) H with ⟨ρ,he⟩ | he
    ·exact (evOp_load hop he).1
    ·exact he.1
   refine ⟨by rw [h0],fun _=>h0,fun ρ g he=>?_⟩
   have:=evOp_load hop he
   rw [this.1,this.2.1]; exact this.2.2 g k
  | store ty a y hop =>
   refine ⟨?_,fun hw=>by rw [hop] at hw; simp [clsOf] at hw,fun ρ g he=>?_⟩
   ·rcases Eff_cases (fun g ar ts e=>by rw [e] at hop; cases hop) H with ⟨ρ,he⟩ | he
    ·exact (evOp_store hop he).1
    ·rw [he.1]
   ·have:=evOp_store hop he
    rw [this.2.1]; exact this.2.2 g k
  | pure hp=>rw [hp] at h1; simp at h1
  | append as ts hop=>rw [hop] at h1; simp [clsOf] at h1
  | box hp=>rw [hp] at h1; simp at h1
  | make ty n c hop=>rw [hop] at h1; simp [clsOf] at h1
  | call g as ts hop=>rw [hop] at h1; simp [clsOf] at h1
 exact ⟨key.1,key.2.1,fun g=>Eff_lift H (fun ρ he=>key.2.2 ρ g he) (fun f as hca _ _=>by obtain ⟨g,ar,ts,e⟩:=callee_cls hca; rw [e] at h1; simp [clsOf] at h1) fun e1 e2=>⟨by rw [e1],e2⟩⟩
end
theorem putT_get {t:List AV} {d:Option Tmp} {x:AV} {i:Nat} (h:∀ e,d=some e→e ≠ i):(putT t d x)[i]?=t[i]?:=by
 cases d with
 | none=>rfl
 | some d=>exact List.getElem?_set_ne (h d rfl)
theorem putT_comm {t:List AV} {d e:Option Tmp} {x y:AV} (h:∀ i,d=some i→e ≠ some i):putT (putT t d x) e y=putT (putT t e y) d x:=by
 cases d with
 | none=>rfl
 | some d =>
  cases e with
  | none=>rfl
  | some e =>
   have hne:d ≠ e:=fun he=>h d rfl (he ▸ rfl)
   exact (List.set_comm _ _ hne)
theorem swap {ops:Array Oper} {a b:Oper} {s s1 s2:St} (hap:a.apart ops b=true) (hcl:clash a.op b.op=false) (h1:Stp P T ops a s s1) (h2:Stp P T ops b s1 s2) :
  ∃ s1',Stp P T ops b s s1'∧Stp P T ops a s1' s2:=by
 obtain ⟨a1,a2,a3⟩:=Oper.apart_spec hap
 obtain ⟨x,h',k',he,rfl⟩:=Stp_iff.1 h1
 obtain ⟨y,h'',k'',hf,rfl⟩:=Stp_iff.1 h2
 simp only at hf ⊢
 have hf0:Eff P T ops b s.t h' k' y h'' k'':=(Eff_congr fun i hi=>putT_get fun e hd=>fun hei=>a1 e hd (hei ▸ hi)).1 hf
 have hta:∀ z hh kk hh' kk',Eff P T ops a s.t hh kk x hh' kk'→Eff P T ops a (putT s.t b.dst z) hh kk x hh' kk':=fun z hh kk hh' kk' h =>
  (Eff_congr fun i hi=>putT_get fun e hd=>fun hei=>a3 e hd (hei ▸ hi)).2 h
 simp only [clash,Bool.or_eq_false_iff,Bool.and_eq_false_iff] at hcl
 obtain ⟨⟨⟨c1,c2⟩,c3⟩,c4⟩:=hcl
 have hk:∃ kb,(∃ hb,Eff P T ops b s.t hb k' y h'' k''∧hb=h')∧Eff P T ops b s.t h' s.k y h'' kb∧∀ hh hh',Eff P T ops a s.t hh s.k x hh' k'→Eff P T ops a s.t hh kb x hh' k'':=by
  rcases c4 with c4 | c4
  ·obtain ⟨rfl,hk⟩:=Eff_tk c4 he
   refine ⟨k'',⟨h',hf0,rfl⟩,hf0,fun hh hh' h=>?_⟩
   exact (Eff_tk c4 h).2 k''
  ·obtain ⟨rfl,hk⟩:=Eff_tk c4 hf0
   exact ⟨s.k,⟨h',hf0,rfl⟩,hk s.k,fun hh hh' h=>h⟩
 obtain ⟨kb,_,hfb,hak⟩:=hk
 suffices hh:∃ hb,Eff P T ops b s.t s.h s.k y hb kb∧Eff P T ops a s.t hb s.k x h'' k' by
  obtain ⟨hb,g1,g2⟩:=hh
  exact ⟨⟨putT s.t b.dst y,hb,kb⟩,Stp_iff.2 ⟨y,hb,kb,g1,rfl⟩,Stp_iff.2 ⟨x,h'',k'',hta _ _ _ _ _ (hak _ _ g2),by rw [putT_comm a2]⟩⟩
 by_cases hb0:(clsOf b.op).rd=false∧(clsOf b.op).wr=false∧(clsOf b.op).al=false
 ·obtain ⟨rfl,hg⟩:=Eff_still hb0.1 hb0.2.1 hb0.2.2 hfb
  exact ⟨s.h,hg s.h,he⟩
 by_cases ha0:(clsOf a.op).rd=false∧(clsOf a.op).wr=false∧(clsOf a.op).al=false
 ·obtain ⟨rfl,hg⟩:=Eff_still ha0.1 ha0.2.1 ha0.2.2 he
  exact ⟨h'',hfb,hg h''⟩
 have haal:(clsOf a.op).al=false:=by
  cases hq:(clsOf a.op).al with
  | false=>rfl
  | true =>
   rw [hq] at c3
   have:=c3.resolve_left (by simp)
   exact absurd ⟨this.1.2,this.2,this.1.1⟩ hb0
 have hardwr:(clsOf a.op).rd=true∨(clsOf a.op).wr=true:=by
  cases hq:(clsOf a.op).rd with
  | true=>exact .inl rfl
  | false =>
   cases hr:(clsOf a.op).wr with
   | true=>exact .inr rfl
   | false=>exact absurd ⟨hq,hr,haal⟩ ha0
 obtain ⟨hlen,hwr,hga⟩:=Eff_rdwr hardwr he
 cases hbal:(clsOf b.op).al with
 | true =>
  obtain ⟨g,rfl,hg⟩:=Eff_al hbal hfb
  exact ⟨s.h ++ g,hg s.h hlen.symm,hga g⟩
 | false =>
  have hbw:(clsOf b.op).rd=true∨(clsOf b.op).wr=true:=by
   cases hq:(clsOf b.op).rd with
   | true=>exact .inl rfl
   | false =>
    cases hr:(clsOf b.op).wr with
    | true=>exact .inr rfl
    | false=>exact absurd ⟨hq,hr,hbal⟩ hb0
  have haw:(clsOf a.op).wr=false:=by
   rcases c1 with c1 | c1
   ·exact c1
   ·rcases hbw with h | h
    ·rw [c1.1] at h; cases h
    ·rw [c1.2] at h; cases h
  have hbw2:(clsOf b.op).wr=false:=by
   rcases c2 with c2 | c2
   ·rw [c2,haw] at hardwr; rcases hardwr with h | h <;> cases h
   ·exact c2
  obtain rfl:=hwr haw
  obtain ⟨_,hwb,_⟩:=Eff_rdwr hbw hfb
  obtain rfl:=hwb hbw2
  exact ⟨_,hfb,he⟩
def hangs (ops:Array Oper):Nat→Nat→Nat→Bool
 | 0,_,_=>false
 | n+1,i,j=>match ops[i]? with
  | some o=>o.after.any fun e=>Region.binds .any e && (e.on == j || hangs ops n e.on j)
  | none=>false
def drawOk (ops:Array Oper):Bool :=
 (List.range ops.size).all fun i=>match ops[i]? with
  | some o=>(o.after.all fun e=>!Region.binds .any e || decide (e.on < i)) && (List.range i).all fun j=>hangs ops 6 i j || match ops[j]? with
   | some a=>a.apart ops o && !clash a.op o.op
   | none=>false
  | none=>false
theorem swaps {ops:Array Oper} {b:Oper} {K:St→Prop}:∀ (l:List Oper) {rest:List Oper} {s:St},(∀ a ∈ l,a.apart ops b=true∧clash a.op b.op=false)→wOps P T false ops (l ++ b::rest) s K→∃ s',Stp P T ops b s s'∧wOps P T false ops (l ++ rest) s' K:=by
 intro l
 induction l with
 | nil=>intro rest s _ h; exact wOps_cons.1 h
 | cons a l ih =>
  intro rest s hl h
  obtain ⟨s1,h1,h2⟩:=wOps_cons.1 h
  obtain ⟨s2,h3,h4⟩:=ih (fun c hc=>hl c (.tail _ hc)) h2
  obtain ⟨s3,h5,h6⟩:=swap (hl a (.head _)).1 (hl a (.head _)).2 h1 h3
  exact ⟨s3,h5,wOps_cons.2 ⟨s2,h6,h4⟩⟩
theorem Stp_wp (hT:TOk P T) {ops:Array Oper} {o:Oper} {s s':St} {a:Act} {Q:Exit→Act→World→Prop} {K:Act→World→Prop} (H:Rel B L s a w) (hs:Stp P T ops o s s')
  (hK:∀ L' a' w',Rel B L' s' a' w'→Ext L s.k w L' s'.k w'→s.k.length≤s'.k.length→K a' w') :
  if Region.wanted o (yielded ops a.tmps) then o.wp P a w K Q∨(o.asks P a w∧LetsOut Q) else K (a.put o.dst undef) w:=by
 have hgo:OpTo P T o s s'→o.wp P a w K Q:=fun h=>wOp_run (K:=(·=s')) hT H (wOp_iff.2 ⟨s',h,rfl⟩) fun s2 L' a' w' e h1 h2 h3=>by subst e; exact hK L' a' w' h1 h2 h3
 unfold Stp at hs
 cases hg:o.guard with
 | none =>
  simp only [hg] at hs
  rw [if_pos (by simp [Region.wanted,hg])]
  exact .inl (hgo hs)
 | some p =>
  obtain ⟨j,want⟩:=p
  simp only [hg] at hs
  cases hy:yieldedA ops s.t j want with
  | none=>simp [hy] at hs
  | some b =>
   simp only [hy] at hs
   have hyy:=yieldedA_rep H hy
   cases b
   case true =>
    simp only [if_true] at hs
    rw [if_pos (by rw [Region.wanted,hg]; exact hyy)]
    exact .inl (hgo hs)
   case false =>
    simp only [Bool.false_eq_true,if_false] at hs
    rw [if_neg (by rw [Region.wanted,hg]; simp only; rw [hyy]; simp)]
    subst hs
    have hkk:∀ x,(s.put o.dst x).k=s.k:=fun x=>by unfold St.put; cases o.dst <;> rfl
    exact hK L _ w (H.put (.f _ _ (.sc _))) (by rw [hkk]; exact Ext.refl _ _ _) (by rw [hkk]; exact Nat.le_refl _)
def left (n:Nat) (listed:Array Bool):List Nat:=(List.range n).filter fun i=>!listed.getD i true
def opsOf (ops:Array Oper) (l:List Nat):List Oper:=l.filterMap (ops[·]?)
theorem left_split {n i:Nat} {listed:Array Bool} (hs:n≤listed.size) (hi:i < n) (hl:listed.getD i true=false) :
  ∃ pre post,left n listed=pre ++ i::post∧left n (listed.setIfInBounds i true)=pre ++ post∧∀ j ∈ pre,j < i∧listed.getD j true=false:=by
 have hr:List.range n=List.range i ++ i::(List.range' (i+1) (n - i - 1)):=by
  apply List.ext_getElem?
  intro q
  rcases Nat.lt_trichotomy q i with h | h | h
  ·rw [List.getElem?_range (by omega),List.getElem?_append_left (by simpa using h),List.getElem?_range h]
  ·subst h; rw [List.getElem?_range hi,List.getElem?_append_right (by simp)]; simp
  ·rw [List.getElem?_append_right (by simp; omega),List.length_range]
   obtain ⟨d,hd⟩:∃ d,q - i=d+1:=⟨q - i - 1,by omega⟩
   rw [hd,List.getElem?_cons_succ]
   by_cases hq:q < n
   ·rw [List.getElem?_range hq,List.getElem?_range' (by omega)]; congr 1; omega
   ·rw [List.getElem?_eq_none (by simp; omega),List.getElem?_eq_none (by simp; omega)]
 have h2:∀ j,j ≠ i→(listed.setIfInBounds i true).getD j true=listed.getD j true:=fun j hj=>by simp [Array.getElem?_setIfInBounds_ne (fun e=>hj e.symm)]
 refine ⟨(List.range i).filter fun j=>!listed.getD j true,(List.range' (i+1) (n - i - 1)).filter fun j=>!listed.getD j true,?_,?_,fun j hj=>?_⟩
 ·unfold left
  rw [hr,List.filter_append,List.filter_cons]
  simp [hl]
 ·unfold left
  rw [hr,List.filter_append,List.filter_cons]
  have:(listed.setIfInBounds i true).getD i true=true:=by simp [Array.getElem?_setIfInBounds_self_of_lt (show i < listed.size by omega)]
  simp only [this,Bool.not_true,Bool.false_eq_true,if_false]
  congr 1
  ·exact List.filter_congr fun j hj=>by rw [h2 j (by have:=List.mem_range.1 hj; omega)]
  ·exact List.filter_congr fun j hj=>by rw [h2 j (by have:=List.mem_range'_1.1 hj; omega)]
 ·simp only [List.mem_filter,List.mem_range,Bool.not_eq_true'] at hj
  exact hj
theorem hangs_listed {ops:Array Oper} {listed:Array Bool} (hD:∀ (i:Nat) (o:Oper),listed.getD i false=true→ops[i]?=some o→∀ e ∈ o.after,Region.binds .any e=true→listed.getD e.on false=true):∀ (n i j:Nat),hangs ops n i j=true →
  (∀ o,ops[i]?=some o→∀ e ∈ o.after,Region.binds .any e=true→listed.getD e.on false=true)→listed.getD j false=true:=by
 intro n
 induction n with
 | zero=>intro i j h; simp [hangs] at h
 | succ n ih =>
  intro i j h hi
  simp only [hangs] at h
  cases ho:ops[i]? with
  | none=>simp [ho] at h
  | some o =>
   simp only [ho] at h
   obtain ⟨q,hq,h⟩:=Array.any_eq_true.1 h
   simp only [Bool.and_eq_true,Bool.or_eq_true,beq_iff_eq] at h
   obtain ⟨hb,h⟩:=h
   generalize he':o.after[q]=e at h hb
   have he:e ∈ o.after:=he' ▸ Array.getElem_mem hq
   have hl:=hi o ho e he hb
   rcases h with rfl | h
   ·exact hl
   ·exact ih e.on j h fun o' ho'=>hD e.on o' hl ho'
theorem draw_any (hT:TOk P T) {ops:Array Oper} (hok:drawOk ops=true) {Q:Exit→Act→World→Prop}:∀ (fuel:Nat) {listed:Array Bool} {s:St} {L:Lk} {a:Act} {w:World} {K:St→Prop},listed.size=ops.size→(left ops.size listed).length≤fuel →
  (∀ (i:Nat) (o:Oper),listed.getD i false=true→ops[i]?=some o→∀ e ∈ o.after,Region.binds .any e=true→listed.getD e.on false=true)→Rel B L s a w→wOps P T false ops (opsOf ops (left ops.size listed)) s K →
  (∀ s' L' a' w',K s'→Rel B L' s' a' w'→Ext L s.k w L' s'.k w'→s.k.length≤s'.k.length→Q .normal a' w')→wpAny P .any ops Q fuel listed a w:=by
 intro fuel
 have hdraw:∀ i o,ops[i]?=some o→(∀ e ∈ o.after,Region.binds .any e=true→e.on < i)∧∀ j,j < i→hangs ops 6 i j=true∨∃ a,ops[j]?=some a∧a.apart ops o=true∧clash a.op o.op=false:=fun i o ho=>by
  have hi:i < ops.size:=(Array.getElem?_eq_some_iff.1 ho).1
  have:=List.all_eq_true.1 hok i (List.mem_range.2 hi)
  simp only [ho,Bool.and_eq_true,Array.all_eq_true_iff_forall_mem,Bool.or_eq_true,Bool.not_eq_true',decide_eq_true_eq,List.all_eq_true,List.mem_range] at this
  refine ⟨fun e he hb=>(this.1 e he).resolve_left (by simp [hb]),fun j hj=>?_⟩
  rcases this.2 j hj with h | h
  ·exact .inl h
  ·cases hjo:ops[j]? with
   | none=>simp [hjo] at h
   | some a=>simp only [hjo,Bool.and_eq_true,Bool.not_eq_true'] at h; exact .inr ⟨a,rfl,h.1,h.2⟩
 have hready:∀ {listed:Array Bool},listed.size=ops.size→left ops.size listed ≠ []→Region.ready .any ops listed ≠ []:=fun {listed} hsz hne hr=>by
  obtain ⟨i,l,hl⟩:∃ i l,left ops.size listed=i::l:=by
   cases hq:left ops.size listed with
   | nil=>exact absurd hq hne
   | cons i l=>exact ⟨i,l,rfl⟩
  have hi:i ∈ left ops.size listed:=by rw [hl]; exact .head _
  simp only [left,List.mem_filter,List.mem_range,Bool.not_eq_true'] at hi
  have hmin:∀ j,j < i→listed.getD j false=true:=fun j hj=>by
   have hjl:j < listed.size:=by omega
   cases hq:listed.getD j true with
   | true=>simpa [Array.getElem?_eq_getElem hjl] using hq
   | false =>
    obtain ⟨pre,post,e1,_,e3⟩:=left_split (Nat.le_of_eq hsz.symm) (show j < ops.size by omega) hq
    rw [hl] at e1
    cases pre with
    | nil=>simp at e1; omega
    | cons p pre =>
     have e4:i=p:=by simpa using (List.cons.inj e1).1
     have:=(e3 p (.head _)).1
     omega
  have:i ∈ Region.ready .any ops listed:=mem_ready.2 ⟨hi.2,ops[i]'hi.1,Array.getElem?_eq_getElem hi.1,fun e he hb=>hmin _ ((hdraw i _ (Array.getElem?_eq_getElem hi.1)).1 e he hb)⟩
  rw [hr] at this
  cases this
 have hend:∀ {listed:Array Bool} {s:St} {L:Lk} {a:Act} {w:World} {K:St→Prop},left ops.size listed=[]→Rel B L s a w→wOps P T false ops (opsOf ops (left ops.size listed)) s K →
  (∀ s' L' a' w',K s'→Rel B L' s' a' w'→Ext L s.k w L' s'.k w'→s.k.length≤s'.k.length→Q .normal a' w')→Q .normal a w:=fun hl H hk hQ=>by
  rw [hl] at hk
  exact hQ _ _ _ _ hk H (Ext.refl _ _ _) (Nat.le_refl _)
 induction fuel with
 | zero =>
  intro listed s L a w K hsz hf hD H hk hQ
  have hl:left ops.size listed=[]:=List.eq_nil_of_length_eq_zero (by omega)
  refine ⟨?_,hend hl H hk hQ⟩
  cases hr:Region.ready .any ops listed with
  | nil=>rfl
  | cons i l =>
   have hi:i ∈ Region.ready .any ops listed:=by rw [hr]; exact .head _
   obtain ⟨h1,o,h2,_⟩:=mem_ready.1 hi
   have:i ∈ left ops.size listed:=by simp only [left,List.mem_filter,List.mem_range,h1]; exact ⟨(Array.getElem?_eq_some_iff.1 h2).1,rfl⟩
   rw [hl] at this; cases this
 | succ fuel ih =>
  intro listed s L a w K hsz hf hD H hk hQ
  refine ⟨fun hr=>?_,fun i hi=>?_⟩
  ·refine hend ?_ H hk hQ
   cases hl:left ops.size listed with
   | nil=>rfl
   | cons i l=>exact absurd hr (hready hsz (by rw [hl]; simp))
  ·obtain ⟨h1,o,h2,h3⟩:=mem_ready.1 hi
   have hil:=(Array.getElem?_eq_some_iff.1 h2).1
   obtain ⟨pre,post,e1,e2,e3⟩:=left_split (Nat.le_of_eq hsz.symm) hil h1
   have hops:opsOf ops (left ops.size listed)=opsOf ops pre ++ o::opsOf ops post:=by
    rw [e1]; simp [opsOf,List.filterMap_append,List.filterMap_cons,h2]
   rw [hops] at hk
   obtain ⟨s',hs,hk'⟩:=swaps (opsOf ops pre) (fun c hc=>by
    obtain ⟨j,hj,hc⟩:=List.mem_filterMap.1 hc
    obtain ⟨g1,g2⟩:=e3 j hj
    rcases (hdraw i o h2).2 j g1 with h | ⟨a',h4,h5,h6⟩
    ·have:=hangs_listed hD 6 i j h (fun o' ho' e he hb=>h3 e (by rw [h2] at ho'; exact (Option.some.inj ho') ▸ he) hb)
     have hjl:j < listed.size:=by omega
     simp only [Array.getD_eq_getD_getElem?,Array.getElem?_eq_getElem hjl,Option.getD_some] at this g2
     rw [this] at g2; cases g2
    ·rw [hc] at h4
     obtain rfl:=Option.some.inj h4
     exact ⟨h5,h6⟩) hk
   have hD':∀ (j:Nat) (o':Oper),(listed.setIfInBounds i true).getD j false=true→ops[j]?=some o'→∀ e ∈ o'.after,Region.binds .any e=true→(listed.setIfInBounds i true).getD e.on false=true:=fun j o' hj ho' e he hb=>by
    by_cases hji:j=i
    ·subst hji
     rw [h2] at ho'
     obtain rfl:=Option.some.inj ho'
     exact getD_set_true (h3 e he hb)
    ·rw [getD_set_ne false (fun q=>hji q.symm)] at hj
     exact getD_set_true (hD j o' hj ho' e he hb)
   unfold wpOp
   simp only [h2]
   refine Stp_wp hT H hs fun L' a' w' H' he hl=>?_
   refine ih (by simpa using hsz) ?_ hD' H' (by rw [e2]; simpa [opsOf,List.filterMap_append] using hk') fun s2 L2 a2 w2 g1 g2 g3 g4=>hQ s2 L2 a2 w2 g1 g2 (he.trans g3 hl) (Nat.le_trans hl g4)
   rw [e2]
   rw [e1] at hf
   simp at hf ⊢
   omega
theorem opsOf_range (ops:Array Oper):opsOf ops (List.range ops.size)=ops.toList:=by
 unfold opsOf
 apply List.ext_getElem?
 intro q
 have:∀ n,n≤ops.size→(List.range n).filterMap (ops[·]?)=ops.toList.take n:=fun n=>by
  induction n with
  | zero=>intro _; simp
  | succ n ih =>
   intro hn
   have hlt:n < ops.size:=by omega
   rw [List.range_succ,List.filterMap_append,ih (by omega),List.take_add_one]
   congr 1
   simp [Array.getElem?_eq_getElem hlt,List.getElem?_eq_getElem (show n < ops.toList.length by simpa using hlt)]
 rw [this _ (Nat.le_refl _),List.take_of_length_le (by simp)]
def lastHang (ops:Array Oper):Bool:=(List.range (ops.size - 1)).all fun j=>hangs ops ops.size (ops.size - 1) j
theorem draw_last (hT:TOk P T) {ops:Array Oper} (hok:drawOk ops=true) (hlh:lastHang ops=true) {m:Nat} {ol:Oper} (hm:ops.size=m+1) (hol:ops[m]?=some ol) {Q:Exit→Act→World→Prop}:∀ (fuel:Nat) {listed:Array Bool} {s:St} {L:Lk} {a:Act} {w:World} {K:St→Prop} {Z:Value→St→Prop},listed.size=ops.size→listed.getD m true=false→(left m listed).length+1≤fuel →
  (∀ (i:Nat) (o:Oper),listed.getD i false=true→ops[i]?=some o→∀ e ∈ o.after,Region.binds .any e=true→listed.getD e.on false=true)→Rel B L s a w→wOps P T false ops (opsOf ops (left m listed)) s (fun s1=>ol.guard=none∧wOpP P T ol s1 K Z) →
  (∀ s' L' a' w',K s'→Rel B L' s' a' w'→Ext L s.k w L' s'.k w'→s.k.length≤s'.k.length→Q .normal a' w') →
  (∀ v s' L' a' w',Z v s'→Rel B L' s' a' w'→Ext L s.k w L' s'.k w'→s.k.length≤s'.k.length→Q (panicX v) a' w')→wpAny P .any ops Q fuel listed a w:=by
 intro fuel
 have hdraw:∀ i o,ops[i]?=some o→(∀ e ∈ o.after,Region.binds .any e=true→e.on < i)∧∀ j,j < i→hangs ops 6 i j=true∨∃ a,ops[j]?=some a∧a.apart ops o=true∧clash a.op o.op=false:=fun i o ho=>by
  have hi:i < ops.size:=(Array.getElem?_eq_some_iff.1 ho).1
  have:=List.all_eq_true.1 hok i (List.mem_range.2 hi)
  simp only [ho,Bool.and_eq_true,Array.all_eq_true_iff_forall_mem,Bool.or_eq_true,Bool.not_eq_true',decide_eq_true_eq,List.all_eq_true,List.mem_range] at this
  refine ⟨fun e he hb=>(this.1 e he).resolve_left (by simp [hb]),fun j hj=>?_⟩
  rcases this.2 j hj with h | h
  ·exact .inl h
  ·cases hjo:ops[j]? with
   | none=>simp [hjo] at h
   | some a=>simp only [hjo,Bool.and_eq_true,Bool.not_eq_true'] at h; exact .inr ⟨a,rfl,h.1,h.2⟩
 induction fuel with
 | zero=>intro listed s L a w K Z hsz hml hf; omega
 | succ fuel ih =>
  intro listed s L a w K Z hsz hml hf hD H hk hQ hZ
  refine ⟨fun hr=>?_,fun i hi=>?_⟩
  · -- the least that is left may come
   exfalso
   have key:∀ i,i≤m→listed.getD i true=true:=by
    intro i
    induction i using Nat.strongRecOn with
    | _ i ihi =>
     intro him
     cases hq:listed.getD i true with
     | true=>rfl
     | false =>
      have hil:i < ops.size:=by omega
      have:i ∈ Region.ready .any ops listed:=mem_ready.2 ⟨hq,ops[i]'hil,Array.getElem?_eq_getElem hil,fun e he hb=>by
       have hlt:=(hdraw i _ (Array.getElem?_eq_getElem hil)).1 e he hb
       have:=ihi e.on hlt (by omega)
       have hjl:e.on < listed.size:=by omega
       simpa [Array.getElem?_eq_getElem hjl] using this⟩
      rw [hr] at this; cases this
   rw [key m (Nat.le_refl _)] at hml; cases hml
  ·obtain ⟨h1,o,h2,h3⟩:=mem_ready.1 hi
   have hil:=(Array.getElem?_eq_some_iff.1 h2).1
   have hD':∀ (j:Nat) (o':Oper),(listed.setIfInBounds i true).getD j false=true→ops[j]?=some o'→∀ e ∈ o'.after,Region.binds .any e=true→(listed.setIfInBounds i true).getD e.on false=true:=fun j o' hj ho' e he hb=>by
    by_cases hji:j=i
    ·subst hji
     rw [h2] at ho'
     obtain rfl:=Option.some.inj ho'
     exact getD_set_true (h3 e he hb)
    ·rw [getD_set_ne false (fun q=>hji q.symm)] at hj
     exact getD_set_true (hD j o' hj ho' e he hb)
   by_cases him:i=m
   ·subst him
    rw [hol] at h2
    obtain rfl:=Option.some.inj h2
    have hall:∀ j,j < i→listed.getD j false=true:=fun j hj=>by
     have hh:hangs ops ops.size (ops.size - 1) j=true:=List.all_eq_true.1 hlh j (List.mem_range.2 (by omega))
     rw [show ops.size - 1=i by omega] at hh
     exact hangs_listed hD _ i j hh fun o' ho' e he hb=>h3 e (by rw [hol] at ho'; exact (Option.some.inj ho') ▸ he) hb
    have hempty:left i listed=[]:=by
     unfold left
     rw [List.filter_eq_nil_iff]
     intro j hj hq
     have:=hall j (List.mem_range.1 hj)
     have hjl:j < listed.size:=by have:=List.mem_range.1 hj; omega
     simp only [Array.getD_eq_getD_getElem?,Array.getElem?_eq_getElem hjl,Option.getD_some] at this hq
     rw [this] at hq; cases hq
    rw [hempty] at hk
    obtain ⟨hg,hk⟩:ol.guard=none∧wOpP P T ol s K Z:=hk
    unfold wpOp
    simp only [hol]
    rw [if_pos (by simp [Region.wanted,hg])]
    have hdone:∀ {a:Act} {w:World},Q .normal a w→wpAny P .any ops Q fuel (listed.setIfInBounds i true) a w:=fun {a w} hq=>by
     have hr:Region.ready .any ops (listed.setIfInBounds i true)=[]:=by
      apply List.eq_nil_iff_forall_not_mem.2
      intro j hj
      obtain ⟨g1,oj,g2,_⟩:=mem_ready.1 hj
      have hjl:=(Array.getElem?_eq_some_iff.1 g2).1
      by_cases hji:j=i
      ·subst hji; simp [Array.getElem?_setIfInBounds_self_of_lt (show j < listed.size by omega)] at g1
      ·have:=hall j (by omega)
       rw [getD_set_ne true (fun q=>hji q.symm)] at g1
       simp only [Array.getD_eq_getD_getElem?,Array.getElem?_eq_getElem (show j < listed.size by omega),Option.getD_some] at this g1
       rw [this] at g1; cases g1
     cases fuel with
     | zero=>exact ⟨hr,hq⟩
     | succ fuel=>exact ⟨fun _=>hq,fun j hj=>by rw [hr] at hj; cases hj⟩
    rcases hk with hk | ⟨f,as,v,hc,hp,hz⟩
    ·exact .inl (wOp_run hT H hk fun s' L' a' w' hk' H' he hl=>hdone (hQ s' L' a' w' hk' H' he hl))
    ·exact .inl (calleeA_run H hc hp fun L' w' H' he=>hZ v s L' a w' hz H' he (Nat.le_refl _))
   ·have him':i < m:=by omega
    obtain ⟨pre,post,e1,e2,e3⟩:=left_split (n:=m) (by omega) him' h1
    have hops:opsOf ops (left m listed)=opsOf ops pre ++ o::opsOf ops post:=by
     rw [e1]; simp [opsOf,List.filterMap_append,List.filterMap_cons,h2]
    rw [hops] at hk
    obtain ⟨s',hs,hk'⟩:=swaps (opsOf ops pre) (fun c hc=>by
     obtain ⟨j,hj,hc⟩:=List.mem_filterMap.1 hc
     obtain ⟨g1,g2⟩:=e3 j hj
     rcases (hdraw i o h2).2 j g1 with h | ⟨a',h4,h5,h6⟩
     ·have:=hangs_listed hD 6 i j h (fun o' ho' e he hb=>h3 e (by rw [h2] at ho'; exact (Option.some.inj ho') ▸ he) hb)
      have hjl:j < listed.size:=by omega
      simp only [Array.getD_eq_getD_getElem?,Array.getElem?_eq_getElem hjl,Option.getD_some] at this g2
      rw [this] at g2; cases g2
     ·rw [hc] at h4
      obtain rfl:=Option.some.inj h4
      exact ⟨h5,h6⟩) hk
    unfold wpOp
    simp only [h2]
    refine Stp_wp hT H hs fun L' a' w' H' he hl=>?_
    refine ih (by simpa using hsz) (by rw [getD_set_ne true him]; exact hml) ?_ hD' H' (by rw [e2]; simpa [opsOf,List.filterMap_append] using hk') (fun s2 L2 a2 w2 g1 g2 g3 g4=>hQ s2 L2 a2 w2 g1 g2 (he.trans g3 hl) (Nat.le_trans hl g4)) (fun v s2 L2 a2 w2 g1 g2 g3 g4=>hZ v s2 L2 a2 w2 g1 g2 (he.trans g3 hl) (Nat.le_trans hl g4))
    rw [e2]
    rw [e1] at hf
    simp at hf ⊢
    omega
theorem opsOf_range' (ops:Array Oper) (n:Nat) (hn:n≤ops.size):opsOf ops (List.range n)=ops.toList.take n:=by
 unfold opsOf
 induction n with
 | zero=>simp
 | succ n ih =>
  have hlt:n < ops.size:=by omega
  rw [List.range_succ,List.filterMap_append,ih (by omega),List.take_add_one]
  congr 1
  simp [Array.getElem?_eq_getElem hlt,List.getElem?_eq_getElem (show n < ops.toList.length by simpa using hlt)]
theorem wOps_imp' {ops:Array Oper} {l:List Oper} {K K':St→Prop} (hk:∀ s,K s→K' s):∀ {s:St},wOps P T false ops l s K→wOps P T false ops l s K':=by
 induction l with
 | nil=>intro s h; exact hk _ h
 | cons o l ih=>intro s h; obtain ⟨s1,h1,h2⟩:=wOps_cons.1 h; exact wOps_cons.2 ⟨s1,h1,ih h2⟩
theorem W.drawL (hT:TOk P T) (hm:P.follows .mixedOrders=true) {id:Nat} {ops:Array Oper} {s:St} {Q:Exit→St→Prop} {ol:Oper} (hok:drawOk ops=true) (hlh:lastHang ops=true) (hol:ops.toList.getLast?=some ol) (hg:ol.guard=none)
  (h:wOps P T false ops ops.toList.dropLast s (fun s1=>wOpP P T ol s1 (Q .normal) (fun v s'=>Q (panicX v) s'))):W P (.region id ops true) s Q:=fun B L a w H=>by
 have H':Rel B L s a w.drew:=⟨H.mem.drew,H.d,H.tmps.mono (Ext.drew _ _ _) (Nat.le_refl _)⟩
 refine wp_region_any hm ?_
 obtain ⟨m,hm1⟩:∃ m,ops.size=m+1:=by
  cases hq:ops.size with
  | zero=>rw [Array.eq_empty_of_size_eq_zero hq] at hol; simp at hol
  | succ m=>exact ⟨m,rfl⟩
 have hol':ops[m]?=some ol:=by
  rw [List.getLast?_eq_getElem?] at hol
  simpa [hm1] using hol
 have hl:left m (Array.replicate ops.size false)=List.range m:=by
  unfold left
  rw [List.filter_eq_self]
  intro i hi
  have:=List.mem_range.1 hi
  simp [show i < ops.size by omega]
 refine draw_last hT hok hlh hm1 hol' ops.size (by simp) (by simp [hm1]) (by rw [hl]; simp; omega) (fun i o hi=>?_) H' (K:=Q .normal) (Z:=fun v s'=>Q (panicX v) s') (by
  rw [hl,opsOf_range' ops m (by omega)]
  have e:ops.toList.dropLast=ops.toList.take m:=by rw [List.dropLast_eq_take]; simp [hm1]
  rw [e] at h
  exact (wOps_imp' (fun s1 h1=>⟨hg,h1⟩) h)) (fun s' L' a' w' h1 h2 h3 h4=>⟨s',L',h1,h2,(Ext.drew L s.k w).trans h3 (Nat.le_refl _),h4⟩) (fun v s' L' a' w' h1 h2 h3 h4=>⟨s',L',h1,h2,(Ext.drew L s.k w).trans h3 (Nat.le_refl _),h4⟩)
 have hlt:i < ops.size∨ops.size≤i:=by omega
 rcases hlt with h | h
 ·simp [h] at hi
 ·simp [Array.getElem?_eq_none (show (Array.replicate ops.size false).size≤i by simpa using h)] at hi
theorem W.draw (hT:TOk P T) (hm:P.follows .mixedOrders=true) {id:Nat} {ops:Array Oper} {s:St} {Q:Exit→St→Prop} (hok:drawOk ops=true) (h:wOps P T false ops ops.toList s (Q .normal)):W P (.region id ops true) s Q:=fun B L a w H=>by
 have H':Rel B L s a w.drew:=⟨H.mem.drew,H.d,H.tmps.mono (Ext.drew _ _ _) (Nat.le_refl _)⟩
 refine wp_region_any hm ?_
 have hl:left ops.size (Array.replicate ops.size false)=List.range ops.size:=by
  unfold left
  rw [List.filter_eq_self]
  intro i hi
  simp [List.mem_range.1 hi]
 refine draw_any hT hok ops.size (by simp) (by rw [hl]; simp) (fun i o hi=>?_) H' (by rw [hl,opsOf_range]; exact h) fun s' L' a' w' h1 h2 h3 h4=>⟨s',L',h1,h2,(Ext.drew L s.k w).trans h3 (Nat.le_refl _),h4⟩
 have hlt:i < ops.size∨ops.size≤i:=by omega
 rcases hlt with h | h
 ·simp [h] at hi
 ·simp [Array.getElem?_eq_none (show (Array.replicate ops.size false).size≤i by simpa using h)] at hi
end Go.Proofs.YtafenffmgpcjcaaGreat.Vf
namespace Go.Proofs.YtafenffmgpcjcaaGreat.Vf
open Go.RowKit
set_option linter.unusedVariables false
set_option linter.unusedSimpArgs false
variable {B:Base} {L:Lk} {h:List (List AV)} {k:List (Nat × Nat)} {w:World} {P:Program} {T:TV} {ops:Array Oper}
def leftO (ord:List Nat) (listed:Array Bool):List Nat:=ord.filter fun i=>!listed.getD i true
def noCall:Op→Bool
 | .call ⟨.value _,_,_⟩=>false
 | _=>true
def ldOf:Op→Option Operand
 | .load _ a=>some a
 | _=>none
def clashZ (z:Bool) (a b:Op):Bool:=clash a b && !(z && ((ldOf a).isSome || (ldOf b).isSome))
def isFz:AV→Bool
 | .f _=>true
 | _=>false
def FzLd (z:Bool) (o:Oper) (t:List AV):Prop:=z=true→∀ a,ldOf o.op=some a→isFz (evA t a)=true
def StpZ (z:Bool) (P:Program) (T:TV) (ops:Array Oper) (o:Oper) (s s':St):Prop:=Stp P T ops o s s'∧FzLd z o s.t
def wOpsZ (z:Bool) (P:Program) (T:TV) (ops:Array Oper):List Oper→St→(St→Prop)→Prop
 | [],s,K=>K s
 | o::l,s,K=>∃ s',StpZ z P T ops o s s'∧wOpsZ z P T ops l s' K
theorem evA_keep {t:List AV} {d:Option Tmp} {x:AV} {a:Operand} (h:∀ e,d=some e→a ≠ .tmp e):evA (putT t d x) a=evA t a:=by
 cases a with
 | tmp i=>simp only [evA,ix]; rw [putT_get fun e he hi=>h e he (by rw [hi])]
 | _=>rfl
theorem ld_op {o:Oper} {a:Operand} (h:ldOf o.op=some a):∃ t,o.op=.load t a:=by
 unfold ldOf at h
 split at h
 ·rename_i t a' hop; obtain rfl:=Option.some.inj h; exact ⟨t,hop⟩
 ·cases h
theorem ld_looks {o:Oper} {a:Operand} {e:Nat} (h:ldOf o.op=some a) (he:a=.tmp e):e ∈ o.looksAt ops:=by
 obtain ⟨t,hop⟩:=ld_op h
 subst he
 exact List.mem_append_left _ (List.mem_filterMap.2 ⟨.tmp e,by simp [hop,Op.operands],rfl⟩)
theorem FzLd.put {z:Bool} {o b:Oper} {t:List AV} {x:AV} (h1:∀ e,b.dst=some e→e ∉ o.looksAt ops):FzLd z o (putT t b.dst x) ↔ FzLd z o t:=by
 unfold FzLd
 have:∀ a,ldOf o.op=some a→evA (putT t b.dst x) a=evA t a:=fun a ha=>evA_keep fun e he hq=>h1 e he (ld_looks ha hq)
 exact ⟨fun h hz a ha=>by rw [← this a ha]; exact h hz a ha,fun h hz a ha=>by rw [this a ha]; exact h hz a ha⟩
theorem Eff_fz {o:Oper} {a:Operand} {t:List AV} {x:AV} {h':List (List AV)} {k':List (Nat × Nat)} (ha:ldOf o.op=some a) (hf:isFz (evA t a)=true) (H:Eff P T ops o t h k x h' k'):h'=h∧k'=k∧∀ h2 k2,Eff P T ops o t h2 k2 x h2 k2:=by
 obtain ⟨ty,hop⟩:=ld_op ha
 have hs:h'=h∧k'=k:=by
  rcases Eff_cases (fun g ar ts e=>by rw [e] at ha; cases ha) H with ⟨ρ,h1⟩ | h1
  ·exact ⟨(evOp_load hop h1).1,(evOp_load hop h1).2.1⟩
  ·exact h1
 obtain ⟨rfl,rfl⟩:=hs
 refine ⟨rfl,rfl,fun h2 k2=>?_⟩
 have hl:∀ h2,opLoad T h2 ty (evA t a)=opLoad T h' ty (evA t a):=fun h2=>by
  generalize evA t a=q at hf
  cases q with
  | f v=>unfold opLoad; cases v <;> rfl
  | _=>cases hf
 have hc:calleeA (evA t) o.op=none:=by rw [hop]; rfl
 have hev:evOp P T (evA t) h' k' o=some (x,h',k')→evOp P T (evA t) h2 k2 o=some (x,h2,k2):=fun he=>by
  simp only [evOp,hop] at he ⊢
  rw [hl h2]
  cases hq:opLoad T h' ty (evA t a) with
  | none=>rw [hq] at he; simp [still] at he
  | some y=>rw [hq] at he; simp [still] at he ⊢; exact he
 unfold Eff at H ⊢
 simp only [hc] at H ⊢
 cases hg:o.guard with
 | none=>simp only [hg] at H ⊢; exact hev H
 | some p =>
  obtain ⟨j,want⟩:=p
  simp only [hg] at H ⊢
  cases hy:yieldedA ops t j want with
  | none=>simp [hy] at H
  | some b =>
   simp only [hy] at H ⊢
   cases b
   case true=>simp only [if_true] at H ⊢; exact hev H
   case false=>simp only [Bool.false_eq_true,if_false] at H ⊢; exact ⟨H.1,by simp⟩
theorem swapZ {z:Bool} {a b:Oper} {s s1 s2:St} (hap:a.apart ops b=true) (hcl:clashZ z a.op b.op=false) (h1:StpZ z P T ops a s s1) (h2:StpZ z P T ops b s1 s2) :
  ∃ s1',StpZ z P T ops b s s1'∧StpZ z P T ops a s1' s2:=by
 obtain ⟨a1,a2,a3⟩:=Oper.apart_spec hap
 obtain ⟨h1,z1⟩:=h1
 obtain ⟨h2,z2⟩:=h2
 have zb:FzLd z b s.t:=by
  obtain ⟨x,h',k',he,rfl⟩:=Stp_iff.1 h1
  exact (FzLd.put (ops:=ops) fun e hd=>fun hei=>a1 e hd hei).1 z2
 have fin:∀ {s1':St},Stp P T ops b s s1'→Stp P T ops a s1' s2→∃ s1',StpZ z P T ops b s s1'∧StpZ z P T ops a s1' s2:=fun {s1'} g1 g2=>by
  refine ⟨s1',⟨g1,zb⟩,g2,?_⟩
  obtain ⟨y,h',k',he,rfl⟩:=Stp_iff.1 g1
  exact (FzLd.put (ops:=ops) fun e hd=>fun hei=>a3 e hd hei).2 z1
 cases hc:clash a.op b.op with
 | false =>
  obtain ⟨s1',g1,g2⟩:=swap hap hc h1 h2
  exact fin g1 g2
 | true =>
  simp only [clashZ,hc,Bool.true_and,Bool.not_eq_false',Bool.and_eq_true,Bool.or_eq_true] at hcl
  obtain ⟨hz,hcl⟩:=hcl
  obtain ⟨x,h',k',he,rfl⟩:=Stp_iff.1 h1
  obtain ⟨y,h'',k'',hf,rfl⟩:=Stp_iff.1 h2
  simp only at hf
  have hf0:Eff P T ops b s.t h' k' y h'' k'':=(Eff_congr fun i hi=>putT_get fun e hd=>fun hei=>a1 e hd (hei ▸ hi)).1 hf
  have hta:∀ z hh kk hh' kk',Eff P T ops a s.t hh kk x hh' kk'→Eff P T ops a (putT s.t b.dst z) hh kk x hh' kk':=fun z hh kk hh' kk' h =>
   (Eff_congr fun i hi=>putT_get fun e hd=>fun hei=>a3 e hd (hei ▸ hi)).2 h
  rcases hcl with hl | hl
  ·obtain ⟨l,hl⟩:=Option.isSome_iff_exists.1 hl
   obtain ⟨rfl,rfl,hg⟩:=Eff_fz hl (z1 hz l hl) he
   exact fin (Stp_iff.2 ⟨y,h'',k'',hf0,rfl⟩) (Stp_iff.2 ⟨x,h'',k'',hta _ _ _ _ _ (hg h'' k''),by rw [putT_comm a2]⟩)
  ·obtain ⟨l,hl⟩:=Option.isSome_iff_exists.1 hl
   obtain ⟨rfl,rfl,hg⟩:=Eff_fz hl (zb hz l hl) hf0
   exact fin (Stp_iff.2 ⟨y,s.h,s.k,hg s.h s.k,rfl⟩) (Stp_iff.2 ⟨x,h'',k'',hta _ _ _ _ _ he,by rw [putT_comm a2]⟩)
theorem swapsZ {z:Bool} {b:Oper} {K:St→Prop}:∀ (l:List Oper) {rest:List Oper} {s:St},(∀ a ∈ l,a.apart ops b=true∧clashZ z a.op b.op=false)→wOpsZ z P T ops (l ++ b::rest) s K→∃ s',StpZ z P T ops b s s'∧wOpsZ z P T ops (l ++ rest) s' K:=by
 intro l
 induction l with
 | nil=>intro rest s _ h; exact h
 | cons a l ih =>
  intro rest s hl h
  obtain ⟨s1,h1,h2⟩:=h
  obtain ⟨s2,h3,h4⟩:=ih (fun c hc=>hl c (.tail _ hc)) h2
  obtain ⟨s3,h5,h6⟩:=swapZ (hl a (.head _)).1 (hl a (.head _)).2 h1 h3
  exact ⟨s3,h5,s2,h6,h4⟩
def stab:List Oper→Bool
 | []=>true
 | o::l=>(match ldOf o.op with
  | some (.tmp i)=>(o::l).all fun b=>b.dst != some i
  | some _=>false
  | none=>true) && stab l
def fzEnd (t:List AV):List Oper→Prop
 | []=>True
 | o::l=>(match o.op with
  | .load _ a=>isFz (evA t a)=true
  | _=>True)∧fzEnd t l
theorem wOps_keep {i:Nat}:∀ {l:List Oper} {s:St} {K:St→Prop},(∀ b ∈ l,b.dst ≠ some i)→wOps P T false ops l s K→wOps P T false ops l s fun s'=>s'.t[i]?=s.t[i]?∧K s':=by
 intro l
 induction l with
 | nil=>intro s K _ h; exact ⟨rfl,h⟩
 | cons o l ih =>
  intro s K hl h
  obtain ⟨s1,h1,h2⟩:=wOps_cons.1 h
  refine wOps_cons.2 ⟨s1,h1,?_⟩
  obtain ⟨x,h',k',_,rfl⟩:=Stp_iff.1 h1
  have:=ih (fun b hb=>hl b (.tail _ hb)) h2
  rwa [show (putT s.t o.dst x)[i]?=s.t[i]? from putT_get fun e hd hei=>hl o (.head _) (by rw [hd,hei])] at this
theorem wOps_ext {l:List Oper} {p:Prop}:∀ {s:St},wOps P T false ops l s (fun _=>p)→p:=by
 induction l with
 | nil=>intro s h; exact h
 | cons o l ih=>intro s h; obtain ⟨s1,_,h2⟩:=wOps_cons.1 h; exact ih h2
theorem wOps_imp {l:List Oper} {K K':St→Prop} (hk:∀ s,K s→K' s):∀ {s:St},wOps P T false ops l s K→wOps P T false ops l s K':=by
 induction l with
 | nil=>intro s h; exact hk _ h
 | cons o l ih=>intro s h; obtain ⟨s1,h1,h2⟩:=wOps_cons.1 h; exact wOps_cons.2 ⟨s1,h1,ih h2⟩
theorem wOps_Z {z:Bool}:∀ {l:List Oper} {s:St} {K:St→Prop},(z=true→stab l=true)→wOps P T false ops l s (fun s'=>(z=true→fzEnd s'.t l)∧K s')→wOpsZ z P T ops l s K:=by
 intro l
 induction l with
 | nil=>intro s K _ h; exact h.2
 | cons o l ih =>
  intro s K hs h
  obtain ⟨s1,h1,h2⟩:=wOps_cons.1 h
  refine ⟨s1,⟨h1,fun hz a ha=>?_⟩,ih (fun hz=>?_) (wOps_imp (fun s' hk=>⟨fun hz=>(hk.1 hz).2,hk.2⟩) h2)⟩
  ·have hst:=hs hz
   simp only [stab,Bool.and_eq_true,ha] at hst
   obtain ⟨h3,_⟩:=hst
   split at h3
   ·rename_i i hi
    obtain rfl:=Option.some.inj hi
    simp only [List.all_eq_true,bne_iff_ne] at h3
    have h4:=wOps_keep (i:=i) h3 h
    refine wOps_ext (s:=s) (wOps_imp (fun s' hk=>?_) h4)
    have h5:=(hk.2.1 hz).1
    obtain ⟨ty,hop⟩:=ld_op ha
    rw [hop] at h5
    have h5:isFz (evA s'.t (.tmp i))=true:=h5
    simpa only [evA,ix,hk.1] using h5
   ·cases h3
   ·rename_i hi; cases hi
  ·have hst:=hs hz
   simp only [stab,Bool.and_eq_true] at hst
   exact hst.2
def ordOk (z:Bool) (ops:Array Oper) (x y:Nat):List Nat→List Nat→Bool
 | _,[]=>true
 | A,i::l=>(!A.contains i) && (match ops[i]? with
  | some o=>noCall o.op && (o.after.all fun e=>!Region.binds .any e || A.contains e.on) && A.all fun j=>(j == x && i == y) || hangs ops 6 i j || match ops[j]? with
   | some a=>a.apart ops o && !clashZ z a.op o.op
   | none=>false
  | none=>false) && ordOk z ops x y (A ++ [i]) l
def twoOk (z:Bool) (ops:Array Oper) (x y:Nat) (l1 l2:List Nat):Bool :=
 (x != y) && ordOk z ops x y [] l1 && ordOk z ops y x [] l2 && ((List.range ops.size).all fun i=>l1.contains i && l2.contains i)
theorem ordOk_at {z:Bool} {x y i:Nat}:∀ {C A D:List Nat},ordOk z ops x y C (A ++ i::D)=true→i ∉ C ++ A∧∃ o,ops[i]?=some o∧noCall o.op=true∧(∀ e ∈ o.after,Region.binds .any e=true→e.on ∈ C ++ A) ∧
  ∀ j ∈ C ++ A,(j=x∧i=y)∨hangs ops 6 i j=true∨∃ a,ops[j]?=some a∧a.apart ops o=true∧clashZ z a.op o.op=false:=by
 intro C A
 induction A generalizing C with
 | nil =>
  intro D h
  rw [List.nil_append] at h
  simp only [ordOk,Bool.and_eq_true,Bool.not_eq_true'] at h
  obtain ⟨⟨h1,h2⟩,h3⟩:=h
  refine ⟨by simpa using h1,?_⟩
  cases ho:ops[i]? with
  | none=>simp [ho] at h2
  | some o =>
   simp only [ho,Bool.and_eq_true,Array.all_eq_true_iff_forall_mem,List.all_eq_true] at h2
   obtain ⟨⟨h4,h5⟩,h6⟩:=h2
   refine ⟨o,rfl,h4,fun e he hb=>?_,fun j hj=>?_⟩
   ·have:=h5 e he
    rw [hb] at this
    simpa using this
   ·have:=h6 j (by simpa using hj)
    simp only [Bool.or_eq_true,Bool.and_eq_true,beq_iff_eq] at this
    rcases this with (h7 | h7) | h7
    ·exact .inl h7
    ·exact .inr (.inl h7)
    ·cases hja:ops[j]? with
     | none=>simp [hja] at h7
     | some a=>simp only [hja,Bool.and_eq_true,Bool.not_eq_true'] at h7; exact .inr (.inr ⟨a,rfl,h7⟩)
 | cons b A ih =>
  intro D h
  rw [List.cons_append] at h
  simp only [ordOk,Bool.and_eq_true] at h
  have:=ih (C:=C ++ [b]) h.2
  rw [List.append_assoc,List.singleton_append] at this
  exact this
theorem leftO_mid {i:Nat} {A D:List Nat} {listed:Array Bool} (hi:i < listed.size) (hl:listed.getD i true=false) (hA:i ∉ A) (hD:i ∉ D) :
  leftO (A ++ i::D) listed=leftO A listed ++ i::leftO D listed∧leftO (A ++ i::D) (listed.setIfInBounds i true)=leftO A listed ++ leftO D listed:=by
 have h2:∀ j,j ≠ i→(listed.setIfInBounds i true).getD j true=listed.getD j true:=fun j hj=>by simp [Array.getElem?_setIfInBounds_ne (fun e=>hj e.symm)]
 have h3:(listed.setIfInBounds i true).getD i true=true:=by simp [Array.getElem?_setIfInBounds_self_of_lt hi]
 unfold leftO
 rw [List.filter_append,List.filter_cons,List.filter_append,List.filter_cons]
 simp only [hl,h3,Bool.not_false,Bool.not_true,if_true,Bool.false_eq_true,if_false]
 refine ⟨trivial,?_⟩
 congr 1
 ·exact List.filter_congr fun j hj=>by rw [h2 j (fun e=>hA (e ▸ hj))]
 ·exact List.filter_congr fun j hj=>by rw [h2 j (fun e=>hD (e ▸ hj))]
theorem ordOk_nodup {z:Bool} {x y i:Nat} {A D:List Nat} (h:ordOk z ops x y [] (A ++ i::D)=true):i ∉ D:=by
 intro hi
 obtain ⟨D1,D2,rfl⟩:=List.append_of_mem hi
 have:=(ordOk_at (A:=A ++ i::D1) (D:=D2) (by simpa using h)).1
 exact this (by simp)
theorem calleeA_none {ρ:Operand→AV} {o:Op} (h:noCall o=true):calleeA ρ o=none:=by
 unfold calleeA
 split
 ·simp [noCall] at h
 ·rfl
theorem Stp_det {z:Bool} {o:Oper} {s s1 s2:St} (hn:noCall o.op=true) (h1:StpZ z P T ops o s s1) (h2:StpZ z P T ops o s s2):s1=s2:=by
 obtain ⟨h1,-⟩:=h1
 obtain ⟨h2,-⟩:=h2
 have hgo:OpTo P T o s s1→OpTo P T o s s2→s1=s2:=fun h1 h2=>by
  unfold OpTo at h1 h2
  rw [calleeA_none hn] at h1 h2
  obtain ⟨r,e1,rfl⟩:=h1
  obtain ⟨r',e2,rfl⟩:=h2
  rw [e1] at e2
  rw [Option.some.inj e2]
 unfold Stp at h1 h2
 cases hg:o.guard with
 | none=>simp only [hg] at h1 h2; exact hgo h1 h2
 | some p =>
  obtain ⟨j,want⟩:=p
  simp only [hg] at h1 h2
  cases hy:yieldedA ops s.t j want with
  | none=>simp [hy] at h1
  | some b =>
   simp only [hy] at h1 h2
   cases b
   case true=>simp only [if_true] at h1 h2; exact hgo h1 h2
   case false=>simp only [Bool.false_eq_true,if_false] at h1 h2; rw [h1,h2]
theorem ord_take {z:Bool} {x y i:Nat} {o:Oper} {ord:List Nat} {listed:Array Bool} {s:St} {K:St→Prop} (hok:ordOk z ops x y [] ord=true) (hc:i ∈ ord) (hsz:listed.size=ops.size) (ho:ops[i]?=some o) (hu:listed.getD i true=false)
  (hD:∀ (i:Nat) (o:Oper),listed.getD i false=true→ops[i]?=some o→∀ e ∈ o.after,Region.binds .any e=true→listed.getD e.on false=true) (hr:∀ e ∈ o.after,Region.binds .any e=true→listed.getD e.on false=true)
  (hx:i=y→listed.getD x true=true) (hk:wOpsZ z P T ops (opsOf ops (leftO ord listed)) s K):∃ s',StpZ z P T ops o s s'∧wOpsZ z P T ops (opsOf ops (leftO ord (listed.setIfInBounds i true))) s' K:=by
 obtain ⟨A,D,rfl⟩:=List.append_of_mem hc
 obtain ⟨h1,o',ho',_,_,h4⟩:=ordOk_at hok
 rw [ho] at ho'
 obtain rfl:=Option.some.inj ho'
 simp only [List.nil_append] at h1 h4
 have hil:i < listed.size:=by rw [hsz]; exact (Array.getElem?_eq_some_iff.1 ho).1
 obtain ⟨e1,e2⟩:=leftO_mid hil hu h1 (ordOk_nodup hok)
 rw [e1] at hk
 have hops:opsOf ops (leftO A listed ++ i::leftO D listed)=opsOf ops (leftO A listed) ++ o::opsOf ops (leftO D listed):=by
  simp [opsOf,List.filterMap_append,List.filterMap_cons,ho]
 rw [hops] at hk
 obtain ⟨s',hs,hk'⟩:=swapsZ (opsOf ops (leftO A listed)) (fun c hc=>by
  obtain ⟨j,hj,hc⟩:=List.mem_filterMap.1 hc
  simp only [leftO,List.mem_filter,Bool.not_eq_true'] at hj
  rcases h4 j hj.1 with ⟨rfl,hy⟩ | h | ⟨a',h5,h6,h7⟩
  ·rw [hx hy] at hj; cases hj.2
  ·have:=hangs_listed hD 6 i j h (fun o' ho' e he hb=>hr e (by rw [ho] at ho'; exact (Option.some.inj ho') ▸ he) hb)
   have hjl:j < listed.size:=by rw [hsz]; exact (Array.getElem?_eq_some_iff.1 hc).1
   have g2:=hj.2
   simp only [Array.getD_eq_getD_getElem?,Array.getElem?_eq_getElem hjl,Option.getD_some] at this g2
   rw [this] at g2; cases g2
  ·rw [hc] at h5
   obtain rfl:=Option.some.inj h5
   exact ⟨h6,h7⟩) hk
 refine ⟨s',hs,?_⟩
 rw [e2]
 simpa [opsOf,List.filterMap_append] using hk'
theorem draw_two (hT:TOk P T) {z:Bool} {x y:Nat} {l1 l2:List Nat} (hok:twoOk z ops x y l1 l2=true) {Q:Exit→Act→World→Prop}:∀ (fuel:Nat) {listed:Array Bool} {s:St} {L:Lk} {a:Act} {w:World} {K:St→Prop} {p1 p2:Prop},listed.size=ops.size→(left ops.size listed).length≤fuel →
  (∀ (i:Nat) (o:Oper),listed.getD i false=true→ops[i]?=some o→∀ e ∈ o.after,Region.binds .any e=true→listed.getD e.on false=true)→Rel B L s a w→p1∨p2→(listed.getD x true=false→listed.getD y true=false→p1∧p2) →
  (p1→wOpsZ z P T ops (opsOf ops (leftO l1 listed)) s K)→(p2→wOpsZ z P T ops (opsOf ops (leftO l2 listed)) s K) →
  (∀ s' L' a' w',K s'→Rel B L' s' a' w'→Ext L s.k w L' s'.k w'→s.k.length≤s'.k.length→Q .normal a' w')→wpAny P .any ops Q fuel listed a w:=by
 simp only [twoOk,Bool.and_eq_true,bne_iff_ne,List.all_eq_true,List.mem_range,List.contains_iff_mem] at hok
 obtain ⟨⟨⟨hxy,ok1⟩,ok2⟩,hall⟩:=hok
 have hmem:∀ i,i ∈ l1→i < ops.size:=fun i hi=>by
  obtain ⟨A,D,rfl⟩:=List.append_of_mem hi
  obtain ⟨_,o,ho,_⟩:=ordOk_at ok1
  exact (Array.getElem?_eq_some_iff.1 ho).1
 have hmem2:∀ i,i ∈ l2→i < ops.size:=fun i hi=>by
  obtain ⟨A,D,rfl⟩:=List.append_of_mem hi
  obtain ⟨_,o,ho,_⟩:=ordOk_at ok2
  exact (Array.getElem?_eq_some_iff.1 ho).1
 have hempty:∀ {listed:Array Bool} {l:List Nat},(∀ i ∈ l,i < ops.size)→left ops.size listed=[]→leftO l listed=[]:=fun {listed l} hm h=>by
  unfold leftO
  rw [List.filter_eq_nil_iff]
  intro i hi hq
  have:i ∈ left ops.size listed:=by simp only [left,List.mem_filter,List.mem_range]; exact ⟨hm i hi,hq⟩
  rw [h] at this; cases this
 have hready:∀ {listed:Array Bool},listed.size=ops.size→Region.ready .any ops listed=[]→left ops.size listed=[]:=fun {listed} hsz hr=>by
  have key:∀ (n:Nat) (A D:List Nat),l1=A ++ D→A.length=n→∀ i ∈ A,listed.getD i true=true:=by
   intro n
   induction n with
   | zero =>
    intro A D h1 h2 i hi
    rw [List.length_eq_zero_iff.1 h2] at hi
    cases hi
   | succ n ih =>
    intro A D h1 h2 i hi
    obtain ⟨A',b,rfl⟩:∃ A' b,A=A' ++ [b]:=⟨A.dropLast,A.getLast (by intro e; rw [e] at h2; simp at h2),(List.dropLast_concat_getLast _).symm⟩
    have h1':l1=A' ++ b::D:=by rw [h1]; simp
    have hA':=ih A' (b::D) h1' (by simpa using h2)
    rcases List.mem_append.1 hi with hi | hi
    ·exact hA' i hi
    ·obtain rfl:i=b:=by simpa using hi
     cases hq:listed.getD i true with
     | true=>rfl
     | false =>
      rw [h1'] at ok1
      obtain ⟨_,o,ho,_,he,_⟩:=ordOk_at ok1
      have:i ∈ Region.ready .any ops listed:=mem_ready.2 ⟨hq,o,ho,fun e hem hb=>by
       have hin:=he e hem hb
       rw [List.nil_append] at hin
       have hlt:e.on < listed.size:=by rw [hsz]; exact hmem _ (by rw [h1']; exact List.mem_append_left _ hin)
       have:=hA' _ hin
       simpa [Array.getElem?_eq_getElem hlt] using this⟩
      rw [hr] at this
      cases this
  unfold left
  rw [List.filter_eq_nil_iff]
  intro i hi hq
  have:=key _ l1 [] (by simp) rfl i (hall i (List.mem_range.1 hi)).1
  rw [this] at hq
  cases hq
 have hend:∀ {listed:Array Bool} {s:St} {L:Lk} {a:Act} {w:World} {K:St→Prop} {p1 p2:Prop},left ops.size listed=[]→Rel B L s a w→p1∨p2→(p1→wOpsZ z P T ops (opsOf ops (leftO l1 listed)) s K)→(p2→wOpsZ z P T ops (opsOf ops (leftO l2 listed)) s K) →
  (∀ s' L' a' w',K s'→Rel B L' s' a' w'→Ext L s.k w L' s'.k w'→s.k.length≤s'.k.length→Q .normal a' w')→Q .normal a w:=fun hl H hp hk1 hk2 hQ=>by
  rcases hp with hp | hp
  ·have hk:=hk1 hp
   rw [hempty hmem hl] at hk
   exact hQ _ _ _ _ hk H (Ext.refl _ _ _) (Nat.le_refl _)
  ·have hk:=hk2 hp
   rw [hempty hmem2 hl] at hk
   exact hQ _ _ _ _ hk H (Ext.refl _ _ _) (Nat.le_refl _)
 intro fuel
 induction fuel with
 | zero =>
  intro listed s L a w K p1 p2 hsz hf hD H hp hb hk1 hk2 hQ
  have hl:left ops.size listed=[]:=List.eq_nil_of_length_eq_zero (by omega)
  refine ⟨?_,hend hl H hp hk1 hk2 hQ⟩
  cases hr:Region.ready .any ops listed with
  | nil=>rfl
  | cons i l =>
   have hi:i ∈ Region.ready .any ops listed:=by rw [hr]; exact .head _
   obtain ⟨h1,o,h2,_⟩:=mem_ready.1 hi
   have:i ∈ left ops.size listed:=by simp only [left,List.mem_filter,List.mem_range,h1]; exact ⟨(Array.getElem?_eq_some_iff.1 h2).1,rfl⟩
   rw [hl] at this; cases this
 | succ fuel ih =>
  intro listed s L a w K p1 p2 hsz hf hD H hp hb hk1 hk2 hQ
  refine ⟨fun hr=>hend (hready hsz hr) H hp hk1 hk2 hQ,fun i hi=>?_⟩
  obtain ⟨h1,o,h2,h3⟩:=mem_ready.1 hi
  have hil:=(Array.getElem?_eq_some_iff.1 h2).1
  have hnc:noCall o.op=true:=by
   obtain ⟨A,D,hAD⟩:=List.append_of_mem (hall i hil).1
   rw [hAD] at ok1
   obtain ⟨_,o',ho',hn,_⟩:=ordOk_at ok1
   rw [h2] at ho'; obtain rfl:=Option.some.inj ho'; exact hn
  have hD':∀ (j:Nat) (o':Oper),(listed.setIfInBounds i true).getD j false=true→ops[j]?=some o'→∀ e ∈ o'.after,Region.binds .any e=true→(listed.setIfInBounds i true).getD e.on false=true:=fun j o' hj ho' e he hb=>by
   by_cases hji:j=i
   ·subst hji
    rw [h2] at ho'
    obtain rfl:=Option.some.inj ho'
    exact getD_set_true (h3 e he hb)
   ·rw [getD_set_ne false (fun q=>hji q.symm)] at hj
    exact getD_set_true (hD j o' hj ho' e he hb)
  have hset:∀ j,(listed.setIfInBounds i true).getD j true=if j=i then true else listed.getD j true:=fun j=>by
   by_cases hji:j=i
   ·subst hji; rw [if_pos rfl]; simp [Array.getElem?_setIfInBounds_self_of_lt (show j < listed.size by omega)]
   ·rw [if_neg hji]; simp [Array.getElem?_setIfInBounds_ne (fun e=>hji e.symm)]
  have hf':(left ops.size (listed.setIfInBounds i true)).length≤fuel:=by
   obtain ⟨pre,post,e1,e2,e3⟩:=left_split (Nat.le_of_eq hsz.symm) hil h1
   rw [e2]; rw [e1] at hf; simp at hf ⊢; omega
  have go1:p1→(i=y→listed.getD x true=true)→∃ s',StpZ z P T ops o s s'∧wOpsZ z P T ops (opsOf ops (leftO l1 (listed.setIfInBounds i true))) s' K:=fun hp1 hx=>ord_take ok1 (hall i hil).1 hsz h2 h1 hD h3 hx (hk1 hp1)
  have go2:p2→(i=x→listed.getD y true=true)→∃ s',StpZ z P T ops o s s'∧wOpsZ z P T ops (opsOf ops (leftO l2 (listed.setIfInBounds i true))) s' K:=fun hp2 hy=>ord_take ok2 (hall i hil).2 hsz h2 h1 hD h3 hy (hk2 hp2)
  have main:∀ (q1 q2:Prop),q1∨q2→(q1→p1∧(i=y→listed.getD x true=true))→(q2→p2∧(i=x→listed.getD y true=true))→((listed.setIfInBounds i true).getD x true=false→(listed.setIfInBounds i true).getD y true=false→q1∧q2)→wpOp P ops Q i (wpAny P .any ops Q fuel (listed.setIfInBounds i true)) a w:=fun q1 q2 hq hq1 hq2 hb'=>by
   obtain ⟨s',hs,_⟩:∃ s',StpZ z P T ops o s s'∧True:=by
    rcases hq with h | h
    ·obtain ⟨s',hs,_⟩:=go1 (hq1 h).1 (hq1 h).2; exact ⟨s',hs,trivial⟩
    ·obtain ⟨s',hs,_⟩:=go2 (hq2 h).1 (hq2 h).2; exact ⟨s',hs,trivial⟩
   unfold wpOp
   simp only [h2]
   refine Stp_wp hT H hs.1 fun L' a' w' H' he hl=>?_
   refine ih (p1:=q1) (p2:=q2) (by simpa using hsz) hf' hD' H' hq hb' (fun h=>?_) (fun h=>?_) fun s2 L2 a2 w2 g1 g2 g3 g4=>hQ s2 L2 a2 w2 g1 g2 (he.trans g3 hl) (Nat.le_trans hl g4)
   ·obtain ⟨s'',hs',hk'⟩:=go1 (hq1 h).1 (hq1 h).2
    rw [Stp_det hnc hs hs']; exact hk'
   ·obtain ⟨s'',hs',hk'⟩:=go2 (hq2 h).1 (hq2 h).2
    rw [Stp_det hnc hs hs']; exact hk'
  by_cases hux:listed.getD x true=false
  ·by_cases huy:listed.getD y true=false
   ·obtain ⟨hp1,hp2⟩:=hb hux huy
    by_cases hiy:i=y
    ·refine main False True (.inr trivial) (fun h=>h.elim) (fun _=>⟨hp2,fun h=>absurd (h.symm.trans hiy) hxy⟩) fun _ h=>?_
     rw [hset,if_pos hiy.symm] at h; cases h
    ·by_cases hix:i=x
     ·refine main True False (.inl trivial) (fun _=>⟨hp1,fun h=>absurd h hiy⟩) (fun h=>h.elim) fun h _=>?_
      rw [hset,if_pos hix.symm] at h; cases h
     ·exact main True True (.inl trivial) (fun _=>⟨hp1,fun h=>absurd h hiy⟩) (fun _=>⟨hp2,fun h=>absurd h hix⟩) fun _ _=>⟨trivial,trivial⟩
   ·have hy:listed.getD y true=true:=by simpa using huy
    have hiy:i ≠ y:=fun e=>by rw [e,hy] at h1; cases h1
    refine main p1 p2 hp (fun h=>⟨h,fun h=>absurd h hiy⟩) (fun h=>⟨h,fun _=>hy⟩) fun _ h=>?_
    rw [hset,if_neg (fun e=>hiy e.symm),hy] at h; cases h
  ·have hx:listed.getD x true=true:=by simpa using hux
   have hix:i ≠ x:=fun e=>by rw [e,hx] at h1; cases h1
   refine main p1 p2 hp (fun h=>⟨h,fun _=>hx⟩) (fun h=>⟨h,fun h=>absurd h hix⟩) fun h _=>?_
   rw [hset,if_neg (fun e=>hix e.symm),hx] at h; cases h
theorem W.draw2 (hT:TOk P T) (hm:P.follows .mixedOrders=true) {id:Nat} {s:St} {Q:Exit→St→Prop} {z:Bool} {x y:Nat} {l1 l2:List Nat} (hok:twoOk z ops x y l1 l2=true) (h1:wOpsZ z P T ops (opsOf ops l1) s (Q .normal)) (h2:wOpsZ z P T ops (opsOf ops l2) s (Q .normal)):W P (.region id ops true) s Q:=fun B L a w H=>by
 have H':Rel B L s a w.drew:=⟨H.mem.drew,H.d,H.tmps.mono (Ext.drew _ _ _) (Nat.le_refl _)⟩
 refine wp_region_any hm ?_
 have hl0:∀ j,j < ops.size→(Array.replicate ops.size false).getD j true=false:=fun j hj=>by simp [hj]
 have hok':=hok
 simp only [twoOk,Bool.and_eq_true,bne_iff_ne,List.all_eq_true,List.mem_range,List.contains_iff_mem] at hok'
 obtain ⟨⟨⟨hxy,ok1⟩,ok2⟩,hall⟩:=hok'
 have hl1:∀ {x y:Nat} {l:List Nat},ordOk z ops x y [] l=true→leftO l (Array.replicate ops.size false)=l:=fun {x y l} ok=>by
  unfold leftO
  rw [List.filter_eq_self]
  intro i hi
  obtain ⟨A,D,rfl⟩:=List.append_of_mem hi
  obtain ⟨_,o,ho,_⟩:=ordOk_at ok
  rw [hl0 i (Array.getElem?_eq_some_iff.1 ho).1]; rfl
 have hl:left ops.size (Array.replicate ops.size false)=List.range ops.size:=by
  unfold left
  rw [List.filter_eq_self]
  intro i hi
  simp [List.mem_range.1 hi]
 refine draw_two hT hok ops.size (p1:=True) (p2:=True) (by simp) (by rw [hl]; simp) (fun i o hi=>?_) H' (.inl trivial) (fun _ _=>⟨trivial,trivial⟩) (fun _=>by rw [hl1 ok1]; exact h1) (fun _=>by rw [hl1 ok2]; exact h2) fun s' L' a' w' h1 h2 h3 h4=>⟨s',L',h1,h2,(Ext.drew L s.k w).trans h3 (Nat.le_refl _),h4⟩
 rcases Nat.lt_or_ge i ops.size with h | h
 ·simp [h] at hi
 ·simp [Array.getElem?_eq_none (show (Array.replicate ops.size false).size≤i by simpa using h)] at hi
end Go.Proofs.YtafenffmgpcjcaaGreat.Vf
namespace Go.Proofs.YtafenffmgpcjcaaGreat.Vf
open Go.RowKit
set_option linter.unusedVariables false
set_option linter.unusedSimpArgs false
variable {B:Base} {L:Lk} {h:List (List AV)} {k:List (Nat × Nat)} {w:World} {P:Program} {T:TV}
def tdOf:TypeDesc→TD
 | .slice e=>.slice e
 | .array n e=>.array n e
 | .struct fs=>.struct (fs.toList.map fun f=>(f.offset,f.type))
 | _=>.other
def tyOf (P:Program):TV:=fun t =>
 match P.info? t,P.underlying t with
 | some i,some d=>match i.zero with
  | some z=>if z.cells.size=i.size then some ⟨i.size,i.bytes,tdOf d,z.cells.toList.map constA⟩ else none
  | none=>none
 | _,_=>none
theorem tyOf_ok (P:Program):TOk P (tyOf P):=fun t ty h=>by
 unfold tyOf at h
 split at h
 case h_2=>cases h
 rename_i i d hi hd
 split at h
 case h_2=>cases h
 rename_i z hz
 split at h
 case isFalse=>cases h
 rename_i hs
 obtain rfl:=Option.some.inj h
 refine ⟨i,z,hi,rfl,rfl,hz,rfl,hs,?_⟩
 cases d <;> first | exact hd | exact ⟨_,hd,rfl⟩ | exact ⟨_,hd,by simp,by simp⟩
abbrev Pst:=Exit→St→Prop
theorem wOp_imp {T:TV} {rf:Bool} {o:Oper} {s:St} {K K':St→Prop} (hk:∀ s,K s→K' s) (h:wOp P T rf o s K):wOp P T rf o s K':=by
 unfold wOp at h ⊢
 split
 ·rename_i f as hc
  simp only [hc] at h
  rcases h with ⟨r,k',h1,h2⟩ | ⟨h0,f',as',R,h1,h2,h3⟩
  ·exact .inl ⟨r,k',h1,hk _ h2⟩
  ·exact .inr ⟨h0,f',as',R,h1,h2,fun x h' k' hR=>hk _ (h3 x h' k' hR)⟩
 ·rename_i hc
  simp only [hc] at h
  split
  ·rename_i f as hr
   simp only [hr] at h
   obtain ⟨R,h1,h2⟩:=h
   exact ⟨R,h1,fun x h' k' hR=>hk _ (h2 x h' k' hR)⟩
  ·rename_i hr
   simp only [hr] at h
   split
   ·rename_i r he
    simp only [he] at h
    exact hk _ h
   ·rename_i he
    simp only [he] at h
    split
    ·rename_i r hq
     simp only [hq] at h
     exact hk _ h
    ·rename_i hq
     simp only [hq] at h
def xOp (P:Program) (rf:Bool) (o:Oper) (s:St) (K:St→Prop) (Q:Pst):Prop :=
 wOp P (tyOf P) rf o s K∨(rf=true∧∃ f as v,calleeA (evA s.t) o.op=some (f,as)∧Panics P f as v∧Q (panicX v) s)
def xOps (P:Program) (rf:Bool) (ops:Array Oper):List Oper→Pst→St→Prop
 | [],Q,s=>Q .normal s
 | o::rest,Q,s=>match o.guard with
  | none=>xOp P rf o s (xOps P rf ops rest Q) Q
  | some (j,want)=>match yieldedA ops s.t j want with
   | some b=>if b=true then xOp P rf o s (xOps P rf ops rest Q) Q else xOps P rf ops rest Q (s.put o.dst undefA)
   | none=>False
theorem xOp_false {o:Oper} {s:St} {K:St→Prop} {Q:Pst}:xOp P false o s K Q=wOp P (tyOf P) false o s K:=by simp [xOp]
theorem xOps_eq {ops:Array Oper} (l:List Oper):∀ {Q:Pst} {s:St},xOps P false ops l Q s=wOps P (tyOf P) false ops l s (Q .normal):=by
 induction l with
 | nil=>intro Q s; rfl
 | cons o l ih =>
  intro Q s
  have:xOps P false ops l Q=fun s'=>wOps P (tyOf P) false ops l s' (Q .normal):=funext fun s'=>ih
  simp only [xOps,wOps,xOp_false,this] <;> rfl
theorem xOps_P {ops:Array Oper} (l:List Oper):∀ {Q:Pst} {s:St},xOps P true ops l Q s→wOpsP P (tyOf P) ops l s (Q .normal) (fun v s=>Q (panicX v) s):=by
 induction l with
 | nil=>intro Q s h; exact h
 | cons o l ih =>
  intro Q s h
  have hop:xOp P true o s (xOps P true ops l Q) Q→wOpP P (tyOf P) o s (fun s'=>wOpsP P (tyOf P) ops l s' (Q .normal) fun v s=>Q (panicX v) s) (fun v s=>Q (panicX v) s):=fun h=>by
   rcases h with h | ⟨_,h⟩
   ·exact .inl (wOp_imp (fun s' hk=>ih hk) h)
   ·exact .inr h
  simp only [xOps,wOpsP] at h ⊢
  cases hg:o.guard with
  | none=>simp only [hg] at h ⊢; exact hop h
  | some p =>
   obtain ⟨j,want⟩:=p
   simp only [hg] at h ⊢
   cases hy:yieldedA ops s.t j want with
   | none=>simp [hy] at h
   | some b =>
    simp only [hy] at h ⊢
    cases b
    ·simp only [Bool.false_eq_true,if_false] at h ⊢; exact ih h
    ·simp only [if_true] at h ⊢; exact hop h
def SeqQ (f:Pst→St→Prop) (Q:Pst):Pst:=fun e s=>match e with
 | .normal=>f Q s
 | e=>Q e s
def BlkQ (id:Nat) (Q:Pst):Pst:=fun e s=>match e with
 | .exit i=>if i=id then Q .normal s else Q (.exit i) s
 | e=>Q e s
def CondQ (v:AV) (a b:Prop):Prop:=match v with
 | .f (.sc (.bool q))=>if q=true then a else b
 | _=>False
def altI:List Oper→Nat→Option Nat
 | [],_=>none
 | a::l,i=>match a.op,l with
  | .alloc _,b::_=>match b.op with
   | .alloc _=>some i
   | _=>altI l (i+1)
  | _,_=>altI l (i+1)
def swapL {α:Type}:Nat→List α→List α
 | 0,a::b::r=>b::a::r
 | i+1,a::r=>a::swapL i r
 | _,l=>l
def altOk (z:Bool) (ops:Array Oper):Bool:=match altI ops.toList 0 with
 | some i=>twoOk z ops i (i+1) (List.range ops.size) (swapL i (List.range ops.size)) && (!z || (stab ops.toList && stab (swapL i ops.toList)))
 | none=>false
def ZE (ops:Array Oper) (l:List Oper) (t:List AV):Prop:=fzEnd t l∨altOk false ops=true
def EndQ (ops:Array Oper) (l:List Oper) (Q:Pst):Pst:=fun e s=>ZE ops l s.t∧Q e s
def DrawX (P:Program) (ops:Array Oper) (l:List Oper) (Q:Pst) (s:St):Option Nat→Prop
 | none=>xOps P false ops l Q s
 | some i=>xOps P false ops l (EndQ ops l Q) s∧xOps P false ops (swapL i l) (EndQ ops (swapL i l) Q) s
theorem opsOf_swap {ops:Array Oper}:∀ (i:Nat) (l:List Nat),(∀ j ∈ l,j < ops.size)→opsOf ops (swapL i l)=swapL i (opsOf ops l):=by
 intro i
 induction i with
 | zero =>
  intro l hl
  cases l with
  | nil=>rfl
  | cons a l =>
   have ha:=Array.getElem?_eq_getElem (hl a (.head _))
   cases l with
   | nil=>simp [swapL,opsOf,ha]
   | cons b l =>
    have hb:=Array.getElem?_eq_getElem (hl b (.tail _ (.head _)))
    simp [swapL,opsOf,ha,hb]
 | succ i ih =>
  intro l hl
  cases l with
  | nil=>rfl
  | cons a l =>
   have ha:=Array.getElem?_eq_getElem (hl a (.head _))
   have:=ih l fun j hj=>hl j (.tail _ hj)
   simp only [swapL,opsOf,List.filterMap_cons,ha] at this ⊢
   rw [this]
def lastL:List Oper→Option (List Oper × Oper)
 | []=>none
 | [o]=>match o.op,o.guard with
  | .call ⟨.value _,_,_⟩,none=>some ([],o)
  | _,_=>none
 | o::a::l=>match lastL (a::l) with
  | some (pre,x)=>some (o::pre,x)
  | none=>none
theorem lastL_spec:∀ {l pre:List Oper} {o:Oper},lastL l=some (pre,o)→l=pre ++ [o]∧o.guard=none
 | [],_,_,h=>by cases h
 | [x],pre,o,h=>by
  simp only [lastL] at h
  split at h
  ·rename_i hg
   obtain ⟨rfl,rfl⟩:=Prod.mk.inj (Option.some.inj h)
   exact ⟨rfl,hg⟩
  ·cases h
 | x::a::l,pre,o,h=>by
  simp only [lastL] at h
  split at h
  ·rename_i pre' x' hq
   obtain ⟨rfl,rfl⟩:=Prod.mk.inj (Option.some.inj h)
   obtain ⟨h1,h2⟩:=lastL_spec hq
   exact ⟨by rw [h1]; rfl,h2⟩
  ·cases h
def LastQ (P:Program) (ops:Array Oper) (o:Oper) (Q:Pst):Pst:=fun e s=>match e with
 | .normal=>xOps P true ops [o] Q s
 | _=>False
def DrawL (P:Program) (ops:Array Oper) (Q:Pst) (s:St):Option (List Oper × Oper)→Prop
 | some (pre,o)=>xOps P false ops pre (LastQ P ops o Q) s
 | none=>DrawX P ops ops.toList Q s (altI ops.toList 0)
def xC (P:Program):Code→Pst→St→Prop
 | .skip,Q,s=>Q .normal s
 | .label _,Q,s=>Q .normal s
 | .exit id,Q,s=>Q (.exit id) s
 | .goto l,Q,s=>Q (.goto l) s
 | .ret,Q,s=>Q .ret s
 | .seq a b,Q,s=>xC P a (SeqQ (xC P b) Q) s
 | .block id c,Q,s=>xC P c (BlkQ id Q) s
 | .cond c a b,Q,s=>CondQ (evA s.t c) (xC P a Q s) (xC P b Q s)
 | .region _ ops false,Q,s=>xOps P true ops ops.toList Q s
 | .region _ ops true,Q,s=>DrawL P ops Q s (lastL ops.toList)
 | c,Q,s=>W P c s Q
def okC:Code→Bool
 | .seq a b=>okC a && okC b
 | .block _ c=>okC c
 | .cond _ a b=>okC a && okC b
 | .region _ ops d=>!d || (match lastL ops.toList with
  | some _=>drawOk ops && lastHang ops
  | none=>drawOk ops || altOk false ops || altOk true ops)
 | .loop c=>okC c
 | .scope c=>okC c
 | _=>true
theorem xC_W (hm:P.follows .mixedOrders=true) (c:Code):okC c=true→∀ {Q:Pst} {s:St},xC P c Q s→W P c s Q:=by
 induction c with
 | skip=>exact fun _ _ _=>W.skip
 | label l=>exact fun _ _ _=>W.label
 | exit id=>exact fun _ _ _=>W.exit
 | goto l=>exact fun _ _ _=>W.goto
 | ret=>exact fun _ _ _=>W.ret
 | seq a b iha ihb =>
  intro hok Q s h
  simp only [okC,Bool.and_eq_true] at hok
  exact W.seq (W.mono (iha hok.1 h) fun e s' h=>by cases e <;> first | exact ihb hok.2 h | exact h)
 | block id c ih =>
  intro hok Q s h
  exact W.block (W.mono (ih hok h) fun e s' h=>by cases e <;> exact h)
 | cond c a b iha ihb =>
  intro hok Q s h
  simp only [okC,Bool.and_eq_true] at hok
  simp only [xC,CondQ] at h
  split at h
  ·rename_i q hq
   refine W.cond hq ?_
   cases q
   ·exact ihb hok.2 h
   ·exact iha hok.1 h
  ·exact h.elim
 | region id ops d =>
  intro hok Q s h
  cases d
  ·simp only [xC] at h
   exact W.regionP (tyOf_ok P) (xOps_P _ h)
  ·simp only [xC] at h
   cases hlc:lastL ops.toList with
   | some q =>
    obtain ⟨pre,o⟩:=q
    obtain ⟨e1,hg⟩:=lastL_spec hlc
    rw [hlc] at h
    simp only [okC,hlc,Bool.not_true,Bool.false_or,Bool.and_eq_true] at hok
    have h:xOps P false ops pre (LastQ P ops o Q) s:=h
    rw [xOps_eq] at h
    refine W.drawL (tyOf_ok P) hm hok.1 hok.2 (ol:=o) (by rw [e1]; simp) hg (by
     rw [e1,List.dropLast_concat]
     refine wOps_imp' (fun s1 h1=>?_) h
     have h2:=xOps_P [o] (show xOps P true ops [o] Q s1 from h1)
     simp only [wOpsP,hg] at h2
     exact h2)
   | none =>
    rw [hlc] at h
    have h:DrawX P ops ops.toList Q s (altI ops.toList 0):=h
    simp only [okC,hlc,Bool.not_true,Bool.false_or] at hok
    have imp:∀ {l:List Oper} {K K':St→Prop},(∀ s,K s→K' s)→∀ {s:St},wOps P (tyOf P) false ops l s K→wOps P (tyOf P) false ops l s K':=fun hk _ h=>wOps_imp hk h
    have h0:wOps P (tyOf P) false ops ops.toList s (Q .normal):=by
     cases ha:altI ops.toList 0 with
     | none=>rw [ha] at h; rw [← xOps_eq]; exact h
     | some i =>
      rw [ha] at h
      have h1:=h.1
      rw [xOps_eq] at h1
      exact imp (fun s' hk=>hk.2) h1
    by_cases hd:drawOk ops=true
    ·exact W.draw (tyOf_ok P) hm hd h0
    ·have ht:altOk false ops=true∨altOk true ops=true:=by simpa [hd] using hok
     cases ha:altI ops.toList 0 with
     | none=>unfold altOk at ht; rw [ha] at ht; rcases ht with ht | ht <;> cases ht
     | some i =>
      rw [ha] at h
      have h1:=h.1
      have h2:=h.2
      rw [xOps_eq] at h1 h2
      by_cases hz:altOk false ops=true
      ·have ht:=hz
       unfold altOk at ht
       rw [ha] at ht
       simp only [Bool.not_false,Bool.true_or,Bool.and_true] at ht
       refine W.draw2 (z:=false) (tyOf_ok P) hm ht ?_ ?_
       ·rw [opsOf_range]; exact wOps_Z (fun h=>by cases h) (imp (fun s' hk=>⟨fun h=>(by cases h),hk.2⟩) h1)
       ·rw [opsOf_swap _ _ fun j hj=>List.mem_range.1 hj,opsOf_range]; exact wOps_Z (fun h=>by cases h) (imp (fun s' hk=>⟨fun h=>(by cases h),hk.2⟩) h2)
      ·have ht:=ht.resolve_left hz
       unfold altOk at ht
       rw [ha] at ht
       simp only [Bool.not_true,Bool.false_or,Bool.and_eq_true] at ht
       refine W.draw2 (z:=true) (tyOf_ok P) hm ht.1 ?_ ?_
       ·rw [opsOf_range]; exact wOps_Z (fun _=>ht.2.1) (imp (fun s' hk=>⟨fun _=>hk.1.resolve_right hz,hk.2⟩) h1)
       ·rw [opsOf_swap _ _ fun j hj=>List.mem_range.1 hj,opsOf_range]; exact wOps_Z (fun _=>ht.2.2) (imp (fun s' hk=>⟨fun _=>hk.1.resolve_right hz,hk.2⟩) h2)
 | _=>exact fun _ _ _ h=>h
theorem Gives.of (hm : P.follows .mixedOrders = true) {f : FuncId} {fn : Func} {c : Code} {n : Nat} {rs : List ResultVar} {args : List FV} {r : FV} (hf : P.funcs[f]? = some fn) (hb : fn.body = some c) (hn : fn.ntmps = n) (hr : fn.results.toList = rs) (hok : ((fn.name != "runtime.NumGoroutine") && okC c) = true)
  (hw:xC P c (Ret (tyOf P) rs (·=r)) ⟨initT n args,[],[]⟩):Gives P f args r:=by
 simp only [Bool.and_eq_true,bne_iff_ne] at hok
 subst hn hr
 exact Gives.of_W (tyOf_ok P) hf hb hok.1 (xC_W hm c hok.2 hw)
inductive Out where
 | ret (r:FV)
 | pan (v:Value)
def Outs (P:Program) (f:FuncId) (args:List FV):Out→Prop
 | .ret r=>Gives P f args r
 | .pan v=>Panics P f args v
def RetO (T:TV) (rs:List ResultVar):Out→Pst
 | .ret r=>Ret T rs (·=r)
 | .pan v=>fun e _=>e=panicX v
theorem Outs.of (hm : P.follows .mixedOrders = true) {f : FuncId} {fn : Func} {c : Code} {n : Nat} {rs : List ResultVar} {args : List FV} {o : Out} (hf : P.funcs[f]? = some fn) (hb : fn.body = some c) (hn : fn.ntmps = n) (hr : fn.results.toList = rs) (hok : ((fn.name != "runtime.NumGoroutine") && okC c) = true)
  (hw:xC P c (RetO (tyOf P) rs o) ⟨initT n args,[],[]⟩):Outs P f args o:=by
 cases o with
 | ret r=>exact Gives.of hm hf hb hn hr hok hw
 | pan v =>
  simp only [Bool.and_eq_true,bne_iff_ne] at hok
  subst hn hr
  exact Panics.of_W (tyOf_ok P) hf hb hok.1 (xC_W hm c hok.2 hw)
theorem loopX (hm:P.follows .mixedOrders=true) {c:Code} {Q:Pst} {s:St} (I:Nat→St→Prop) (n:Nat) (hok:okC c=true) (h0:I n s) (round:∀ n s,I n s→xC P c (SeqQ (fun _ s'=>∃ m,m < n∧I m s') Q) s):W P (.loop c) s Q :=
 W.loop I n h0 fun n s hI=>W.mono (xC_W hm c hok (round n s hI)) fun e s' h=>by cases e <;> exact h
def SeqC (P:Program) (b:Code) (Q:Pst):Pst:=SeqQ (xC P b) Q
def OpsK (P:Program) (rf:Bool) (ops:Array Oper) (l:List Oper) (Q:Pst):St→Prop:=xOps P rf ops l Q
def ThenK (P:Program) (rf:Bool) (ops:Array Oper) (l:List Oper) (Q:Pst) (t:List AV) (d:Option Tmp):OpR→Prop
 | some r=>xOps P rf ops l Q ((⟨t,[],[]⟩:St).to d r)
 | none=>False
def orKill (rf:Bool) (x:OpR):OpR→OpR
 | some r=>some r
 | none=>if rf then x else none
theorem forX (hm:P.follows .mixedOrders=true) {c:Code} {Q:Pst} {s:St} (N:Nat) (I:Nat→St→Prop) (hok:okC c=true) (h0:I 0 s) (round:∀ k s,k≤N→I k s→xC P c (SeqQ (fun _ s'=>k < N∧I (k+1) s') Q) s):W P (.loop c) s Q :=
 W.loop (fun n s=>∃ k,k≤N∧n=N - k∧I k s) N ⟨0,Nat.zero_le _,rfl,h0⟩ fun n s ⟨k,hk,hn,hI⟩=>W.mono (xC_W hm c hok (round k s hk hI)) fun e s' h=>by
  cases e with
  | normal=>exact ⟨N - (k+1),by have:=h.1; omega,k+1,h.1,rfl,h.2⟩
  | _=>exact h
section seqq
variable {f:Pst→St→Prop} {Q:Pst} {s:St} {i:Nat}
theorem seqQ_normal:SeqQ f Q .normal s=f Q s:=(rfl)
theorem seqQ_exit:SeqQ f Q (.exit i) s=Q (.exit i) s:=(rfl)
theorem seqQ_ret:SeqQ f Q .ret s=Q .ret s:=(rfl)
theorem seqQ_goto:SeqQ f Q (.goto i) s=Q (.goto i) s:=(rfl)
end seqq
section lemmas
variable {b c:Code} {Q:Pst} {s:St} {id i:Nat} {p p':Prop} {q rf:Bool} {x:Operand} {d:Bool} {ops:Array Oper} {o:Oper} {l:List Oper}
theorem xC_seq:xC P (.seq c b) Q s=xC P c (SeqC P b Q) s:=(rfl)
theorem xC_skip:xC P .skip Q s=Q .normal s:=(rfl)
theorem xC_exit:xC P (.exit i) Q s=Q (.exit i) s:=(rfl)
theorem xC_ret:xC P .ret Q s=Q .ret s:=(rfl)
theorem xC_goto:xC P (.goto i) Q s=Q (.goto i) s:=(rfl)
theorem xC_block:xC P (.block id c) Q s=xC P c (BlkQ id Q) s:=(rfl)
theorem seqQ_panic {f:Pst→St→Prop} {Q:Pst} {s:St} {v:Value}:SeqQ f Q (panicX v) s=Q (panicX v) s:=(rfl)
theorem seqC_panic {b:Code} {Q:Pst} {s:St} {v:Value}:SeqC P b Q (panicX v) s=Q (panicX v) s:=(rfl)
theorem blkQ_panic {id:Nat} {Q:Pst} {s:St} {v:Value}:BlkQ id Q (panicX v) s=Q (panicX v) s:=(rfl)
theorem endQ_eq {e:Exit}:EndQ ops l Q e s=(ZE ops l s.t∧Q e s):=(rfl)
def DrawK (P:Program) (ops:Array Oper) (l:List Oper) (Q:Pst) (s:St):Option Nat→Prop
 | none=>OpsK P false ops l Q s
 | some i=>OpsK P false ops l (EndQ ops l Q) s∧OpsK P false ops (swapL i l) (EndQ ops (swapL i l) Q) s
def DrawLK (P:Program) (ops:Array Oper) (Q:Pst) (s:St):Option (List Oper × Oper)→Prop
 | some (pre,o)=>OpsK P false ops pre (LastQ P ops o Q) s
 | none=>DrawK P ops ops.toList Q s (altI ops.toList 0)
theorem xC_regionF:xC P (.region id ops false) Q s=OpsK P true ops ops.toList Q s:=(rfl)
theorem drawK_eq:DrawX P ops ops.toList Q s (altI ops.toList 0)=DrawK P ops ops.toList Q s (altI ops.toList 0):=by
 cases altI ops.toList 0 <;> rfl
theorem xC_regionT:xC P (.region id ops true) Q s=DrawLK P ops Q s (lastL ops.toList):=by
 show DrawL P ops Q s (lastL ops.toList)=_
 cases lastL ops.toList with
 | none=>exact drawK_eq
 | some q=>rfl
theorem lastQ_normal {o:Oper}:LastQ P ops o Q .normal s=OpsK P true ops [o] Q s:=(rfl)
theorem drawLK_none:DrawLK P ops Q s none=DrawK P ops ops.toList Q s (altI ops.toList 0):=(rfl)
theorem drawLK_some {pre:List Oper} {o:Oper}:DrawLK P ops Q s (some (pre,o))=OpsK P false ops pre (LastQ P ops o Q) s:=(rfl)
theorem drawK_none:DrawK P ops l Q s none=OpsK P false ops l Q s:=(rfl)
theorem drawK_some:DrawK P ops l Q s (some i)=(OpsK P false ops l (EndQ ops l Q) s∧OpsK P false ops (swapL i l) (EndQ ops (swapL i l) Q) s):=(rfl)
theorem xC_loop:xC P (.loop c) Q s=W P (.loop c) s Q:=(rfl)
theorem seqC_normal:SeqC P b Q .normal s=xC P b Q s:=(rfl)
theorem seqC_exit:SeqC P b Q (.exit i) s=Q (.exit i) s:=(rfl)
theorem seqC_ret:SeqC P b Q .ret s=Q .ret s:=(rfl)
theorem seqC_goto:SeqC P b Q (.goto i) s=Q (.goto i) s:=(rfl)
theorem blkQ_normal:BlkQ id Q .normal s=Q .normal s:=(rfl)
theorem blkQ_exit:BlkQ id Q (.exit i) s=if i=id then Q .normal s else Q (.exit i) s:=(rfl)
theorem blkQ_ret:BlkQ id Q .ret s=Q .ret s:=(rfl)
theorem blkQ_goto:BlkQ id Q (.goto i) s=Q (.goto i) s:=(rfl)
end lemmas
section steps
variable {rf:Bool} {Q:Pst} {t:List AV} {ops:Array Oper} {l:List Oper} {d:Option Tmp} {ty:TypeId} {pos:String} {af:Array Edge}
def RefK (P:Program) (rf:Bool) (ops:Array Oper) (l:List Oper) (Q:Pst) (s:St) (d:Option Tmp):Option (FuncId × List AV)→Prop
 | some (f,as)=>∃ R,GivesX P f as s.h s.k R∧∀ x h' k',R x h' k'→xOps P rf ops l Q (s.to d (x,h',k'))
 | none=>False
theorem wop_call {g:Operand} {as:Array Operand} {ts:Array TypeId}:wOp P (tyOf P) rf ⟨d,.call ⟨.value g,as,ts⟩,ty,pos,af,none⟩ ⟨t,h,k⟩ (xOps P rf ops l Q)=(match calleeA (evA t) (.call ⟨.value g,as,ts⟩) with
  | some (f,as')=>(∃ x k',CallTo P f as' k x k'∧xOps P rf ops l Q ((⟨t,h,k'⟩:St).put d x))∨(rf=true∧RefK P rf ops l Q ⟨t,h,k⟩ d (calleeR (evA t) (.call ⟨.value g,as,ts⟩)))
  | none=>RefK P rf ops l Q ⟨t,h,k⟩ d (if rf then calleeR (evA t) (.call ⟨.value g,as,ts⟩) else none)):=by
 unfold wOp
 cases hc:calleeA (evA t) (.call ⟨.value g,as,ts⟩) with
 | some p =>
  simp only
  cases hr:calleeR (evA t) (.call ⟨.value g,as,ts⟩) with
  | none=>simp [RefK,hr]
  | some q =>
   simp only [RefK,Option.some.injEq]
   apply propext
   refine or_congr Iff.rfl (and_congr Iff.rfl ⟨fun ⟨f',as',R,e,h1,h2⟩=>?_,fun ⟨R,h1,h2⟩=>⟨_,_,R,rfl,h1,h2⟩⟩)
   subst e
   exact ⟨R,h1,h2⟩
 | none =>
  simp only
  cases hr:(if rf then calleeR (evA t) (.call ⟨.value g,as,ts⟩) else none) with
  | some p=>rfl
  | none=>simp [RefK,evOp,evCall,evKill]
theorem ops_call {g:Operand} {as:Array Operand} {ts:Array TypeId}:OpsK P rf ops (⟨d,.call ⟨.value g,as,ts⟩,ty,pos,af,none⟩::l) Q ⟨t,h,k⟩=(match calleeA (evA t) (.call ⟨.value g,as,ts⟩) with
  | some (f,as')=>(∃ x k',CallTo P f as' k x k'∧xOps P rf ops l Q ((⟨t,h,k'⟩:St).put d x))∨(rf=true∧RefK P rf ops l Q ⟨t,h,k⟩ d (calleeR (evA t) (.call ⟨.value g,as,ts⟩)))∨(rf=true∧∃ v,Panics P f as' v∧Q (panicX v) ⟨t,h,k⟩)
  | none=>RefK P rf ops l Q ⟨t,h,k⟩ d (if rf then calleeR (evA t) (.call ⟨.value g,as,ts⟩) else none)):=by
 show xOp P rf _ _ (xOps P rf ops l Q) Q=_
 unfold xOp
 rw [wop_call]
 cases hc:calleeA (evA t) (.call ⟨.value g,as,ts⟩) with
 | some p =>
  obtain ⟨f,as'⟩:=p
  simp only
  apply propext
  rw [or_assoc]
  refine or_congr Iff.rfl (or_congr Iff.rfl (and_congr Iff.rfl ⟨fun ⟨f2,as2,v,e,h1,h2⟩=>?_,fun ⟨v,h1,h2⟩=>⟨f,as',v,rfl,h1,h2⟩⟩))
  obtain ⟨rfl,rfl⟩:=Prod.mk.inj (Option.some.inj e)
  exact ⟨v,h1,h2⟩
 | none=>simp
theorem ops_opK {o:Op} (hc:calleeA (evA t) o=none) (hr:calleeR (evA t) o=none):OpsK P rf ops (⟨d,o,ty,pos,af,none⟩::l) Q ⟨t,h,k⟩=ThenK P rf ops l Q t d (orKill rf (evKill (tyOf P) (evA t) h k o) (evOp P (tyOf P) (evA t) h k ⟨d,o,ty,pos,af,none⟩)):=by
 show xOp P rf _ _ (xOps P rf ops l Q) Q=_
 have h0:xOp P rf ⟨d,o,ty,pos,af,none⟩ ⟨t,h,k⟩ (xOps P rf ops l Q) Q=wOp P (tyOf P) rf ⟨d,o,ty,pos,af,none⟩ ⟨t,h,k⟩ (xOps P rf ops l Q):=by simp [xOp,hc]
 rw [h0]
 simp only [wOp,hc,hr,ite_self]
 cases evOp P (tyOf P) (evA t) h k ⟨d,o,ty,pos,af,none⟩ with
 | some r=>rfl
 | none =>
  simp only [orKill]
  cases (if rf=true then evKill (tyOf P) (evA t) h k o else none) <;> rfl
theorem ops_op {o:Op} (hc:calleeA (evA t) o=none) (hr:calleeR (evA t) o=none) (hk:evKill (tyOf P) (evA t) h k o=none):OpsK P rf ops (⟨d,o,ty,pos,af,none⟩::l) Q ⟨t,h,k⟩=ThenK P rf ops l Q t d (evOp P (tyOf P) (evA t) h k ⟨d,o,ty,pos,af,none⟩):=by
 rw [ops_opK hc hr,hk]
 cases evOp P (tyOf P) (evA t) h k ⟨d,o,ty,pos,af,none⟩ <;> simp [orKill]
theorem ops_guard {o:Op} {j:Nat} {want:Bool}:OpsK P rf ops (⟨d,o,ty,pos,af,some (j,want)⟩::l) Q ⟨t,h,k⟩=(match yieldedA ops t j want with
  | some b=>if b=true then OpsK P rf ops (⟨d,o,ty,pos,af,none⟩::l) Q ⟨t,h,k⟩ else OpsK P rf ops l Q ((⟨t,h,k⟩:St).put d undefA)
  | none=>False):=by
 show (match yieldedA ops t j want with | some b=>_ | none=>False)=_
 cases yieldedA ops t j want <;> rfl
end steps
end Go.Proofs.YtafenffmgpcjcaaGreat.Vf
namespace Go.Proofs.YtafenffmgpcjcaaGreat.Vf
open Go.RowKit
set_option linter.unusedVariables false
set_option linter.unusedSimpArgs false
variable {h:List (List AV)} {k:List (Nat × Nat)} {P:Program}
def StillK (P:Program) (rf:Bool) (ops:Array Oper) (l:List Oper) (Q:Pst) (t:List AV) (h:List (List AV)) (k:List (Nat × Nat)) (d:Option Tmp):Option AV→Prop
 | some x=>OpsK P rf ops l Q ⟨putT t d x,h,k⟩
 | none=>False
def BoxK (P:Program) (rf:Bool) (ops:Array Oper) (l:List Oper) (Q:Pst) (t:List AV) (k:List (Nat × Nat)) (d:Option Tmp):Option (AV × List (List AV))→Prop
 | some (x,h)=>OpsK P rf ops l Q ⟨putT t d x,h,k⟩
 | none=>False
def TokK (P:Program) (rf:Bool) (ops:Array Oper) (l:List Oper) (Q:Pst) (t:List AV) (h:List (List AV)) (d:Option Tmp):Option (AV × List (Nat × Nat))→Prop
 | some (x,k)=>OpsK P rf ops l Q ⟨putT t d x,h,k⟩
 | none=>False
def StoreK (P:Program) (rf:Bool) (ops:Array Oper) (l:List Oper) (Q:Pst) (t:List AV) (k:List (Nat × Nat)) (d:Option Tmp):Option (List (List AV))→Prop
 | some h=>OpsK P rf ops l Q ⟨putT t d undefA,h,k⟩
 | none=>False
def MakeK (P:Program) (rf:Bool) (ops:Array Oper) (l:List Oper) (Q:Pst) (t:List AV) (d:Option Tmp):OpR→Prop
 | some (x,h,k)=>OpsK P rf ops l Q ⟨putT t d x,h,k⟩
 | none=>False
def GivesK (P:Program) (rf:Bool) (ops:Array Oper) (l:List Oper) (Q:Pst) (t:List AV) (h:List (List AV)) (k:List (Nat × Nat)) (d:Option Tmp) (f:FuncId) (cs:List FV) (ra:List AV):Option (List FV)→Prop
 | some as=>(∃ x k',CallTo P f (as ++ cs) k x k'∧OpsK P rf ops l Q ⟨putT t d x,h,k'⟩)∨(rf=true∧∃ R,GivesX P f ra h k R∧∀ x h' k',R x h' k'→OpsK P rf ops l Q ⟨putT t d x,h',k'⟩)∨(rf=true∧∃ v,Panics P f (as ++ cs) v∧Q (panicX v) ⟨t,h,k⟩)
 | none=>if rf then ∃ R,GivesX P f ra h k R∧∀ x h' k',R x h' k'→OpsK P rf ops l Q ⟨putT t d x,h',k'⟩ else False
def GuardK (b:Option Bool) (p q:Prop):Prop:=match b with
 | some b=>if b=true then p else q
 | none=>False
def dstAt:List Oper→Nat→Option Tmp
 | [],_=>none
 | o::_,0=>o.dst
 | _::l,n+1=>dstAt l n
def yieldsA (l:List Oper) (t:List AV) (j:Nat) (want:Bool):Option Bool:=match dstAt l j with
 | some d=>match ix t d with
  | some v=>boolA want v
  | none=>none
 | none=>none
theorem dstAt_eq:∀ (l:List Oper) (j:Nat),(l[j]?).bind (·.dst)=dstAt l j
 | [],j=>by simp [dstAt]
 | o::l,0=>rfl
 | o::l,n+1=>by simpa [dstAt] using dstAt_eq l n
theorem yieldsA_eq (ops:Array Oper) (t:List AV) (j:Nat) (want:Bool):yieldedA ops t j want=yieldsA ops.toList t j want:=by
 unfold yieldedA yieldsA
 have h:dstAt ops.toList j=(ops[j]?).bind (·.dst):=by rw [← dstAt_eq,Array.getElem?_toList]
 simp only [h]
 all_goals
  generalize (ops[j]?).bind (·.dst)=d
  cases d with
  | none=>rfl
  | some d=>simp only; cases ix t d <;> rfl
@[simp] theorem dstAt_zero {o:Oper} {l:List Oper}:dstAt (o::l) 0=o.dst:=rfl
@[simp] theorem dstAt_succ {o:Oper} {l:List Oper} {n:Nat}:dstAt (o::l) (n+1)=dstAt l n:=rfl
@[simp] theorem boolA_true {b:Bool}:boolA true (.f (.sc (.bool b)))=some b:=by simp [boolA]
@[simp] theorem boolA_false {b:Bool}:boolA false (.f (.sc (.bool b)))=some (!b):=by simp [boolA]
@[simp] theorem boolA_undef {want:Bool}:boolA want undefA=some false:=rfl
attribute [simp] yieldsA
def CondC (P:Program) (v:AV) (a b:Code) (Q:Pst) (s:St):Prop:=CondQ v (xC P a Q s) (xC P b Q s)
def GuardC (P:Program) (rf:Bool) (ops:Array Oper) (v:Option Bool) (o:Oper) (l:List Oper) (Q:Pst) (d:Option Tmp) (t:List AV) (h:List (List AV)) (k:List (Nat × Nat)):Prop :=
 GuardK v (OpsK P rf ops (o::l) Q ⟨t,h,k⟩) (OpsK P rf ops l Q ⟨putT t d undefA,h,k⟩)
def PickC (P:Program) (rf:Bool) (ops:Array Oper) (l:List Oper) (Q:Pst) (d:Option Tmp) (t:List AV) (h:List (List AV)) (k:List (Nat × Nat)) (v x y:AV):Prop :=
 CondQ v (OpsK P rf ops l Q ⟨putT t d x,h,k⟩) (OpsK P rf ops l Q ⟨putT t d y,h,k⟩)
def argsA (t:List AV):List Operand→Option (List FV)
 | []=>some []
 | x::l=>match fzA (evA t x) with
  | some y=>match argsA t l with
   | some ys=>some (y::ys)
   | none=>none
  | none=>none
theorem argsA_eq (t:List AV) (l:List Operand):argsA t l=mapO (fun x=>fzA (evA t x)) l:=by
 induction l with
 | nil=>rfl
 | cons x l ih =>
  simp only [argsA,mapO,ih]
  cases fzA (evA t x) with
  | none=>rfl
  | some y=>cases mapO (fun x=>fzA (evA t x)) l <;> rfl
def partsA (t:List AV):List (Nat × Operand)→List (Nat × AV)
 | []=>[]
 | p::l=>(p.1,evA t p.2)::partsA t l
theorem partsA_eq (t:List AV) (l:List (Nat × Operand)):partsA t l=l.map fun p=>(p.1,evA t p.2):=by
 induction l with
 | nil=>rfl
 | cons x l ih=>simp only [partsA,List.map_cons,ih]
section steps
variable {rf:Bool} {Q:Pst} {t:List AV} {ops:Array Oper} {l:List Oper} {d:Option Tmp} {ty u:TypeId} {pos:String} {af:Array Edge} {x y z:Operand} {n:Nat}
theorem thenK_still {r:Option AV}:ThenK P rf ops l Q t d (still h k r)=StillK P rf ops l Q t h k d r:=by cases r <;> first | rfl | (simp only [still,ThenK,StillK,St.to,put_eq]; rfl)
theorem thenK_box {r:Option (AV × List (List AV))}:ThenK P rf ops l Q t d (boxed k r)=BoxK P rf ops l Q t k d r:=by cases r <;> first | rfl | (simp only [boxed,ThenK,BoxK,St.to,put_eq]; rfl)
theorem thenK_tok {r:Option (AV × List (Nat × Nat))}:ThenK P rf ops l Q t d (told h r)=TokK P rf ops l Q t h d r:=by cases r <;> first | rfl | (simp only [told,ThenK,TokK,St.to,put_eq]; rfl)
theorem thenK_store {r:Option (List (List AV))}:ThenK P rf ops l Q t d (stored k r)=StoreK P rf ops l Q t k d r:=by cases r <;> first | rfl | (simp only [stored,ThenK,StoreK,St.to,put_eq]; rfl)
theorem thenK_make {r:OpR}:ThenK P rf ops l Q t d r=MakeK P rf ops l Q t d r:=by cases r <;> first | rfl | (simp only [ThenK,MakeK,St.to,put_eq]; rfl)
@[simp] theorem ops_move:OpsK P rf ops (⟨d,.move x,ty,pos,af,none⟩::l) Q ⟨t,h,k⟩=OpsK P rf ops l Q ⟨putT t d (evA t x),h,k⟩:=(ops_op rfl rfl rfl).trans (thenK_still (r:=some (evA t x)))
@[simp] theorem ops_assign:OpsK P rf ops (⟨d,.assign x,ty,pos,af,none⟩::l) Q ⟨t,h,k⟩=OpsK P rf ops l Q ⟨putT t d (evA t x),h,k⟩:=(ops_op rfl rfl rfl).trans (thenK_still (r:=some (evA t x)))
@[simp] theorem ops_load:OpsK P rf ops (⟨d,.load u x,ty,pos,af,none⟩::l) Q ⟨t,h,k⟩=StillK P rf ops l Q t h k d (opLoad (tyOf P) h u (evA t x)):=(ops_op rfl rfl rfl).trans thenK_still
@[simp] theorem ops_field:OpsK P rf ops (⟨d,.field u x n,ty,pos,af,none⟩::l) Q ⟨t,h,k⟩=StillK P rf ops l Q t h k d (opField (tyOf P) u (evA t x) n):=(ops_op rfl rfl rfl).trans thenK_still
@[simp] theorem ops_fieldAddr:OpsK P rf ops (⟨d,.fieldAddr u x n,ty,pos,af,none⟩::l) Q ⟨t,h,k⟩=StillK P rf ops l Q t h k d (opFieldAddr (tyOf P) u (evA t x) n):=(ops_op rfl rfl rfl).trans thenK_still
@[simp] theorem ops_indexAddr:OpsK P rf ops (⟨d,.indexAddr u x y,ty,pos,af,none⟩::l) Q ⟨t,h,k⟩=StillK P rf ops l Q t h k d (opIndexAddr (tyOf P) u (evA t x) (evA t y)):=(ops_op rfl rfl rfl).trans thenK_still
@[simp] theorem ops_extract:OpsK P rf ops (⟨d,.extract x n,ty,pos,af,none⟩::l) Q ⟨t,h,k⟩=StillK P rf ops l Q t h k d (opExtract (evA t x) n):=(ops_op rfl rfl rfl).trans thenK_still
@[simp] theorem ops_bin {op:BinOp} {u2:TypeId}:OpsK P rf ops (⟨d,.binOp op u x y u2,ty,pos,af,none⟩::l) Q ⟨t,h,k⟩=StillK P rf ops l Q t h k d (opBin P (tyOf P) op u x y (evA t x) (evA t y)):=(ops_op rfl rfl rfl).trans thenK_still
@[simp] theorem ops_un {op:UnOp}:OpsK P rf ops (⟨d,.unOp op u x,ty,pos,af,none⟩::l) Q ⟨t,h,k⟩=StillK P rf ops l Q t h k d (opOne P (Op.unary op) (evA t x)):=(ops_op rfl rfl rfl).trans thenK_still
@[simp] theorem ops_conv {v:TypeId}:OpsK P rf ops (⟨d,.convert u v x,ty,pos,af,none⟩::l) Q ⟨t,h,k⟩=StillK P rf ops l Q t h k d (opOne P (convert u v) (evA t x)):=(ops_op rfl rfl rfl).trans thenK_still
@[simp] theorem ops_nilCheck:OpsK P rf ops (⟨d,.nilCheck x,ty,pos,af,none⟩::l) Q ⟨t,h,k⟩=StillK P rf ops l Q t h k d (opNonNil (evA t x)):=(ops_op rfl rfl rfl).trans thenK_still
@[simp] theorem ops_alloc:OpsK P rf ops (⟨d,.alloc u,ty,pos,af,none⟩::l) Q ⟨t,h,k⟩=BoxK P rf ops l Q t k d (opAlloc (tyOf P) h u):=(ops_op rfl rfl rfl).trans thenK_box
@[simp] theorem ops_box:OpsK P rf ops (⟨d,.box u x,ty,pos,af,none⟩::l) Q ⟨t,h,k⟩=BoxK P rf ops l Q t k d (opBox h (evA t x)):=(ops_op rfl rfl rfl).trans thenK_box
@[simp] theorem ops_store:OpsK P rf ops (⟨d,.store u x y,ty,pos,af,none⟩::l) Q ⟨t,h,k⟩=StoreK P rf ops l Q t k d (opStore (tyOf P) h u (evA t x) (evA t y)):=(ops_op rfl rfl rfl).trans thenK_store
@[simp] theorem ops_build {ps:Array (Nat × Operand)}:OpsK P rf ops (⟨d,.build u ps,ty,pos,af,none⟩::l) Q ⟨t,h,k⟩=StillK P rf ops l Q t h k d (opBuild (tyOf P) u (partsA t ps.toList)):=by rw [partsA_eq]; exact (ops_op rfl rfl rfl).trans thenK_still
def KillK (P:Program) (rf:Bool) (ops:Array Oper) (l:List Oper) (Q:Pst) (t:List AV) (h:List (List AV)) (k:List (Nat × Nat)) (d:Option Tmp) (u:TypeId) (n:Nat) (ps:List (Nat × AV)):Option AV→Prop
 | some x=>OpsK P rf ops l Q ⟨putT t d x,h,k⟩
 | none=>if rf then (match killP h ps with
  | some (qs,h')=>(match opBuildSlice (tyOf P) u n qs with
   | some x=>OpsK P rf ops l Q ⟨putT t d x,h',k⟩
   | none=>False)
  | none=>False) else False
@[simp] theorem ops_buildSlice {ps:Array (Nat × Operand)}:OpsK P rf ops (⟨d,.buildSlice u n ps,ty,pos,af,none⟩::l) Q ⟨t,h,k⟩=KillK P rf ops l Q t h k d u n (partsA t ps.toList) (opBuildSlice (tyOf P) u n (partsA t ps.toList)):=by
 rw [partsA_eq]
 refine (ops_opK rfl rfl).trans ?_
 simp only [evOp,evKill]
 cases opBuildSlice (tyOf P) u n (ps.toList.map fun p=>(p.1,evA t p.2)) with
 | some x=>exact thenK_still (r:=some x)
 | none =>
  simp only [still,orKill,KillK]
  cases rf with
  | false=>rfl
  | true =>
   simp only [if_true]
   cases killP h (ps.toList.map fun p=>(p.1,evA t p.2)) with
   | none=>rfl
   | some q =>
    obtain ⟨qs,h'⟩:=q
    simp only
    cases opBuildSlice (tyOf P) u n qs with
    | none=>rfl
    | some x=>exact thenK_still (r:=some x)
@[simp] theorem killK_some {ps:List (Nat × AV)} {r:AV}:KillK P rf ops l Q t h k d u n ps (some r)=OpsK P rf ops l Q ⟨putT t d r,h,k⟩:=(rfl)
@[simp] theorem killK_none {ps:List (Nat × AV)}:KillK P true ops l Q t h k d u n ps none=(match killP h ps with
  | some (qs,h')=>(match opBuildSlice (tyOf P) u n qs with
   | some x=>OpsK P true ops l Q ⟨putT t d x,h',k⟩
   | none=>False)
  | none=>False):=(rfl)
@[simp] theorem ops_make:OpsK P rf ops (⟨d,.makeSlice u x y,ty,pos,af,none⟩::l) Q ⟨t,h,k⟩=MakeK P rf ops l Q t d (opMake (tyOf P) h k u (isZero x) (evA t x) (evA t y)):=(ops_op rfl rfl rfl).trans thenK_make
@[simp] theorem ops_len:OpsK P rf ops (⟨d,.call ⟨.builtin .len,#[x],#[u]⟩,ty,pos,af,none⟩::l) Q ⟨t,h,k⟩=StillK P rf ops l Q t h k d (orElse P (evA t) ⟨d,.call ⟨.builtin .len,#[x],#[u]⟩,ty,pos,af,none⟩ (opLen (tyOf P) u (evA t x))):=(ops_op rfl rfl rfl).trans thenK_still
@[simp] theorem ops_append:OpsK P rf ops (⟨d,.call ⟨.builtin .append,#[x,y],#[u,u]⟩,ty,pos,af,none⟩::l) Q ⟨t,h,k⟩=TokK P rf ops l Q t h d (opAppend (tyOf P) k u (evA t x) (evA t y)):=by
 refine (ops_op rfl rfl rfl).trans (Eq.trans ?_ thenK_tok)
 simp only [evOp,evCall,if_true]
@[simp] theorem ops_slice {lo hi mx:Option Operand}:OpsK P rf ops (⟨d,.slice u x lo hi mx,ty,pos,af,none⟩::l) Q ⟨t,h,k⟩=StillK P rf ops l Q t h k d (orElse P (evA t) ⟨d,.slice u x lo hi mx,ty,pos,af,none⟩ (opSlice (tyOf P) u (evA t x) (lo.map (evA t)) (hi.map (evA t)) (mx.map (evA t)))):=(ops_op rfl rfl rfl).trans thenK_still
@[simp] theorem ops_index:OpsK P rf ops (⟨d,.index u x y,ty,pos,af,none⟩::l) Q ⟨t,h,k⟩=StillK P rf ops l Q t h k d (orElse P (evA t) ⟨d,.index u x y,ty,pos,af,none⟩ (opIndex (tyOf P) u (evA t x) (evA t y))):=(ops_op rfl rfl rfl).trans thenK_still
@[simp] theorem ops_pick:OpsK P rf ops (⟨d,.pick x y z,ty,pos,af,none⟩::l) Q ⟨t,h,k⟩=PickC P rf ops l Q d t h k (evA t x) (evA t y) (evA t z):=by
 refine (ops_op rfl rfl rfl).trans ?_
 simp only [evOp,PickC]
 generalize evA t x=v
 unfold CondQ
 split
 ·rename_i q
  cases q
  ·exact thenK_still (r:=some _)
  ·exact thenK_still (r:=some _)
 ·rename_i hne
  split
  ·rename_i q; exact absurd rfl (hne q)
  ·rfl
def mapA (t:List AV):List Operand→List AV
 | []=>[]
 | x::l=>evA t x::mapA t l
theorem mapA_eq (l:List Operand):mapA t l=l.map (evA t):=by
 induction l with
 | nil=>rfl
 | cons x l ih=>simp only [mapA,List.map_cons,ih]
@[simp] theorem mapA_nil:mapA t []=[]:=rfl
@[simp] theorem mapA_cons {r:List Operand}:mapA t (x::r)=evA t x::mapA t r:=rfl
def FnK (P:Program) (rf:Bool) (ops:Array Oper) (l:List Oper) (Q:Pst) (t:List AV) (h:List (List AV)) (k:List (Nat × Nat)) (d:Option Tmp) (as:List Operand):AV→Prop
 | .f (.fn f cs)=>GivesK P rf ops l Q t h k d f cs (mapA t as ++ cs.map .f) (argsA t as)
 | .fnr f cs=>if rf then ∃ R,GivesX P f (mapA t as ++ cs) h k R∧∀ x h' k',R x h' k'→OpsK P rf ops l Q ⟨putT t d x,h',k'⟩ else False
 | _=>False
@[simp] theorem ops_fn {g:Operand} {as:Array Operand} {ts:Array TypeId}:OpsK P rf ops (⟨d,.call ⟨.value g,as,ts⟩,ty,pos,af,none⟩::l) Q ⟨t,h,k⟩=FnK P rf ops l Q t h k d as.toList (evA t g):=by
 rw [ops_call]
 have hc:calleeA (evA t) (.call ⟨.value g,as,ts⟩)=(match evA t g with
  | .f (.fn f cs)=>match argsA t as.toList with
   | some as=>some (f,as ++ cs)
   | none=>none
  | _=>none):=by rw [argsA_eq]; rfl
 have hr:calleeR (evA t) (.call ⟨.value g,as,ts⟩)=(match fnOf (evA t g) with
  | some (f,cs)=>some (f,mapA t as.toList ++ cs)
  | none=>none):=by rw [mapA_eq]; rfl
 rw [hc,hr]
 have hn:RefK P rf ops l Q ⟨t,h,k⟩ d none=False:=(rfl)
 generalize evA t g=v
 cases v with
 | f v =>
  cases v with
  | fn f cs =>
   simp only [FnK]
   cases argsA t as.toList with
   | some as=>simp only [GivesK,put_eq,RefK,fnOf,St.to,OpsK]
   | none=>cases rf <;> simp [GivesK,RefK,fnOf,St.to,put_eq,OpsK]
  | _=>cases rf <;> simp [FnK,RefK,fnOf]
 | fnr f cs=>cases rf <;> simp [FnK,RefK,fnOf,St.to,put_eq,OpsK]
 | _=>cases rf <;> simp [FnK,RefK,fnOf]
@[simp] theorem fnK_fn {as:List Operand} {f:FuncId} {cs:List FV}:FnK P rf ops l Q t h k d as (.f (.fn f cs))=GivesK P rf ops l Q t h k d f cs (mapA t as ++ cs.map .f) (argsA t as):=(rfl)
@[simp] theorem fnK_fnr {as:List Operand} {f:FuncId} {cs:List AV}:FnK P true ops l Q t h k d as (.fnr f cs)=∃ R,GivesX P f (mapA t as ++ cs) h k R∧∀ x h' k',R x h' k'→OpsK P true ops l Q ⟨putT t d x,h',k'⟩:=by simp [FnK]
@[simp] theorem ops_guarded {o:Op} {j:Nat} {want:Bool}:OpsK P rf ops (⟨d,o,ty,pos,af,some (j,want)⟩::l) Q ⟨t,h,k⟩=GuardC P rf ops (yieldsA ops.toList t j want) ⟨d,o,ty,pos,af,none⟩ l Q d t h k:=by
 rw [ops_guard,yieldsA_eq]; simp only [put_eq,GuardC]; rfl
@[simp] theorem stillK_some {r:AV}:StillK P rf ops l Q t h k d (some r)=OpsK P rf ops l Q ⟨putT t d r,h,k⟩:=(rfl)
@[simp] theorem boxK_some {r:AV} {h':List (List AV)}:BoxK P rf ops l Q t k d (some (r,h'))=OpsK P rf ops l Q ⟨putT t d r,h',k⟩:=(rfl)
@[simp] theorem tokK_some {r:AV} {k':List (Nat × Nat)}:TokK P rf ops l Q t h d (some (r,k'))=OpsK P rf ops l Q ⟨putT t d r,h,k'⟩:=(rfl)
@[simp] theorem storeK_some {h':List (List AV)}:StoreK P rf ops l Q t k d (some h')=OpsK P rf ops l Q ⟨putT t d undefA,h',k⟩:=(rfl)
@[simp] theorem makeK_some {r:AV} {h':List (List AV)} {k':List (Nat × Nat)}:MakeK P rf ops l Q t d (some (r,h',k'))=OpsK P rf ops l Q ⟨putT t d r,h',k'⟩:=(rfl)
theorem call_g {f:FuncId} {cs as:List FV} {ra:List AV} {r:FV} (hg:Gives P f (as ++ cs) r) (hk:OpsK P rf ops l Q ⟨putT t d (.f r),h,k⟩):GivesK P rf ops l Q t h k d f cs ra (some as):=.inl ⟨_,_,.val r hg,hk⟩
theorem call_t {f:FuncId} {cs as:List FV} {ra:List AV} {m:List FV} {sz:Nat} (hg:GivesT P f (as ++ cs) m sz) (hk:OpsK P rf ops l Q ⟨putT t d (.own m k.length),h,k ++ [(m.length,sz)]⟩):GivesK P rf ops l Q t h k d f cs ra (some as):=.inl ⟨_,_,.tok m sz hg,hk⟩
theorem call_p {f:FuncId} {cs as:List FV} {ra:List AV} {v:Value} (hg:Panics P f (as ++ cs) v) (hk:Q (panicX v) ⟨t,h,k⟩):GivesK P true ops l Q t h k d f cs ra (some as):=.inr (.inr ⟨rfl,v,hg,hk⟩)
theorem call_r {f:FuncId} {cs:List FV} {ra:List AV} {o:Option (List FV)} {x:AV} {h':List (List AV)} {k':List (Nat × Nat)} (hg:GivesR P f ra h k x h' k') (hk:OpsK P true ops l Q ⟨putT t d x,h',k'⟩):GivesK P true ops l Q t h k d f cs ra o:=by
 cases o with
 | some as=>exact .inr (.inl ⟨rfl,_,hg.x,fun _ _ _ ⟨e1,e2,e3⟩=>by rw [e1,e2,e3]; exact hk⟩)
 | none=>exact ⟨_,hg.x,fun _ _ _ ⟨e1,e2,e3⟩=>by rw [e1,e2,e3]; exact hk⟩
theorem call_x {f:FuncId} {cs:List FV} {ra:List AV} {o:Option (List FV)} {R:AV→List (List AV)→List (Nat × Nat)→Prop} (hg:GivesX P f ra h k R) (hk:∀ x h' k',R x h' k'→OpsK P true ops l Q ⟨putT t d x,h',k'⟩):GivesK P true ops l Q t h k d f cs ra o:=by
 cases o with
 | some as=>exact .inr (.inl ⟨rfl,_,hg,hk⟩)
 | none=>exact ⟨_,hg,hk⟩
@[simp] theorem ops_nil:OpsK P rf ops [] Q ⟨t,h,k⟩=Q .normal ⟨t,h,k⟩:=(rfl)
@[simp] theorem orElse_some {o:Oper} {ρ:Operand→AV} {r:AV}:orElse P ρ o (some r)=some r:=rfl
@[simp] theorem orElse_none {o:Oper} {ρ:Operand→AV}:orElse P ρ o none=opPure P ρ o:=rfl
def stT (t:List AV) (i:Nat) (v:AV):List AV:=t.set i v
@[simp] theorem stT_zero {v a:AV} {l:List AV}:stT (a::l) 0 v=v::l:=rfl
@[simp] theorem stT_succ {v a:AV} {l:List AV} {i:Nat}:stT (a::l) (i+1) v=a::stT l i v:=rfl
@[simp] theorem ix_zero {α:Type} {a:α} {l:List α}:ix (a::l) 0=some a:=rfl
@[simp] theorem ix_succ {α:Type} {a:α} {l:List α} {i:Nat}:ix (a::l) (i+1)=ix l i:=rfl
@[simp] theorem ix_nil {α:Type} {i:Nat}:ix ([]:List α) i=none:=rfl
@[simp] theorem putT_some {i:Nat} {v:AV}:putT t (some i) v=stT t i v:=rfl
@[simp] theorem putT_none {v:AV}:putT t none v=t:=rfl
@[simp] theorem argsA_nil:argsA t []=some []:=rfl
@[simp] theorem argsA_cons {r:List Operand}:argsA t (x::r)=(match fzA (evA t x) with
  | some y=>match argsA t r with
   | some ys=>some (y::ys)
   | none=>none
  | none=>none):=rfl
@[simp] theorem partsA_nil:partsA t []=[]:=rfl
@[simp] theorem partsA_cons {p:Nat × Operand} {r:List (Nat × Operand)}:partsA t (p::r)=(p.1,evA t p.2)::partsA t r:=rfl
end steps
section plain
variable {t:List AV} {i:Nat} {kd:IntKind} {a b:Int} {T:TV} {ty:TypeId} {x y:Operand} {op:BinOp} {q r:Bool} {s s':ByteArray}
@[simp] theorem evA_tmp:evA t (.tmp i)=(ix t i).getD undefA:=rfl
@[simp] theorem evA_const {v:Value}:evA t (.const v)=constA v:=rfl
@[simp] theorem evA_func {f:FuncId}:evA t (.func f)=.f (.fn f []):=rfl
@[simp] theorem constA_int:constA (.int kd a)=.f (.sc (.int kd a)):=rfl
@[simp] theorem constA_bool:constA (.bool q)=.f (.sc (.bool q)):=rfl
@[simp] theorem constA_string:constA (.string s)=.f (.sc (.string s)):=rfl
@[simp] theorem constA_nil:constA (.slice none 0 0)=.f (.sl [] .nil):=rfl
@[simp] theorem fzA_f {v:FV}:fzA (.f v)=some v:=rfl
@[simp] theorem fzA_own {l:List FV} {tk:Nat}:fzA (.own l tk)=some (.sl l .un):=rfl
def binInt (kd:IntKind) (a b:Int):BinOp→Option Value
 | .add=>some (.int kd (kd.wrap (a+b)))
 | .sub=>some (.int kd (kd.wrap (a - b)))
 | .mul=>some (.int kd (kd.wrap (a * b)))
 | .eql=>some (.bool (decide (a=b)))
 | .neq=>some (.bool (decide (a ≠ b)))
 | .lss=>some (.bool (a < b))
 | .leq=>some (.bool (a≤b))
 | .gtr=>some (.bool (a > b))
 | .geq=>some (.bool (a ≥ b))
 | _=>none
theorem opNil_int {op:BinOp} {kd kd':IntKind}:opNil T op ty (.f (.sc (.int kd a))) (.f (.sc (.int kd' b)))=none:=by
 unfold opNil
 split <;> first | rfl | (split <;> first | rfl | (rename_i h; simp [isNilA] at h))
theorem opBin_int {v:Value} (hv:binInt kd a b op=some v):opBin P T op ty x y (.f (.sc (.int kd a))) (.f (.sc (.int kd b)))=some (.f (.sc v)):=by
 unfold opBin
 rw [opNil_int]
 cases op <;> simp [binInt] at hv <;> subst hv <;> simp [AV.val,aggCells,cellVal,eqGuard,binOp,runPure_bind,Op.intArith,Op.intCmp,runPure,ofVal,constA] <;> first | exact ⟨_,rfl,rfl⟩ | exact ⟨_,rfl,by simp [beq_eq_decide,bne]⟩
@[simp] theorem bin_add:opBin P T .add ty x y (.f (.sc (.int kd a))) (.f (.sc (.int kd b)))=some (.f (.sc (.int kd (kd.wrap (a+b))))):=opBin_int rfl
@[simp] theorem bin_sub:opBin P T .sub ty x y (.f (.sc (.int kd a))) (.f (.sc (.int kd b)))=some (.f (.sc (.int kd (kd.wrap (a - b))))):=opBin_int rfl
@[simp] theorem bin_mul:opBin P T .mul ty x y (.f (.sc (.int kd a))) (.f (.sc (.int kd b)))=some (.f (.sc (.int kd (kd.wrap (a * b))))):=opBin_int rfl
@[simp] theorem bin_eql:opBin P T .eql ty x y (.f (.sc (.int kd a))) (.f (.sc (.int kd b)))=some (.f (.sc (.bool (decide (a=b))))):=opBin_int rfl
@[simp] theorem bin_neq:opBin P T .neq ty x y (.f (.sc (.int kd a))) (.f (.sc (.int kd b)))=some (.f (.sc (.bool (decide (a ≠ b))))):=opBin_int rfl
@[simp] theorem bin_lss:opBin P T .lss ty x y (.f (.sc (.int kd a))) (.f (.sc (.int kd b)))=some (.f (.sc (.bool (a < b)))):=opBin_int rfl
@[simp] theorem bin_leq:opBin P T .leq ty x y (.f (.sc (.int kd a))) (.f (.sc (.int kd b)))=some (.f (.sc (.bool (a≤b)))):=opBin_int rfl
@[simp] theorem bin_gtr:opBin P T .gtr ty x y (.f (.sc (.int kd a))) (.f (.sc (.int kd b)))=some (.f (.sc (.bool (a > b)))):=opBin_int rfl
@[simp] theorem bin_geq:opBin P T .geq ty x y (.f (.sc (.int kd a))) (.f (.sc (.int kd b)))=some (.f (.sc (.bool (a ≥ b)))):=opBin_int rfl
end plain
def RetV (h:List (List AV)) (x:AV) (R:FV→Prop):Prop:=∃ n y,fzH 0 h n x=some y∧R y
@[simp] theorem retV_f {R:FV→Prop} {x:FV}:RetV h (.f x) R=R x:=by
 have:∀ n,fzH 0 h n (.f x)=some x:=fun n=>by cases n <;> rfl
 simp [RetV,this]
@[simp] theorem retV_own {R:FV→Prop} {l:List FV} {t:Nat}:RetV h (.own l t) R=R (.sl l .un):=by
 have:∀ n,fzH 0 h n (.own l t)=some (.sl l .un):=fun n=>by cases n <;> rfl
 simp [RetV,this]
def RetT (h:List (List AV)) (cs:List AV) (R:FV→Prop):Prop:=RetV h (.tup cs) R
theorem fzH_cell {x:AV} {y:FV} (hx:cellFz x=some y) (n:Nat):fzH 0 h n x=some y:=by
 cases x <;> simp [cellFz] at hx <;> subst hx <;> cases n <;> rfl
theorem mapO_cell {cs:List AV}:∀ {fs:List FV},mapO cellFz cs=some fs→∀ n,mapO (fzH 0 h n) cs=some fs:=by
 induction cs with
 | nil=>intro fs hf n; exact hf
 | cons x cs ih =>
  intro fs hf n
  simp only [mapO] at hf ⊢
  cases hx:cellFz x with
  | none=>simp [hx] at hf
  | some y =>
   simp only [hx] at hf
   cases hy:mapO cellFz cs with
   | none=>simp [hy] at hf
   | some ys=>simp only [hy] at hf; rw [fzH_cell hx n,ih hy n]; exact hf
@[simp] theorem retV_tup {R:FV→Prop} {cs:List AV}:RetV h (.tup cs) R=(match mapO cellFz cs with
  | some fs=>R (.tup fs)
  | none=>RetT h cs R):=by
 cases hf:mapO cellFz cs with
 | none=>rfl
 | some fs =>
  have h0:∀ n,fzH 0 h (n+1) (.tup cs)=some (.tup fs):=fun n=>by simp only [fzH,mapO_cell hf n]
  apply propext
  refine ⟨fun ⟨n,y,h1,h2⟩=>?_,fun h1=>⟨1,_,h0 0,h1⟩⟩
  cases n with
  | zero=>simp [fzH] at h1
  | succ n=>rw [h0] at h1; obtain rfl:=Option.some.inj h1; exact h2
def RetA (h:List (List AV)) (cs:List AV) (R:FV→Prop):Prop:=RetV h (.agg cs) R
@[simp] theorem retV_agg {R:FV→Prop} {cs:List AV}:RetV h (.agg cs) R=(match mapO cellFz cs with
  | some fs=>R (.agg fs)
  | none=>RetA h cs R):=by
 cases hf:mapO cellFz cs with
 | none=>rfl
 | some fs =>
  have h0:∀ n,fzH 0 h (n+1) (.agg cs)=some (.agg fs):=fun n=>by simp only [fzH,mapO_cell hf n]
  apply propext
  refine ⟨fun ⟨n,y,h1,h2⟩=>?_,fun h1=>⟨1,_,h0 0,h1⟩⟩
  cases n with
  | zero=>simp [fzH] at h1
  | succ n=>rw [h0] at h1; obtain rfl:=Option.some.inj h1; exact h2
@[simp] theorem ret_one {T:TV} {r:ResultVar} {R:FV→Prop} {t:List AV}:Ret T [r] R .ret ⟨t,h,k⟩=(match resA T h t r with | some x=>RetV h x R | none=>False):=by
 unfold Ret resultA
 cases hr:resA T h t r <;> simp [mapO,hr,RetV]
@[simp] theorem ret_end {T:TV} {rs:List ResultVar} {R:FV→Prop} {s:St}:Ret T rs R .normal s=Ret T rs R .ret s:=by simp [Ret]
@[simp] theorem ret_two {T:TV} {r r':ResultVar} {R:FV→Prop} {t:List AV}:Ret T [r,r'] R .ret ⟨t,h,k⟩=(match resA T h t r with | some x=>(match resA T h t r' with | some y=>RetV h (.tup [x,y]) R | none=>False) | none=>False):=by
 unfold Ret resultA
 cases hr:resA T h t r <;> cases hr':resA T h t r' <;> simp [mapO,hr,hr',RetV]
@[simp] theorem ret_three {T:TV} {r r' r'':ResultVar} {R:FV→Prop} {t:List AV}:Ret T [r,r',r''] R .ret ⟨t,h,k⟩=(match resA T h t r with | some x=>(match resA T h t r' with | some y=>(match resA T h t r'' with | some z=>RetV h (.tup [x,y,z]) R | none=>False) | none=>False) | none=>False):=by
 unfold Ret resultA
 cases hr:resA T h t r <;> cases hr':resA T h t r' <;> cases hr'':resA T h t r'' <;> simp [mapO,hr,hr',hr'',RetV]
@[simp] theorem resA_tmp {T:TV} {t:List AV} {i:Nat}:resA T h t (.tmp i)=some ((ix t i).getD undefA):=rfl
@[simp] theorem resA_cell {T:TV} {t:List AV} {i u:Nat}:resA T h t (.cell i u)=opLoad T h u ((ix t i).getD undefA):=rfl
section enc
variable {α:Type}
def encL (e:α→FV) (l:List α):List FV:=l.map e
def nth (l:List α) (i:Nat):Option α:=l[i]?
@[simp] theorem encL_length {e:α→FV} {l:List α}:(encL e l).length=l.length:=List.length_map _
@[simp] theorem getF_enc {e:α→FV} {l:List α} {i:Nat}:getF (encL e l) i=(nth l i).map e:=List.getElem?_map
theorem nth_of {l:List α} {i:Nat} (h:i < l.length):∃ x,nth l i=some x∧l[i]?=some x:=⟨_,List.getElem?_eq_getElem h,List.getElem?_eq_getElem h⟩
@[simp] theorem encL_append {e:α→FV} {l l':List α}:encL e l ++ encL e l'=encL e (l ++ l'):=(List.map_append).symm
@[simp] theorem encL_snoc {e:α→FV} {l:List α} {x:α}:encL e l ++ [e x]=encL e (l ++ [x]):=by simp [encL]
@[simp] theorem encL_nil {e:α→FV}:encL e []=[]:=rfl
@[simp] theorem encL_take {e:α→FV} {l:List α} {n:Nat}:(encL e l).take n=encL e (l.take n):=by simp [encL,List.map_take]
@[simp] theorem encL_drop {e:α→FV} {l:List α} {n:Nat}:(encL e l).drop n=encL e (l.drop n):=by simp [encL,List.map_drop]
end enc
abbrev intF (i:Int):FV:=.sc (.int .i64 i)
abbrev boolF (b:Bool):FV:=.sc (.bool b)
@[simp] theorem cells_int {kd:IntKind} {i:Int}:FV.cells (.sc (.int kd i))=[.sc (.int kd i)]:=rfl
@[simp] theorem cells_bool {b:Bool}:FV.cells (.sc (.bool b))=[.sc (.bool b)]:=rfl
@[simp] theorem cells_string {b:ByteArray}:FV.cells (.sc (.string b))=[.sc (.string b)]:=rfl
@[simp] theorem cells_agg {l:List FV}:FV.cells (.agg l)=l:=rfl
@[simp] theorem cells_sl {l:List FV} {c:Cap}:FV.cells (.sl l c)=[.sl l c]:=rfl
theorem wrap64 {x:Int} (h1:-9223372036854775808≤x) (h2:x≤9223372036854775807):IntKind.i64.wrap x=x:=by rw [IntKind.wrap_i64]; omega
attribute [simp] seqQ_normal seqQ_exit seqQ_ret seqQ_goto seqQ_panic seqC_panic blkQ_panic opLoad cellsAt Ty.agg opStore over opFieldAddr opField aggCells partA opIndexAddr idx opIndex opLen opAlloc opBox AV.cells AV.one goInt Value.oneCell' initT mapO cellFz fzA List.replicate List.range_succ opExtract opNonNil elems opAppend
section lazy
variable {rf:Bool} {ops:Array Oper} {l:List Oper} {a b:Code} {Q:Pst} {s:St} {o:Oper} {t:List AV} {d:Option Tmp} {x y:AV} {c:Operand} {w:Bool}
@[simp] theorem xC_condC:xC P (.cond c a b) Q s=CondC P (evA s.t c) a b Q s:=(rfl)
@[simp] theorem condC_true:CondC P (.f (.sc (.bool true))) a b Q s=xC P a Q s:=by simp [CondC,CondQ]
@[simp] theorem condC_false:CondC P (.f (.sc (.bool false))) a b Q s=xC P b Q s:=by simp [CondC,CondQ]
@[simp] theorem guardC_true:GuardC P rf ops (some true) o l Q d t h k=OpsK P rf ops (o::l) Q ⟨t,h,k⟩:=by simp [GuardC,GuardK]
@[simp] theorem guardC_false:GuardC P rf ops (some false) o l Q d t h k=OpsK P rf ops l Q ⟨putT t d undefA,h,k⟩:=by simp [GuardC,GuardK]
@[simp] theorem pickC_true:PickC P rf ops l Q d t h k (.f (.sc (.bool true))) x y=OpsK P rf ops l Q ⟨putT t d x,h,k⟩:=by simp [PickC,CondQ]
@[simp] theorem pickC_false:PickC P rf ops l Q d t h k (.f (.sc (.bool false))) x y=OpsK P rf ops l Q ⟨putT t d y,h,k⟩:=by simp [PickC,CondQ]
theorem cond_if {r:Prop} [Decidable r] (h1:r→xC P a Q s) (h2:¬ r→xC P b Q s):CondC P (.f (.sc (.bool (decide r)))) a b Q s:=by
 by_cases h:r
 ·simpa [h] using h1 h
 ·simpa [h] using h2 h
theorem cond_by {r:Bool} (h1:r=true→xC P a Q s) (h2:r=false→xC P b Q s):CondC P (.f (.sc (.bool r))) a b Q s:=by
 cases r
 ·simpa using h2 rfl
 ·simpa using h1 rfl
theorem guard_if {r:Prop} [Decidable r] (h1:r→OpsK P rf ops (o::l) Q ⟨t,h,k⟩) (h2:¬ r→OpsK P rf ops l Q ⟨putT t d undefA,h,k⟩):GuardC P rf ops (some (decide r)) o l Q d t h k:=by
 by_cases h:r
 ·simpa [h] using h1 h
 ·simpa [h] using h2 h
end lazy
@[simp] theorem one_not {q:Bool}:opOne P (Op.unary .not) (.f (.sc (.bool q)))=some (.f (.sc (.bool (!q)))):=by cases q <;> rfl
attribute [simp] xC_seq xC_skip xC_exit xC_ret xC_goto xC_block xC_regionF xC_regionT drawLK_none drawLK_some lastQ_normal lastL drawK_none drawK_some endQ_eq ZE fzEnd isFz altI swapL xC_loop seqC_normal seqC_exit seqC_ret seqC_goto blkQ_normal blkQ_exit blkQ_ret blkQ_goto
end Go.Proofs.YtafenffmgpcjcaaGreat.Vf
namespace Go.Proofs.YtafenffmgpcjcaaGreat.Vf
open Go.RowKit
set_option linter.unusedVariables false
set_option linter.unusedSimpArgs false
variable {B:Base} {L:Lk} {h:List (List AV)} {k:List (Nat × Nat)} {w:World} {P:Program} {T:TV}
inductive Bel (n m:Nat):AV→Prop
 | f (x:FV):Bel n m (.f x)
 | own (l:List FV) (t:Nat) (h:t < m):Bel n m (.own l t)
 | ref (b off:Nat) (h:b < n):Bel n m (.ref b off)
 | ms (b off len cap sz:Nat) (h:b < n):Bel n m (.ms b off len cap sz)
 | fnr (f:FuncId) (cs:List AV) (h:∀ (j:Nat) (y:AV),cs[j]?=some y→Bel n m y):Bel n m (.fnr f cs)
 | agg (cs:List AV) (h:∀ (j:Nat) (y:AV),cs[j]?=some y→Bel n m y):Bel n m (.agg cs)
 | tup (cs:List AV) (h:∀ (j:Nat) (y:AV),cs[j]?=some y→Bel n m y):Bel n m (.tup cs)
 | any:Bel n m .any
theorem Bel.mono {n m n' m':Nat} {x:AV} (H:Bel n m x) (hn:n≤n') (hm:m≤m'):Bel n' m' x:=by
 induction H with
 | f x=>exact .f x
 | own l t h=>exact .own l t (by omega)
 | ref b off h=>exact .ref b off (by omega)
 | ms b off len cap sz h=>exact .ms b off len cap sz (by omega)
 | fnr f cs h ih=>exact .fnr f cs ih
 | agg cs h ih=>exact .agg cs ih
 | tup cs h ih=>exact .tup cs ih
 | any=>exact .any
theorem bel_of_rep {x:AV} {v:Value} (H:RepA w L k x v):Bel L.m.length k.length x:=by
 induction H with
 | f x v h=>exact .f x
 | own l t b o cap h n sz hk=>exact .own l t (List.getElem?_eq_some_iff.1 hk).1
 | ref b off c h=>exact .ref b off (List.getElem?_eq_some_iff.1 h).1
 | ms b off len cap sz c h=>exact .ms b off len cap sz (List.getElem?_eq_some_iff.1 h).1
 | fnr f cs a vs ha hv hr ih=>exact .fnr f cs ih
 | agg cs a vs ha hv hr ih=>exact .agg cs ih
 | tup cs a vs ha hv hr ih=>exact .tup cs ih
 | any v h=>exact .any
theorem RepA.cut {x:AV} {v:Value} {n m:Nat} {F':Cells} (H:RepA w L k x v) (hF:∀ b o,L.F b o→F' b o) (hb:Bel n m x):RepA w ⟨L.m.take n,L.t.take m,F'⟩ (k.take m) x v:=by
 induction H with
 | f x v h=>exact .f x v (h.mono hF (Keep.refl _ _))
 | own l t b o cap h n' sz hk hn hz ht =>
  cases hb with
  | own l t htm=>exact .own l t b o cap (h.mono hF (Keep.refl _ _)) n' sz (by rw [List.getElem?_take_of_lt htm]; exact hk) hn hz (fun e=>by rw [List.getElem?_take_of_lt htm]; exact ht e)
 | ref b off c h=>cases hb with | ref b off hbn=>exact .ref b off c (by rw [List.getElem?_take_of_lt hbn]; exact h)
 | ms b off len cap sz c h=>cases hb with | ms b off len cap sz hbn=>exact .ms b off len cap sz c (by rw [List.getElem?_take_of_lt hbn]; exact h)
 | fnr f cs a vs ha hv hr ih=>cases hb with | fnr f cs h=>exact .fnr f cs a vs ha hv (fun j y hj=>ih j y hj (h j y hj))
 | agg cs a vs ha hv hr ih=>cases hb with | agg cs h=>exact .agg cs a vs ha hv (fun j y hj=>ih j y hj (h j y hj))
 | tup cs a vs ha hv hr ih=>cases hb with | tup cs h=>exact .tup cs a vs ha hv (fun j y hj=>ih j y hj (h j y hj))
 | any v h=>exact .any v h
theorem take_get {α:Type} {l:List α} {n i:Nat} {x:α} (h:(l.take n)[i]?=some x):i < n∧l[i]?=some x:=by
 have hl:=(List.getElem?_eq_some_iff.1 h).1
 rw [List.length_take] at hl
 have:i < n:=by omega
 exact ⟨this,by rwa [List.getElem?_take_of_lt this] at h⟩
theorem Mem.cut (H:Mem B L h k w) {n m:Nat} (hm:m≤k.length) (hb:∀ (b j:Nat) (cs:List AV) (x:AV),b < n→h[b]?=some cs→cs[j]?=some x→Bel n m x):Mem B ⟨L.m.take n,L.t.take m,Fall n L h⟩ (h.take n) (k.take m) w:=by
 refine ⟨H.below,fun b o hf=>?_,fun b o hf=>.inl (H.f0 b o hf),fun b o hf=>?_,by simp [H.mlen],fun b c h1=>H.mge b c (take_get h1).2,fun b b' c h1 h2=>H.minj b b' c (take_get h1).2 (take_get h2).2,fun b c j cs x h1 h2 h3=>?_,by simp [H.tlen],fun t n' sz r h1 h2=>?_,fun t t' r r' h1 h2 e=>H.tinj t t' r r' (take_get h1).2 (take_get h2).2 e⟩
 ·rcases hf with hf | ⟨i,cs,_,h1,_,_⟩
  ·exact H.fz b o hf
  ·exact (H.mge i b h1).2
 ·rcases hf with hf | ⟨i,cs,_,h1,_,_⟩
  ·exact H.f1 b o hf
  ·exact .inr (H.mge i b h1).1
 ·obtain ⟨hbn,h1⟩:=take_get h1
  obtain ⟨_,h2⟩:=take_get h2
  obtain ⟨q1,q2,v,q3,q4,q5⟩:=H.heap b c j cs x h1 h2 h3
  refine ⟨fun hf=>?_,q2,v,q3,q4.cut (fun _ _ h=>.inl h) (hb b j cs x hbn h2 h3),q5⟩
  rcases hf with hf | ⟨i,cs',hi,g1,_,_⟩
  ·exact q1 hf
  ·have:=H.minj _ _ _ g1 h1; omega
 ·obtain ⟨b1,b2,b3,b4,b5,b6⟩:=H.tok t n' sz r (take_get h1).2 (take_get h2).2
  refine ⟨b1,b2,b3,fun b hb=>b4 b (take_get hb).2,fun j hj hf=>?_,b6⟩
  rcases hf with hf | ⟨i,cs',hi,g1,_,_⟩
  ·exact b5 j hj hf
  ·exact b4 i g1
def RetR (T:TV) (rs:List ResultVar) (h0:List (List AV)) (k0:List (Nat × Nat)) (R:AV→List (List AV)→List (Nat × Nat)→Prop):Pst:=fun e s =>
 (e=.normal∨e=.ret)∧match resultA T rs s with
  | some x=>∃ h' g k' gk y,s.h=h' ++ g∧h'.length=h0.length∧s.k=k' ++ gk∧k0.length≤k'.length∧(∀ (b:Nat) (cs:List AV),h'[b]?=some cs→h0[b]?=some cs∨∀ z ∈ cs,Bel h0.length k'.length z) ∧
    ((y=x∧Bel h0.length k'.length x)∨∃ n z,fzH h0.length s.h n x=some z∧y=.f z)∧R y h' k'
  | none=>False
theorem GivesX.of_W {f : FuncId} {fn : Func} {c : Code} {n : Nat} {rs : List ResultVar} {args : List AV} {R : AV → List (List AV) → List (Nat × Nat) → Prop} (hf : P.funcs[f]? = some fn) (hb : fn.body = some c) (hnt : fn.ntmps = n) (hrs : fn.results.toList = rs) (hn : fn.name ≠ "runtime.NumGoroutine")
  (hw:W P c ⟨args ++ List.replicate (n - args.length) undefA,h,k⟩ (RetR (tyOf P) rs h k R)):GivesX P f args h k R:=by
 subst hnt hrs
 refine ⟨⟨fn,hf,by rw [hb]; rfl,hn⟩,fun B L w vals hmem hv=>calls_of_wp hf hb ?_⟩
 have hrel:Rel B L ⟨args ++ List.replicate (fn.ntmps - args.length) undefA,h,k⟩ { tmps:=vals ++ Array.replicate (fn.ntmps - vals.size) undef,defers:=[] } w:=by
  refine ⟨hmem,rfl,⟨by simp [hv.1],fun j x hj=>?_⟩⟩
  rw [List.getElem?_append] at hj
  split at hj
  ·rename_i hlt
   obtain ⟨v,hv1,hr⟩:=hv.2 j x hj
   exact ⟨v,by rw [Array.getElem?_append_left (Array.getElem?_eq_some_iff.1 hv1).1]; exact hv1,hr⟩
  ·rename_i hge
   have hjl:=(List.getElem?_eq_some_iff.1 hj).1
   rw [List.length_replicate] at hjl
   rw [List.getElem?_replicate_of_lt hjl] at hj
   obtain rfl:=Option.some.inj hj
   refine ⟨undef,?_,.f _ _ (.sc _)⟩
   have:=hv.1
   rw [Array.getElem?_append_right (by omega),Array.getElem?_replicate,if_pos (by omega)]
 refine wp_mono (hw _ _ _ _ hrel) fun e a' w' ⟨s',L',hq,H',he,hl⟩=>?_
 obtain ⟨hex,hres⟩:=hq
 split at hres
 case h_2=>exact hres.elim
 rename_i z hz
 obtain ⟨h2,g,k2,gk,y,e1,e2,e3,e4,e5,e6,hR⟩:=hres
 obtain ⟨v,hv1,hr⟩:=results_run (tyOf_ok P) H' hz
 have hk2:k2.length≤s'.k.length:=by rw [e3]; simp
 have htake:s'.h.take h.length=h2:=by rw [e1,← e2]; simp
 have htakek:s'.k.take k2.length=k2:=by rw [e3]; simp
 have hcut:=H'.mem.cut (n:=h.length) hk2 (fun b j cs x hbn hb1 hj=>by
  have hb2:h2[b]?=some cs:=by rw [← htake,List.getElem?_take_of_lt hbn]; exact hb1
  rcases e5 b cs hb2 with h0 | h0
  ·obtain ⟨c,hc⟩:∃ c,L.m[b]?=some c:=⟨_,List.getElem?_eq_getElem (by rw [hmem.mlen]; exact hbn)⟩
   obtain ⟨_,_,u,_,g4,_⟩:=hmem.heap b c j cs x hc h0 hj
   exact (bel_of_rep g4).mono (by rw [hmem.mlen]; exact Nat.le_refl _) e4
  ·exact h0 x (List.mem_of_getElem? hj))
 rw [htake,htakek] at hcut
 have hext:Ext L k w ⟨L'.m.take h.length,L'.t.take k2.length,Fall h.length L' s'.h⟩ k2 w':=by
  refine ⟨fun b c hb=>?_,fun b o hb=>.inl (he.F b o hb),he.keep,fun t n sz ht hlt=>?_⟩
  ·have hbl:b < h.length:=by rw [← hmem.mlen]; exact (List.getElem?_eq_some_iff.1 hb).1
   rw [List.getElem?_take_of_lt hbl]; exact he.m b c hb
  ·have htl:=(List.getElem?_eq_some_iff.1 ht).1
   have:s'.k[t]?=some (n,sz):=by rw [e3,List.getElem?_append_left htl]; exact ht
   obtain ⟨n',q1,q2,q3⟩:=he.t t n sz this hlt
   exact ⟨n',q1,q2,fun e=>by rw [List.getElem?_take_of_lt htl]; exact q3 e⟩
 have hrep:RepA w' ⟨L'.m.take h.length,L'.t.take k2.length,Fall h.length L' s'.h⟩ k2 y v:=by
  rcases e6 with ⟨rfl,hbel⟩ | ⟨n,z',hz',rfl⟩
  ·have:=hr.cut (F':=Fall h.length L' s'.h) (fun _ _ h=>.inl h) hbel
   rwa [htakek] at this
  ·exact .f _ _ (fzH_rep H'.mem n hr hz')
 have fin:a'.defers=[]∧∃ v,(results fn a'.tmps).run P w'=.ok v w'∧∃ y h2 k2 v' L2,R y h2 k2∧Ending.returned v=.returned v'∧Mem B L2 h2 k2 w'∧Ext L k w L2 k2 w'∧RepA w' L2 k2 y v'∧k.length≤k2.length:=⟨H'.d,v,hv1,y,h2,k2,v,_,hR,rfl,hcut,hext,hrep,e4⟩
 rcases hex with rfl | rfl
 ·exact fin
 ·exact fin
theorem GivesR.of_W {f : FuncId} {fn : Func} {c : Code} {n : Nat} {rs : List ResultVar} {args : List AV} {x : AV} {h' : List (List AV)} {k' : List (Nat × Nat)} (hf : P.funcs[f]? = some fn) (hb : fn.body = some c) (hnt : fn.ntmps = n) (hrs : fn.results.toList = rs) (hn : fn.name ≠ "runtime.NumGoroutine")
  (hw:W P c ⟨args ++ List.replicate (n - args.length) undefA,h,k⟩ (RetR (tyOf P) rs h k (fun y h2 k2=>y=x∧h2=h'∧k2=k'))):GivesR P f args h k x h' k':=by
 obtain ⟨h1,h2⟩:=GivesX.of_W hf hb hnt hrs hn hw
 refine ⟨h1,fun B L w vals hm hv=>(h2 B L w vals hm hv).mono ?_⟩
 rintro e w' ⟨y,g,l,v,L',⟨rfl,rfl,rfl⟩,q⟩
 exact ⟨v,L',q⟩
theorem GivesR.of (hm : P.follows .mixedOrders = true) {f : FuncId} {fn : Func} {c : Code} {n : Nat} {rs : List ResultVar} {args : List AV} {x : AV} {h' : List (List AV)} {k' : List (Nat × Nat)} (hf : P.funcs[f]? = some fn) (hb : fn.body = some c) (hnt : fn.ntmps = n) (hrs : fn.results.toList = rs) (hok : ((fn.name != "runtime.NumGoroutine") && okC c) = true)
  (hw:xC P c (RetR (tyOf P) rs h k (fun y h2 k2=>y=x∧h2=h'∧k2=k')) ⟨args ++ List.replicate (n - args.length) undefA,h,k⟩):GivesR P f args h k x h' k':=by
 simp only [Bool.and_eq_true,bne_iff_ne] at hok
 exact GivesR.of_W hf hb hnt hrs hok.1 (xC_W hm c hok.2 hw)
end Go.Proofs.YtafenffmgpcjcaaGreat.Vf
