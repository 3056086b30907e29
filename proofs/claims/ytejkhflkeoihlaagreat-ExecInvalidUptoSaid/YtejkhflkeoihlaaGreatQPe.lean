/- Texts of the proof: QPe. -/
import Derived.Test.YtejkhflkeoihlaaGreatEB1
import Derived.Test.YtejkhflkeoihlaaGreatQKf
import Derived.KernelRfl
namespace Go.Proofs.YtejkhflkeoihlaaGreat
open Go.RowKit
set_option maxRecDepth 100000
def emptyD : PrgD:=⟨⟨#[]⟩,⟨[]⟩,⟨[]⟩,⟨[]⟩,⟨[]⟩,⟨[]⟩,⟨[]⟩,⟨[]⟩,⟨[]⟩⟩
theorem empty_ok : PrgOk emptyD where
 nm:=⟨by decide,(fun h hh=>by cases hh),(fun h hh=>by cases hh),(fun h hh=>by cases hh),(fun h hh=>by cases hh),(fun h hh=>by cases hh),(fun h hh=>by cases hh)⟩
 tbl:=fun t ht=>by cases ht
 nod:=.mk [] (Nat.zero_le _) (fun x hx=>by cases hx) (fun x hx=>by cases hx)
 sta:=by decide
theorem empty_is : prgCheckW emptyD = (6,0,0,0):=by decide
def nilE : Ve.EV:=.sc (.slice none 0 0)
def emptyE : Ve.EV:=.agg [.s [],nilE,nilE,nilE,nilE,nilE,nilE,nilE,nilE]
def emptyO : Ve.Orc:=⟨14,[emptyE],.agg [.i .i64 6,.i .i64 0,.i .i64 0,.i .i64 0]⟩
theorem nil_val_e {ρ : Ve.Rn} {v : Value} (h : Ve.ER ρ nilE v) : v = .slice none 0 0:=by cases h; rfl
theorem empty_val {ρ : Ve.Rn} {v : Value} (h : Ve.ER ρ emptyE v) : v = .agg #[.string ⟨#[]⟩,.slice none 0 0,.slice none 0 0,.slice none 0 0,.slice none 0 0,.slice none 0 0,.slice none 0 0,.slice none 0 0,.slice none 0 0]:=by
 cases h with
 | agg cs a vs ha hv hr =>
  congr 1
  have h0 : vs 0 = .string ⟨#[]⟩:=by
   have:=hr 0 _ rfl
   generalize vs 0 = u at this ⊢
   cases this with
   | s l b h =>
    have hb : b.data.toList = []:=List.map_eq_nil_iff.1 h
    congr 1
    cases b with
    | mk d=>congr 1; exact Array.toList_eq_nil_iff.1 hb
  have hn : ∀ j,1 ≤ j→j < 9→vs j = .slice none 0 0:=fun j h1 h2=>by
   match j,h1,h2 with
   | 1,_,_=>exact nil_val_e (hr 1 _ rfl)
   | 2,_,_=>exact nil_val_e (hr 2 _ rfl)
   | 3,_,_=>exact nil_val_e (hr 3 _ rfl)
   | 4,_,_=>exact nil_val_e (hr 4 _ rfl)
   | 5,_,_=>exact nil_val_e (hr 5 _ rfl)
   | 6,_,_=>exact nil_val_e (hr 6 _ rfl)
   | 7,_,_=>exact nil_val_e (hr 7 _ rfl)
   | 8,_,_=>exact nil_val_e (hr 8 _ rfl)
  apply Array.ext_getElem?
  intro i
  match i with
  | 0=>rw [(hv 0 _ rfl).1,h0]; rfl
  | 1=>rw [(hv 1 _ rfl).1,hn 1 (by decide) (by decide)]; rfl
  | 2=>rw [(hv 2 _ rfl).1,hn 2 (by decide) (by decide)]; rfl
  | 3=>rw [(hv 3 _ rfl).1,hn 3 (by decide) (by decide)]; rfl
  | 4=>rw [(hv 4 _ rfl).1,hn 4 (by decide) (by decide)]; rfl
  | 5=>rw [(hv 5 _ rfl).1,hn 5 (by decide) (by decide)]; rfl
  | 6=>rw [(hv 6 _ rfl).1,hn 6 (by decide) (by decide)]; rfl
  | 7=>rw [(hv 7 _ rfl).1,hn 7 (by decide) (by decide)]; rfl
  | 8=>rw [(hv 8 _ rfl).1,hn 8 (by decide) (by decide)]; rfl
  | i + 9=>rw [Array.getElem?_eq_none (by have : a.size = 9:=ha; omega)]; simp
theorem empty_rep (w : World) (F : Vf.Cells) : Vf.Rep w F (fPrg emptyD) (.agg #[.string ⟨#[]⟩,.slice none 0 0,.slice none 0 0,.slice none 0 0,.slice none 0 0,.slice none 0 0,.slice none 0 0,.slice none 0 0,.slice none 0 0]):=by
 refine .agg _ _ (fun j=>if j = 0 then .string ⟨#[]⟩ else .slice none 0 0) rfl (fun j y h=>?_) (fun j y h=>?_)
 ·match j with
  | 0=>rfl
  | 1=>rfl
  | 2=>rfl
  | 3=>rfl
  | 4=>rfl
  | 5=>rfl
  | 6=>rfl
  | 7=>rfl
  | 8=>rfl
  | j + 9=>cases h
 ·match j with
  | 0=>obtain rfl:=Option.some.inj h; exact .sc _
  | 1=>obtain rfl:=Option.some.inj h; exact .emp none 0
  | 2=>obtain rfl:=Option.some.inj h; exact .emp none 0
  | 3=>obtain rfl:=Option.some.inj h; exact .emp none 0
  | 4=>obtain rfl:=Option.some.inj h; exact .emp none 0
  | 5=>obtain rfl:=Option.some.inj h; exact .emp none 0
  | 6=>obtain rfl:=Option.some.inj h; exact .emp none 0
  | 7=>obtain rfl:=Option.some.inj h; exact .emp none 0
  | 8=>obtain rfl:=Option.some.inj h; exact .emp none 0
  | j + 9=>cases h
theorem diag_er {ρ : Ve.Rn} {w : World} {F : Vf.Cells} {v : Value} (h : Vf.Rep w F (fDiag (6,0,0,0)) v) : Ve.ER ρ (.agg [.i .i64 6,.i .i64 0,.i .i64 0,.i .i64 0]) v:=by
 cases h with
 | agg cs a vs ha hv hr =>
  have hs : ∀ (j : Nat) (z : Int),([Vf.intF 6,Vf.intF 0,Vf.intF 0,Vf.intF 0] : List Vf.FV)[j]? = some (Vf.intF z)→vs j = .int .i64 z:=fun j z hj=>by
   have:=hr j _ hj
   generalize vs j = u at this ⊢
   cases this; rfl
  refine .agg _ a vs ha (fun j y hj=>?_) (fun j y hj=>?_)
  ·match j with
   | 0=>exact ⟨hv 0 _ rfl,by rw [hs 0 6 rfl]; rfl⟩
   | 1=>exact ⟨hv 1 _ rfl,by rw [hs 1 0 rfl]; rfl⟩
   | 2=>exact ⟨hv 2 _ rfl,by rw [hs 2 0 rfl]; rfl⟩
   | 3=>exact ⟨hv 3 _ rfl,by rw [hs 3 0 rfl]; rfl⟩
   | j + 4=>cases hj
  ·match j with
   | 0=>obtain rfl:=Option.some.inj hj; rw [hs 0 6 rfl]; exact .i _ _
   | 1=>obtain rfl:=Option.some.inj hj; rw [hs 1 0 rfl]; exact .i _ _
   | 2=>obtain rfl:=Option.some.inj hj; rw [hs 2 0 rfl]; exact .i _ _
   | 3=>obtain rfl:=Option.some.inj hj; rw [hs 3 0 rfl]; exact .i _ _
   | j + 4=>cases hj
theorem orc_ok : Ve.OrcOk Tryz.prog [emptyO]:=fun o ho ρ w vs hvs=>by
 obtain rfl:=List.mem_singleton.1 ho
 obtain ⟨h1,h2⟩:=hvs
 obtain ⟨v,h3,h4⟩:=h2 0 _ rfl
 obtain rfl:=empty_val h4
 have hg:=(prg_g emptyD empty_ok).2 w (fun _ _=>False) vs (fun _ _ h=>h.elim) h1 fun j x hj=>by
  match j,hj with
  | 0,hj =>
   obtain rfl : fPrg emptyD = x:=Option.some.inj hj
   exact ⟨_,h3,empty_rep w _⟩
 refine hg.mono ?_
 rintro e w' ⟨v,F',rfl,hr,hb,_⟩
 rw [empty_is] at hr
 exact ⟨v,rfl,diag_er hr,hb⟩
theorem works_true : Ve.isB true (Ve.evCallO Tryz.prog [emptyO] 60 6 [] (Ve.w0 Tryz.prog)) = true:=by decide +kernel
theorem works_calls (w : World) : Calls Tryz.prog 6 #[] w fun en w'=>en = .returned (.bool true)∧Below w.heap.size w w':=Ve.closed_runO (by kernel_rfl) orc_ok works_true w
theorem works_g : Vf.Gives Tryz.prog 6 [] (Vf.boolF true) :=
 Vf.Gives.of_calls ⟨_,Tryz.func6,rfl,by decide⟩ works_calls (fun w F=>.sc _)
end Go.Proofs.YtejkhflkeoihlaaGreat
