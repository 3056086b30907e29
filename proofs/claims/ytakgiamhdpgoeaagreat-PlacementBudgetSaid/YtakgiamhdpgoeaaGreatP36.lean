/- Lemmas. -/
import Derived.Test.YtakgiamhdpgoeaaGreatP29
import Derived.Test.YtakgiamhdpgoeaaGreatP35
set_option linter.unusedSimpArgs false
namespace Go.Proofs.YtakgiamhdpgoeaaGreat
open Go.RowKit
set_option linter.unusedVariables false
theorem zjb {w u : World} {G : Nat → Prop} {base : Nat} {e : TypeId} {size n c : Nat} {A : Option Addr} {xs : List Value} (h : Own w base e size A n c xs) (hk : KeptF G w u) (hn : ∀ k, ownB A = some k → ¬ G k) : Own u base e size A n c xs := by
 refine ⟨h.1, ?_⟩
 rcases h.2 with h1 | ⟨g, cap, cur, hv, hb, hh, r⟩
 ·exact .inl h1
 ·refine .inr ⟨g, cap, cur, hv, hb, (hk.block g (Array.getElem?_eq_some_iff.1 hh).1 (hn g ?_)).trans hh, r⟩
  injection hv with hv
  subst hv
  rfl
structure AccB (N g : Nat) (f : SL (Int × Int)) (h r : SL Int) (W : World) : Prop where
 lo : N ≤ g
 box : Blk W g 222 #[.slice f.a f.l.length f.c, .slice h.a h.l.length h.c, .slice r.a r.l.length r.c]
 fo : OwnFR W (g + 1) f.a f.c f.l
 ho : OwnZ W (g + 1) h.a h.c h.l
 ro : OwnZ W (g + 1) r.a r.c r.l
 hr : ∀ k, ownB h.a = some k → ownB r.a ≠ some k
def AccF (g : Nat) (f : SL (Int × Int)) (h r : SL Int) (k : Nat) : Prop := k = g ∨ ownB f.a = some k ∨ ownB h.a = some k ∨ ownB r.a = some k
section
variable {N g : Nat} {f : SL (Int × Int)} {h r : SL Int} {W u : World}
theorem zcd {w : World} {base base' : Nat} {e t : TypeId} {size size' n n' c c' : Nat} {A A' : Option Addr} {xs xs' : List Value} (h : Own w base e size A n c xs) (h' : Own w base' t size' A' n' c' xs') (hne : e ≠ t) {k : Nat} (hk : ownB A = some k) : ownB A' ≠ some k := by
 rcases h'.2 with ⟨h1, _⟩ | ⟨g', cap, cur, hv, _, hh, _⟩
 ·injection h1 with h1; subst h1; simp [ownB]
 ·injection hv with hv; subst hv
  intro he
  have he : g' = k := by simpa [ownB] using he
  subst he
  exact zGc h (t := t) (cs := cur) hh hne hk
theorem AccB.foot (b : AccB N g f h r W) {k : Nat} (hk : AccF g f h r k) : N ≤ k ∧ g ≤ k ∧ k < W.heap.size := by
 have h1 := b.lo
 rcases hk with rfl | hk | hk | hk
 ·exact ⟨h1, Nat.le_refl _, b.box.lt⟩
 ·have := Own.lt b.fo k hk; exact ⟨by omega, by omega, this.2⟩
 ·have := Own.lt b.ho k hk; exact ⟨by omega, by omega, this.2⟩
 ·have := Own.lt b.ro k hk; exact ⟨by omega, by omega, this.2⟩
theorem AccB.below (b : AccB N g f h r W) (hb : Below W.heap.size W u) : AccB N g f h r u := ⟨b.lo, b.box.below hb b.box.lt, Own.below b.fo hb, Own.below b.ho hb, Own.below b.ro hb, b.hr⟩
theorem AccB.setF (b : AccB N g f h r W) (hk : KeptF (fun k => ownB f.a = some k) W u) {A : Option Addr} {c : Nat} {L : List (Int × Int)} (ho : OwnFR u (g + 1) A c L) (hA : ownB A = ownB f.a ∨ ∀ k, ownB A = some k → W.heap.size ≤ k) :
  AccB N g ⟨A, c, L⟩ h r (u.setCell ⟨g, 0, none⟩ (.slice A L.length c)) ∧ Sub (AccF g f h r) (AccF g ⟨A, c, L⟩ h r) W.heap.size ∧ KeptF (AccF g f h r) W (u.setCell ⟨g, 0, none⟩ (.slice A L.length c)) := by
 have hg : ownB f.a ≠ some g := zGc b.fo b.box (by decide)
 have hb : Blk u g 222 _ := hk.blk b.box hg
 have hh : OwnZ u (g + 1) h.a h.c h.l := zjb b.ho hk (fun k hk1 hk2 => zcd b.ho b.fo (by decide) hk1 hk2)
 have hr : OwnZ u (g + 1) r.a r.c r.l := zjb b.ro hk (fun k hk1 hk2 => zcd b.ro b.fo (by decide) hk1 hk2)
 refine ⟨⟨b.lo, hb.set_ 0 _, zzb ho hb (by decide) 0 _, zzb hh hb (by decide) 0 _, zzb hr hb (by decide) 0 _, b.hr⟩, fun k hk => ?_, ?_⟩
 ·rcases hk with hk | hk | hk | hk
  ·exact .inl (.inl hk)
  ·rcases hA with hA | hA
   ·exact .inl (.inr (.inl (by rw [← hA]; exact hk)))
   ·exact .inr (hA k hk)
  ·exact .inl (.inr (.inr (.inl hk)))
  ·exact .inl (.inr (.inr (.inr hk)))
 ·have h2 : KeptF (AccF g f h r) W u := ⟨hk.os, hk.tape, hk.output, hk.size, fun k hk1 hk2 => hk.block k hk1 (fun h3 => hk2 (.inr (.inl h3)))⟩
  exact h2.set (.inl rfl) 0 _
theorem AccB.setH (b : AccB N g f h r W) (hk : KeptF (fun k => ownB h.a = some k) W u) {A : Option Addr} {c : Nat} {L : List Int} (ho : OwnZ u (g + 1) A c L) (hA : ownB A = ownB h.a ∨ ∀ k, ownB A = some k → W.heap.size ≤ k) :
  AccB N g f ⟨A, c, L⟩ r (u.setCell ⟨g, 1, none⟩ (.slice A L.length c)) ∧ Sub (AccF g f h r) (AccF g f ⟨A, c, L⟩ r) W.heap.size ∧ KeptF (AccF g f h r) W (u.setCell ⟨g, 1, none⟩ (.slice A L.length c)) := by
 have hg : ownB h.a ≠ some g := zGc b.ho b.box (by decide)
 have hb : Blk u g 222 _ := hk.blk b.box hg
 have hf : OwnFR u (g + 1) f.a f.c f.l := zjb b.fo hk (fun k hk1 hk2 => zcd b.fo b.ho (by decide) hk1 hk2)
 have hr : OwnZ u (g + 1) r.a r.c r.l := zjb b.ro hk (fun k hk1 hk2 => b.hr k hk2 hk1)
 refine ⟨⟨b.lo, hb.set_ 1 _, zzb hf hb (by decide) 1 _, zzb ho hb (by decide) 1 _, zzb hr hb (by decide) 1 _, fun k hk1 hk2 => ?_⟩, fun k hk => ?_, ?_⟩
 ·rcases hA with hA | hA
  ·rw [hA] at hk1; exact b.hr k hk1 hk2
  ·have h1 := hA k hk1; have h2 := (Own.lt b.ro k hk2).2; omega
 ·rcases hk with hk | hk | hk | hk
  ·exact .inl (.inl hk)
  ·exact .inl (.inr (.inl hk))
  ·rcases hA with hA | hA
   ·exact .inl (.inr (.inr (.inl (by rw [← hA]; exact hk))))
   ·exact .inr (hA k hk)
  ·exact .inl (.inr (.inr (.inr hk)))
 ·have h2 : KeptF (AccF g f h r) W u := ⟨hk.os, hk.tape, hk.output, hk.size, fun k hk1 hk2 => hk.block k hk1 (fun h3 => hk2 (.inr (.inr (.inl h3))))⟩
  exact h2.set (.inl rfl) 1 _
theorem AccB.setR (b : AccB N g f h r W) (hk : KeptF (fun k => ownB r.a = some k) W u) {A : Option Addr} {c : Nat} {L : List Int} (ho : OwnZ u (g + 1) A c L) (hA : ownB A = ownB r.a ∨ ∀ k, ownB A = some k → W.heap.size ≤ k) :
  AccB N g f h ⟨A, c, L⟩ (u.setCell ⟨g, 2, none⟩ (.slice A L.length c)) ∧ Sub (AccF g f h r) (AccF g f h ⟨A, c, L⟩) W.heap.size ∧ KeptF (AccF g f h r) W (u.setCell ⟨g, 2, none⟩ (.slice A L.length c)) := by
 have hg : ownB r.a ≠ some g := zGc b.ro b.box (by decide)
 have hb : Blk u g 222 _ := hk.blk b.box hg
 have hf : OwnFR u (g + 1) f.a f.c f.l := zjb b.fo hk (fun k hk1 hk2 => zcd b.fo b.ro (by decide) hk1 hk2)
 have hh : OwnZ u (g + 1) h.a h.c h.l := zjb b.ho hk (fun k hk1 hk2 => b.hr k hk1 hk2)
 refine ⟨⟨b.lo, hb.set_ 2 _, zzb hf hb (by decide) 2 _, zzb hh hb (by decide) 2 _, zzb ho hb (by decide) 2 _, fun k hk1 hk2 => ?_⟩, fun k hk => ?_, ?_⟩
 ·have hk2 : ownB A = some k := hk2
  rcases hA with hA | hA
  ·rw [hA] at hk2; exact b.hr k hk1 hk2
  ·have h1 := hA k hk2; have h2 := (Own.lt b.ho k hk1).2; omega
 ·rcases hk with hk | hk | hk | hk
  ·exact .inl (.inl hk)
  ·exact .inl (.inr (.inl hk))
  ·exact .inl (.inr (.inr (.inl hk)))
  ·rcases hA with hA | hA
   ·exact .inl (.inr (.inr (.inr (by rw [← hA]; exact hk))))
   ·exact .inr (hA k hk)
 ·have h2 : KeptF (AccF g f h r) W u := ⟨hk.os, hk.tape, hk.output, hk.size, fun k hk1 hk2 => hk.block k hk1 (fun h3 => hk2 (.inr (.inr (.inr h3))))⟩
  exact h2.set (.inl rfl) 2 _
end
def AccSame (f : SL (Int × Int)) (h r : SL Int) (a : Acc) : Prop := zga f.l a.f ∧ zga h.l a.h ∧ zga r.l a.r
def AccStep (N g : Nat) (f : SL (Int × Int)) (h r : SL Int) (a : Acc) (n : Nat) (w w' : World) : Prop :=
 ∃ f' h' r', AccB N g f' h' r' w' ∧ zga f'.l (f.l ++ a.f) ∧ zga h'.l (h.l ++ a.h) ∧ zga r'.l (r.l ++ a.r) ∧ f'.l.length ≤ f.l.length + n ∧ h'.l.length ≤ h.l.length + n ∧ r'.l.length ≤ r.l.length + n ∧ Sub (AccF g f h r) (AccF g f' h' r') w.heap.size ∧ KeptF (AccF g f h r) w w'
theorem zga.app_l {α : Type} {a b : List α} (h : zga a b) (c : List α) : zga (c ++ a) (c ++ b) := (zga.refl c).app h
end Go.Proofs.YtakgiamhdpgoeaaGreat
