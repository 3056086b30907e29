/- Lemmas. -/
import Derived.Test.YtakgiamhdpgoeaaGreatP4
import Derived.Test.YtakgiamhdpgoeaaGreatP6
set_option linter.unusedSimpArgs false
namespace Go.Proofs.YtakgiamhdpgoeaaGreat
open Go.RowKit
set_option linter.unusedVariables false
theorem zdg (x : ActD) : x.enc.length = 3 := rfl
theorem st_len (x : StD) : x.enc.length = 7 := rfl
section
variable {N : Nat} {w W : World} {l : List (Nat × TypeId × Array Value)}
theorem Fr.prg {d : PrgD} (F : Fr N w W l) (h : PrgR w N d) : PrgR W W.heap.size d := (h.below F.below).more F.le
theorem Fr.slr {α : Type} {size : Nat} {enc : α → List Value} {ok : α → Prop} {s : SL α} (F : Fr N w W l) (h : SLR w N size enc ok s) : SLR W W.heap.size size enc ok s := (h.below F.below).more F.le
theorem Fr.act {x : ActD} (F : Fr N w W l) (h : x.ok w N) : x.ok W W.heap.size := (h.below F.below).more F.le
theorem Fr.st {x : StD} (F : Fr N w W l) (h : x.ok w N) : x.ok W W.heap.size := (h.below F.below).more F.le
theorem Fr.at_ {α : Type} {size : Nat} {enc : α → List Value} {ok : α → Prop} {s : SL α} (F : Fr N w W l) (h : SLR w N size enc ok s) (henc : ∀ x, (enc x).length = size) (hs : 0 < size) {k : Nat} (hk : k < s.l.length) :
  ∃ b off x, s.a = some ⟨b, off, none⟩ ∧ b < N ∧ s.l[k]? = some x ∧ ok x ∧ ∀ (i : Nat) (v : Value), (enc x)[i]? = some v → W.cell? ⟨b, off + k * size + i, none⟩ = some v :=
 (h.below F.below).at_ henc hs hk
end
section
variable {N : Nat} {w W : World} {L r : List (Nat × TypeId × Array Value)} {x0 x1 x2 x3 x4 : Nat × TypeId × Array Value}
theorem Fr.name (F : Fr N w W L) : ∃ l, l = L ∧ Fr N w W l := ⟨_, rfl, F⟩
theorem Fr.at_mem (F : Fr N w W L) (h : x0 ∈ L) : (∀ i, W.cell? ⟨x0.1, i, none⟩ = x0.2.2[i]?) ∧ x0.1 < W.heap.size ∧ ∀ i, W.frozen? ⟨x0.1, i, none⟩ = false :=
 ⟨fun i => F.cell h i, F.lt h, fun i => F.frozen h i⟩
theorem Fr.c0 (F : Fr N w W L) (h : L = x0 :: r) : (∀ i, W.cell? ⟨x0.1, i, none⟩ = x0.2.2[i]?) ∧ x0.1 < W.heap.size ∧ ∀ i, W.frozen? ⟨x0.1, i, none⟩ = false := F.at_mem (by rw [h]; exact .head _)
theorem Fr.c1 (F : Fr N w W L) (h : L = x1 :: x0 :: r) : (∀ i, W.cell? ⟨x0.1, i, none⟩ = x0.2.2[i]?) ∧ x0.1 < W.heap.size ∧ ∀ i, W.frozen? ⟨x0.1, i, none⟩ = false := F.at_mem (by rw [h]; exact .tail _ (.head _))
theorem Fr.c2 (F : Fr N w W L) (h : L = x2 :: x1 :: x0 :: r) : (∀ i, W.cell? ⟨x0.1, i, none⟩ = x0.2.2[i]?) ∧ x0.1 < W.heap.size ∧ ∀ i, W.frozen? ⟨x0.1, i, none⟩ = false := F.at_mem (by rw [h]; exact .tail _ (.tail _ (.head _)))
end
theorem zfa {P : Program} {c : Code} {Q : Exit → Act → World → Prop} {a : Act} {w : World} (h : ∀ W, W = w → c.wp P Q a W) : c.wp P Q a w := h w rfl
def zhe (d : PrgD) (a : ActD) (i : Nat) : Option (Int × Int) := match a.body.l[i]? with | none => none | some s => if zFa d a.params.l s = 0 then none else some ((i : Int), zFa d a.params.l s)
theorem actCheckA_eq (d : PrgD) (a : ActD) : zgb d a = if znc a ≠ 0 then (-1, znc a) else (scan a.body.l.length (zhe d a)).getD (0, 0) := rfl
theorem actScanB_at {d : PrgD} {a : ActD} {k : Nat} {s : StD} (h : a.body.l[k]? = some s) : (zFa d a.params.l s = 0 → zhe d a k = none) ∧ (zFa d a.params.l s ≠ 0 → zhe d a k = some ((k : Int), zFa d a.params.l s)) := by
 unfold zhe
 rw [h]
 exact ⟨fun h0 => if_pos h0, fun h0 => if_neg h0⟩
set_option maxRecDepth 100000 in
set_option maxHeartbeats 2000000 in
theorem actCheck_in (d : PrgD) (j : Nat) (a : ActD) (w : World) (hR : PrgR w w.heap.size d) (hj : d.aZ.l[j]? = some a) :
  Calls Tryz.prog 57 #[PrgD.v d, .int .i64 j] w fun e w' => e = .returned (.tuple #[.int .i64 (zgb d a).1, .int .i64 (zgb d a).2]) ∧ Below w.heap.size w w' := by
 have HV := Hd (actCheckA_eq d a)
 obtain ⟨N, hN⟩ : ∃ N, w.heap.size = N := ⟨_, rfl⟩
 have hlt : j < d.aZ.l.length := (List.getElem?_eq_some_iff.1 hj).1
 obtain ⟨b, off, x, hA, hb, hx, hok, hc⟩ := hR.aZ.at_ zdg (by omega) hlt
 obtain rfl : x = a := by rw [hx] at hj; exact Option.some.inj hj
 have hlen := hR.aZ.len
 have hbl := hok.body.len
 have q0 : w.cell? ⟨b, off + j * 3, none⟩ = some (.string x.name) := by have := hc 0 _ rfl; simpa using this
 have q1 := hc 1 _ rfl
 have q2 := hc 2 _ rfl
 rw [hN] at hR hok hb ⊢
 have F0 := Fr.start w
 rw [hN] at F0
 have HR := Hd hR
 have HX := Hd hok
 have HF0 := Hd F0
 have hj0 : (0 : Int) ≤ j := by omega
 have hj1 : (j : Int) < d.aZ.l.length := by omega
 have hj2 : ¬ ((d.aZ.l.length : Int) ≤ j) := by omega
 have hj3 : ¬ ((j : Int) < 0) := by omega
 clear hc hx hj hR hok hlt F0
 obtain ⟨z, hz⟩ : ∃ z, znc x = z := ⟨_, rfl⟩
 have HZ := Hd hz
 unfold PrgD.v PrgD.vs
 rw [hA]
 clear hz
 go_enter Tryz.func57, Tryz.ntmps57
 go_wp2_with fail
 refine Calls.named ?_
 intro W hW
 have F1 := ((HF0.out.alloc _ _).alloc _ _).of_eq hW
 simp only [World.size_alloc, hN] at F1
 clear hW
 obtain ⟨L, hL, F1⟩ := F1.name
 have HL := Hd hL
 have HF1 := Hd F1
 clear F1 hL
 with_reducible refine (decl_any x W (HF1.out.act HX.out)).mono ?_
 rintro e w1 ⟨rfl, hb1⟩
 have HF2 := Hd (HF1.out.call hb1)
 obtain ⟨g0, l0, f0⟩ := HF2.out.c0 HL.out
 obtain ⟨g1, l1, f1⟩ := HF2.out.c1 HL.out
 dsimp only at g0 l0 f0 g1 l1 f1
 clear hb1 q0 q1 q2
 rw [HZ.out]
 by_cases e0 : z = 0
 ·subst e0
  have HV1 := Hd (show zgb d x = (scan x.body.l.length (zhe d x)).getD (0, 0) by rw [HV.out, HZ.out, if_neg (by omega)])
  go_wp2_with fail
  refine zfa ?_
  intro W3 hW3
  have F3 := (HF2.out.alloc _ _).of_eq hW3
  rw [HL.out] at F3
  obtain ⟨c, hc⟩ : ∃ c, w1.heap.size = c := ⟨_, rfl⟩
  simp only [hc] at F3 l0 l1 ⊢
  obtain ⟨L3, hL, F3⟩ := F3.name
  clear HL
  have HL := Hd hL
  have HF3 := Hd F3
  clear g0 l0 f0 g1 l1 f1
  clear hW3 F3 hL hc
  go_loopw [37] (fun i wr => ∃ k : Nat, k ≤ x.body.l.length ∧ i = .int .i64 k ∧ (∀ j, j < k → zhe d x j = none) ∧ Fr N w wr L3) (fun i _ => x.body.l.length - (intOf i).toNat)
  case atStart => exact ⟨0, Nat.zero_le _, rfl, fun j hj => absurd hj (by omega), HF3.out⟩
  case round =>
   obtain ⟨k, hk, rfl, hall, F⟩ := hrel
   have HA := Hd hall
   have HF := Hd F
   clear F hall
   obtain ⟨g0, l0, f0⟩ := HF.out.c0 HL.out
   obtain ⟨g1, l1, f1⟩ := HF.out.c1 HL.out
   obtain ⟨g2, l2, f2⟩ := HF.out.c2 HL.out
   dsimp only at g0 l0 f0 g1 l1 f1 g2 l2 f2
   by_cases hlt : k < x.body.l.length
   ·obtain ⟨b2, off2, s, hA2, hb2, hs, hsok, hc2⟩ := HF.out.at_ HX.out.body st_len (by omega) hlt
    have p0 := hc2 0 _ rfl
    have p1 := hc2 1 _ rfl
    have p2 := hc2 2 _ rfl
    have p3 := hc2 3 _ rfl
    have p4 := hc2 4 _ rfl
    have p5 := hc2 5 _ rfl
    have p6 := hc2 6 _ rfl
    simp only [Nat.add_zero] at p0
    have HSO := Hd hsok
    have HSt := Hd (actScanB_at (d := d) hs)
    have hb3 : b2 < wr.heap.size := Nat.lt_of_lt_of_le hb2 HF.out.le
    rw [hA2]
    clear hc2 hsok hs
    go_wp2_with fail
    refine Calls.named ?_
    intro W4 hW4
    have HF4 := Hd ((HF.out.alloc _ _).of_eq hW4)
    clear hW4
    rw [← hA]
    with_reducible refine (statement_any d x.params s W4 (HF4.out.prg HR.out) (HF4.out.slr HX.out.params) (HF4.out.st HSO.out)).mono ?_
    rintro e w5 ⟨rfl, hb5⟩
    have HF5 := Hd (HF4.out.call hb5).skip
    obtain ⟨r, hr⟩ : ∃ r, zFa d x.params.l s = r := ⟨_, rfl⟩
    have HSr := HSt.out
    rw [hr] at HSr ⊢
    have HSt2 := Hd HSr
    clear hb5 hr HSr HSt
    clear g0 l0 f0 g1 l1 f1 g2 l2 f2
    clear p0 p1 p2 p3 p4 p5 p6
    by_cases r0 : r = 0
    ·subst r0
     have HN := Hd (HSt2.out.1 rfl)
     go_wp2_with fail
     go_roundw
     case rel => exact ⟨k + 1, by omega, by go_num, fun j hj => by rcases Nat.lt_succ_iff_lt_or_eq.1 hj with h | h; exact HA.out j h; rw [h]; exact HN.out, HF5.out⟩
     case measure => simp [intOf]; omega
    ·have r1 : (r == 0) = false := neq_b r0
     have r2 : (r != 0) = true := by simp [r0]
     have HV2 := Hd (show zgb d x = ((k : Int), r) by rw [HV1.out, zua hlt HA.out (HSt2.out.2 r0)]; rfl)
     clear r0
     go_wp2_with fail
     go_returns
     exact ⟨by rw [HV2.out]; try rfl, HF5.out.below⟩
   ·have HV2 := Hd (show zgb d x = (0, 0) by rw [HV1.out, znb (fun i hi => HA.out i (by omega))]; rfl)
    obtain rfl : k = x.body.l.length := by omega
    clear hlt
    go_wp2_with fail
    go_returns
    exact ⟨by rw [HV2.out]; try rfl, HF.out.below⟩
 ·have e1 : (z == 0) = false := neq_b e0
  have e2 : (z != 0) = true := by simp [e0]
  have HV1 := Hd (show zgb d x = (-1, z) by rw [HV.out, HZ.out, if_pos e0])
  clear e0
  go_wp2_with fail
  go_returns
  exact ⟨by rw [HV1.out]; try rfl, HF2.out.below⟩
end Go.Proofs.YtakgiamhdpgoeaaGreat
