/- Lemmas. -/
import Derived.Test.YtakgiamhdpgoeaaGreatP14
import Derived.Test.YtakgiamhdpgoeaaGreatP18
set_option linter.unusedSimpArgs false
namespace Go.Proofs.YtakgiamhdpgoeaaGreat
open Go.RowKit
set_option linter.unusedVariables false
theorem zTe (d : PrgD) (i : Int) (w : World) (hR : PrgR w w.heap.size d) :
  Calls Tryz.prog 143 #[PrgD.v d, .int .i64 i] w fun e w' => e = .returned (.bool ((zJa d i).2 == 0)) ∧ Below w.heap.size w w' := by
 have F0 := Fr.start w
 have HR := Hd hR
 have HF0 := Hd F0
 obtain ⟨⟨z1, z2⟩, hz⟩ : ∃ z, zJa d i = z := ⟨_, rfl⟩
 have HZ := Hd hz
 obtain ⟨q, hq⟩ : ∃ q, (z2 == 0) = q := ⟨_, rfl⟩
 have HQ := Hd hq
 clear hR F0 hz
 unfold PrgD.v PrgD.vs
 go_enter Tryz.func143, Tryz.ntmps143
 go_wp2_with fail
 refine Calls.named ?_
 intro W hW
 have HF1 := Hd ((HF0.out.alloc _ _).of_eq hW)
 clear hW
 with_reducible refine (zNf d i W (HF1.out.prg HR.out)).mono ?_
 rintro e w2 ⟨rfl, hb2⟩
 have HF2 := Hd (HF1.out.call hb2)
 rw [HZ.out]
 clear hb2
 dsimp only
 go_wp2_with fail
 go_returns
 exact ⟨by rw [HZ.out, HQ.out]; try rfl, HF2.out.below⟩
def kindQ (l : List KeyD) : Int := if l.any (fun k => k.kind == 2) then 2 else 1
def kindOf (l : List KeyD) : Int := if l.any (fun k => k.kind == 3) then 3 else kindQ l
def zEe (d : PrgD) (i : Int) : Int := if (zJa d i).2 = 0 then (match (if i < 0 then none else d.tZ.l[i.toNat]?) with | none => 0 | some t => kindOf t.keys.l) else 0
theorem kindQ_step {l : List KeyD} {k : Nat} {x : KeyD} (h : l[k]? = some x) : kindQ (l.take (k + 1)) = if x.kind == 2 then 2 else kindQ (l.take k) := by
 unfold kindQ
 rw [List.take_add_one, h, List.any_append]
 cases hx : (x.kind == 2) <;> simp [hx]
theorem zde {d : PrgD} {i : Int} (h : (zJa d i).2 = 0) : ∃ j : Nat, i = j ∧ j < d.tZ.l.length := by
 unfold zJa at h
 by_cases h1 : i < 0
 ·rw [if_pos h1] at h; cases h
 ·rw [if_neg h1] at h
  obtain ⟨j, rfl⟩ := Int.eq_ofNat_of_zero_le (show 0 ≤ i by omega)
  rw [Int.toNat_natCast] at h
  by_cases h2 : j < d.tZ.l.length
  ·exact ⟨j, rfl, h2⟩
  ·rw [List.getElem?_eq_none (by omega)] at h; cases h
set_option maxRecDepth 100000 in
set_option maxHeartbeats 1000000 in
theorem tblKind_any (d : PrgD) (i : Int) (w : World) (hR : PrgR w w.heap.size d) :
  Calls Tryz.prog 106 #[PrgD.v d, .int .i64 i] w fun e w' => e = .returned (.int .i64 (zEe d i)) ∧ Below w.heap.size w w' := by
 obtain ⟨N, hN⟩ : ∃ N, w.heap.size = N := ⟨_, rfl⟩
 rw [hN] at hR ⊢
 have F0 := Fr.start w
 rw [hN] at F0
 have HR := Hd hR
 have HF0 := Hd F0
 have hlen := hR.tZ.len
 obtain ⟨q, hq⟩ : ∃ q, ((zJa d i).2 == 0) = q := ⟨_, rfl⟩
 have HQ := Hd hq
 clear hR F0
 cases q with
 | false =>
  have HV := Hd (show zEe d i = 0 from if_neg (by simpa using hq))
  clear hq
  unfold PrgD.v PrgD.vs
  go_enter Tryz.func106, Tryz.ntmps106
  go_wp2_with fail
  refine Calls.named ?_
  intro W hW
  have HF1 := Hd ((HF0.out.alloc _ _).of_eq hW)
  clear hW
  with_reducible refine (zTe d i W (HF1.out.prg HR.out)).mono ?_
  rintro e w2 ⟨rfl, hb2⟩
  have HF2 := Hd (HF1.out.call hb2)
  rw [HQ.out]
  clear hb2
  go_wp2_with fail
  go_returns
  exact ⟨by rw [HV.out]; try rfl, HF2.out.below⟩
 | true =>
  have h0 : (zJa d i).2 = 0 := by simpa using hq
  obtain ⟨j, rfl, hj⟩ := zde h0
  obtain ⟨b, off, t, hA, hb, ht, htok, hc⟩ := HR.out.tZ.at_ tbl_len (by omega) hj
  have HV := Hd (show zEe d j = kindOf t.keys.l by unfold zEe; rw [if_pos h0, if_neg (by omega), Int.toNat_natCast, ht])
  have HT := Hd htok.keys
  have hkl := htok.keys.len
  have HC := Hd (hc 1 _ rfl)
  have HBb := Hd hb
  have hj0 : (0 : Int) ≤ j := by omega
  have hj1 : (j : Int) < d.tZ.l.length := by omega
  clear hq h0 ht htok hc hb hj
  unfold PrgD.v PrgD.vs
  rw [hA]
  go_enter Tryz.func106, Tryz.ntmps106
  go_wp2_with fail
  refine Calls.named ?_
  intro W hW
  have F1 := (HF0.out.alloc _ _).of_eq hW
  simp only [hN] at F1
  obtain ⟨L, hL, F1⟩ := F1.name
  have HL := Hd hL
  have HF1 := Hd F1
  clear F1 hL hW
  rw [← hA]
  with_reducible refine (zTe d j W (HF1.out.prg HR.out)).mono ?_
  rintro e w2 ⟨rfl, hb2⟩
  have HF2 := Hd (HF1.out.call hb2)
  rw [HQ.out, hA]
  clear hb2
  obtain ⟨g0, l0, f0⟩ := HF2.out.c0 HL.out
  dsimp only at g0 l0 f0
  have p1 := (HF2.out.below.cell (p := ⟨b, off + j * 6 + 1, none⟩) HBb.out).trans HC.out
  obtain ⟨ka, kc, kl, hk⟩ : ∃ ka kc kl, t.keys = ⟨ka, kc, kl⟩ := ⟨_, _, _, rfl⟩
  rw [hk] at HV HT p1 hkl
  simp only at HV p1 hkl
  clear hk
  go_wp2_with fail
  clear g0 l0 f0
  go_loopw [5, 19] (fun m i wr => ∃ k : Nat, k ≤ kl.length ∧ i = .int .i64 k ∧ m = .int .i64 (kindQ (kl.take k)) ∧ (∀ (j : Nat) (x : KeyD), j < k → kl[j]? = some x → (x.kind == 3) = false) ∧ Fr N w wr L) (fun _ i _ => kl.length - (intOf i).toNat)
  case atStart => exact ⟨0, Nat.zero_le _, rfl, rfl, fun j x hj => absurd hj (by omega), HF2.out⟩
  case round =>
   obtain ⟨k, hk, rfl, rfl, hall, F⟩ := hrel
   have HAl := Hd hall
   have HF := Hd F
   clear F hall p1
   by_cases hlt : k < kl.length
   ·obtain ⟨b2, off2, x, hA2, hb2, hx, _, hc2⟩ := HF.out.at_ HT.out key_len (by omega) hlt
    have p0 := hc2 0 _ rfl
    have p1 := hc2 1 _ rfl
    have p2 := hc2 2 _ rfl
    simp only [Nat.add_zero] at p0
    simp only at hA2
    have HX := Hd hx
    have HKs := Hd (kindQ_step hx)
    have hk1 : (k : Int) < kl.length := by omega
    have HF4 := Hd (HF.out.alloc #[.int .i64 x.h, .int .i64 x.f, .int .i64 x.kind] 98).skip
    obtain ⟨q3, hq3⟩ : ∃ q, (x.kind == 3) = q := ⟨_, rfl⟩
    have HQ3 := Hd hq3
    subst hA2
    clear hc2 hx
    cases q3 with
    | true =>
     have HV2 := Hd (show zEe d j = 3 by rw [HV.out]; unfold kindOf; rw [zie HX.out HQ3.out]; rfl)
     go_wp2_with fail
     go_returns
     exact ⟨by rw [HV2.out]; try rfl, HF4.out.below⟩
    | false =>
     obtain ⟨q2, hq2⟩ : ∃ q, (x.kind == 2) = q := ⟨_, rfl⟩
     have hks := HKs.out
     rw [hq2] at hks
     have HK2 := Hd hks
     clear hks
     cases q2
     all_goals
      go_wp2_with fail
      go_roundw
      case rel => exact ⟨k + 1, by omega, by go_num, by rw [HK2.out]; try rfl, fun j x' hj hx' => by
       rcases Nat.lt_succ_iff_lt_or_eq.1 hj with h | h
       ·exact HAl.out j x' h hx'
       ·rw [h, HX.out] at hx'; injection hx' with hx'; rw [← hx']; exact HQ3.out, HF4.out⟩
      case measure => simp [intOf]; omega
   ·obtain rfl : k = kl.length := by omega
    have HV2 := Hd (show zEe d j = kindQ kl by rw [HV.out]; unfold kindOf; rw [zkd HAl.out]; rfl)
    rw [List.take_length] at *
    clear hlt
    go_wp2_with fail
    go_returns
    exact ⟨by rw [HV2.out]; try rfl, HF.out.below⟩
open Go.RowKit
def RowZ (w : World) (l : List Int) (e : Ending) (w' : World) : Prop := ∃ A c, e = .returned (.slice A l.length c) ∧ OwnZ w' w.heap.size A c l
def zNb (d : PrgD) (i : Int) : List Int := if (zJa d i).2 = 0 then (match (if i < 0 then none else d.tZ.l[i.toNat]?) with | none => [] | some t => t.keys.l.map fun k => zQa d k.h k.f) else []
def zce (d : PrgD) (i : Int) : Int := isum (zNb d i)
set_option maxRecDepth 100000 in
set_option maxHeartbeats 2000000 in
theorem tblWidths_any (d : PrgD) (i : Int) (w : World) (hR : PrgR w w.heap.size d) (hk1000 : ∀ t ∈ d.tZ.l, t.keys.l.length ≤ 1000) :
  Calls Tryz.prog 142 #[PrgD.v d, .int .i64 i] w fun e w' => RowZ w (zNb d i) e w' ∧ Below w.heap.size w w' := by
 obtain ⟨N, hN⟩ : ∃ N, w.heap.size = N := ⟨_, rfl⟩
 have HN0 := Hd hN
 rw [hN] at hR ⊢
 have F0 := Fr.start w
 rw [hN] at F0
 have HR := Hd hR
 have HF0 := Hd F0
 have hlen := hR.tZ.len
 obtain ⟨q, hq⟩ : ∃ q, ((zJa d i).2 == 0) = q := ⟨_, rfl⟩
 have HQ := Hd hq
 have HK10 := Hd hk1000
 clear hR F0 hk1000
 cases q with
 | false =>
  have HV := Hd (show zNb d i = [] from if_neg (by simpa using hq))
  clear hq
  unfold PrgD.v PrgD.vs
  go_enter Tryz.func142, Tryz.ntmps142
  go_wp2_with fail
  refine Calls.named ?_
  intro W hW
  have HF1 := Hd ((HF0.out.alloc _ _).of_eq hW)
  clear hW
  with_reducible refine (zTe d i W (HF1.out.prg HR.out)).mono ?_
  rintro e w2 ⟨rfl, hb2⟩
  have HF2 := Hd (HF1.out.call hb2)
  rw [HQ.out]
  clear hb2
  go_wp2_with fail
  go_returns
  exact ⟨⟨none, 0, by rw [HV.out]; rfl, by rw [HV.out]; exact OwnZ.none_ _ _⟩, HF2.out.below⟩
 | true =>
  have h0 : (zJa d i).2 = 0 := by simpa using hq
  obtain ⟨j, rfl, hj⟩ := zde h0
  obtain ⟨b, off, t, hA, hb, ht, htok, hc⟩ := HR.out.tZ.at_ tbl_len (by omega) hj
  have HV := Hd (show zNb d j = t.keys.l.map (fun k => zQa d k.h k.f) by unfold zNb; rw [if_pos h0, if_neg (by omega), Int.toNat_natCast, ht])
  have HT := Hd htok.keys
  have hkl := HK10.out t (List.mem_of_getElem? ht)
  have HC := Hd (hc 1 _ rfl)
  have HBb := Hd hb
  have hj0 : (0 : Int) ≤ j := by omega
  have hj1 : (j : Int) < d.tZ.l.length := by omega
  clear hq h0 ht htok hc hb hj
  unfold PrgD.v PrgD.vs
  rw [hA]
  go_enter Tryz.func142, Tryz.ntmps142
  go_wp2_with fail
  refine Calls.named ?_
  intro W hW
  have F1 := (HF0.out.alloc _ _).of_eq hW
  simp only [hN] at F1
  obtain ⟨L, hL, F1⟩ := F1.name
  have HL := Hd hL
  have HF1 := Hd F1
  have HNe := Hd (show ∀ x ∈ L, x.1 = N by rw [hL]; simp)
  clear F1 hL hW
  rw [← hA]
  with_reducible refine (zTe d j W (HF1.out.prg HR.out)).mono ?_
  rintro e w2 ⟨rfl, hb2⟩
  have HF2 := Hd (HF1.out.call hb2)
  rw [HQ.out, hA]
  clear hb2
  obtain ⟨g0, l0, f0⟩ := HF2.out.c0 HL.out
  dsimp only at g0 l0 f0
  have hNs : N + 1 ≤ w2.heap.size := by omega
  have p1 := (HF2.out.below.cell (p := ⟨b, off + j * 6 + 1, none⟩) HBb.out).trans HC.out
  obtain ⟨ka, kc, kl, hk⟩ : ∃ ka kc kl, t.keys = ⟨ka, kc, kl⟩ := ⟨_, _, _, rfl⟩
  rw [hk] at HV HT p1 hkl
  simp only at HV p1 hkl
  clear hk
  go_wp2_with fail
  clear g0 l0 f0
  go_loopw [5, 19] (fun m i wr => ∃ (k : Nat) (A : Option Addr) (c : Nat), k ≤ kl.length ∧ i = .int .i64 k ∧ m = .slice A k c ∧ OwnZ wr (N + 1) A c ((kl.take k).map fun x => zQa d x.h x.f) ∧ Fr N w wr L) (fun _ i _ => kl.length - (intOf i).toNat)
  case atStart => exact ⟨0, none, 0, Nat.zero_le _, rfl, rfl, OwnZ.none_ _ _, HF2.out⟩
  case round =>
   obtain ⟨k, A, c, hk, rfl, rfl, O, F⟩ := hrel
   have HO := Hd O
   have HF := Hd F
   clear F O p1
   obtain ⟨g0, l0, f0⟩ := HF.out.c0 HL.out
   dsimp only at g0 l0 f0
   by_cases hlt : k < kl.length
   ·obtain ⟨b2, off2, x, hA2, hb2, hx, _, hc2⟩ := HF.out.at_ HT.out key_len (by omega) hlt
    have p0 := hc2 0 _ rfl
    have p1 := hc2 1 _ rfl
    have p2 := hc2 2 _ rfl
    simp only [Nat.add_zero] at p0
    simp only at hA2
    have HX := Hd hx
    have hk1 : (k : Int) < kl.length := by omega
    have HKT := Hd (show ((kl.take k).map fun x => zQa d x.h x.f).length = k by simp; omega)
    subst hA2
    clear hc2 hx
    go_wp2_with fail
    refine Calls.named ?_
    intro W4 hW4
    have hb4 : Below wr.heap.size wr W4 := by rw [hW4]; exact (Below.refl _ _).alloc (Nat.le_refl _) _
    have HF4 := Hd (HF.out.call hb4)
    have HO4 := Hd (HO.out.below hb4)
    clear hW4 hb4 p0 p1 p2
    clear g0 l0 f0
    first | rw [← hA] | skip
    with_reducible refine (zSc d x.h x.f W4 (HF4.out.prg HR.out)).mono ?_
    rintro e w5 ⟨rfl, hb5⟩
    have HF5 := Hd ((HF4.out.call hb5).call ((Below.refl _ w5).alloc (Nat.le_refl _) (.cells #[.int .i64 (zQa d x.h x.f)] 3)))
    have HO5 := Hd ((HO4.out.below hb5).below ((Below.refl _ w5).alloc (Nat.le_refl _) (.cells #[.int .i64 (zQa d x.h x.f)] 3)))
    have hs5 : N + 1 ≤ w5.heap.size := by have := (HF4.out.call hb5); obtain ⟨_, h, _⟩ := this.c0 HL.out; simp only at h; omega
    clear hb5
    go_wp2_with (at_builtin; refine zma rfl (.tmp 23) (.tmp 28) rfl (N + 1) A k c ((kl.take k).map fun x => zQa d x.h x.f) HKT.out rfl HO5.out _ _ 1 _ [zQa d x.h x.f] rfl rfl (zsb _ w5.heap.size rfl _) (by omega) (by simp; omega) ?_; intro A2 c2 w8 hO2 hG2 _; have HO2 := Hd hO2; have HF8 := Hd (show Fr N w w8 L from ⟨HF5.out.base, HO5.out.step HF5.out.below hG2 (by omega) HF5.out.le, fun y hy => ⟨(HF5.out.blk y hy).1, (hG2.block y.1 (HF5.out.blk y hy).2.lt (fun e => by have := (Own.lt HO5.out y.1 e.symm).1; have := HNe.out y hy; omega)).trans (HF5.out.blk y hy).2⟩⟩); clear hO2 hG2)
    go_roundw
    case rel => exact ⟨k + 1, A2, c2, by omega, by go_num, rfl, by have := HO2.out; rw [List.take_add_one, HX.out, List.map_append]; exact this, HF8.out⟩
    case measure => simp [intOf]; omega
   ·obtain rfl : k = kl.length := by omega
    clear hlt
    go_wp2_with fail
    go_returns
    exact ⟨⟨A, c, by rw [HV.out, List.length_map]; try rfl, by rw [HV.out, HN0.out]; have := HO.out; rw [List.take_length] at this; exact Own.rebase this (by omega)⟩, HF.out.below⟩
end Go.Proofs.YtakgiamhdpgoeaaGreat
