/- Lemmas. -/
import Derived.Test.YtakgiamhdpgoeaaGreatP7
set_option linter.unusedSimpArgs false
namespace Go.Proofs.YtakgiamhdpgoeaaGreat
open Go.RowKit
set_option linter.unusedVariables false
theorem Fr.grown {N : Nat} {w W W' : World} {L : List (Nat × TypeId × Array Value)} {g : Nat} (F : Fr N w W L) (hg : W.grownBy W' (some g)) (hN : N ≤ g) (hne : ∀ x ∈ L, x.1 ≠ g) : Fr N w W' L :=
 ⟨F.base, F.below.grown hg F.le (fun k hk => by injection hk with hk; omega), fun x hx => ⟨(F.blk x hx).1, by
  have h := (F.blk x hx).2
  unfold Blk at h ⊢
  rw [hg.block x.1 (Array.getElem?_eq_some_iff.1 h).1 (fun e => hne x hx (by injection e))]
  exact h⟩⟩
theorem Fr.alloc_any {N : Nat} {w W : World} {L : List (Nat × TypeId × Array Value)} (F : Fr N w W L) (o : Obj) : Fr N w (W.alloc o) L := F.call ((Below.refl _ W).alloc (Nat.le_refl _) o)
theorem Fr.tbl {N : Nat} {w W : World} {L : List (Nat × TypeId × Array Value)} {x : TblD} (F : Fr N w W L) (h : x.ok w N) : x.ok W W.heap.size := (h.below F.below).more F.le
theorem key_len (x : KeyD) : x.enc.length = 3 := rfl
theorem tbl_len (x : TblD) : x.enc.length = 6 := rfl
abbrev tblV (t : TblD) : Value := .agg #[.string t.name, .slice t.keys.a t.keys.l.length t.keys.c, .slice t.aZ.a t.aZ.l.length t.aZ.c, .int .i64 t.dfl, .slice t.args.a t.args.l.length t.args.c, .int .i64 t.size]
theorem zvd (d : PrgD) (h f : Int) : 0 ≤ zQa d h f ∧ zQa d h f ≤ 32 := by
 rw [widthOf_eq]
 cases hb : badW (fldW (fldAt d h f)) with
 | true => exact ⟨by simp, by simp⟩
 | false =>
  have := (zSb _).1 hb
  simp only [Bool.false_eq_true, if_false]
  omega
theorem lpm_step {l : List KeyD} {k : Nat} {x : KeyD} (h : l[k]? = some x) : zYf (l.take (k + 1)) = zYf (l.take k) + (if x.kind == 2 then 1 else 0) := by
 unfold zYf
 rw [List.take_add_one, h, List.countP_append]
 simp [List.countP_cons]
theorem bits_step (d : PrgD) {l : List KeyD} {k : Nat} {x : KeyD} (h : l[k]? = some x) : zGd d (l.take (k + 1)) = zGd d (l.take k) + zQa d x.h x.f := by
 unfold zGd
 rw [List.take_add_one, h, List.map_append, isum_app]
 simp [isum]
theorem lpm_le (l : List KeyD) : zYf l ≤ l.length := List.countP_le_length
theorem bits_bd (d : PrgD) (l : List KeyD) : 0 ≤ zGd d l ∧ zGd d l ≤ 32 * l.length := by
 have h := isum_bd (l := l.map fun k => zQa d k.h k.f) (b := 32) (fun x hx => by
  obtain ⟨k, _, rfl⟩ := List.mem_map.1 hx
  exact zvd d k.h k.f)
 rw [List.length_map] at h
 exact h
theorem keyScan_at (d : PrgD) {l : List KeyD} {k : Nat} {x : KeyD} (h : l[k]? = some x) : zzf d l k = if zQa d x.h x.f = 0 then some ((k : Int), 8) else if 1 ≤ x.kind ∧ x.kind ≤ 3 then none else some ((k : Int), 11) := by
 unfold zzf
 rw [h]
theorem keysCheck_none {d : PrgD} {l : List KeyD} (h : ∀ i, i < l.length → zzf d l i = none) : zKb d l = if 1 < zYf l then (-2, 7) else if 64 < zGd d l then (-2, 10) else (0, 0) := by
 unfold zKb
 rw [znb h]
theorem zVd {d : PrgD} {l : List KeyD} {k : Nat} {e : Int × Int} (hk : k < l.length) (h : ∀ i, i < k → zzf d l i = none) (he : zzf d l k = some e) : zKb d l = e := by
 unfold zKb
 rw [zua hk h he]
set_option maxRecDepth 100000 in
set_option maxHeartbeats 2000000 in
theorem checkKeys_any (d : PrgD) (t : TblD) (w : World) (hR : PrgR w w.heap.size d) (hS : t.ok w w.heap.size) (hl : t.keys.l.length ≤ 1000) :
  Calls Tryz.prog 84 #[PrgD.v d, tblV t] w fun e w' => e = .returned (.tuple #[.int .i64 (zKb d t.keys.l).1, .int .i64 (zKb d t.keys.l).2]) ∧ Below w.heap.size w w' := by
 obtain ⟨N, hN⟩ : ∃ N, w.heap.size = N := ⟨_, rfl⟩
 rw [hN] at hR hS ⊢
 have F0 := Fr.start w
 rw [hN] at F0
 have HR := Hd hR
 have HK := Hd hS.keys
 have HF0 := Hd F0
 obtain ⟨nm, ⟨ka, kc, kl⟩, aZ, dfl, args, size⟩ := t
 simp only at HK hl ⊢
 clear hR hS F0
 unfold PrgD.v PrgD.vs tblV
 go_enter Tryz.func84, Tryz.ntmps84
 go_wp2_with fail
 refine zfa ?_
 intro W1 hW1
 have F1 := ((HF0.out.alloc _ _).alloc _ _).of_eq hW1
 simp only [World.size_alloc, hN] at F1
 obtain ⟨L, hL, F1⟩ := F1.name
 have HL := Hd hL
 have HF1 := Hd F1
 clear hW1 F1 hL
 go_loopw [6, 7, 14] (fun p q i wr => ∃ k : Nat, k ≤ kl.length ∧ i = .int .i64 k ∧ p = .int .i64 (zYf (kl.take k)) ∧ q = .int .i64 (zGd d (kl.take k)) ∧ (∀ j, j < k → zzf d kl j = none) ∧ Fr N w wr L) (fun _ _ i _ => kl.length - (intOf i).toNat)
 case atStart => exact ⟨0, Nat.zero_le _, rfl, rfl, rfl, fun j hj => absurd hj (by omega), HF1.out⟩
 case round =>
  obtain ⟨k, hk, rfl, rfl, rfl, hall, F⟩ := hrel
  have HAl := Hd hall
  have HF := Hd F
  clear F hall
  obtain ⟨g0, l0, f0⟩ := HF.out.c0 HL.out
  obtain ⟨g1, l1, f1⟩ := HF.out.c1 HL.out
  dsimp only at g0 l0 f0 g1 l1 f1
  have hp0 := lpm_le (kl.take k)
  have hq0 := bits_bd d (kl.take k)
  have hlk : (kl.take k).length = k := by rw [List.length_take]; omega
  rw [hlk] at hp0 hq0
  obtain ⟨hq0, hq1⟩ := hq0
  clear hlk
  by_cases hlt : k < kl.length
  ·obtain ⟨b2, off2, x, hA2, hb2, hx, hxok, hc2⟩ := HF.out.at_ HK.out key_len (by omega) hlt
   have p0 := hc2 0 _ rfl
   have p1 := hc2 1 _ rfl
   have p2 := hc2 2 _ rfl
   simp only [Nat.add_zero] at p0
   simp only at hA2
   have HLs := Hd (lpm_step hx)
   have HBs := Hd (bits_step d hx)
   have HSc := Hd (keyScan_at d hx)
   have hb3 : b2 < wr.heap.size := Nat.lt_of_lt_of_le hb2 HF.out.le
   obtain ⟨p, hp⟩ : ∃ p, zYf (kl.take k) = p := ⟨_, rfl⟩
   obtain ⟨q, hq⟩ : ∃ q, zGd d (kl.take k) = q := ⟨_, rfl⟩
   rw [hp] at HLs hp0 ⊢
   rw [hq] at HBs hq0 hq1 ⊢
   obtain ⟨xh, xf, xk⟩ := x
   simp only at p0 p1 p2 HLs HBs HSc
   subst hA2
   clear hc2 hx hxok hp hq
   go_wp2_with fail
   refine Calls.named ?_
   intro W4 hW4
   have HF4 := Hd ((HF.out.alloc _ _).of_eq hW4)
   clear hW4
   with_reducible refine (zSc d xh xf W4 (HF4.out.prg HR.out)).mono ?_
   rintro e w5 ⟨rfl, hb5⟩
   have HF6 := HF4.out.call hb5
   obtain ⟨g2, l2, _⟩ := HF6.c0 rfl
   dsimp only at g2 l2
   have HF5 := Hd HF6.skip
   obtain ⟨wd, hwd⟩ : ∃ r, zQa d xh xf = r := ⟨_, rfl⟩
   obtain ⟨hw0, hw1⟩ := zvd d xh xf
   rw [hwd] at HBs HSc hw0 hw1 ⊢
   clear hb5 hwd HF6
   clear g0 l0 f0 g1 l1 f1
   clear p0 p1 p2
   by_cases r0 : wd = 0
   ·subst r0
    have HV2 := Hd (zVd hlt HAl.out (HSc.out.trans (if_pos rfl)))
    go_wp2_with fail
    go_returns
    exact ⟨by rw [HV2.out]; try rfl, HF5.out.below⟩
   ·have r1 : (wd == 0) = false := neq_b r0
    have HSd := Hd (HSc.out.trans (if_neg r0))
    clear r0
    by_cases k2 : xk = 2
    ·subst k2
     have HNn := Hd (HSd.out.trans (if_pos (by omega)))
     go_wp2_with fail
     go_roundw
     case rel => exact ⟨k + 1, by omega, by go_num, by rw [HLs.out]; simp, by rw [HBs.out], fun j hj => by rcases Nat.lt_succ_iff_lt_or_eq.1 hj with h | h; exact HAl.out j h; rw [h]; exact HNn.out, HF5.out⟩
     case measure => simp [intOf]; omega
    ·have k2' := neq_b k2
     have HLn := Hd (show zYf (kl.take (k + 1)) = p by rw [HLs.out, k2']; rfl)
     by_cases k13 : xk = 1 ∨ xk = 3
     ·have HNn := Hd (HSd.out.trans (if_pos (by omega)))
      clear k2 k2'
      rcases k13 with rfl | rfl
      all_goals
       go_wp2_with fail
       go_roundw
       case rel => exact ⟨k + 1, by omega, by go_num, by rw [HLn.out], by rw [HBs.out], fun j hj => by rcases Nat.lt_succ_iff_lt_or_eq.1 hj with h | h; exact HAl.out j h; rw [h]; exact HNn.out, HF5.out⟩
       case measure => simp [intOf]; omega
     ·have k1' := neq_b (show xk ≠ 1 by omega)
      have k3' := neq_b (show xk ≠ 3 by omega)
      have HV2 := Hd (zVd hlt HAl.out (HSd.out.trans (if_neg (by omega))))
      clear k2 k13
      go_wp2_with fail
      go_returns
      exact ⟨by rw [HV2.out]; try rfl, HF5.out.below⟩
  ·obtain rfl : k = kl.length := by omega
   rw [List.take_length] at *
   have HV := Hd (keysCheck_none (d := d) (l := kl) (fun i hi => HAl.out i hi))
   obtain ⟨p, hp⟩ : ∃ p, zYf kl = p := ⟨_, rfl⟩
   obtain ⟨q, hq⟩ : ∃ q, zGd d kl = q := ⟨_, rfl⟩
   rw [hp] at hp0 HV ⊢
   rw [hq] at hq0 hq1 HV ⊢
   clear hlt hp hq
   by_cases c1 : 1 < p
   ·have c1' : decide ((1 : Int) < p) = true := by simp; omega
    have HV2 := Hd (HV.out.trans (if_pos c1))
    go_wp2_with fail
    go_returns
    exact ⟨by rw [HV2.out]; try rfl, HF.out.below⟩
   ·have c1' : decide ((1 : Int) < p) = false := by simp; omega
    have HV1 := Hd (HV.out.trans (if_neg c1))
    by_cases c2 : 64 < q
    ·have HV2 := Hd (HV1.out.trans (if_pos c2))
     go_wp2_with fail
     go_returns
     exact ⟨by rw [HV2.out]; try rfl, HF.out.below⟩
    ·have HV2 := Hd (HV1.out.trans (if_neg c2))
     go_wp2_with fail
     go_returns
     exact ⟨by rw [HV2.out]; try rfl, HF.out.below⟩
open Go.RowKit
theorem sta_len (x : StaD) : x.enc.length = 7 := rfl
theorem case_len (x : CaseD) : x.enc.length = 3 := rfl
abbrev caseV (c : CaseD) : Value := .agg #[.int .u32 c.value, .int .u32 c.mask, .int .i64 c.next]
set_option maxRecDepth 100000 in
theorem leads_any (d : PrgD) (st nx : Int) (w : World) (hl : d.sZ.l.length ≤ 9223372036854775807) :
  Calls Tryz.prog 123 #[PrgD.v d, .int .i64 st, .int .i64 nx] w fun e w' => e = .returned (.bool (zHe d st nx)) ∧ Below w.heap.size w w' := by
 obtain ⟨q1, h1⟩ : ∃ q, (nx == -1) = q := ⟨_, rfl⟩
 obtain ⟨q2, h2⟩ : ∃ q, (nx == -2) = q := ⟨_, rfl⟩
 obtain ⟨q3, h3⟩ : ∃ q, decide (st < nx) = q := ⟨_, rfl⟩
 obtain ⟨q4, h4⟩ : ∃ q, decide (nx < (d.sZ.l.length : Int)) = q := ⟨_, rfl⟩
 have HV := Hd (show zHe d st nx = (q1 || q2 || (q3 && q4)) by unfold zHe; rw [h1, h2, h3, h4])
 unfold PrgD.v PrgD.vs
 cases q1 with
 | true =>
  clear h2 h3 h4
  go_enter Tryz.func123, Tryz.ntmps123
  go_wp2_with fail
  go_returns
  exact ⟨by rw [HV.out]; try rfl, by (first | (refine zca ?_ _; go_grown; done) | (go_grown; done))⟩
 | false =>
  cases q2 with
  | true =>
   clear h3 h4
   go_enter Tryz.func123, Tryz.ntmps123
   go_wp2_with fail
   go_returns
   exact ⟨by rw [HV.out]; try rfl, by (first | (refine zca ?_ _; go_grown; done) | (go_grown; done))⟩
  | false =>
   cases q3 with
   | false =>
    clear h4
    go_enter Tryz.func123, Tryz.ntmps123
    go_wp2_with fail
    go_returns
    exact ⟨by rw [HV.out]; try rfl, by (first | (refine zca ?_ _; go_grown; done) | (go_grown; done))⟩
   | true =>
    go_enter Tryz.func123, Tryz.ntmps123
    go_wp2_with fail
    go_returns
    exact ⟨by rw [HV.out]; try rfl, by (first | (refine zca ?_ _; go_grown; done) | (go_grown; done))⟩
set_option maxRecDepth 100000 in
set_option maxHeartbeats 1000000 in
theorem zue (d : PrgD) (j : Nat) (s : StaD) (c : CaseD) (w : World) (hR : PrgR w w.heap.size d) (hj : d.sZ.l[j]? = some s) (hc : c.ok) :
  Calls Tryz.prog 122 #[PrgD.v d, .int .i64 j, caseV c] w fun e w' => e = .returned (.int .i64 (zxc d j s c)) ∧ Below w.heap.size w w' := by
 obtain ⟨N, hN⟩ : ∃ N, w.heap.size = N := ⟨_, rfl⟩
 have hlt : j < d.sZ.l.length := (List.getElem?_eq_some_iff.1 hj).1
 rw [hN] at hR ⊢
 have F0 := Fr.start w
 rw [hN] at F0
 have HR := Hd hR
 have HF0 := Hd F0
 have HLen := Hd hR.sZ.len
 have hlen := hR.sZ.len
 have HJ := Hd hj
 have hj0 : (0 : Int) ≤ j := by omega
 have hj1 : (j : Int) < d.sZ.l.length := by omega
 obtain ⟨hcv, hcm, hcn⟩ := hc
 have HCv := Hd hcv
 have HCm := Hd hcm
 have HV := Hd (show zxc d j s c = if (!fitsW c.value (zQa d s.onh s.onf)) || !fitsW c.mask (zQa d s.onh s.onf) then 9
  else if andNotU c.value c.mask ≠ 0 then 5
  else if !zHe d j c.next then 14 else 0 from rfl)
 have hbits : bits .andNot .u32 c.value c.mask = andNotU c.value c.mask := u32_andNot _ _ hcv.1 (by have := hcv.2; omega) hcm.1 (by have := hcm.2; omega)
 obtain ⟨an, han⟩ : ∃ a, andNotU c.value c.mask = a := ⟨_, rfl⟩
 rw [han] at HV hbits
 have HBt := Hd hbits
 obtain ⟨cv, cm, cn⟩ := c
 simp only at HCv HCm HV HBt ⊢
 clear hR F0 hj hcv hcm hcn hbits han
 unfold PrgD.v PrgD.vs caseV
 go_enter Tryz.func122, Tryz.ntmps122
 go_wp2_with fail
 refine zfa ?_
 intro W hW
 have F1 := ((HF0.out.alloc _ _).alloc _ _).of_eq hW
 simp only [World.size_alloc, hN] at F1
 obtain ⟨L, hL, F1⟩ := F1.name
 have HL := Hd hL
 have HF1 := Hd F1
 clear F1 hL hW
 obtain ⟨g0, l0, f0⟩ := HF1.out.c0 HL.out
 obtain ⟨g1, l1, f1⟩ := HF1.out.c1 HL.out
 dsimp only at g0 l0 f0 g1 l1 f1
 obtain ⟨b, off, x, hA, hb, hx, hok, hc⟩ := HF1.out.at_ HR.out.sZ sta_len (by omega) hlt
 obtain rfl : x = s := by have := HJ.out; rw [hx] at this; exact Option.some.inj this
 have p3 := hc 3 _ rfl
 have p4 := hc 4 _ rfl
 have hb3 : b < W.heap.size := Nat.lt_of_lt_of_le hb HF1.out.le
 clear hc hx hok hb hlt
 have hcl : ∀ (p : Ab W.heap.size W) (b i : Nat), b < W.heap.size → p.u.cell? ⟨b, i, none⟩ = W.cell? ⟨b, i, none⟩ := fun p b i h => p.h.cell (p := ⟨b, i, none⟩) h
 refine zia W.heap.size W (by kernel_rfl) (by kernel_rfl) (Below.refl _ _) ?_
 repeat (first
  | go_big_quiet_step ((go_at_call 120; (first | rw [← hA] | skip); refine Calls.ab (Nat.le_refl _) (zSc d x.onh x.onf _ ?_); exact (HF1.out.call (Ab.h _)).prg HR.out)))
 refine wpQuiet_nil ?_
 intro u hw'
 obtain ⟨pu, hpu⟩ := hw'
 have hu := pu.h
 rw [← hpu] at hu
 clear hcl hpu
 clear pu
 have HFu := Hd (HF1.out.call hu)
 clear hu
 clear g0 l0 f0 g1 l1 f1
 clear p3 p4 hb3
 obtain ⟨g0, l0, f0⟩ := HFu.out.c0 HL.out
 obtain ⟨g1, l1, f1⟩ := HFu.out.c1 HL.out
 dsimp only at g0 l0 f0 g1 l1 f1
 obtain ⟨wd, hwd⟩ : ∃ r, zQa d x.onh x.onf = r := ⟨_, rfl⟩
 obtain ⟨hw0, hw1⟩ := zvd d x.onh x.onf
 rw [hwd] at HV hw0 hw1 ⊢
 have HWo := Hd (show I64 wd from ⟨by omega, by omega⟩)
 clear hwd
 go_wp2_with fail
 with_reducible refine (Fits_any cv wd HWo.out HCv.out u).mono ?_
 rintro e w2 ⟨rfl, hb2⟩
 have HF2 := Hd (HFu.out.call hb2)
 obtain ⟨q1, hq1⟩ : ∃ q, fitsW cv wd = q := ⟨_, rfl⟩
 rw [hq1] at HV ⊢
 clear hb2 hq1
 clear g0 l0 f0 g1 l1 f1
 obtain ⟨g0, l0, f0⟩ := HF2.out.c0 HL.out
 obtain ⟨g1, l1, f1⟩ := HF2.out.c1 HL.out
 dsimp only at g0 l0 f0 g1 l1 f1
 cases q1 with
 | false =>
  have HV2 := Hd (HV.out.trans (if_pos rfl))
  go_wp2_with fail
  go_returns
  exact ⟨by rw [HV2.out]; try rfl, HF2.out.below⟩
 | true =>
  go_wp2_with fail
  with_reducible refine (Fits_any cm wd HWo.out HCm.out w2).mono ?_
  rintro e w3 ⟨rfl, hb3⟩
  have HF3 := Hd (HF2.out.call hb3)
  obtain ⟨q2, hq2⟩ : ∃ q, fitsW cm wd = q := ⟨_, rfl⟩
  rw [hq2] at HV ⊢
  clear hb3 hq2
  clear g0 l0 f0 g1 l1 f1
  obtain ⟨g0, l0, f0⟩ := HF3.out.c0 HL.out
  obtain ⟨g1, l1, f1⟩ := HF3.out.c1 HL.out
  dsimp only at g0 l0 f0 g1 l1 f1
  cases q2 with
  | false =>
   have HV2 := Hd (HV.out.trans (if_pos rfl))
   go_wp2_with fail
   go_returns
   exact ⟨by rw [HV2.out]; try rfl, HF3.out.below⟩
  | true =>
   have HV1 := Hd (HV.out.trans (if_neg (by simp)))
   have hbits := HBt.out
   by_cases ha : an = 0
   ·subst ha
    have HV2 := Hd (HV1.out.trans (if_neg (by simp)))
    go_wp2_with fail
    first | rw [← hA] | skip
    with_reducible refine (leads_any d j cn w3 HLen.out).mono ?_
    rintro e w4 ⟨rfl, hb4⟩
    have HF4 := Hd (HF3.out.call hb4)
    obtain ⟨q3, hq3⟩ : ∃ q, zHe d j cn = q := ⟨_, rfl⟩
    have hv := HV2.out
    rw [hq3] at hv ⊢
    have HV3 := Hd hv
    clear hb4 hq3 hbits hv
    cases q3
    ·go_wp2_with fail
     go_returns
     exact ⟨by rw [HV3.out]; try rfl, HF4.out.below⟩
    ·go_wp2_with fail
     go_returns
     exact ⟨by rw [HV3.out]; try rfl, HF4.out.below⟩
   ·have ha' : (an != 0) = true := by simp [ha]
    have HV2 := Hd (HV1.out.trans (if_pos ha))
    clear ha
    go_wp2_with fail
    go_returns
    exact ⟨by rw [HV2.out]; try rfl, HF3.out.below⟩
end Go.Proofs.YtakgiamhdpgoeaaGreat
