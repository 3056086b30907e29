/- Lemmas. -/
import Derived.Test.YtakgiamhdpgoeaaGreatP8
set_option linter.unusedSimpArgs false
namespace Go.Proofs.YtakgiamhdpgoeaaGreat
open Go.RowKit
set_option linter.unusedVariables false
theorem actCheck_in_eq (d : PrgD) (j : Nat) (a : ActD) (hj : d.aZ.l[j]? = some a) : zYa d j = zgb d a := by
 unfold zYa
 rw [if_neg (by omega), Int.toNat_natCast, hj]
set_option maxRecDepth 100000 in
theorem zVe (d : PrgD) (i : Int) (w : World) (hR : PrgR w w.heap.size d) :
  Calls Tryz.prog 57 #[PrgD.v d, .int .i64 i] w fun e w' => e = .returned (.tuple #[.int .i64 (zYa d i).1, .int .i64 (zYa d i).2]) ∧ Below w.heap.size w w' := by
 have hlen := hR.aZ.len
 by_cases h : 0 ≤ i ∧ i < d.aZ.l.length
 ·obtain ⟨j, rfl⟩ := Int.eq_ofNat_of_zero_le h.1
  have hj : d.aZ.l[j]? = some d.aZ.l[j] := List.getElem?_eq_getElem (by omega)
  rw [actCheck_in_eq d j _ hj]
  exact actCheck_in d j _ w hR hj
 ·have HV := Hd (show zYa d i = (-1, 8) by
   unfold zYa
   by_cases h1 : i < 0
   ·rw [if_pos h1]
   ·rw [if_neg h1, List.getElem?_eq_none (by omega)])
  clear hR
  unfold PrgD.v PrgD.vs
  by_cases h1 : i < 0
  ·clear h
   go_enter Tryz.func57, Tryz.ntmps57
   go_wp2_with fail
   go_returns
   exact ⟨by rw [HV.out]; try rfl, by (first | (refine zca ?_ _; go_grown; done) | (go_grown; done))⟩
  ·have h2 : (d.aZ.l.length : Int) ≤ i := by omega
   clear h
   go_enter Tryz.func57, Tryz.ntmps57
   go_wp2_with fail
   go_returns
   exact ⟨by rw [HV.out]; try rfl, by (first | (refine zca ?_ _; go_grown; done) | (go_grown; done))⟩
def fitAt (args : List Int) (ps : List FldD) (i : Nat) : Bool := match args[i]?, ps[i]? with | some v, some f => fitsW v f.width | _, _ => true
theorem callCheck_in (d : PrgD) (j : Nat) (a : ActD) (args : List Int) (hj : d.aZ.l[j]? = some a) : zAb d j args = if args.length ≠ a.params.l.length then 2 else if (List.range args.length).all (fitAt args a.params.l) then 0 else 9 := by
 unfold zAb
 rw [if_neg (by omega), Int.toNat_natCast, hj]
 rfl
theorem range_all {n : Nat} {p : Nat → Bool} (h : ∀ i, i < n → p i = true) : (List.range n).all p = true := List.all_eq_true.2 fun i hi => h i (List.mem_range.1 hi)
theorem range_not {n k : Nat} {p : Nat → Bool} (hk : k < n) (h : p k = false) : (List.range n).all p = false := by
 rw [← Bool.not_eq_true, List.all_eq_true]
 intro hh
 rw [hh k (List.mem_range.2 hk)] at h
 cases h
abbrev callV (act : Int) (args : SL Int) : Value := .agg #[.int .i64 act, .slice args.a args.l.length args.c]
set_option maxRecDepth 100000 in
set_option maxHeartbeats 1000000 in
theorem checkCall_in (d : PrgD) (j : Nat) (a : ActD) (args : SL Int) (w : World) (hR : PrgR w w.heap.size d) (hS : SLR w w.heap.size 1 u32E U32 args) (hj : d.aZ.l[j]? = some a) :
  Calls Tryz.prog 121 #[PrgD.v d, callV j args] w fun e w' => e = .returned (.int .i64 (zAb d j args.l)) ∧ Below w.heap.size w w' := by
 have HV := Hd (callCheck_in d j a args.l hj)
 obtain ⟨N, hN⟩ : ∃ N, w.heap.size = N := ⟨_, rfl⟩
 have hlt : j < d.aZ.l.length := (List.getElem?_eq_some_iff.1 hj).1
 obtain ⟨b, off, x, hA, hb, hx, hok, hc⟩ := hR.aZ.at_ zdg (by omega) hlt
 obtain rfl : x = a := by rw [hx] at hj; exact Option.some.inj hj
 have hlen := hR.aZ.len
 have hbl := hok.params.len
 have hsl := hS.len
 have q1 := hc 1 _ rfl
 rw [hN] at hR hok hb hS ⊢
 have F0 := Fr.start w
 rw [hN] at F0
 have HX := Hd hok
 have HS := Hd hS
 have HF0 := Hd F0
 have hj0 : (0 : Int) ≤ j := by omega
 have hj1 : (j : Int) < d.aZ.l.length := by omega
 have hj2 : ¬ ((d.aZ.l.length : Int) ≤ j) := by omega
 have hj3 : ¬ ((j : Int) < 0) := by omega
 clear hc hx hj hR hok hlt F0 hS
 obtain ⟨sa, sc, sl⟩ := args
 simp only at HV HS hsl ⊢
 obtain ⟨nm, ⟨pa, pc, pl⟩, body⟩ := x
 have HP := Hd HX.out.params
 simp only at HV HP hbl q1 ⊢
 clear HX
 unfold PrgD.v PrgD.vs callV
 rw [hA]
 by_cases e0 : sl.length = pl.length
 ·have e1 : ((sl.length : Int) == pl.length) = true := by simp [e0]
  have e2 : ((sl.length : Int) != pl.length) = false := by simp [e0]
  have HE := Hd e0
  have HV1 := Hd (show zAb d j sl = if (List.range sl.length).all (fitAt sl pl) then 0 else 9 by rw [HV.out, if_neg (by omega)])
  clear e0
  go_enter Tryz.func121, Tryz.ntmps121
  go_wp2_with fail
  refine zfa ?_
  intro W1 hW1
  have F1 := ((HF0.out.alloc _ _).alloc _ _).of_eq hW1
  simp only [World.size_alloc, hN] at F1
  obtain ⟨L, hL, F1⟩ := F1.name
  have HL := Hd hL
  have HF1 := Hd F1
  clear hW1 F1 hL
  go_loopw [35] (fun i wr => ∃ k : Nat, k ≤ sl.length ∧ i = .int .i64 k ∧ (∀ j, j < k → fitAt sl pl j = true) ∧ Fr N w wr L) (fun i _ => sl.length - (intOf i).toNat)
  case atStart => exact ⟨0, Nat.zero_le _, rfl, fun j hj => absurd hj (by omega), HF1.out⟩
  case round =>
   obtain ⟨k, hk, rfl, hall, F⟩ := hrel
   have HAl := Hd hall
   have HF := Hd F
   clear F hall
   obtain ⟨g0, l0, f0⟩ := HF.out.c0 HL.out
   obtain ⟨g1, l1, f1⟩ := HF.out.c1 HL.out
   dsimp only at g0 l0 f0 g1 l1 f1
   by_cases hlt : k < sl.length
   ·obtain ⟨b2, off2, v, hA2, hb2, hv, hvok, hc2⟩ := HF.out.at_ HS.out (fun _ => rfl) (by omega) hlt
    obtain ⟨b3, off3, f, hA3, hb3, hf, ⟨_, hfw⟩, hc3⟩ := HF.out.at_ HP.out zFb (by omega) (show k < pl.length by have := HE.out; omega)
    have p0 := hc2 0 _ rfl
    have p1 := hc3 1 _ rfl
    simp only [Nat.add_zero, Nat.mul_one] at p0
    simp only at hA2 hA3
    have HVo := Hd hvok
    have HFw := Hd hfw
    have hfit : fitAt sl pl k = fitsW v f.width := by
     unfold fitAt
     rw [hv, hf]
    have HFit := Hd hfit
    have hkp : k < pl.length := by have := HE.out; omega
    have hk1 : (k : Int) < pl.length := by omega
    have hk2 : (k : Int) < sl.length := by omega
    have hk0 : (0 : Int) ≤ k := by omega
    subst hA2 hA3
    clear hc2 hc3 hv hf hvok hfw hfit
    go_wp2_with fail
    with_reducible refine (Fits_any v f.width HFw.out HVo.out wr).mono ?_
    rintro e w5 ⟨rfl, hb5⟩
    have HF5 := Hd (HF.out.call hb5)
    rw [← HFit.out]
    obtain ⟨r, hr⟩ : ∃ r, fitAt sl pl k = r := ⟨_, rfl⟩
    have HRr := Hd hr
    rw [hr]
    clear hb5 hr
    clear g0 l0 f0 g1 l1 f1
    clear p0 p1
    cases r
    ·have HV2 := Hd (show zAb d j sl = 9 by rw [HV1.out, range_not hlt HRr.out]; rfl)
     go_wp2_with fail
     go_returns
     exact ⟨by rw [HV2.out]; try rfl, HF5.out.below⟩
    ·go_wp2_with fail
     go_roundw
     case rel => exact ⟨k + 1, by omega, by go_num, fun j hj => by rcases Nat.lt_succ_iff_lt_or_eq.1 hj with h | h; exact HAl.out j h; rw [h]; exact HRr.out, HF5.out⟩
     case measure => simp [intOf]; omega
   ·have HV2 := Hd (show zAb d j sl = 0 by rw [HV1.out, range_all (fun i hi => HAl.out i (by omega))]; rfl)
    obtain rfl : k = sl.length := by omega
    clear hlt
    go_wp2_with fail
    go_returns
    exact ⟨by rw [HV2.out]; try rfl, HF.out.below⟩
 ·have e1 : ((sl.length : Int) == pl.length) = false := neq_b (by omega)
  have e2 : ((sl.length : Int) != pl.length) = true := by rw [bne, e1]; rfl
  have HV1 := Hd (show zAb d j sl = 2 by rw [HV.out, if_pos e0])
  clear e0
  go_enter Tryz.func121, Tryz.ntmps121
  go_wp2_with fail
  go_returns
  rw [← hN]
  exact ⟨by rw [HV1.out]; try rfl, by (first | (refine zca ?_ _; go_grown; done) | (go_grown; done))⟩
set_option maxRecDepth 100000 in
theorem checkCall_any (d : PrgD) (i : Int) (args : SL Int) (w : World) (hR : PrgR w w.heap.size d) (hS : SLR w w.heap.size 1 u32E U32 args) :
  Calls Tryz.prog 121 #[PrgD.v d, callV i args] w fun e w' => e = .returned (.int .i64 (zAb d i args.l)) ∧ Below w.heap.size w w' := by
 have hlen := hR.aZ.len
 by_cases h : 0 ≤ i ∧ i < d.aZ.l.length
 ·obtain ⟨j, rfl⟩ := Int.eq_ofNat_of_zero_le h.1
  have hj : d.aZ.l[j]? = some d.aZ.l[j] := List.getElem?_eq_getElem (by omega)
  exact checkCall_in d j _ args w hR hS hj
 ·have HV := Hd (show zAb d i args.l = 8 by
   unfold zAb
   by_cases h1 : i < 0
   ·rw [if_pos h1]
   ·rw [if_neg h1, List.getElem?_eq_none (by omega)])
  clear hR hS
  unfold PrgD.v PrgD.vs callV
  by_cases h1 : i < 0
  ·clear h
   go_enter Tryz.func121, Tryz.ntmps121
   go_wp2_with fail
   go_returns
   exact ⟨by rw [HV.out]; try rfl, by (first | (refine zca ?_ _; go_grown; done) | (go_grown; done))⟩
  ·have h2 : (d.aZ.l.length : Int) ≤ i := by omega
   clear h
   go_enter Tryz.func121, Tryz.ntmps121
   go_wp2_with fail
   go_returns
   exact ⟨by rw [HV.out]; try rfl, by (first | (refine zca ?_ _; go_grown; done) | (go_grown; done))⟩
open Go.RowKit
theorem kInt_key {x : Int} (h : I64 x) : keyOf Tryz.prog 3 (.int .i64 x) = some (kInt x) := Maps.keyOf_int_mk Tryz.underlying3 (kInt_wf h)
theorem kInt_is {x : Int} (h : I64 x) : WideAt.IsKeyLit (kInt x) := trivial
theorem zeroBool (w : World) : (zeroValue 4).run Tryz.prog w = .ok (.bool false) w := by kernel_rfl
theorem actScan_at (d : PrgD) {l : List Int} {k : Nat} {a : Int} (h : l[k]? = some a) : zWe d l k = if a < 0 ∨ (d.aZ.l.length : Int) ≤ a then some 8 else if (l.take k).contains a then some 7 else none := by
 unfold zWe
 rw [h]
theorem tblActs_some {d : PrgD} {t : TblD} {k : Nat} {e : Int} (hk : k < t.aZ.l.length) (h : ∀ i, i < k → zWe d t.aZ.l i = none) (he : zWe d t.aZ.l k = some e) : zHd d t = e := by
 unfold zHd
 rw [zua hk h he]
theorem tblActs_none {d : PrgD} {t : TblD} (h : ∀ i, i < t.aZ.l.length → zWe d t.aZ.l i = none) : zHd d t = if !t.aZ.l.contains t.dfl then 8 else zAb d t.dfl t.args.l := by
 unfold zHd
 rw [znb h]
theorem take_keys {l : List Int} {k : Nat} {a : Int} (h : l[k]? = some a) : (l.take (k + 1)).reverse.map kInt = kInt a :: (l.take k).reverse.map kInt := by
 rw [List.take_add_one, h, List.reverse_append]
 rfl
theorem mem_rev (x : Int) (l : List Int) : l.contains x = true ↔ kInt x ∈ l.reverse.map kInt := by
 rw [mem_kInt, List.map_reverse, List.mem_reverse]
set_option maxRecDepth 100000 in
set_option maxHeartbeats 2000000 in
theorem zhf (d : PrgD) (t : TblD) (w : World) (hR : PrgR w w.heap.size d) (hS : t.ok w w.heap.size) (hl : t.aZ.l.length ≤ 1000) :
  Calls Tryz.prog 85 #[PrgD.v d, tblV t] w fun e w' => e = .returned (.int .i64 (zHd d t)) ∧ Below w.heap.size w w' := by
 obtain ⟨N, hN⟩ : ∃ N, w.heap.size = N := ⟨_, rfl⟩
 rw [hN] at hR hS ⊢
 have F0 := Fr.start w
 rw [hN] at F0
 have HR := Hd hR
 have HT := Hd hS
 have HF0 := Hd F0
 have hal := hR.aZ.len
 have hmm := @run_makeMap Tryz.prog
 have HTs := Hd fun (k : Nat) (e : Int) => tblActs_some (d := d) (t := t) (k := k) (e := e)
 have HTn := Hd (tblActs_none (d := d) (t := t))
 obtain ⟨nm, keys, ⟨aa, ac, al⟩, dfl, args, size⟩ := t
 have HA := Hd HT.out.aZ
 simp only at HA hl HTs HTn ⊢
 clear hR hS F0
 unfold PrgD.v PrgD.vs tblV
 go_enter Tryz.func85, Tryz.ntmps85
 go_wp2_with fail
 clear hmm
 refine zfa ?_
 intro W1 hW1
 have F1 := (((HF0.out.alloc _ _).alloc _ _).alloc_any _).of_eq hW1
 have S1 : Sett Tryz.prog W1 3 4 (N + 2) 0 [] := by
  rw [hW1]
  have h := Sett.made (P := Tryz.prog) (k := 3) (e := 4) ((w.alloc (.cells #[.string d.name, .slice d.hZ.a d.hZ.l.length d.hZ.c, .slice d.mZ.a d.mZ.l.length d.mZ.c, .slice d.rZ.a d.rZ.l.length d.rZ.c, .slice d.aZ.a d.aZ.l.length d.aZ.c, .slice d.tZ.a d.tZ.l.length d.tZ.c, .slice d.sZ.a d.sZ.l.length d.sZ.c, .slice d.cZ.a d.cZ.l.length d.cZ.c, .slice d.dep.a d.dep.l.length d.dep.c] 31)).alloc (.cells #[.string nm, .slice keys.a keys.l.length keys.c, .slice aa al.length ac, .int .i64 dfl, .slice args.a args.l.length args.c, .int .i64 size] 80))
  simp only [World.size_alloc, hN] at h
  exact h
 simp only [World.size_alloc, hN] at F1
 obtain ⟨L, hL, F1⟩ := F1.name
 have HNe := Hd (show ∀ x ∈ L, x.1 ≠ N + 2 by rw [hL]; simp)
 have HL := Hd hL
 have HF1 := Hd F1
 have HS1 := Hd S1
 clear hW1 F1 hL S1
 go_loopw [12] (fun i wr => ∃ k : Nat, k ≤ al.length ∧ i = .int .i64 k ∧ (∀ j, j < k → zWe d al j = none) ∧ Fr N w wr L ∧ Sett Tryz.prog wr 3 4 (N + 2) k ((al.take k).reverse.map kInt)) (fun i _ => al.length - (intOf i).toNat)
 case atStart => exact ⟨0, Nat.zero_le _, rfl, fun j hj => absurd hj (by omega), HF1.out, HS1.out⟩
 case round =>
  obtain ⟨k, hk, rfl, hall, F, S⟩ := hrel
  have HAl := Hd hall
  have HF := Hd F
  have HS := Hd S
  clear F hall S
  obtain ⟨g0, l0, f0⟩ := HF.out.c0 HL.out
  obtain ⟨g1, l1, f1⟩ := HF.out.c1 HL.out
  dsimp only at g0 l0 f0 g1 l1 f1
  by_cases hlt : k < al.length
  ·obtain ⟨b2, off2, x, hA2, hb2, hx, hxok, hc2⟩ := HF.out.at_ HA.out (fun _ => rfl) (by omega) hlt
   have p0 := hc2 0 _ rfl
   simp only [Nat.add_zero, Nat.mul_one] at p0
   simp only at hA2
   have HSc := Hd (actScan_at d hx)
   have HTk := Hd (take_keys hx)
   have HXo := Hd hxok
   obtain ⟨q, hq⟩ : ∃ q, (al.take k).contains x = q := ⟨_, rfl⟩
   have hlook := HS.out.look (Maps.int_keyed Tryz.underlying3) (t := 208) Tryz.underlying208 Tryz.underlying4 (zeroBool _) (kInt_key hxok) (b := q) (by rw [← hq]; exact mem_rev _ _)
   rw [hq] at HSc
   subst hA2
   clear hc2 hx hxok hq
   by_cases c1 : x < 0
   ·have HV2 := Hd (HTs.out k 8 hlt HAl.out (HSc.out.trans (if_pos (.inl c1))))
    clear hlook
    go_wp2_with fail
    go_returns
    exact ⟨by rw [HV2.out]; try rfl, HF.out.below⟩
   ·by_cases c2 : (d.aZ.l.length : Int) ≤ x
    ·have HV2 := Hd (HTs.out k 8 hlt HAl.out (HSc.out.trans (if_pos (.inr c2))))
     clear hlook
     go_wp2_with fail
     go_returns
     exact ⟨by rw [HV2.out]; try rfl, HF.out.below⟩
    ·have HSd := Hd (HSc.out.trans (if_neg (by omega)))
     cases q with
     | true =>
      have HV2 := Hd (HTs.out k 7 hlt HAl.out (HSd.out.trans rfl))
      go_wp2_with fail
      go_returns
      exact ⟨by rw [HV2.out]; try rfl, HF.out.below⟩
     | false =>
      have HNn := Hd (HSd.out.trans rfl)
      go_wp2_with (at_mapUpdate; refine zge _ rfl (.tmp 28) (.tmp 29) (.const (.bool true)) 208 rfl 3 4 (Maps.int_keyed Tryz.underlying3) Tryz.underlying208 Tryz.underlying4 (N + 2) k _ rfl HS.out (by unfold maxLen; omega) _ (kInt x) rfl rfl (kInt_key HXo.out) (kInt_is HXo.out) ?_; intro w5 S5 hg5; have HS5 := Hd S5; have HF5 := Hd (HF.out.grown hg5 (by omega) HNe.out); clear S5 hg5 hlook g0 l0 f0 g1 l1 f1 p0)
      go_roundw
      case rel => exact ⟨k + 1, by omega, by go_num, fun j hj => by rcases Nat.lt_succ_iff_lt_or_eq.1 hj with h | h; exact HAl.out j h; rw [h]; exact HNn.out, HF5.out, by rw [HTk.out]; exact HS5.out⟩
      case measure => simp [intOf]; omega
  ·obtain rfl : k = al.length := by omega
   have HV := Hd (HTn.out (fun i hi => HAl.out i hi))
   have HD := Hd HT.out.dfl
   obtain ⟨q, hq⟩ : ∃ q, al.contains dfl = q := ⟨_, rfl⟩
   have hlook := HS.out.look (Maps.int_keyed Tryz.underlying3) (t := 208) Tryz.underlying208 Tryz.underlying4 (zeroBool _) (kInt_key HD.out) (b := q) (by rw [← hq, List.take_length]; exact mem_rev _ _)
   simp only at hlook
   rw [hq] at HV
   clear hlt hq
   cases q with
   | false =>
    have HV2 := Hd (HV.out.trans rfl)
    go_wp2_with fail
    go_returns
    exact ⟨by rw [HV2.out]; try rfl, HF.out.below⟩
   | true =>
    have HV2 := Hd (HV.out.trans rfl)
    go_wp2_with fail
    with_reducible refine (checkCall_any d dfl args wr (HF.out.prg HR.out) (HF.out.slr HT.out.args)).mono ?_
    rintro e w5 ⟨rfl, hb5⟩
    have HF5 := Hd (HF.out.call hb5)
    clear hb5 hlook
    clear g0 l0 f0 g1 l1 f1
    go_wp2_with fail
    go_returns
    exact ⟨by rw [HV2.out]; try rfl, HF5.out.below⟩
end Go.Proofs.YtakgiamhdpgoeaaGreat
