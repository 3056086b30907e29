/- Lemmas. -/
import Derived.Test.YtakgiamhdpgoeaaGreatP14
import Derived.Test.YtakgiamhdpgoeaaGreatP19
set_option linter.unusedSimpArgs false
namespace Go.Proofs.YtakgiamhdpgoeaaGreat
open Go.RowKit
set_option linter.unusedVariables false
theorem prgReg_at (d : PrgD) {k : Nat} {r : RegD} (hx : d.rZ.l[k]? = some r) : prgReg d k = firstD [req (zre r) 3 k 0, req (dupS (d.rZ.l.map (·.name)) k) 3 k 0] := by
 unfold prgReg
 rw [hx]
set_option maxRecDepth 100000 in
set_option maxHeartbeats 8000000 in
theorem zjf (d : PrgD) (w : World) (hR : PrgR w w.heap.size d) (hl1 : d.rZ.l.length ≤ 1000) (hl2 : d.aZ.l.length ≤ 1000) (hl3 : d.tZ.l.length ≤ 1000) :
  Calls Tryz.prog 31 #[PrgD.v d] w fun e w' => DiagE (zdd d) e ∧ Below w.heap.size w w' := by
 obtain ⟨N, hN⟩ : ∃ N, w.heap.size = N := ⟨_, rfl⟩
 rw [hN] at hR ⊢
 have F0 := Fr.start w
 rw [hN] at F0
 have HR := Hd hR
 have HF0 := Hd F0
 clear hR F0
 have HV := Hd (show zdd d = firstD [scan d.rZ.l.length (prgReg d), scan d.aZ.l.length (prgAct d), scan d.tZ.l.length (prgTbl d)] from rfl)
 obtain ⟨A0, hA0⟩ : ∃ A, d.rZ.a = A := ⟨_, rfl⟩
 have HA0 := Hd hA0
 unfold PrgD.v PrgD.vs
 rw [hA0]
 clear hA0
 go_enter Tryz.func31, Tryz.ntmps31
 go_wp2_with fail
 refine Calls.named ?_
 intro W hW
 have F1 := (HF0.out.alloc _ _).of_eq hW
 simp only [hN] at F1
 obtain ⟨L, hL, F1⟩ := F1.name
 have HL := Hd hL
 have HF1 := Hd F1
 clear F1 hL hW
 rw [← HA0.out]
 with_reducible refine (namesReg_any d.rZ W (HF1.out.slr HR.out.rZ) hl1).mono ?_
 rintro e w2 ⟨⟨A, c, rfl, hO2⟩, hb2⟩
 rw [HA0.out]
 have HF2 := Hd (HF1.out.call hb2)
 obtain ⟨base, hbase⟩ : ∃ b, W.heap.size = b := ⟨_, rfl⟩
 rw [hbase] at hO2
 have HO2 := Hd hO2
 simp only [List.length_map]
 clear hb2 hO2 hbase
 obtain ⟨g0, l0, f0⟩ := HF2.out.c0 HL.out
 dsimp only at g0 l0 f0
 go_wp2_with fail
 go_loopw [17] (fun i wr => ∃ k : Nat, k ≤ d.rZ.l.length ∧ i = .int .i64 k ∧ (∀ j, j < k → prgReg d j = none) ∧ Fr N w wr L ∧ OwnS wr base A c (d.rZ.l.map (·.name))) (fun i _ => d.rZ.l.length - (intOf i).toNat)
 case atStart => exact ⟨0, Nat.zero_le _, rfl, fun j hj => absurd hj (by omega), HF2.out, HO2.out⟩
 case round =>
  obtain ⟨k, hk, rfl, hall, F, O⟩ := hrel
  have HAl := Hd hall
  have HF := Hd F
  have HO := Hd O
  clear F hall O
  clear g0 l0 f0
  obtain ⟨g0, l0, f0⟩ := HF.out.c0 HL.out
  dsimp only at g0 l0 f0
  by_cases hlt : k < d.rZ.l.length
  ·obtain ⟨b2, off2, x, hA2, hb2, hx, hxok, hc2⟩ := HF.out.at_ HR.out.rZ reg_len (by omega) hlt
   have p0 := hc2 0 _ rfl
   have p1 := hc2 1 _ rfl
   have p2 := hc2 2 _ rfl
   simp only [Nat.add_zero] at p0
   have HSc := Hd (prgReg_at d hx)
   have HXo := Hd hxok
   have hk1 : (k : Int) < d.rZ.l.length := by omega
   obtain rfl : A0 = some ⟨b2, off2, none⟩ := HA0.out.symm.trans hA2
   clear hA2 hc2 hx hxok
   go_wp2_with fail
   refine Calls.named ?_
   intro W4 hW4
   have hb4 : Below wr.heap.size wr W4 := by rw [hW4]; exact (Below.refl _ _).alloc (Nat.le_refl _) _
   obtain ⟨cB, hcB⟩ : ∃ c, wr.heap.size = c := ⟨_, rfl⟩
   have F4 := (HF.out.alloc _ _).of_eq hW4
   rw [hcB] at F4
   obtain ⟨L4, hL4, F4⟩ := F4.name
   have HF4 := Hd F4
   have HL4 := Hd (hL4.trans (by rw [HL.out]))
   have HO4 := Hd (HO.out.below hb4)
   have HSub := Hd (show ∀ W', Fr N w W' L4 → Fr N w W' L by rw [hL4]; intro W' h; exact h.skip)
   simp only [hcB] at l0 ⊢
   clear g0 l0 f0
   clear hW4 F4 hL4 hb4 p0 p1 p2 HF HO hcB
   with_reducible refine (regCheck_any x HXo.out W4).mono ?_
   rintro e w5 ⟨rfl, hb5⟩
   have HF5 := Hd (HF4.out.call hb5)
   have HO5 := Hd (HO4.out.below hb5)
   obtain ⟨z, hz⟩ : ∃ z, zre x = z := ⟨_, rfl⟩
   have hv := HSc.out
   rw [hz] at hv ⊢
   have HSd := Hd hv
   clear hb5 hz hv HSc
   obtain ⟨g0, l0, f0⟩ := HF5.out.c0 HL4.out
   obtain ⟨g1, l1, f1⟩ := HF5.out.c1 HL4.out
   dsimp only at g0 l0 f0 g1 l1 f1
   by_cases z0 : z = 0
   ·subst z0
    have HSg := Hd (HSd.out.trans zlb)
    clear HSd
    go_wp2_with fail
    refine (zva _ _ _ _).mono ?_
    rintro e wq ⟨rfl, hwq⟩
    subst hwq
    have HRp := Hd (zrc ⟨A, c, d.rZ.l.map (·.name)⟩ k w5 HO5.out.slr (by simp only [List.length_map]; omega))
    simp only [List.length_map] at HRp
    go_wp2_with fail
    refine HRp.out.mono ?_
    rintro e w8 ⟨rfl, hb8⟩
    have HF8 := Hd (HF5.out.call hb8)
    have HO8 := Hd (HO5.out.below hb8)
    clear hb8
    obtain ⟨q8, hq8⟩ : ∃ q, decide (dupS (d.rZ.l.map (·.name)) k = 7) = q := ⟨_, rfl⟩
    have HD8 := Hd (dup_of hq8)
    rw [hq8]
    clear hq8 HRp
    go_wp2_with fail
    refine (zEb _ _ _).mono ?_
    rintro e w9 ⟨rfl, hw9⟩
    subst hw9
    have hv := HSg.out
    rw [HD8.out] at hv
    have HSh := Hd hv
    clear hv
    cases q8 with
    | true =>
     go_wp2_with fail
     refine (zla _ _ _ _ (by omega) _).mono ?_
     rintro e wq ⟨rfl, rfl⟩
     exact And.intro rfl (And.intro (by rw [HV.out, zua hlt HAl.out HSh.out]; rfl) HF8.out.below)
    | false =>
     go_wp2_with fail
     refine (zva _ _ _ _).mono ?_
     rintro e wq ⟨rfl, hwq⟩
     subst hwq
     go_wp2_with fail
     have HNn := Hd (HSh.out.trans rfl)
     go_roundw
     case rel => exact ⟨k + 1, by omega, by go_num, fun j hj => by rcases Nat.lt_succ_iff_lt_or_eq.1 hj with h | h; exact HAl.out j h; rw [h]; exact HNn.out, HSub.out _ HF8.out, HO8.out⟩
     case measure => simp [intOf]; omega
   ·have HE := Hd z0
    clear z0
    go_wp2_with fail
    refine (zla _ _ _ _ HE.out _).mono ?_
    rintro e wq ⟨rfl, rfl⟩
    exact And.intro rfl (And.intro (by rw [HV.out, zua hlt HAl.out (HSd.out.trans (by rw [zJf HE.out]; rfl))]; rfl) HF5.out.below)
  ·obtain rfl : k = d.rZ.l.length := by omega
   have HV2 := Hd (show scan d.rZ.l.length (prgReg d) = none from znb (fun i hi => HAl.out i hi))
   clear hlt
   have hv := HV.out
   rw [HV2.out] at hv
   have HVn := Hd (hv.trans zlb)
   clear hv HV HV2 HAl HO HO2 HF2 HF1
   have HV := HVn
   clear HVn
   have hA := HA0.out
   subst hA
   go_wp2_with fail
   with_reducible refine (namesAct_any d.aZ wr (HF.out.slr HR.out.aZ) hl2).mono ?_
   rintro e w2 ⟨⟨A, c, rfl, hO2⟩, hb2⟩
   have HF2 := Hd (HF.out.call hb2)
   obtain ⟨base, hbase⟩ : ∃ b, wr.heap.size = b := ⟨_, rfl⟩
   rw [hbase] at hO2
   have HO2 := Hd hO2
   simp only [List.length_map]
   clear g0 l0 f0
   clear hb2 hO2 hbase HF
   obtain ⟨g0, l0, f0⟩ := HF2.out.c0 HL.out
   dsimp only at g0 l0 f0
   go_wp2_with fail
   go_loopw [39] (fun i wr => ∃ k : Nat, k ≤ d.aZ.l.length ∧ i = .int .i64 k ∧ (∀ j, j < k → prgAct d j = none) ∧ Fr N w wr L ∧ OwnS wr base A c (d.aZ.l.map (·.name))) (fun i _ => d.aZ.l.length - (intOf i).toNat)
   case atStart => exact ⟨0, Nat.zero_le _, rfl, fun j hj => absurd hj (by omega), HF2.out, HO2.out⟩
   case round =>
    obtain ⟨k, hk, rfl, hall, F, O⟩ := hrel
    have HAl := Hd hall
    have HF := Hd F
    have HO := Hd O
    clear F hall O
    clear g0 l0 f0
    obtain ⟨g0, l0, f0⟩ := HF.out.c0 HL.out
    dsimp only at g0 l0 f0
    by_cases hlt : k < d.aZ.l.length
    ·have HSc := Hd (show prgAct d k = firstD [req (zYa d k).2 4 k (zYa d k).1, req (dupS (d.aZ.l.map (·.name)) k) 4 k 0] from rfl)
     have hk1 : (k : Int) < d.aZ.l.length := by omega
     go_wp2_with fail
     with_reducible refine (zVe d k _ (HF.out.prg HR.out)).mono ?_
     rintro e w5 ⟨rfl, hb5⟩
     have HF5 := Hd (HF.out.call hb5)
     have HO5 := Hd (HO.out.below hb5)
     obtain ⟨⟨z1, z⟩, hz⟩ : ∃ z, zYa d k = z := ⟨_, rfl⟩
     have hv := HSc.out
     rw [hz] at hv ⊢
     have HSd := Hd hv
     clear hb5 hz hv HSc
     clear g0 l0 f0
     obtain ⟨g0, l0, f0⟩ := HF5.out.c0 HL.out
     dsimp only at g0 l0 f0
     dsimp only
     by_cases z0 : z = 0
     ·subst z0
      have HSg := Hd (HSd.out.trans zlb)
      clear HSd
      go_wp2_with fail
      refine (zva _ _ _ _).mono ?_
      rintro e wq ⟨rfl, hwq⟩
      subst hwq
      have HRp := Hd (zrc ⟨A, c, d.aZ.l.map (·.name)⟩ k w5 HO5.out.slr (by simp only [List.length_map]; omega))
      simp only [List.length_map] at HRp
      go_wp2_with fail
      refine HRp.out.mono ?_
      rintro e w8 ⟨rfl, hb8⟩
      have HF8 := Hd (HF5.out.call hb8)
      have HO8 := Hd (HO5.out.below hb8)
      clear hb8
      obtain ⟨q8, hq8⟩ : ∃ q, decide (dupS (d.aZ.l.map (·.name)) k = 7) = q := ⟨_, rfl⟩
      have HD8 := Hd (dup_of hq8)
      rw [hq8]
      clear hq8 HRp
      go_wp2_with fail
      refine (zEb _ _ _).mono ?_
      rintro e w9 ⟨rfl, hw9⟩
      subst hw9
      have hv := HSg.out
      rw [HD8.out] at hv
      have HSh := Hd hv
      clear hv
      cases q8 with
      | true =>
       go_wp2_with fail
       refine (zla _ _ _ _ (by omega) _).mono ?_
       rintro e wq ⟨rfl, rfl⟩
       exact And.intro rfl (And.intro (by rw [HV.out, zua hlt HAl.out HSh.out]; rfl) HF8.out.below)
      | false =>
       go_wp2_with fail
       refine (zva _ _ _ _).mono ?_
       rintro e wq ⟨rfl, hwq⟩
       subst hwq
       go_wp2_with fail
       have HNn := Hd (HSh.out.trans rfl)
       go_roundw
       case rel => exact ⟨k + 1, by omega, by go_num, fun j hj => by rcases Nat.lt_succ_iff_lt_or_eq.1 hj with h | h; exact HAl.out j h; rw [h]; exact HNn.out, HF8.out, HO8.out⟩
       case measure => simp [intOf]; omega
     ·have HE := Hd z0
      clear z0
      go_wp2_with fail
      refine (zla _ _ _ _ HE.out _).mono ?_
      rintro e wq ⟨rfl, rfl⟩
      exact And.intro rfl (And.intro (by rw [HV.out, zua hlt HAl.out (HSd.out.trans (by rw [zJf HE.out]; rfl))]; rfl) HF5.out.below)
    ·obtain rfl : k = d.aZ.l.length := by omega
     have HV2 := Hd (show scan d.aZ.l.length (prgAct d) = none from znb (fun i hi => HAl.out i hi))
     clear hlt
     have hv := HV.out
     rw [HV2.out] at hv
     have HVn := Hd (hv.trans zlb)
     clear hv
     clear HV HV2 HAl HO HO2 HF2
     have HV := HVn
     clear HVn
     go_wp2_with fail
     with_reducible refine (namesTbl_any d.tZ wr (HF.out.slr HR.out.tZ) hl3).mono ?_
     rintro e w2 ⟨⟨A, c, rfl, hO2⟩, hb2⟩
     have HF2 := Hd (HF.out.call hb2)
     obtain ⟨base, hbase⟩ : ∃ b, wr.heap.size = b := ⟨_, rfl⟩
     rw [hbase] at hO2
     have HO2 := Hd hO2
     simp only [List.length_map]
     clear g0 l0 f0
     clear hb2 hO2 hbase HF
     obtain ⟨g0, l0, f0⟩ := HF2.out.c0 HL.out
     dsimp only at g0 l0 f0
     go_wp2_with fail
     go_loopw [65] (fun i wr => ∃ k : Nat, k ≤ d.tZ.l.length ∧ i = .int .i64 k ∧ (∀ j, j < k → prgTbl d j = none) ∧ Fr N w wr L ∧ OwnS wr base A c (d.tZ.l.map (·.name))) (fun i _ => d.tZ.l.length - (intOf i).toNat)
     case atStart => exact ⟨0, Nat.zero_le _, rfl, fun j hj => absurd hj (by omega), HF2.out, HO2.out⟩
     case round =>
      obtain ⟨k, hk, rfl, hall, F, O⟩ := hrel
      have HAl := Hd hall
      have HF := Hd F
      have HO := Hd O
      clear F hall O
      clear g0 l0 f0
      obtain ⟨g0, l0, f0⟩ := HF.out.c0 HL.out
      dsimp only at g0 l0 f0
      by_cases hlt : k < d.tZ.l.length
      ·have HSc := Hd (show prgTbl d k = firstD [req (zJa d k).2 5 k (zJa d k).1, req (dupS (d.tZ.l.map (·.name)) k) 5 k 0] from rfl)
       have hk1 : (k : Int) < d.tZ.l.length := by omega
       go_wp2_with fail
       with_reducible refine (zNf d k _ (HF.out.prg HR.out)).mono ?_
       rintro e w5 ⟨rfl, hb5⟩
       have HF5 := Hd (HF.out.call hb5)
       have HO5 := Hd (HO.out.below hb5)
       obtain ⟨⟨z1, z⟩, hz⟩ : ∃ z, zJa d k = z := ⟨_, rfl⟩
       have hv := HSc.out
       rw [hz] at hv ⊢
       have HSd := Hd hv
       clear hb5 hz hv HSc
       clear g0 l0 f0
       obtain ⟨g0, l0, f0⟩ := HF5.out.c0 HL.out
       dsimp only at g0 l0 f0
       dsimp only
       by_cases z0 : z = 0
       ·subst z0
        have HSg := Hd (HSd.out.trans zlb)
        clear HSd
        go_wp2_with fail
        refine (zva _ _ _ _).mono ?_
        rintro e wq ⟨rfl, hwq⟩
        subst hwq
        have HRp := Hd (zrc ⟨A, c, d.tZ.l.map (·.name)⟩ k w5 HO5.out.slr (by simp only [List.length_map]; omega))
        simp only [List.length_map] at HRp
        go_wp2_with fail
        refine HRp.out.mono ?_
        rintro e w8 ⟨rfl, hb8⟩
        have HF8 := Hd (HF5.out.call hb8)
        have HO8 := Hd (HO5.out.below hb8)
        clear hb8
        obtain ⟨q8, hq8⟩ : ∃ q, decide (dupS (d.tZ.l.map (·.name)) k = 7) = q := ⟨_, rfl⟩
        have HD8 := Hd (dup_of hq8)
        rw [hq8]
        clear hq8 HRp
        go_wp2_with fail
        refine (zEb _ _ _).mono ?_
        rintro e w9 ⟨rfl, hw9⟩
        subst hw9
        have hv := HSg.out
        rw [HD8.out] at hv
        have HSh := Hd hv
        clear hv
        cases q8 with
        | true =>
         go_wp2_with fail
         refine (zla _ _ _ _ (by omega) _).mono ?_
         rintro e wq ⟨rfl, rfl⟩
         exact And.intro rfl (And.intro (by rw [HV.out, zua hlt HAl.out HSh.out]; rfl) HF8.out.below)
        | false =>
         go_wp2_with fail
         refine (zva _ _ _ _).mono ?_
         rintro e wq ⟨rfl, hwq⟩
         subst hwq
         go_wp2_with fail
         have HNn := Hd (HSh.out.trans rfl)
         go_roundw
         case rel => exact ⟨k + 1, by omega, by go_num, fun j hj => by rcases Nat.lt_succ_iff_lt_or_eq.1 hj with h | h; exact HAl.out j h; rw [h]; exact HNn.out, HF8.out, HO8.out⟩
         case measure => simp [intOf]; omega
       ·have HE := Hd z0
        clear z0
        go_wp2_with fail
        refine (zla _ _ _ _ HE.out _).mono ?_
        rintro e wq ⟨rfl, rfl⟩
        exact And.intro rfl (And.intro (by rw [HV.out, zua hlt HAl.out (HSd.out.trans (by rw [zJf HE.out]; rfl))]; rfl) HF5.out.below)
      ·obtain rfl : k = d.tZ.l.length := by omega
       have HV2 := Hd (show scan d.tZ.l.length (prgTbl d) = none from znb (fun i hi => HAl.out i hi))
       clear hlt
       have hv := HV.out
       rw [HV2.out] at hv
       have HVn := Hd (hv.trans zlb)
       clear hv
       go_wp2_with fail
       go_returns
       exact ⟨by rw [HVn.out]; rfl, HF.out.below⟩
open Go.RowKit
theorem neqFld (a b : ByteArray) (x y : Int) (w : World) : (binOp .neq 88 (.agg #[.string a, .int .i64 x]) (.agg #[.string b, .int .i64 y])).run Tryz.prog w = .ok (.bool (!(sEq a b && x == y))) w := by
 have u3 := Tryz.underlying3
 have u9 := Tryz.underlying9
 have a3 := Tryz.isAgg3
 have z3 := Tryz.sizeOf3
 have a9 := Tryz.isAgg9
 have z9 := Tryz.sizeOf9
 have hS : Tryz.prog.underlying 88 = some (.struct (Tryz.prog.fieldsOf 88)) := by kernel_rfl
 have hp : Tryz.prog.stoodInHeld 88 = false := by kernel_rfl
 rw [run_neq_struct, show (10000 : Nat) = 9999 + 1 from rfl, run_equalIn_agg w 9999 88 _ _ hS hp]
 simp only [Program.fieldsOf, Tryz.underlying88]
 go_simp
 unfold sEq
 cases h1 : (a.toList == b.toList) <;> cases h2 : (x == y) <;> simp_all
theorem neqFldG (w : World) (x y : Operand) (xs ys : Array Value) : (eqGuard .neq 88 x y (.agg xs) (.agg ys)).run Tryz.prog w = .ok () w := run_eqGuard_agg w .neq _ x y xs ys (by kernel_rfl)
theorem when_eq (b : Bool) (c : Int) (w : World) : Calls Tryz.prog 43 #[.bool b, .int .i64 c] w fun e w' => e = .returned (.int .i64 (if b then c else 0)) ∧ w' = w := (zEb b c w).mono fun _ _ h => ⟨h.1, h.2.symm⟩
theorem prgMeta_at (d : PrgD) {k : Nat} {f : FldD} (hx : d.mZ.l[k]? = some f) : zEf d k = firstD [req (if ident f.name then 0 else 6) 2 k 0, req (if badW f.width then 10 else 0) 2 k 0, req (dupS (d.mZ.l.map (·.name)) k) 2 k 0] := by
 unfold zEf
 rw [hx]
def metaN : Nat → ByteArray
 | 0 => ⟨#[105, 110]⟩
 | 1 => ⟨#[111, 117, 116]⟩
 | _ => ⟨#[100, 114, 111, 112]⟩
def metaW : Nat → Int
 | 0 => 8
 | 1 => 8
 | _ => 1
def metaC (l : List FldD) (j : Nat) : Bool := zIe l j (metaN j) (metaW j)
theorem metaC_some {l : List FldD} {k : Nat} {f : FldD} (h : l[k]? = some f) : metaC l k = (sEq f.name (metaN k) && f.width == metaW k) := by
 unfold metaC zIe
 rw [h]
theorem metaC_none {l : List FldD} {k : Nat} (h : l.length ≤ k) : metaC l k = false := by
 unfold metaC zIe
 rw [List.getElem?_eq_none h]
theorem metas_eq (l : List FldD) : firstD [req (if zIe l 0 "in".toUTF8 8 then 0 else 5) 2 0 0, req (if zIe l 1 "out".toUTF8 8 then 0 else 5) 2 1 0, req (if zIe l 2 "drop".toUTF8 1 then 0 else 5) 2 2 0]
  = firstD [req (if metaC l 0 then 0 else 5) 2 0 0, req (if metaC l 1 then 0 else 5) 2 1 0, req (if metaC l 2 then 0 else 5) 2 2 0] := by
 have h0 : "in".toUTF8 = metaN 0 := by decide +kernel
 have h1 : "out".toUTF8 = metaN 1 := by decide +kernel
 have h2 : "drop".toUTF8 = metaN 2 := by decide +kernel
 rw [h0, h1, h2]
 rfl
theorem metas_fail {l : List FldD} {k : Nat} (hk : k < 3) (h : ∀ j, j < k → metaC l j = true) (hf : metaC l k = false) :
  firstD [req (if metaC l 0 then 0 else 5) 2 0 0, req (if metaC l 1 then 0 else 5) 2 1 0, req (if metaC l 2 then 0 else 5) 2 2 0] = some ((5, 2, (k : Int), 0) : Diag) := by
 obtain rfl | rfl | rfl : k = 0 ∨ k = 1 ∨ k = 2 := by omega
 ·rw [hf]; rfl
 ·rw [h 0 (by omega), hf]; rfl
 ·rw [h 0 (by omega), h 1 (by omega), hf]; rfl
theorem metas_ok {l : List FldD} (h : ∀ j, j < 3 → metaC l j = true) :
  firstD [req (if metaC l 0 then 0 else 5) 2 0 0, req (if metaC l 1 then 0 else 5) 2 1 0, req (if metaC l 2 then 0 else 5) 2 2 0] = none := by
 rw [h 0 (by omega), h 1 (by omega), h 2 (by omega)]
 rfl
set_option maxRecDepth 100000 in
set_option maxHeartbeats 2000000 in
theorem zFe (d : PrgD) (w : World) (hR : PrgR w w.heap.size d) (hl : d.mZ.l.length ≤ 1000) :
  Calls Tryz.prog 30 #[PrgD.v d] w fun e w' => DiagE (zUb d) e ∧ Below w.heap.size w w' := by
 obtain ⟨N, hN⟩ : ∃ N, w.heap.size = N := ⟨_, rfl⟩
 rw [hN] at hR ⊢
 have F0 := Fr.start w
 rw [hN] at F0
 have HR := Hd hR
 have HF0 := Hd F0
 clear hR F0
 obtain ⟨q1, hq1⟩ : ∃ q, decide ((12 : Int) < d.mZ.l.length) = q := ⟨_, rfl⟩
 have HV := Hd (show zUb d = firstD [req (if q1 then 12 else 0) 2 0 0, scan d.mZ.l.length (zEf d),
  req (if zIe d.mZ.l 0 "in".toUTF8 8 then 0 else 5) 2 0 0, req (if zIe d.mZ.l 1 "out".toUTF8 8 then 0 else 5) 2 1 0, req (if zIe d.mZ.l 2 "drop".toUTF8 1 then 0 else 5) 2 2 0] by
  unfold zUb
  rw [← hq1]
  simp only [decide_eq_true_eq, Int.ofNat_lt.symm]
  rfl)
 obtain ⟨A0, hA0⟩ : ∃ A, d.mZ.a = A := ⟨_, rfl⟩
 have HA0 := Hd hA0
 unfold PrgD.v PrgD.vs
 rw [hA0]
 clear hA0
 go_enter Tryz.func30, Tryz.ntmps30
 go_wp2_with fail
 refine Calls.named ?_
 intro W hW
 have F1 := (HF0.out.alloc _ _).of_eq hW
 simp only [hN] at F1
 obtain ⟨L, hL, F1⟩ := F1.name
 have HL := Hd hL
 have HF1 := Hd F1
 clear F1 hL hW
 obtain ⟨g0, l0, f0⟩ := HF1.out.c0 HL.out
 dsimp only at g0 l0 f0
 refine (zEb q1 12 W).mono ?_
 rintro e w1 ⟨rfl, hw⟩
 subst hw
 cases q1 with
 | true =>
  go_wp2_with fail
  refine (zla _ _ _ _ (by omega) _).mono ?_
  rintro e wq ⟨rfl, rfl⟩
  exact And.intro rfl (And.intro (by rw [HV.out]; rfl) HF1.out.below)
 | false =>
  have HV1 := Hd (HV.out.trans zlb)
  go_wp2_with fail
  refine (zva _ _ _ _).mono ?_
  rintro e wq ⟨rfl, hwq⟩
  subst hwq
  go_wp2_with fail
  rw [← HA0.out]
  with_reducible refine (namesFld_any d.mZ W (HF1.out.slr HR.out.mZ) hl).mono ?_
  rintro e w2 ⟨⟨A, c, rfl, hO2⟩, hb2⟩
  rw [HA0.out]
  have HF2 := Hd (HF1.out.call hb2)
  obtain ⟨base, hbase⟩ : ∃ b, W.heap.size = b := ⟨_, rfl⟩
  rw [hbase] at hO2
  have HO2 := Hd hO2
  simp only [List.length_map]
  clear g0 l0 f0
  clear hb2 hO2 hbase hq1
  obtain ⟨g0, l0, f0⟩ := HF2.out.c0 HL.out
  dsimp only at g0 l0 f0
  go_wp2_with fail
  go_loopw [19] (fun i wr => ∃ k : Nat, k ≤ d.mZ.l.length ∧ i = .int .i64 k ∧ (∀ j, j < k → zEf d j = none) ∧ Fr N w wr L ∧ OwnS wr base A c (d.mZ.l.map (·.name))) (fun i _ => d.mZ.l.length - (intOf i).toNat)
  case atStart => exact ⟨0, Nat.zero_le _, rfl, fun j hj => absurd hj (by omega), HF2.out, HO2.out⟩
  case round =>
   obtain ⟨k, hk, rfl, hall, F, O⟩ := hrel
   have HAl := Hd hall
   have HF := Hd F
   have HO := Hd O
   clear F hall O
   clear g0 l0 f0
   obtain ⟨g0, l0, f0⟩ := HF.out.c0 HL.out
   dsimp only at g0 l0 f0
   by_cases hlt : k < d.mZ.l.length
   ·obtain ⟨b2, off2, x, hA2, hb2, hx, hxok, hc2⟩ := HF.out.at_ HR.out.mZ zFb (by omega) hlt
    have p0 := hc2 0 _ rfl
    have p1 := hc2 1 _ rfl
    simp only [Nat.add_zero] at p0
    have HSc := Hd (prgMeta_at d hx)
    have HXn := Hd hxok.1
    have hk1 : (k : Int) < d.mZ.l.length := by omega
    obtain rfl : A0 = some ⟨b2, off2, none⟩ := HA0.out.symm.trans hA2
    clear hA2 hc2 hx hxok
    go_wp2_with fail
    refine Calls.named ?_
    intro W4 hW4
    have hb4 : Below wr.heap.size wr W4 := by rw [hW4]; exact (Below.refl _ _).alloc (Nat.le_refl _) _
    obtain ⟨cB, hcB⟩ : ∃ c, wr.heap.size = c := ⟨_, rfl⟩
    have F4 := (HF.out.alloc _ _).of_eq hW4
    rw [hcB] at F4
    obtain ⟨L4, hL4, F4⟩ := F4.name
    have HF4 := Hd F4
    have HL4 := Hd (hL4.trans (by rw [HL.out]))
    have HO4 := Hd (HO.out.below hb4)
    have HSub := Hd (show ∀ W', Fr N w W' L4 → Fr N w W' L by rw [hL4]; intro W' h; exact h.skip)
    simp only [hcB] at l0 ⊢
    clear g0 l0 f0
    clear hW4 F4 hL4 hb4 p0 p1 HF HO hcB
    obtain ⟨g0, l0, f0⟩ := HF4.out.c0 HL4.out
    obtain ⟨g1, l1, f1⟩ := HF4.out.c1 HL4.out
    dsimp only at g0 l0 f0 g1 l1 f1
    refine (zUd x.name HXn.out W4).mono ?_
    rintro e w5 ⟨rfl, hw5⟩
    subst hw5
    obtain ⟨z, hz⟩ : ∃ z, ident x.name = z := ⟨_, rfl⟩
    obtain ⟨q2, hq2⟩ : ∃ z, badW x.width = z := ⟨_, rfl⟩
    have HQ2 := Hd hq2
    have hv := HSc.out
    rw [hz, hq2] at hv
    rw [hz]
    have HSd := Hd hv
    clear hz hv HSc hq2
    go_wp2_with fail
    refine (zEb _ _ _).mono ?_
    rintro e w6 ⟨rfl, hw6⟩
    subst hw6
    cases z with
    | false =>
     go_wp2_with fail
     refine (zla _ _ _ _ (by omega) _).mono ?_
     rintro e wq ⟨rfl, rfl⟩
     exact And.intro rfl (And.intro (by rw [HV1.out, zua hlt HAl.out HSd.out]; rfl) HF4.out.below)
    | true =>
     have HSf := Hd (HSd.out.trans zlb)
     go_wp2_with fail
     refine (zva _ _ _ _).mono ?_
     rintro e wq ⟨rfl, hwq⟩
     subst hwq
     go_wp2_with fail
     refine (zPf x.width W4).mono ?_
     rintro e w6 ⟨rfl, hw6⟩
     subst hw6
     rw [HQ2.out]
     go_wp2_with fail
     refine (zEb _ _ _).mono ?_
     rintro e w6 ⟨rfl, hw6⟩
     subst hw6
     cases q2 with
     | true =>
      go_wp2_with fail
      refine (zla _ _ _ _ (by omega) _).mono ?_
      rintro e wq ⟨rfl, rfl⟩
      exact And.intro rfl (And.intro (by rw [HV1.out, zua hlt HAl.out HSf.out]; rfl) HF4.out.below)
     | false =>
      have HSg := Hd (HSf.out.trans zlb)
      go_wp2_with fail
      refine (zva _ _ _ _).mono ?_
      rintro e wq ⟨rfl, hwq⟩
      subst hwq
      have HRp := Hd (zrc ⟨A, c, d.mZ.l.map (·.name)⟩ k W4 HO4.out.slr (by simp only [List.length_map]; omega))
      simp only [List.length_map] at HRp
      go_wp2_with fail
      refine HRp.out.mono ?_
      rintro e w8 ⟨rfl, hb8⟩
      have HF8 := Hd (HF4.out.call hb8)
      have HO8 := Hd (HO4.out.below hb8)
      clear hb8
      obtain ⟨q8, hq8⟩ : ∃ q, decide (dupS (d.mZ.l.map (·.name)) k = 7) = q := ⟨_, rfl⟩
      have HD8 := Hd (dup_of hq8)
      rw [hq8]
      clear hq8 HRp
      go_wp2_with fail
      refine (zEb _ _ _).mono ?_
      rintro e w9 ⟨rfl, hw9⟩
      subst hw9
      have hv := HSg.out
      rw [HD8.out] at hv
      have HSh := Hd hv
      clear hv
      cases q8 with
      | true =>
       go_wp2_with fail
       refine (zla _ _ _ _ (by omega) _).mono ?_
       rintro e wq ⟨rfl, rfl⟩
       exact And.intro rfl (And.intro (by rw [HV1.out, zua hlt HAl.out HSh.out]; rfl) HF8.out.below)
      | false =>
       go_wp2_with fail
       refine (zva _ _ _ _).mono ?_
       rintro e wq ⟨rfl, hwq⟩
       subst hwq
       go_wp2_with fail
       have HNn := Hd (HSh.out.trans rfl)
       go_roundw
       case rel => exact ⟨k + 1, by omega, by go_num, fun j hj => by rcases Nat.lt_succ_iff_lt_or_eq.1 hj with h | h; exact HAl.out j h; rw [h]; exact HNn.out, HSub.out _ HF8.out, HO8.out⟩
       case measure => simp [intOf]; omega
   ·obtain rfl : k = d.mZ.l.length := by omega
    have hv := HV1.out
    rw [znb (fun i hi => HAl.out i hi)] at hv
    have HV2 := Hd (hv.trans zlb)
    clear hlt hv HV1 HAl HO HO2 HF2 HF1 HV
    have hA := HA0.out
    subst hA
    clear HA0
    go_wp2_with fail
    have HV3 := Hd (HV2.out.trans (metas_eq _))
    clear HV2
    have HF0 := HF
    clear HF
    clear g0 l0 f0
    go_loopw [47] (fun i wr => ∃ k : Nat, k ≤ 3 ∧ i = .int .i64 k ∧ (∀ j, j < k → metaC d.mZ.l j = true) ∧ Fr N w wr L) (fun i _ => 3 - (intOf i).toNat)
    case atStart => exact ⟨0, Nat.zero_le _, rfl, fun j hj => absurd hj (by omega), HF0.out⟩
    case round =>
     obtain ⟨k, hk, rfl, hall, F⟩ := hrel
     have HAl := Hd hall
     have HF := Hd F
     clear F hall
     obtain ⟨g0, l0, f0⟩ := HF.out.c0 HL.out
     dsimp only at g0 l0 f0
     by_cases h3 : k < 3
     ·have ix : ∀ w, (Instr.index 132 (.agg #[.string ⟨#[105, 110]⟩, .int .i64 8, .string ⟨#[111, 117, 116]⟩, .int .i64 8, .string ⟨#[100, 114, 111, 112]⟩, .int .i64 1]) (.int .i64 k)).run Tryz.prog w = .ok (.agg #[.string (metaN k), .int .i64 (metaW k)]) w := by
       obtain rfl | rfl | rfl : k = 0 ∨ k = 1 ∨ k = 2 := by omega
       ·exact fun _ => by kernel_rfl
       ·exact fun _ => by kernel_rfl
       ·exact fun _ => by kernel_rfl
      have hk3 : (k : Int) < 3 := by omega
      obtain ⟨nm, hnm⟩ : ∃ x, metaN k = x := ⟨_, rfl⟩
      obtain ⟨wd, hwd⟩ : ∃ x, metaW k = x := ⟨_, rfl⟩
      rw [hnm, hwd] at ix
      have HNm := Hd hnm
      have HWd := Hd hwd
      by_cases hlt : k < d.mZ.l.length
      ·obtain ⟨b2, off2, x, hA2, hb2, hx, hxok, hc2⟩ := HF.out.at_ HR.out.mZ zFb (by omega) hlt
       have hbr : b2 < wr.heap.size := Nat.lt_of_lt_of_le hb2 HF.out.le
       obtain ⟨q, hq⟩ : ∃ q, (sEq x.name nm && x.width == wd) = q := ⟨_, rfl⟩
       have HQ := Hd (show metaC d.mZ.l k = q from (metaC_some hx).trans (by rw [hnm, hwd]; exact hq))
       have hneq : ∀ w, (binOp .neq 88 (.agg #[.string x.name, .int .i64 x.width]) (.agg #[.string nm, .int .i64 wd])).run Tryz.prog w = .ok (.bool (!q)) w := fun w => by rw [neqFld, hq]
       have hneg := neqFldG
       have p0 := hc2 0 _ rfl
       have p1 := hc2 1 _ rfl
       simp only [Nat.add_zero] at p0
       have hk1 : (k : Int) < d.mZ.l.length := by omega
       have hk2 : decide ((d.mZ.l.length : Int) ≤ k) = false := decide_eq_false (by omega)
       have hk2n : decide (d.mZ.l.length ≤ k) = false := decide_eq_false (by omega)
       rw [hA2]
       have hk0 : (0 : Int) ≤ k := by omega
       clear hc2 hx hxok hq hb2 hnm hwd
       go_wp2_with fail
       refine zfa ?_
       intro W4 hW4
       have F4 := (HF.out.alloc _ _).of_eq hW4
       have hbl := (Below.refl wr.heap.size wr).alloc (Nat.le_refl _) (.cells #[.string nm, .int .i64 wd] 88)
       have p0' : W4.cell? ⟨b2, off2 + k * 2, none⟩ = some (.string x.name) := by rw [hW4]; exact (hbl.cell (p := ⟨b2, off2 + k * 2, none⟩) hbr).trans p0
       have p1' : W4.cell? ⟨b2, off2 + k * 2 + 1, none⟩ = some (.int .i64 x.width) := by rw [hW4]; exact (hbl.cell (p := ⟨b2, off2 + k * 2 + 1, none⟩) hbr).trans p1
       obtain ⟨cB, hcB⟩ : ∃ c, wr.heap.size = c := ⟨_, rfl⟩
       rw [hcB] at F4
       obtain ⟨L4, hL4, F4⟩ := F4.name
       have HF4 := Hd F4
       have HL4 := Hd (hL4.trans (by rw [HL.out]))
       have HF5 := Hd (show Fr N w W4 L from (show ∀ W', Fr N w W' L4 → Fr N w W' L by rw [hL4]; intro W' h; exact h.skip) _ F4)
       simp only [hcB] at l0 ⊢
       clear g0 l0 f0
       clear hW4 F4 hL4 p0 p1 hcB ix hbr hbl
       obtain ⟨g0, l0, f0⟩ := HF4.out.c0 HL4.out
       obtain ⟨g1, l1, f1⟩ := HF4.out.c1 HL4.out
       dsimp only at g0 l0 f0 g1 l1 f1
       cases q with
       | true =>
        refine wp_region_still_tail 16 (by kernel_rfl) (by kernel_rfl) ?_
        simp only [List.take_succ_cons, List.take_zero, List.drop_succ_cons, List.drop_zero]
        iterate 14 ((with_reducible refine wpStill_step (fun K hK => ?_)); go_simp; refine hK _ ?_; clear hK K)
        with_reducible refine wpStill_step (fun K hK => ?_)
        go_simp
        refine ⟨_, when_eq false 5 _, hK _ ?_⟩
        clear hK K
        with_reducible refine wpStill_step (fun K hK => ?_)
        go_simp
        refine hK _ ?_
        clear hK K
        with_reducible refine wpStill_nil ?_
        change wpList _ _ _ _ _ W4.drew
        go_wp2_with fail
        refine (zva _ _ _ _).mono ?_
        rintro e wq ⟨rfl, hwq⟩
        subst hwq
        go_wp2_with fail
        go_roundw
        case rel => exact ⟨k + 1, by omega, by go_num, fun j hj => by rcases Nat.lt_succ_iff_lt_or_eq.1 hj with h | h; exact HAl.out j h; rw [h]; exact HQ.out, HF5.out.drew⟩
        case measure => simp [intOf]; omega
       | false =>
        refine wp_region_still_tail 16 (by kernel_rfl) (by kernel_rfl) ?_
        simp only [List.take_succ_cons, List.take_zero, List.drop_succ_cons, List.drop_zero]
        iterate 14 ((with_reducible refine wpStill_step (fun K hK => ?_)); go_simp; refine hK _ ?_; clear hK K)
        with_reducible refine wpStill_step (fun K hK => ?_)
        go_simp
        refine ⟨_, when_eq true 5 _, hK _ ?_⟩
        clear hK K
        with_reducible refine wpStill_step (fun K hK => ?_)
        go_simp
        refine hK _ ?_
        clear hK K
        with_reducible refine wpStill_nil ?_
        change wpList _ _ _ _ _ W4.drew
        go_wp2_with fail
        refine (zla _ _ _ _ (by omega) _).mono ?_
        rintro e wq ⟨rfl, rfl⟩
        exact And.intro rfl (And.intro (by rw [HV3.out, metas_fail (by omega) HAl.out HQ.out]; rfl) HF5.out.drew.below)
      ·have hk2 : decide ((d.mZ.l.length : Int) ≤ k) = true := decide_eq_true (by omega)
       have hk2n : decide (d.mZ.l.length ≤ k) = true := decide_eq_true (by omega)
       have HQ := Hd (show metaC d.mZ.l k = false from metaC_none (by omega))
       clear hlt hnm hwd
       go_wp2_with fail
       refine zfa ?_
       intro W4 hW4
       have F4 := (HF.out.alloc _ _).of_eq hW4
       obtain ⟨cB, hcB⟩ : ∃ c, wr.heap.size = c := ⟨_, rfl⟩
       rw [hcB] at F4
       obtain ⟨L4, hL4, F4⟩ := F4.name
       have HF4 := Hd F4
       have HL4 := Hd (hL4.trans (by rw [HL.out]))
       have HF5 := Hd (show Fr N w W4 L from (show ∀ W', Fr N w W' L4 → Fr N w W' L by rw [hL4]; intro W' h; exact h.skip) _ F4)
       simp only [hcB] at l0 ⊢
       clear g0 l0 f0
       clear hW4 F4 hL4 hcB ix
       obtain ⟨g0, l0, f0⟩ := HF4.out.c0 HL4.out
       obtain ⟨g1, l1, f1⟩ := HF4.out.c1 HL4.out
       dsimp only at g0 l0 f0 g1 l1 f1
       refine wp_region_still_tail 16 (by kernel_rfl) (by kernel_rfl) ?_
       simp only [List.take_succ_cons, List.take_zero, List.drop_succ_cons, List.drop_zero]
       iterate 14 ((with_reducible refine wpStill_step (fun K hK => ?_)); go_simp; refine hK _ ?_; clear hK K)
       with_reducible refine wpStill_step (fun K hK => ?_)
       go_simp
       refine ⟨_, when_eq true 5 _, hK _ ?_⟩
       clear hK K
       with_reducible refine wpStill_step (fun K hK => ?_)
       go_simp
       refine hK _ ?_
       clear hK K
       with_reducible refine wpStill_nil ?_
       change wpList _ _ _ _ _ W4.drew
       go_wp2_with fail
       refine (zla _ _ _ _ (by omega) _).mono ?_
       rintro e wq ⟨rfl, rfl⟩
       exact And.intro rfl (And.intro (by rw [HV3.out, metas_fail (by omega) HAl.out HQ.out]; rfl) HF5.out.drew.below)
     ·obtain rfl : k = 3 := by omega
      have HV4 := Hd (HV3.out.trans (metas_ok HAl.out))
      clear h3
      go_wp2_with fail
      go_returns
      exact ⟨by rw [HV4.out]; rfl, HF.out.below⟩
end Go.Proofs.YtakgiamhdpgoeaaGreat
