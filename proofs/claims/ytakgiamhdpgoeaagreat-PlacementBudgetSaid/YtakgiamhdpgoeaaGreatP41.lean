/- Lemmas. -/
import Derived.Test.YtakgiamhdpgoeaaGreatP40
import Derived.Test.YtakgiamhdpgoeaaGreatP39
set_option linter.unusedSimpArgs false
namespace Go.Proofs.YtakgiamhdpgoeaaGreat
open Go.RowKit
set_option linter.unusedVariables false
theorem zPc (d : PrgD) (a : Acc) : (zwa d a).length ≤ a.f.length + a.h.length + a.r.length := by
 unfold zwa
 refine Nat.le_trans (List.length_filter_le _ _) ?_
 rw [List.length_append, List.length_append, List.length_map, List.length_map, List.length_map]
 exact Nat.le_refl _
theorem zee {d : PrgD} {t : Int} {x : TblD} (h : tblOf d t = some x) : 0 ≤ t ∧ d.tZ.l[t.toNat]? = some x := by
 unfold tblOf at h
 by_cases h0 : t < 0
 ·rw [if_pos h0] at h; cases h
 ·rw [if_neg h0] at h; exact ⟨by omega, h⟩
theorem tblOf_none {d : PrgD} {t : Int} (h : tblOf d t = none) : t < 0 ∨ (d.tZ.l.length : Int) ≤ t := by
 unfold tblOf at h
 by_cases h0 : t < 0
 ·exact .inl h0
 ·rw [if_neg h0] at h; have := List.getElem?_eq_none_iff.1 h; omega
theorem tblOf_C {d : PrgD} (hC : PrgC d) {t : Int} {x : TblD} (h : tblOf d t = some x) : x.keys.l.length ≤ 6 ∧ x.aZ.l.length ≤ 16 := by
 obtain ⟨h0, h1⟩ := zee h
 have hl := (List.getElem?_eq_some_iff.1 h1).1
 have h2 := hC.tc t.toNat hl
 unfold zJa at h2
 rw [if_neg (by omega), Int.toNat_natCast, h1] at h2
 have := tblC_of h2
 omega
theorem zJd {α β : Type} (q : α → List β) {l : List α} {k : Nat} {x : α} (h : l[k]? = some x) : (l.take (k + 1)).flatMap q = (l.take k).flatMap q ++ q x := by
 rw [List.take_add_one, h, List.flatMap_append]; simp
abbrev tblCells (x : TblD) : Array Value := #[.string x.name, .slice x.keys.a x.keys.l.length x.keys.c, .slice x.aZ.a x.aZ.l.length x.aZ.c, .int .i64 x.dfl, .slice x.args.a x.args.l.length x.args.c, .int .i64 x.size]
set_option maxRecDepth 100000 in
set_option maxHeartbeats 8000000 in
theorem unitWrites_any (d : PrgD) (u : UnitD) (w : World) (hR : PrgR w w.heap.size d) (hPB : PrgB d) (hPC : PrgC d) :
  Calls Tryz.prog 69 #[PrgD.v d, unitV u] w fun e w' => (∃ A c l, e = .returned (.slice A l.length c) ∧ zga l (zKa d u.m) ∧ l.length ≤ 100000 ∧ OwnZ w' w.heap.size A c l) ∧ Below w.heap.size w w' := by
 obtain ⟨N, hN⟩ : ∃ N, w.heap.size = N := ⟨_, rfl⟩
 rw [hN] at hR ⊢
 have F0 := Fr.start w
 rw [hN] at F0
 have HF0 := Hd F0
 have HR := Hd hR
 have HPb := Hd hPB
 have HPc := Hd hPC
 clear hR F0 hPB hPC
 unfold PrgD.v PrgD.vs unitV
 go_enter Tryz.func69, Tryz.ntmps69
 go_wp2_with fail
 refine Calls.named ?_
 intro W hW
 have F1 := ((HF0.out.alloc _ _).alloc _ _).of_eq hW
 simp only [World.size_alloc, hN] at F1 ⊢
 have HF1 := Hd F1
 clear F1 hW
 cases ht : tblOf d u.table with
 | none =>
  have HV := Hd (show zKa d u.m = [] by unfold zKa UnitD.m; simp only [ht])
  have hcon := zeg d u W (HF1.out.prg HR.out) (tblOf_none ht)
  unfold PrgD.v PrgD.vs unitV at hcon
  with_reducible refine hcon.mono ?_
  clear hcon
  rintro e w1 ⟨rfl, hb1⟩
  have HF2 := Hd (HF1.out.call hb1)
  clear hb1 ht
  go_wp2_with fail
  go_returns
  exact ⟨⟨none, 0, [], rfl, by rw [HV.out]; exact zga.refl _, by simp, Own.none_ _ _ _ _⟩, (HF2.out.alloc_any _).below⟩
 | some x =>
  have HV := Hd (show zKa d u.m = x.aZ.l.flatMap fun a => zwa d (zuc d a) by unfold zKa UnitD.m; simp only [ht])
  obtain ⟨hk6, ha16⟩ := tblOf_C HPc.out ht
  obtain ⟨ht0, ht1⟩ := zee ht
  have HX := Hd (HR.out.tZ.ok x (List.mem_of_getElem? ht1))
  have hcon := zof d u x W (HF1.out.prg HR.out) ht0 ht1
  unfold PrgD.v PrgD.vs unitV at hcon
  with_reducible refine hcon.mono ?_
  clear hcon
  rintro e w1 ⟨rfl, hb1⟩
  have HF2 := Hd (HF1.out.call hb1)
  clear hb1 ht ht0 ht1 HF1
  go_upto_region 4 with (fail)
  refine zfa ?_
  intro W3 hW3
  obtain ⟨M, hM⟩ : ∃ M, w1.heap.size = M := ⟨_, rfl⟩
  have F3 := (HF2.out.alloc _ _).of_eq hW3
  have hz3 : W3.heap.size = M + 1 := by rw [hW3, World.size_alloc, hM]
  have hNM := HF2.out.le
  simp only [hM] at F3 hNM ⊢
  obtain ⟨L, hL, F3⟩ := F3.name
  have HL := Hd hL
  have HF3 := Hd F3
  clear F3 hL hW3 hM HF2
  obtain ⟨g0, l0, f0⟩ := HF3.out.c0 HL.out
  obtain ⟨g1, l1, f1⟩ := HF3.out.c1 HL.out
  obtain ⟨g2, l2, f2⟩ := HF3.out.c2 HL.out
  dsimp only at g0 l0 f0 g1 l1 f1 g2 l2 f2
  go_upto_region 5 with (fail)
  refine zfa ?_
  intro W4 hW4
  have F4 := (HF3.out.alloc _ _).of_eq hW4
  simp only [hz3] at F4 ⊢
  clear g0 l0 f0 g1 l1 f1 g2 l2 f2
  have hA := ColB.mk (N := N) (g := M + 1) (d := d) (cs := ⟨none, 0, []⟩) (by omega) (F4.blk _ (.head _)).2 (Own.none_ _ _ _ _) (HR.out.below F4.below)
  have hz4 : W4.heap.size = M + 2 := by rw [hW4, World.size_alloc, hz3]
  have hq2 : W4.cell? ⟨M, 2, none⟩ = some (.slice x.aZ.a x.aZ.l.length x.aZ.c) := F4.cell (g := M) (by rw [HL.out]; exact .tail _ (.head _)) 2
  have HPB := Hd (fun i => (F4.cell (g := N) (by rw [HL.out]; exact .tail _ (.tail _ (.tail _ (.head _)))) i))
  have HA4 := Hd (HX.out.aZ.below F4.below)
  have HB4 := Hd F4.below
  have HT0 := Hd (ColTo.refl hA)
  obtain ⟨g, hg⟩ : ∃ z, M + 1 = z := ⟨_, rfl⟩
  have hMg : M < g := by omega
  have hMw : M < W4.heap.size := by omega
  have hNg : N ≤ g := by omega
  have hgw : g < W4.heap.size := by omega
  rw [hg] at HT0 ⊢
  obtain ⟨xa, hxa⟩ : ∃ z, x.aZ = z := ⟨_, rfl⟩
  rw [hxa] at hq2 HA4 HV ha16
  obtain ⟨sa, sc, sl⟩ := xa
  simp only at hq2 HA4 HV ha16
  clear F4 hA hW4 hz3 hz4 hg hxa HF3 HL
  go_wp2_with fail
  have hc0 : (⟨none, 0, []⟩ : SL Int).l.length ≤ 10000 := by simp
  go_loopw [24] (fun i wr => ∃ (k : Nat) (cs : SL Int) (L : List Int), k ≤ sl.length ∧ i = .int .i64 k ∧ ColTo N g d ⟨none, 0, []⟩ cs L W4 wr ∧ zga L ((sl.take k).flatMap fun a => zwa d (zuc d a)) ∧ L.length ≤ 3000 * k) (fun i _ => sl.length - (intOf i).toNat)
  case atStart => exact ⟨0, ⟨none, 0, []⟩, [], Nat.zero_le _, rfl, HT0.out, zga.refl _, Nat.zero_le _⟩
  case round =>
   obtain ⟨k, cs, L, hk, rfl, hT, hS, hL⟩ := hrel
   have HT := Hd hT
   have HS := Hd hS
   have hcl := congrArg List.length hT.l
   rw [List.length_append] at hcl
   have hbw : Below g W4 wr := hT.kept.below (fun k hk => (HT0.out.b.foot hk).1) (by omega)
   have HBw := Hd hbw
   have hgr : g < wr.heap.size := hT.b.box.lt
   clear hT hS hbw
   by_cases hlt : k < sl.length
   ·obtain ⟨b2, off2, a, hA2, hb2, ha, _, hc2⟩ := (HA4.out.below (HBw.out.mono hNg)).at_ zna (by omega) hlt
    have p0 := hc2 0 _ rfl
    simp only [Nat.add_zero, Nat.mul_one] at p0
    simp only at hA2
    have HX := Hd (zJd (fun a => zwa d (zuc d a)) ha)
    have hk1 : (k : Int) < sl.length := by omega
    have v0 : ∀ i, wr.cell? ⟨N, i, none⟩ = _ := fun i => (HBw.out.cell (p := ⟨N, i, none⟩) (by show N < g; omega)).trans (HPB.out i)
    subst hA2
    clear hc2 ha
    go_wp2_with fail
    have hcon := writes_any d a wr (HT.out.b.prg.more (by omega)) HPc.out
    unfold PrgD.v PrgD.vs at hcon
    with_reducible refine hcon.mono ?_
    clear hcon
    rintro e w5 ⟨⟨f, h, r, rfl, hacc, hf1, hh1, hr1, of1, oh1, or1⟩, hb5⟩
    have HT5 := Hd (HT.out.step hb5)
    have hcon := add_any N g d cs f h r w5 HT5.out.b HPb.out (SLP.of_own of1 rfl fun k hk he => by have h1 := (HT.out.b.foot hk).2; have h2 := (Own.lt of1 k he).1; omega) (SLP.of_own oh1 rfl fun k hk he => by have h1 := (HT.out.b.foot hk).2; have h2 := (Own.lt oh1 k he).1; omega) (SLP.of_own or1 rfl fun k hk he => by have h1 := (HT.out.b.foot hk).2; have h2 := (Own.lt or1 k he).1; omega) (by omega) (by omega) (by omega) (by omega)
    have HCon := Hd hcon
    have HAc := Hd hacc
    clear v0 p0 hb5 hacc of1 oh1 or1 hcon
    go_wp2_with fail
    with_reducible refine HCon.out.mono ?_
    rintro e w6 ⟨rfl, cs2, hc6⟩
    have HT6 := Hd (HT5.out.trans hc6)
    have HS6 := Hd (show zga (L ++ zwa d ⟨f.l, h.l, r.l⟩) ((sl.take (k + 1)).flatMap fun a => zwa d (zuc d a)) by
     rw [HX.out]; exact HS.out.app (zid HAc.out.1 HAc.out.2.1 HAc.out.2.2))
    have hl6 : (L ++ zwa d ⟨f.l, h.l, r.l⟩).length ≤ 3000 * (k + 1) := by
     have h1 := zPc d ⟨f.l, h.l, r.l⟩
     simp only at h1
     rw [List.length_append]; omega
    clear hc6
    go_wp2_with fail
    go_roundw
    case rel => exact ⟨k + 1, cs2, _, by omega, by go_num, HT6.out, HS6.out, hl6⟩
    case measure => simp [intOf]; omega
   ·obtain rfl : k = sl.length := by omega
    have hll : cs.l.length ≤ 100000 := by omega
    clear hlt
    go_wp2_with fail
    with_reducible refine (zmd N g d cs wr HT.out.b (by omega)).mono ?_
    rintro e w9 ⟨⟨A, c, l, rfl, hs9, hl9, ho9⟩, hk9⟩
    have HB9 := Hd (show Below N w w9 from (HB4.out.trans (HBw.out.mono hNg)).trans (hk9.below (fun k hk => by have := (HT.out.b.foot hk).1; omega) (by omega)))
    have HO9 := Hd (Own.rebase (base' := N) ho9 (by omega))
    have hSl := HS.out
    rw [List.take_length] at hSl
    have hcsl := HT.out.l
    have HS9 := Hd hs9
    have HSl := Hd hSl
    have HCl := Hd hcsl
    clear hs9 hk9 ho9 hSl hcsl
    go_wp2_with fail
    go_returns
    exact ⟨⟨A, c, l, rfl, by (rw [HV.out]; refine HS9.out.trans ?_; rw [HCl.out]; exact HSl.out), by omega, HO9.out⟩, HB9.out⟩
end Go.Proofs.YtakgiamhdpgoeaaGreat
