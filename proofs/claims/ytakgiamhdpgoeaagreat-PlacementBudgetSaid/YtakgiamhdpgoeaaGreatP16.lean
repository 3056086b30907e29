/- Lemmas. -/
import Derived.Test.YtakgiamhdpgoeaaGreatP9
import Derived.Test.YtakgiamhdpgoeaaGreatP15
set_option linter.unusedSimpArgs false
namespace Go.Proofs.YtakgiamhdpgoeaaGreat
open Go.RowKit
set_option linter.unusedVariables false
theorem kStr_key {s : ByteArray} (h : s.size ≤ maxLen) : keyOf Tryz.prog 9 (.string s) = some (kStr s) := WideMaps.keyOf_string_mk Tryz.underlying9 h
def stKeys (l : List StaD) (k : Nat) : List Lit := (l.take k).reverse.map (fun t => kStr t.name)
theorem take_names {l : List StaD} {k : Nat} {a : StaD} (h : l[k]? = some a) : stKeys l (k + 1) = kStr a.name :: stKeys l k := by
 unfold stKeys
 rw [List.take_add_one, h, List.reverse_append]
 rfl
theorem mem_names (s : ByteArray) (l : List StaD) (k : Nat) : (l.take k).any (fun t => sEq t.name s) = true ↔ kStr s ∈ stKeys l k := by
 unfold stKeys
 have h := mem_kStr s ((l.take k).map (·.name))
 rw [List.any_map, List.map_map] at h
 rw [List.map_reverse, List.mem_reverse]
 exact h
theorem staScan_at (d : PrgD) {k : Nat} {s : StaD} (h : d.sZ.l[k]? = some s) : zMf d k = if !ident s.name then some ((k : Int), -1, 6) else if (d.sZ.l.take k).any (fun t => sEq t.name s.name) then some ((k : Int), -1, 7)
  else if (zMb d k s).2 = 0 then none else some ((k : Int), (zMb d k s).1, (zMb d k s).2) := by
 unfold zMf
 rw [h]
theorem parCheck_some {d : PrgD} (h0 : d.sZ.l.length ≠ 0) (h12 : d.sZ.l.length ≤ 12) {k : Nat} {e : Int × Int × Int} (hk : k < d.sZ.l.length) (h : ∀ i, i < k → zMf d i = none) (he : zMf d k = some e) : zTa d = e := by
 unfold zTa
 rw [if_neg h0, if_neg (by omega), zua hk h he]
 rfl
theorem parCheck_none {d : PrgD} (h0 : d.sZ.l.length ≠ 0) (h12 : d.sZ.l.length ≤ 12) (h : ∀ i, i < d.sZ.l.length → zMf d i = none) : zTa d = (0, 0, 0) := by
 unfold zTa
 rw [if_neg h0, if_neg (by omega), znb h]
 rfl
set_option maxRecDepth 100000 in
set_option maxHeartbeats 2000000 in
theorem parCheck_any (d : PrgD) (w : World) (hR : PrgR w w.heap.size d) :
  Calls Tryz.prog 61 #[PrgD.v d] w fun e w' => e = .returned (.tuple #[.int .i64 (zTa d).1, .int .i64 (zTa d).2.1, .int .i64 (zTa d).2.2]) ∧ Below w.heap.size w w' := by
 obtain ⟨N, hN⟩ : ∃ N, w.heap.size = N := ⟨_, rfl⟩
 rw [hN] at hR ⊢
 have F0 := Fr.start w
 rw [hN] at F0
 have HR := Hd hR
 have HF0 := Hd F0
 have hsl := hR.sZ.len
 have hmm := @run_makeMap Tryz.prog
 clear hR F0
 unfold PrgD.v PrgD.vs
 by_cases c0 : d.sZ.l.length = 0
 ·have c0' : ((d.sZ.l.length : Int) == 0) = true := by simp [c0]
  have HV := Hd (show zTa d = (-1, -1, 8) by unfold zTa; rw [if_pos c0])
  clear c0
  go_enter Tryz.func61, Tryz.ntmps61
  go_wp2_with fail
  go_returns
  rw [← hN]
  exact ⟨by rw [HV.out]; try rfl, by (first | (refine zca ?_ _; go_grown; done) | (go_grown; done))⟩
 ·have c0' : ((d.sZ.l.length : Int) == 0) = false := neq_b (by omega)
  by_cases c1 : 12 < d.sZ.l.length
  ·have c1' : decide ((12 : Int) < d.sZ.l.length) = true := by simp; omega
   have HV := Hd (show zTa d = (-1, -1, 12) by unfold zTa; rw [if_neg c0, if_pos c1])
   clear c0 c1
   go_enter Tryz.func61, Tryz.ntmps61
   go_wp2_with fail
   go_returns
   rw [← hN]
   exact ⟨by rw [HV.out]; try rfl, by (first | (refine zca ?_ _; go_grown; done) | (go_grown; done))⟩
  ·have c1' : decide ((12 : Int) < d.sZ.l.length) = false := by simp; omega
   have HVs := Hd fun (k : Nat) (e : Int × Int × Int) => parCheck_some (d := d) c0 (by omega) (k := k) (e := e)
   have HVn := Hd (parCheck_none (d := d) c0 (by omega))
   have h12 : d.sZ.l.length ≤ 12 := by omega
   obtain ⟨b2, off2, x0, hA2, hx0⟩ := HR.out.sZ.at_ sta_len (by omega) (k := 0) (by omega)
   clear hx0 x0
   rw [hA2]
   clear c0 c1
   go_enter Tryz.func61, Tryz.ntmps61
   go_wp2_with fail
   clear hmm
   refine zfa ?_
   intro W1 hW1
   have F1 := ((HF0.out.alloc _ _).alloc_any _).of_eq hW1
   have S1 : Sett Tryz.prog W1 9 4 (N + 1) 0 [] := by
    rw [hW1]
    have h := Sett.made (P := Tryz.prog) (k := 9) (e := 4) (w.alloc (.cells #[.string d.name, .slice d.hZ.a d.hZ.l.length d.hZ.c, .slice d.mZ.a d.mZ.l.length d.mZ.c, .slice d.rZ.a d.rZ.l.length d.rZ.c, .slice d.aZ.a d.aZ.l.length d.aZ.c, .slice d.tZ.a d.tZ.l.length d.tZ.c, .slice (some ⟨b2, off2, none⟩) d.sZ.l.length d.sZ.c, .slice d.cZ.a d.cZ.l.length d.cZ.c, .slice d.dep.a d.dep.l.length d.dep.c] 31))
    simp only [World.size_alloc, hN] at h
    exact h
   simp only [hN] at F1
   obtain ⟨L, hL, F1⟩ := F1.name
   have HNe := Hd (show ∀ x ∈ L, x.1 ≠ N + 1 by rw [hL]; simp)
   have HL := Hd hL
   have HF1 := Hd F1
   have HS1 := Hd S1
   clear hW1 F1 hL S1
   go_loopw [24] (fun i wr => ∃ k : Nat, k ≤ d.sZ.l.length ∧ i = .int .i64 k ∧ (∀ j, j < k → zMf d j = none) ∧ Fr N w wr L ∧ Sett Tryz.prog wr 9 4 (N + 1) k (stKeys d.sZ.l k)) (fun i _ => d.sZ.l.length - (intOf i).toNat)
   case atStart => exact ⟨0, Nat.zero_le _, rfl, fun j hj => absurd hj (by omega), HF1.out, HS1.out⟩
   case round =>
    obtain ⟨k, hk, rfl, hall, F, S⟩ := hrel
    have HAl := Hd hall
    have HF := Hd F
    have HS := Hd S
    clear F hall S
    obtain ⟨g0, l0, f0⟩ := HF.out.c0 HL.out
    dsimp only at g0 l0 f0
    by_cases hlt : k < d.sZ.l.length
    ·obtain ⟨b3, off3, x, hA3, hb2, hx, hxok, hc2⟩ := HF.out.at_ HR.out.sZ sta_len (by omega) hlt
     obtain ⟨rfl, rfl⟩ := addr_inj (hA2.symm.trans hA3)
     have p0 := hc2 0 _ rfl
     have p1 := hc2 1 _ rfl
     have p2 := hc2 2 _ rfl
     have p3 := hc2 3 _ rfl
     have p4 := hc2 4 _ rfl
     have p5 := hc2 5 _ rfl
     have p6 := hc2 6 _ rfl
     simp only [Nat.add_zero] at p0
     have HSc := Hd (staScan_at d hx)
     have HTk := Hd (take_names hx)
     have HXn := Hd hxok.nm
     have HXx := Hd hx
     have hk1 : (k : Int) < d.sZ.l.length := by omega
     have hsz : N + 1 < wr.heap.size := HS.out.lt
     clear hc2 hx hxok hA3
     go_wp2_with fail
     refine Calls.named ?_
     intro W4 hW4
     have hb4 : Below wr.heap.size wr W4 := by rw [hW4]; exact (Below.refl _ _).alloc (Nat.le_refl _) _
     obtain ⟨cB, hcB⟩ : ∃ c, wr.heap.size = c := ⟨_, rfl⟩
     have F4 := (HF.out.alloc _ _).of_eq hW4
     rw [hcB] at F4
     obtain ⟨L4, hL4, F4⟩ := F4.name
     have HF4 := Hd F4
     have HL4 := Hd (hL4.trans (by rw [HL.out]))
     have HS4 := Hd (HS.out.below hb4)
     have HNe4 := Hd (show ∀ x ∈ L4, x.1 ≠ N + 1 by rw [hL4]; intro x hx; rcases List.mem_cons.1 hx with rfl | hx; (show cB ≠ N + 1; omega); exact HNe.out x hx)
     have HSub := Hd (show ∀ W', Fr N w W' L4 → Fr N w W' L by rw [hL4]; intro W' h; exact h.skip)
     simp only [hcB] at l0 hsz ⊢
     clear g0 l0 f0
     clear hW4 F4 hL4 hb4 p0 p1 p2 p3 p4 p5 p6 HF HS hcB
     obtain ⟨g0, l0, f0⟩ := HF4.out.c0 HL4.out
     obtain ⟨g1, l1, f1⟩ := HF4.out.c1 HL4.out
     dsimp only at g0 l0 f0 g1 l1 f1
     with_reducible refine (zGa x.name HXn.out W4).mono ?_
     rintro e w5 ⟨rfl, hw5⟩
     subst hw5
     obtain ⟨z, hz⟩ : ∃ z, ident x.name = z := ⟨_, rfl⟩
     have hv := HSc.out
     rw [hz] at hv ⊢
     have HSd := Hd hv
     clear hv hz HSc
     cases z with
     | false =>
      have HV2 := Hd (HVs.out k _ hlt HAl.out (HSd.out.trans (if_pos rfl)))
      go_wp2_with fail
      go_returns
      exact ⟨by rw [HV2.out]; try rfl, HF4.out.below⟩
     | true =>
      have HSe := Hd (HSd.out.trans (if_neg (by simp)))
      obtain ⟨q, hq⟩ : ∃ q, (d.sZ.l.take k).any (fun t => sEq t.name x.name) = q := ⟨_, rfl⟩
      have hlook := HS4.out.look (Maps.string_keyed Tryz.underlying9) (t := 173) Tryz.underlying173 Tryz.underlying4 (zeroBool _) (kStr_key HXn.out) (b := q) (by rw [← hq]; exact mem_names _ _ _)
      have hv := HSe.out
      rw [hq] at hv
      have HSf := Hd hv
      clear hv hq HSe HSd
      cases q with
      | true =>
       have HV2 := Hd (HVs.out k _ hlt HAl.out (HSf.out.trans rfl))
       go_wp2_with fail
       go_returns
       exact ⟨by rw [HV2.out]; try rfl, HF4.out.below⟩
      | false =>
       have HSg := Hd (HSf.out.trans (if_neg (by simp)))
       go_wp2_with (at_mapUpdate; refine zge _ rfl (.tmp 41) (.tmp 43) (.const (.bool true)) 173 rfl 9 4 (Maps.string_keyed Tryz.underlying9) Tryz.underlying173 Tryz.underlying4 (N + 1) k _ rfl HS4.out (by unfold maxLen; omega) _ (kStr x.name) rfl rfl (kStr_key HXn.out) trivial ?_; intro w5 S5 hg5; have HS5 := Hd S5; have HF5 := Hd (HF4.out.grown hg5 (by omega) HNe4.out); clear S5 hg5 hlook g0 l0 f0 g1 l1 f1; obtain ⟨g0, l0, f0⟩ := HF5.out.c0 HL4.out; obtain ⟨g1, l1, f1⟩ := HF5.out.c1 HL4.out; dsimp only at g0 l0 f0 g1 l1 f1)
       first | rw [← hA2] | skip
       with_reducible refine (checkState_any d k x w5 (HF5.out.prg HR.out) HXx.out).mono ?_
       rintro e w6 ⟨rfl, hb6⟩
       have HF6 := Hd (HSub.out _ (HF5.out.call hb6))
       have HS6 := Hd (HS5.out.below hb6)
       obtain ⟨⟨z1, z2⟩, hz⟩ : ∃ z, zMb d k x = z := ⟨_, rfl⟩
       have hv := HSg.out
       rw [hz] at hv ⊢
       have HV4 := Hd hv
       clear hb6 hz hv g0 l0 f0 g1 l1 f1 HSg
       dsimp only
       by_cases e0 : z2 = 0
       ·subst e0
        have HNn := Hd (HV4.out.trans (if_pos rfl))
        go_wp2_with fail
        refine ⟨⟨_, _, _, _, _, _, _, _, ⟨k + 1, by omega, by go_num, fun j hj => ?_, HF6.out, by rw [HTk.out]; exact HS6.out⟩, rfl, rfl, rfl, rfl, rfl, rfl, rfl, rfl⟩, by simp [intOf]; omega⟩
        rcases Nat.lt_succ_iff_lt_or_eq.1 hj with h | h
        ·exact HAl.out j h
        ·rw [h]; exact HNn.out
       ·have e0' : (z2 != 0) = true := by simp [e0]
        have HV2 := Hd (HVs.out k _ hlt HAl.out (HV4.out.trans (if_neg e0)))
        clear e0
        go_wp2_with fail
        go_returns
        exact ⟨by rw [HV2.out]; try rfl, HF6.out.below⟩
    ·obtain rfl : k = d.sZ.l.length := by omega
     have HV2 := Hd (HVn.out (fun i hi => HAl.out i hi))
     clear hlt
     go_wp2_with fail
     go_returns
     exact ⟨by rw [HV2.out]; try rfl, HF.out.below⟩
end Go.Proofs.YtakgiamhdpgoeaaGreat
