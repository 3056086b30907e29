/- Lemmas. -/
import Derived.Test.YtakgiamhdpgoeaaGreatP41
set_option linter.unusedSimpArgs false
namespace Go.Proofs.YtakgiamhdpgoeaaGreat
open Go.RowKit
set_option linter.unusedVariables false
theorem getD_z {o : Option Int} (hn : ∀ e, o = some e → e ≠ 0) (h : o.getD 0 = 0) : o = none := by
 cases o with
 | none => rfl
 | some e => exact absurd h (hn e rfl)
theorem zte {d : PrgD} (hC : PrgC d) : WidthsOk d := fun x hx => by
 obtain ⟨i, hi, rfl⟩ := List.mem_iff_getElem.1 hx
 have h1 := hC.ac i hi
 rw [zcg (List.getElem?_eq_getElem hi)] at h1
 refine ⟨by have := (actC_of h1).1; omega, fun f hf => ?_⟩
 have h2 : znc d.aZ.l[i] = 0 := by
  unfold zgb at h1
  split at h1
  ·rename_i h3; exact absurd h1 h3
  ·omega
 have h3 : (scan d.aZ.l[i].params.l.length (zIa d.aZ.l[i].params.l)).getD 0 = 0 := by
  unfold znc at h2
  split at h2
  ·cases h2
  ·split at h2
   ·cases h2
   ·exact h2
 have h4 := getD_z (fun e he => by
   unfold scan at he
   obtain ⟨i, _, hi⟩ := List.exists_of_findSome?_eq_some he
   unfold zIa at hi
   split at hi
   ·cases hi
   ·split at hi
    ·injection hi with hi; omega
    ·split at hi
     ·injection hi with hi; omega
     ·split at hi
      ·injection hi with hi; omega
      ·cases hi) h3
 obtain ⟨j, hj, rfl⟩ := List.mem_iff_getElem.1 hf
 have h5 := zLf h4 j hj
 unfold zIa at h5
 rw [List.getElem?_eq_getElem hj] at h5
 simp only at h5
 split at h5
 ·cases h5
 ·split at h5
  ·cases h5
  ·rename_i hb
   unfold badW at hb
   simp only [Bool.or_eq_true, decide_eq_true_eq, not_or] at hb
   omega
theorem tblBits_bd {d : PrgD} (hC : PrgC d) {i : Int} {x : TblD} (h : tblOf d i = some x) : 0 ≤ zce d i ∧ zce d i ≤ 6000 := by
 have h1 := tblOf_C hC h
 unfold zce zNb
 split
 ·unfold tblOf at h
  rw [h]
  have := isum_bdK (K := 1000) (x.keys.l.map fun k => zQa d k.h k.f) (fun y hy => by obtain ⟨k, _, rfl⟩ := List.mem_map.1 hy; have := zvd d k.h k.f; omega)
  rw [List.length_map] at this
  show 0 ≤ isum (x.keys.l.map fun k => zQa d k.h k.f) ∧ isum (x.keys.l.map fun k => zQa d k.h k.f) ≤ 6000
  omega
 ·simp [isum]
theorem tblOf_size {d : PrgD} (hC : PrgC d) {t : Int} {x : TblD} (h : tblOf d t = some x) : 1 ≤ x.size ∧ x.size ≤ 256 := by
 obtain ⟨h0, h1⟩ := zee h
 have hl := (List.getElem?_eq_some_iff.1 h1).1
 have h2 := hC.tc t.toNat hl
 unfold zJa at h2
 rw [if_neg (by omega), Int.toNat_natCast, h1] at h2
 have := tblC_of h2
 omega
abbrev resV (c : Int × Int) : Value := .agg #[.int .i64 c.1, .int .i64 c.2]
theorem diagFieldOf (a b c e : Value) (w : World) : (Instr.field 54 (.agg #[a, b, c, e]) 0).run Tryz.prog w = .ok a w := by kernel_rfl
set_option maxRecDepth 100000 in
set_option maxHeartbeats 8000000 in
theorem tblCost_any (d : PrgD) (i : Int) (w : World) (hR : PrgR w w.heap.size d) (h0 : (zUa d).1 = 0) (hz : zra d = zUa d) :
  Calls Tryz.prog 73 #[PrgD.v d, .int .i64 i] w fun e w' => e = .returned (resV (zPb d i)) ∧ Below w.heap.size w w' := by
 have hC := prgC_of h0
 have hB := prgB_of hC
 have c1 := hC.h
 have c2 := hC.m
 have c3 := hC.r
 have c4 := hC.a
 have c5 := hC.t
 obtain ⟨N, hN⟩ : ∃ N, w.heap.size = N := ⟨_, rfl⟩
 rw [hN] at hR ⊢
 have F0 := Fr.start w
 rw [hN] at F0
 have HF0 := Hd F0
 have HR := Hd hR
 have HC := Hd hC
 have HB := Hd hB
 have H0 := Hd h0
 have HZ := Hd hz
 clear hR F0 hC hB h0 hz
 obtain ⟨A0, hA0⟩ : ∃ z, d.tZ.a = z := ⟨_, rfl⟩
 have HA0 := Hd hA0
 unfold PrgD.v PrgD.vs
 rw [hA0]
 clear hA0
 go_enter Tryz.func73, Tryz.ntmps73
 go_wp2_with fail
 refine Calls.named ?_
 intro W hW
 have F1 := ((HF0.out.alloc _ _).alloc _ _).of_eq hW
 simp only [World.size_alloc, hN] at F1 ⊢
 obtain ⟨L, hL, F1⟩ := F1.name
 have HL := Hd hL
 have HF1 := Hd F1
 clear F1 hW hL
 have hcon := zOd d W (HF1.out.prg HR.out) (by omega) (by omega) (by omega) (by omega) (by omega)
 rw [HZ.out] at hcon
 obtain ⟨g, hg⟩ : ∃ z, zUa d = z := ⟨_, rfl⟩
 rw [hg] at hcon
 have hg0 : g.1 = 0 := by rw [← hg]; exact H0.out
 obtain ⟨g1, g2, g3, g4⟩ := g
 simp only at hg0
 subst hg0
 unfold PrgD.v PrgD.vs diagV at hcon
 rw [HA0.out] at hcon
 with_reducible refine hcon.mono ?_
 clear hcon hg
 rintro e w1 ⟨rfl, hb1⟩
 have HF2 := Hd (HF1.out.call hb1)
 clear hb1
 obtain ⟨g0, l0, f0⟩ := HF2.out.c0 HL.out
 obtain ⟨g1, l1, f1⟩ := HF2.out.c1 HL.out
 dsimp only at g0 l0 f0 g1 l1 f1
 have hfd := diagFieldOf
 by_cases h1 : i < 0
 ·have HV := Hd (show zPb d i = (0, 0) by unfold zPb tblOf; rw [if_pos H0.out, if_pos h1])
  go_wp2_with fail
  have B0 : Blk w1 (N + 1) _ _ := (HF2.out.blk (N + 1, _, _) (by rw [HL.out]; exact .head _)).2
  have B1 := B0.set_ 0 (Value.int IntKind.i64 (0))
  have B2 := B1.set_ 1 (Value.int IntKind.i64 (0))
  have q1 := B1.cell 0
  have q2 := B2.cell 1
  refine bodyPost_ret (v := resV (0, 0)) (by simp [results, Tryz.results73, go_sem, q1, q2]) rfl ⟨by rw [HV.out], ?_⟩
  have hle : N ≤ N + 1 := by omega
  exact (HF2.out.below.setCell hle _).setCell hle _
 ·have h1' : decide (i < 0) = false := decide_eq_false h1
  by_cases h2 : (d.tZ.l.length : Int) ≤ i
  ·have HV := Hd (show zPb d i = (0, 0) by unfold zPb tblOf; rw [if_pos H0.out, if_neg h1, List.getElem?_eq_none (by omega)])
   have h2' : decide ((d.tZ.l.length : Int) ≤ i) = true := decide_eq_true h2
   go_wp2_with fail
   have B0 : Blk w1 (N + 1) _ _ := (HF2.out.blk (N + 1, _, _) (by rw [HL.out]; exact .head _)).2
   have B1 := B0.set_ 0 (Value.int IntKind.i64 (0))
   have B2 := B1.set_ 1 (Value.int IntKind.i64 (0))
   have q1 := B1.cell 0
   have q2 := B2.cell 1
   refine bodyPost_ret (v := resV (0, 0)) (by simp [results, Tryz.results73, go_sem, q1, q2]) rfl ⟨by rw [HV.out], ?_⟩
   have hle : N ≤ N + 1 := by omega
   exact (HF2.out.below.setCell hle _).setCell hle _
  ·have h2' : decide ((d.tZ.l.length : Int) ≤ i) = false := decide_eq_false h2
   obtain ⟨k, rfl⟩ : ∃ k : Nat, i = k := ⟨i.toNat, by omega⟩
   have hk : k < d.tZ.l.length := by omega
   have hk1 : (k : Int) < d.tZ.l.length := by omega
   obtain ⟨b2, off2, x, hA2, hb2, hx, hxok, hc2⟩ := HF2.out.at_ HR.out.tZ (fun _ => rfl) (by omega) hk
   have htb : tblOf d k = some x := by unfold tblOf; rw [if_neg (by omega), Int.toNat_natCast]; exact hx
   have HTb := Hd htb
   obtain ⟨hk6, ha16⟩ := tblOf_C HC.out htb
   obtain ⟨hsz0, hsz1⟩ := tblOf_size HC.out htb
   obtain ⟨hbb0, hbb1⟩ := tblBits_bd HC.out htb
   obtain ⟨hab0, hab1⟩ := zaf (zte HC.out) x.aZ.l 0 (by omega)
   rw [← zZe d x] at hab0 hab1
   have p0 := hc2 0 _ rfl
   have p1 := hc2 1 _ rfl
   have p2 := hc2 2 _ rfl
   have p3 := hc2 3 _ rfl
   have p4 := hc2 4 _ rfl
   have p5 := hc2 5 _ rfl
   simp only [Nat.add_zero] at p0
   rw [HA0.out] at hA2
   subst hA2
   have HXo := Hd hxok
   clear hc2 hx hxok htb
   by_cases h3 : x.keys.l.length = 0
   ·have HV := Hd (show zPb d k = (0, 0) by unfold zPb; rw [if_pos H0.out, HTb.out]; simp only; rw [if_pos h3])
    have h3' : ((x.keys.l.length : Int) == 0) = true := by rw [h3]; rfl
    go_wp2_with fail
    have B0 : Blk w1 (N + 1) _ _ := (HF2.out.blk (N + 1, _, _) (by rw [HL.out]; exact .head _)).2
    have B1 := B0.set_ 0 (Value.int IntKind.i64 (0))
    have B2 := B1.set_ 1 (Value.int IntKind.i64 (0))
    have q1 := B1.cell 0
    have q2 := B2.cell 1
    refine bodyPost_ret (v := resV (0, 0)) (by simp [results, Tryz.results73, go_sem, q1, q2]) rfl ⟨by rw [HV.out], ?_⟩
    have hle : N ≤ N + 1 := by omega
    exact (HF2.out.below.setCell hle _).setCell hle _
   ·have h3' : ((x.keys.l.length : Int) == 0) = false := by simp [h3]
    go_upto_region 3 with (fail)
    obtain ⟨M, hM⟩ : ∃ z, w1.heap.size = z := ⟨_, rfl⟩
    obtain ⟨tb, htb⟩ : ∃ z, zce d k = z := ⟨_, rfl⟩
    obtain ⟨ab, hab⟩ : ∃ z, zYe d x = z := ⟨_, rfl⟩
    have HTB := Hd htb
    have HAB := Hd hab
    rw [htb] at hbb0 hbb1
    rw [hab] at hab0 hab1
    have HP := Hd (show ∀ u, Below M w1 u → PrgR u u.heap.size d from fun u hb => ((HF2.out.prg HR.out).below (hb.mono (by omega))).more (by have := hb.size; omega))
    have HSa := Hd (show ∀ u, Below M w1 u → SLR u u.heap.size 1 intE I64 x.aZ from fun u hb => ((HF2.out.slr HXo.out.aZ).below (hb.mono (by omega))).more (by have := hb.size; omega))
    have hbM : b2 < M := by omega
    have hNM : N < M := by omega
    have h8 : 8 + ab ≤ 9223372036854775807 := by omega
    have h80 : 0 ≤ 8 + ab := by omega
    have hwr : IntKind.i64.wrap (8 + ab) = 8 + ab := wr_id (by omega) (by omega)
    clear htb hab
    have hstab : zba ([leq (.pointer (some ⟨N, 5, none⟩)), leq (.slice (some ⟨b2, off2, none⟩) d.tZ.l.length d.tZ.c), leq (.int .i64 k), leq (.pointer (some ⟨b2, off2 + k * 6, none⟩)), leq (.pointer (some ⟨b2, off2 + k * 6 + 5, none⟩)), leq (.int .i64 x.size), leq (.agg #[.string d.name, .slice d.hZ.a d.hZ.l.length d.hZ.c, .slice d.mZ.a d.mZ.l.length d.mZ.c, .slice d.rZ.a d.rZ.l.length d.rZ.c, .slice d.aZ.a d.aZ.l.length d.aZ.c, .slice (some ⟨b2, off2, none⟩) d.tZ.l.length d.tZ.c, .slice d.sZ.a d.sZ.l.length d.sZ.c, .slice d.cZ.a d.cZ.l.length d.cZ.c, .slice d.dep.a d.dep.l.length d.dep.c]), leq (.int .i64 k), leq (.int .i64 tb), leq (.agg #[.string d.name, .slice d.hZ.a d.hZ.l.length d.hZ.c, .slice d.mZ.a d.mZ.l.length d.mZ.c, .slice d.rZ.a d.rZ.l.length d.rZ.c, .slice d.aZ.a d.aZ.l.length d.aZ.c, .slice (some ⟨b2, off2, none⟩) d.tZ.l.length d.tZ.c, .slice d.sZ.a d.sZ.l.length d.sZ.c, .slice d.cZ.a d.cZ.l.length d.cZ.c, .slice d.dep.a d.dep.l.length d.dep.c]), leq (.pointer (some ⟨N, 5, none⟩)), leq (.slice (some ⟨b2, off2, none⟩) d.tZ.l.length d.tZ.c), leq (.int .i64 k), leq (.pointer (some ⟨b2, off2 + k * 6, none⟩)), leq (tblV x), leq (.int .i64 ab), leq (.int .i64 (8 + ab)), leq (.int .i64 x.size), leq (.int .i64 tb), leq (.int .i64 (8 + ab))]) := zba.cons_ (zea _) (zba.cons_ (zea _) (zba.cons_ (zea _) (zba.cons_ (zea _) (zba.cons_ (zea _) (zba.cons_ (zea _) (zba.cons_ (zea _) (zba.cons_ (zea _) (zba.cons_ (zea _) (zba.cons_ (zea _) (zba.cons_ (zea _) (zba.cons_ (zea _) (zba.cons_ (zea _) (zba.cons_ (zea _) (zba.cons_ (zea _) (zba.cons_ (zea _) (zba.cons_ (zea _) (zba.cons_ (zea _) (zba.cons_ (zea _) (zba.cons_ (zea _) (zba.nil_))))))))))))))))))))
    have Hq9 := Hd (show ∀ i j, List.contains (Chain.effs ⟨[], [(0, 0), (0, 0), (0, 0), (0, 0), (0, 0), (0, 0), (0, 0), (0, 0), (0, 0), (0, 0), (0, 0), (0, 0), (0, 0), (0, 0), (0, 0), (0, 0), (0, 0), (0, 0), (0, 0), (0, 0)]⟩) i = false → Chain.next ⟨[], [(0, 0), (0, 0), (0, 0), (0, 0), (0, 0), (0, 0), (0, 0), (0, 0), (0, 0), (0, 0), (0, 0), (0, 0), (0, 0), (0, 0), (0, 0), (0, 0), (0, 0), (0, 0), (0, 0), (0, 0)]⟩ i j = j from fun i j h => zya h)
    refine zja ⟨[], [(0, 0), (0, 0), (0, 0), (0, 0), (0, 0), (0, 0), (0, 0), (0, 0), (0, 0), (0, 0), (0, 0), (0, 0), (0, 0), (0, 0), (0, 0), (0, 0), (0, 0), (0, 0), (0, 0), (0, 0)]⟩ (fun (_ : Nat) u => Below M w1 u) ([leq (.pointer (some ⟨N, 5, none⟩)), leq (.slice (some ⟨b2, off2, none⟩) d.tZ.l.length d.tZ.c), leq (.int .i64 k), leq (.pointer (some ⟨b2, off2 + k * 6, none⟩)), leq (.pointer (some ⟨b2, off2 + k * 6 + 5, none⟩)), leq (.int .i64 x.size), leq (.agg #[.string d.name, .slice d.hZ.a d.hZ.l.length d.hZ.c, .slice d.mZ.a d.mZ.l.length d.mZ.c, .slice d.rZ.a d.rZ.l.length d.rZ.c, .slice d.aZ.a d.aZ.l.length d.aZ.c, .slice (some ⟨b2, off2, none⟩) d.tZ.l.length d.tZ.c, .slice d.sZ.a d.sZ.l.length d.sZ.c, .slice d.cZ.a d.cZ.l.length d.cZ.c, .slice d.dep.a d.dep.l.length d.dep.c]), leq (.int .i64 k), leq (.int .i64 tb), leq (.agg #[.string d.name, .slice d.hZ.a d.hZ.l.length d.hZ.c, .slice d.mZ.a d.mZ.l.length d.mZ.c, .slice d.rZ.a d.rZ.l.length d.rZ.c, .slice d.aZ.a d.aZ.l.length d.aZ.c, .slice (some ⟨b2, off2, none⟩) d.tZ.l.length d.tZ.c, .slice d.sZ.a d.sZ.l.length d.sZ.c, .slice d.cZ.a d.cZ.l.length d.cZ.c, .slice d.dep.a d.dep.l.length d.dep.c]), leq (.pointer (some ⟨N, 5, none⟩)), leq (.slice (some ⟨b2, off2, none⟩) d.tZ.l.length d.tZ.c), leq (.int .i64 k), leq (.pointer (some ⟨b2, off2 + k * 6, none⟩)), leq (tblV x), leq (.int .i64 ab), leq (.int .i64 (8 + ab)), leq (.int .i64 x.size), leq (.int .i64 tb), leq (.int .i64 (8 + ab))]) (by kernel_rfl) (by kernel_rfl) (by kernel_rfl) (by kernel_rfl) ?_ ?_ ?_
    ·exact (by rw [← hM]; exact (Below.refl _ _).drew)
    ·show zQb _ _ _ _ _ _ 0 _
     refine ⟨?_, ?_, ?_, ?_, ?_, ?_, ?_, ?_, ?_, ?_, ?_, ?_, ?_, ?_, ?_, ?_, ?_, ?_, ?_, ?_, trivial⟩
     ·intro j hj ρ y u hS hc hf hg hfree hdep
      obtain rfl := jz hj rfl
      rw [Hq9.out _ 0 rfl]
      have e2 : ρ (.tmp 2) = .pointer (some ⟨N, 0, none⟩) := hfree 2 rfl
      refine ⟨fun _ => ?_, zaa rfl⟩
      clear hdep hfree hj
      go_simp
      exact ⟨rfl, hS, KL hstab⟩
     ·intro j hj ρ y u hS hc hf hg hfree hdep
      obtain rfl := jz hj rfl
      rw [Hq9.out _ 0 rfl]
      have e34 : ρ (.tmp 34) = _ := (hdep 0 _ 34 rfl rfl rfl).1
      refine ⟨fun _ => ?_, zaa rfl⟩
      clear hdep hfree hj
      have d0 : u.cell? ⟨N, 5, none⟩ = some _ := (hS.cell (p := ⟨N, 5, none⟩) hNM).trans (g1 5)
      go_simp
      exact ⟨rfl, hS, KL hstab⟩
     ·intro j hj ρ y u hS hc hf hg hfree hdep
      obtain rfl := jz hj rfl
      rw [Hq9.out _ 0 rfl]
      have e1 : ρ (.tmp 1) = .int .i64 k := hfree 1 rfl
      refine ⟨fun _ => ?_, zaa rfl⟩
      clear hdep hfree hj
      go_simp
      exact ⟨rfl, hS, KL hstab⟩
     ·intro j hj ρ y u hS hc hf hg hfree hdep
      obtain rfl := jz hj rfl
      rw [Hq9.out _ 0 rfl]
      have e35 : ρ (.tmp 35) = _ := (hdep 1 _ 35 rfl rfl rfl).1
      have e36 : ρ (.tmp 36) = _ := (hdep 2 _ 36 rfl rfl rfl).1
      refine ⟨fun _ => ?_, zaa rfl⟩
      clear hdep hfree hj
      go_simp
      exact ⟨rfl, hS, KL hstab⟩
     ·intro j hj ρ y u hS hc hf hg hfree hdep
      obtain rfl := jz hj rfl
      rw [Hq9.out _ 0 rfl]
      have e37 : ρ (.tmp 37) = _ := (hdep 3 _ 37 rfl rfl rfl).1
      refine ⟨fun _ => ?_, zaa rfl⟩
      clear hdep hfree hj
      go_simp
      exact ⟨rfl, hS, KL hstab⟩
     ·intro j hj ρ y u hS hc hf hg hfree hdep
      obtain rfl := jz hj rfl
      rw [Hq9.out _ 0 rfl]
      have e38 : ρ (.tmp 38) = _ := (hdep 4 _ 38 rfl rfl rfl).1
      refine ⟨fun _ => ?_, zaa rfl⟩
      clear hdep hfree hj
      have d5 : u.cell? ⟨b2, off2 + k * 6 + 5, none⟩ = some _ := (hS.cell (p := ⟨b2, off2 + k * 6 + 5, none⟩) hbM).trans p5
      go_simp
      exact ⟨rfl, hS, KL hstab⟩
     ·intro j hj ρ y u hS hc hf hg hfree hdep
      obtain rfl := jz hj rfl
      rw [Hq9.out _ 0 rfl]
      have e2 : ρ (.tmp 2) = .pointer (some ⟨N, 0, none⟩) := hfree 2 rfl
      refine ⟨fun _ => ?_, zaa rfl⟩
      clear hdep hfree hj
      have d0 : ∀ i, u.cell? ⟨N, i, none⟩ = _ := fun i => (hS.cell (p := ⟨N, i, none⟩) hNM).trans (g1 i)
      go_simp
      exact ⟨rfl, hS, KL hstab⟩
     ·intro j hj ρ y u hS hc hf hg hfree hdep
      obtain rfl := jz hj rfl
      rw [Hq9.out _ 0 rfl]
      have e1 : ρ (.tmp 1) = .int .i64 k := hfree 1 rfl
      refine ⟨fun _ => ?_, zaa rfl⟩
      clear hdep hfree hj
      go_simp
      exact ⟨rfl, hS, KL hstab⟩
     ·intro j hj ρ y u hS hc hf hg hfree hdep
      obtain rfl := jz hj rfl
      rw [Hq9.out _ 0 rfl]
      have e40 : ρ (.tmp 40) = _ := (hdep 6 _ 40 rfl rfl rfl).1
      have e41 : ρ (.tmp 41) = _ := (hdep 7 _ 41 rfl rfl rfl).1
      refine ⟨fun _ => ?_, zaa rfl⟩
      clear hdep hfree hj
      have hS0 : Below M w1 u := hS
      have hMu : M ≤ u.heap.size := by have := hS0.size; omega
      have hcon := tblBits_any d k u (HP.out u hS0) (fun t ht => (HB.out.tk t ht).1)
      rw [HTB.out] at hcon
      unfold PrgD.v PrgD.vs at hcon
      rw [HA0.out] at hcon
      go_simp
      refine zha hcon ?_
      rintro e w' ⟨rfl, hb'⟩
      exact ⟨_, rfl, rfl, hS0.trans (hb'.mono hMu), KeepL.below hb' _ _ 0 hstab⟩
     ·intro j hj ρ y u hS hc hf hg hfree hdep
      obtain rfl := jz hj rfl
      rw [Hq9.out _ 0 rfl]
      have e2 : ρ (.tmp 2) = .pointer (some ⟨N, 0, none⟩) := hfree 2 rfl
      refine ⟨fun _ => ?_, zaa rfl⟩
      clear hdep hfree hj
      have d0 : ∀ i, u.cell? ⟨N, i, none⟩ = _ := fun i => (hS.cell (p := ⟨N, i, none⟩) hNM).trans (g1 i)
      go_simp
      exact ⟨rfl, hS, KL hstab⟩
     ·intro j hj ρ y u hS hc hf hg hfree hdep
      obtain rfl := jz hj rfl
      rw [Hq9.out _ 0 rfl]
      have e2 : ρ (.tmp 2) = .pointer (some ⟨N, 0, none⟩) := hfree 2 rfl
      refine ⟨fun _ => ?_, zaa rfl⟩
      clear hdep hfree hj
      go_simp
      exact ⟨rfl, hS, KL hstab⟩
     ·intro j hj ρ y u hS hc hf hg hfree hdep
      obtain rfl := jz hj rfl
      rw [Hq9.out _ 0 rfl]
      have e44 : ρ (.tmp 44) = _ := (hdep 10 _ 44 rfl rfl rfl).1
      refine ⟨fun _ => ?_, zaa rfl⟩
      clear hdep hfree hj
      have d0 : u.cell? ⟨N, 5, none⟩ = some _ := (hS.cell (p := ⟨N, 5, none⟩) hNM).trans (g1 5)
      go_simp
      exact ⟨rfl, hS, KL hstab⟩
     ·intro j hj ρ y u hS hc hf hg hfree hdep
      obtain rfl := jz hj rfl
      rw [Hq9.out _ 0 rfl]
      have e1 : ρ (.tmp 1) = .int .i64 k := hfree 1 rfl
      refine ⟨fun _ => ?_, zaa rfl⟩
      clear hdep hfree hj
      go_simp
      exact ⟨rfl, hS, KL hstab⟩
     ·intro j hj ρ y u hS hc hf hg hfree hdep
      obtain rfl := jz hj rfl
      rw [Hq9.out _ 0 rfl]
      have e45 : ρ (.tmp 45) = _ := (hdep 11 _ 45 rfl rfl rfl).1
      have e46 : ρ (.tmp 46) = _ := (hdep 12 _ 46 rfl rfl rfl).1
      refine ⟨fun _ => ?_, zaa rfl⟩
      clear hdep hfree hj
      go_simp
      exact ⟨rfl, hS, KL hstab⟩
     ·intro j hj ρ y u hS hc hf hg hfree hdep
      obtain rfl := jz hj rfl
      rw [Hq9.out _ 0 rfl]
      have e47 : ρ (.tmp 47) = _ := (hdep 13 _ 47 rfl rfl rfl).1
      refine ⟨fun _ => ?_, zaa rfl⟩
      clear hdep hfree hj
      have d0 : u.cell? ⟨b2, off2 + k * 6, none⟩ = some _ := (hS.cell (p := ⟨b2, off2 + k * 6, none⟩) hbM).trans p0
      have d1 : u.cell? ⟨b2, off2 + k * 6 + 1, none⟩ = some _ := (hS.cell (p := ⟨b2, off2 + k * 6 + 1, none⟩) hbM).trans p1
      have d2 : u.cell? ⟨b2, off2 + k * 6 + 2, none⟩ = some _ := (hS.cell (p := ⟨b2, off2 + k * 6 + 2, none⟩) hbM).trans p2
      have d3 : u.cell? ⟨b2, off2 + k * 6 + 3, none⟩ = some _ := (hS.cell (p := ⟨b2, off2 + k * 6 + 3, none⟩) hbM).trans p3
      have d4 : u.cell? ⟨b2, off2 + k * 6 + 4, none⟩ = some _ := (hS.cell (p := ⟨b2, off2 + k * 6 + 4, none⟩) hbM).trans p4
      have d5 : u.cell? ⟨b2, off2 + k * 6 + 5, none⟩ = some _ := (hS.cell (p := ⟨b2, off2 + k * 6 + 5, none⟩) hbM).trans p5
      go_simp
      exact ⟨rfl, hS, KL hstab⟩
     ·intro j hj ρ y u hS hc hf hg hfree hdep
      obtain rfl := jz hj rfl
      rw [Hq9.out _ 0 rfl]
      have e43 : ρ (.tmp 43) = _ := (hdep 9 _ 43 rfl rfl rfl).1
      have e48 : ρ (.tmp 48) = _ := (hdep 14 _ 48 rfl rfl rfl).1
      refine ⟨fun _ => ?_, zaa rfl⟩
      clear hdep hfree hj
      have hS0 : Below M w1 u := hS
      have hMu : M ≤ u.heap.size := by have := hS0.size; omega
      have hcon := argBits_any d x u (HP.out u hS0) (HSa.out u hS0) (zte HC.out)
      rw [HAB.out] at hcon
      unfold PrgD.v PrgD.vs at hcon
      rw [HA0.out] at hcon
      go_simp
      refine zha hcon ?_
      rintro e w' ⟨rfl, hb'⟩
      exact ⟨_, rfl, (show _ = Value.int .i64 ab from rfl), hS0.trans (hb'.mono hMu), KeepL.below hb' _ _ 0 hstab⟩
     ·intro j hj ρ y u hS hc hf hg hfree hdep
      obtain rfl := jz hj rfl
      rw [Hq9.out _ 0 rfl]
      have e49 : ρ (.tmp 49) = _ := (hdep 15 _ 49 rfl rfl rfl).1
      refine ⟨fun _ => ?_, zaa rfl⟩
      clear hdep hfree hj
      go_simp
      exact ⟨(show _ = Value.int .i64 (8 + ab) by first | rfl | simp only [hwr] | (rw [hwr]) | simp [hwr] | go_num), hS, KL hstab⟩
     ·intro j hj ρ y u hS hc hf hg hfree hdep
      obtain rfl := jz hj rfl
      rw [Hq9.out _ 0 rfl]
      have e39 : ρ (.tmp 39) = _ := (hdep 5 _ 39 rfl rfl rfl).1
      refine ⟨fun _ => ?_, zaa rfl⟩
      clear hdep hfree hj
      go_simp
      exact ⟨rfl, hS, KL hstab⟩
     ·intro j hj ρ y u hS hc hf hg hfree hdep
      obtain rfl := jz hj rfl
      rw [Hq9.out _ 0 rfl]
      have e42 : ρ (.tmp 42) = _ := (hdep 8 _ 42 rfl rfl rfl).1
      refine ⟨fun _ => ?_, zaa rfl⟩
      clear hdep hfree hj
      go_simp
      exact ⟨rfl, hS, KL hstab⟩
     ·intro j hj ρ y u hS hc hf hg hfree hdep
      obtain rfl := jz hj rfl
      rw [Hq9.out _ 0 rfl]
      have e50 : ρ (.tmp 50) = _ := (hdep 16 _ 50 rfl rfl rfl).1
      refine ⟨fun _ => ?_, zaa rfl⟩
      clear hdep hfree hj
      go_simp
      exact ⟨rfl, hS, KL hstab⟩
    intro u hS
    rintro _ rfl _ rfl _ rfl _ rfl _ rfl _ rfl _ rfl _ rfl _ rfl _ rfl _ rfl _ rfl _ rfl _ rfl _ rfl _ rfl _ rfl _ rfl _ rfl _ rfl
    simp only [zxb, Act.put, List.setIfInBounds_toArray, List.set_cons_zero, List.set_cons_succ]
    obtain ⟨W3, hW3⟩ : ∃ z, u = z := ⟨_, rfl⟩
    have hS3 : Below M w1 u := hS
    rw [hW3] at hS3 ⊢
    have HF3 := Hd (HF2.out.call (by rw [hM]; exact hS3))
    clear hS hW3 hS3 hstab HP HSa p0 p1 p2 p3 p4 p5
    clear g0 l0 f0 g1 l1 f1
    obtain ⟨g0, l0, f0⟩ := HF3.out.c0 HL.out
    obtain ⟨g1, l1, f1⟩ := HF3.out.c1 HL.out
    dsimp only at g0 l0 f0 g1 l1 f1
    go_wp2_with fail
    have hcon := tblKind_any d k W3 (HF3.out.prg HR.out)
    unfold PrgD.v PrgD.vs at hcon
    rw [HA0.out] at hcon
    obtain ⟨kd, hkd⟩ : ∃ z, zEe d k = z := ⟨_, rfl⟩
    have HKd := Hd hkd
    rw [hkd] at hcon
    with_reducible refine hcon.mono ?_
    clear hcon hkd
    rintro e w4 ⟨rfl, hb4⟩
    have HF4 := Hd (HF3.out.call hb4)
    clear hb4
    clear g0 l0 f0 g1 l1 f1
    obtain ⟨g0, l0, f0⟩ := HF4.out.c0 HL.out
    obtain ⟨g1, l1, f1⟩ := HF4.out.c1 HL.out
    dsimp only at g0 l0 f0 g1 l1 f1
    obtain ⟨sz, hszz⟩ : ∃ z, x.size = z := ⟨_, rfl⟩
    have HSz := Hd hszz
    rw [hszz] at hsz0 hsz1 ⊢
    clear hszz
    have hm1 : 0 ≤ sz * (tb + (8 + ab)) ∧ sz * (tb + (8 + ab)) ≤ 256 * 1006008 := ⟨Int.mul_nonneg (by omega) (by omega), Int.mul_le_mul hsz1 (by omega) (by omega) (by omega)⟩
    have hm2 : 0 ≤ sz * (8 + ab) ∧ sz * (8 + ab) ≤ 256 * 1000008 := ⟨Int.mul_nonneg (by omega) (by omega), Int.mul_le_mul hsz1 (by omega) (by omega) (by omega)⟩
    have hm3 : 0 ≤ sz * tb ∧ sz * tb ≤ 256 * 6000 := ⟨Int.mul_nonneg (by omega) (by omega), Int.mul_le_mul hsz1 (by omega) (by omega) (by omega)⟩
    have hwa : IntKind.i64.wrap (tb + (8 + ab)) = tb + (8 + ab) := wr_id (by omega) (by omega)
    have hw1 : IntKind.i64.wrap (sz * (tb + (8 + ab))) = sz * (tb + (8 + ab)) := wr_id (by omega) (by omega)
    have hw2 : IntKind.i64.wrap (sz * (8 + ab)) = sz * (8 + ab) := wr_id (by omega) (by omega)
    have hw3 : IntKind.i64.wrap (sz * tb) = sz * tb := wr_id (by omega) (by omega)
    by_cases hkd : kd = 1
    ·have HV := Hd (show zPb d k = (zIb (sz * (tb + (8 + ab))) 4096, 0) by unfold zPb; rw [if_pos H0.out, HTb.out]; simp only; rw [if_neg h3, HKd.out, HTB.out, HAB.out, HSz.out, if_pos hkd])
     have hkd' : (kd == 1) = true := by rw [hkd]; rfl
     go_wp2_with fail
     with_reducible refine (zdf (sz * (tb + (8 + ab))) 4096 (by omega) (by omega) w4).mono ?_
     rintro e w5 ⟨rfl, rfl⟩
     obtain ⟨r1, hr1⟩ : ∃ z, zIb (sz * (tb + (8 + ab))) 4096 = z := ⟨_, rfl⟩
     rw [hr1] at HV ⊢
     go_wp2_with fail
     have HF2 := HF4
     have B0 : Blk w4 (N + 1) _ _ := (HF2.out.blk (N + 1, _, _) (by rw [HL.out]; exact .head _)).2
     have B1 := B0.set_ 0 (Value.int IntKind.i64 (r1))
     have B2 := B1.set_ 1 (Value.int IntKind.i64 (0))
     have q1 := B1.cell 0
     have q2 := B2.cell 1
     refine bodyPost_ret (v := resV (r1, 0)) (by simp [results, Tryz.results73, go_sem, q1, q2]) rfl ⟨by rw [HV.out], ?_⟩
     have hle : N ≤ N + 1 := by omega
     exact (HF2.out.below.setCell hle _).setCell hle _
    ·have HV := Hd (show zPb d k = (zIb (sz * (8 + ab)) 4096, zIb (sz * tb) 2048) by unfold zPb; rw [if_pos H0.out, HTb.out]; simp only; rw [if_neg h3, HKd.out, HTB.out, HAB.out, HSz.out, if_neg hkd])
     have hkd' : (kd == 1) = false := by simp [hkd]
     go_wp2_with fail
     with_reducible refine (zdf (sz * (8 + ab)) 4096 (by omega) (by omega) w4).mono ?_
     rintro e w5 ⟨rfl, rfl⟩
     obtain ⟨r1, hr1⟩ : ∃ z, zIb (sz * (8 + ab)) 4096 = z := ⟨_, rfl⟩
     rw [hr1] at HV ⊢
     go_wp2_with fail
     with_reducible refine (zdf (sz * tb) 2048 (by omega) (by omega) w4).mono ?_
     rintro e w5 ⟨rfl, rfl⟩
     obtain ⟨r2, hr2⟩ : ∃ z, zIb (sz * tb) 2048 = z := ⟨_, rfl⟩
     rw [hr2] at HV ⊢
     go_wp2_with fail
     have HF2 := HF4
     have B0 : Blk w4 (N + 1) _ _ := (HF2.out.blk (N + 1, _, _) (by rw [HL.out]; exact .head _)).2
     have B1 := B0.set_ 0 (Value.int IntKind.i64 (r1))
     have B2 := B1.set_ 1 (Value.int IntKind.i64 (r2))
     have q1 := B1.cell 0
     have q2 := B2.cell 1
     refine bodyPost_ret (v := resV (r1, r2)) (by simp [results, Tryz.results73, go_sem, q1, q2]) rfl ⟨by rw [HV.out], ?_⟩
     have hle : N ≤ N + 1 := by omega
     exact (HF2.out.below.setCell hle _).setCell hle _
open Go.RowKit
set_option maxRecDepth 100000 in
set_option maxHeartbeats 8000000 in
theorem unitCost_any (d : PrgD) (u : UnitD) (w : World) (hR : PrgR w w.heap.size d) (h0 : (zUa d).1 = 0) (hz : zra d = zUa d) :
  Calls Tryz.prog 35 #[PrgD.v d, unitV u] w fun e w' => e = .returned (resV (ztb d u.m)) ∧ Below w.heap.size w w' := by
 obtain ⟨N, hN⟩ : ∃ N, w.heap.size = N := ⟨_, rfl⟩
 rw [hN] at hR ⊢
 have F0 := Fr.start w
 rw [hN] at F0
 have HF0 := Hd F0
 have HR := Hd hR
 have H0 := Hd h0
 have HZ := Hd hz
 obtain ⟨t, ht⟩ : ∃ z, u.table = z := ⟨_, rfl⟩
 have HT := Hd ht
 clear hR F0 h0 hz
 unfold PrgD.v PrgD.vs unitV
 rw [ht]
 clear ht
 go_enter Tryz.func35, Tryz.ntmps35
 go_upto_region 1 with (fail)
 refine zfa ?_
 intro W hW
 have F1 := (((HF0.out.alloc _ _).alloc _ _).alloc _ _).of_eq hW
 simp only [World.size_alloc, hN] at F1 ⊢
 obtain ⟨L, hL, F1⟩ := F1.name
 have HL := Hd hL
 have HF1 := Hd F1
 clear F1 hW hL
 obtain ⟨g0, l0, f0⟩ := HF1.out.c0 HL.out
 obtain ⟨g1, l1, f1⟩ := HF1.out.c1 HL.out
 obtain ⟨g2, l2, f2⟩ := HF1.out.c2 HL.out
 dsimp only at g0 l0 f0 g1 l1 f1 g2 l2 f2
 by_cases h1 : t = -1
 ·have HV := Hd (show ztb d u.m = (0, 0) by unfold ztb UnitD.m; simp only [HT.out]; rw [if_pos h1])
  have h1' : (t == -1) = true := by rw [h1]; rfl
  go_wp2_with fail
  have HF2 := HF1
  have B0 : Blk W (N + 2) _ _ := (HF2.out.blk (N + 2, _, _) (by rw [HL.out]; exact .head _)).2
  have B1 := B0.set_ 0 (Value.int IntKind.i64 (0))
  have B2 := B1.set_ 1 (Value.int IntKind.i64 (0))
  have q1 := B1.cell 0
  have q2 := B2.cell 1
  refine bodyPost_ret (v := resV (0, 0)) (by simp [results, Tryz.results35, go_sem, q1, q2]) rfl ⟨by rw [HV.out], ?_⟩
  have hle : N ≤ N + 2 := by omega
  exact (HF2.out.below.setCell hle _).setCell hle _
 ·have h1' : (t == -1) = false := by simp [h1]
  have hcon := tblCost_any d t W (HF1.out.prg HR.out) H0.out HZ.out
  obtain ⟨c, hc⟩ : ∃ z, zPb d t = z := ⟨_, rfl⟩
  rw [hc] at hcon
  have HV := Hd (show ztb d u.m = c by unfold ztb UnitD.m; simp only [HT.out]; rw [if_neg h1]; exact hc)
  obtain ⟨c1, c2⟩ := c
  unfold PrgD.v PrgD.vs resV at hcon
  have HCon := Hd hcon
  clear hcon hc
  go_wp2_with fail
  with_reducible refine HCon.out.mono ?_
  rintro e w1 ⟨rfl, hb1⟩
  have HF2 := Hd (HF1.out.call hb1)
  clear hb1
  clear g0 l0 f0 g1 l1 f1 g2 l2 f2
  obtain ⟨g0, l0, f0⟩ := HF2.out.c0 HL.out
  obtain ⟨g1, l1, f1⟩ := HF2.out.c1 HL.out
  obtain ⟨g2, l2, f2⟩ := HF2.out.c2 HL.out
  dsimp only at g0 l0 f0 g1 l1 f1 g2 l2 f2
  go_wp2_with fail
  have B0 : Blk w1 (N + 2) _ _ := (HF2.out.blk (N + 2, _, _) (by rw [HL.out]; exact .head _)).2
  have B1 := B0.set_ 0 (Value.int IntKind.i64 (c1))
  have B2 := B1.set_ 1 (Value.int IntKind.i64 (c2))
  have q1 := B1.cell 0
  have q2 := B2.cell 1
  refine bodyPost_ret (v := resV (c1, c2)) (by simp [results, Tryz.results35, go_sem, q1, q2]) rfl ⟨by rw [HV.out], ?_⟩
  have hle : N ≤ N + 2 := by omega
  exact (HF2.out.below.setCell hle _).setCell hle _
end Go.Proofs.YtakgiamhdpgoeaaGreat
