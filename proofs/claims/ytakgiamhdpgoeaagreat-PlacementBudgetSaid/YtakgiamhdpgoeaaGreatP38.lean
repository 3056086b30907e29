/- Lemmas. -/
import Derived.Test.YtakgiamhdpgoeaaGreatP36
set_option linter.unusedSimpArgs false
namespace Go.Proofs.YtakgiamhdpgoeaaGreat
open Go.RowKit
set_option linter.unusedVariables false
set_option maxRecDepth 100000 in
set_option maxHeartbeats 2000000 in
theorem body_any (d : PrgD) (i : Int) (w : World) (B : Nat) (hR : PrgR w w.heap.size d) (hRB : PrgR w B d) (hBw : B ≤ w.heap.size) :
  Calls Tryz.prog 137 #[PrgD.v d, .int .i64 i] w fun e w' => (∃ st : SL StD, e = .returned (.slice st.a st.l.length st.c) ∧ st.l = zef d i ∧ SLR w' B 7 StD.enc (StD.ok w' B) st) ∧ Below w.heap.size w w' := by
 have HRB := Hd hRB.aZ
 obtain ⟨N, hN⟩ : ∃ N, w.heap.size = N := ⟨_, rfl⟩
 rw [hN] at hR ⊢
 have F0 := Fr.start w
 rw [hN] at F0
 have HF0 := Hd F0
 have HR := Hd hR
 have HAc := Hd hR.aZ
 have hl1 := hR.aZ.len
 obtain ⟨A0, hA0⟩ : ∃ z, d.aZ.a = z := ⟨_, rfl⟩
 have HA0 := Hd hA0
 have HCon := Hd (fun (W : World) (h : PrgR W W.heap.size d) => zVe d i W h)
 obtain ⟨c1, hc1⟩ : ∃ z, (zYa d i).1 = z := ⟨_, rfl⟩
 obtain ⟨c2, hc2⟩ : ∃ z, (zYa d i).2 = z := ⟨_, rfl⟩
 have HV := Hd (show zef d i = if c2 = 0 then (match (if i < 0 then none else d.aZ.l[i.toNat]?) with | none => [] | some a => a.body.l) else [] by unfold zef; rw [hc2]; rfl)
 have HC2 := Hd hc2
 rw [hc1, hc2] at HCon
 clear hR hRB F0 hc1 hc2
 unfold PrgD.v PrgD.vs at *
 rw [hA0] at HCon ⊢
 clear hA0
 go_enter Tryz.func137, Tryz.ntmps137
 go_wp2_with fail
 refine Calls.named ?_
 intro W hW
 have F1 := (HF0.out.alloc _ _).of_eq hW
 simp only [hN] at F1
 obtain ⟨L, hL, F1⟩ := F1.name
 have HL := Hd hL
 have HF1 := Hd F1
 clear F1 hL hW
 with_reducible refine (HCon.out W (HF1.out.prg HR.out)).mono ?_
 rintro e w1 ⟨rfl, hb1⟩
 have HF2 := Hd (HF1.out.call hb1)
 clear hb1 HF1
 obtain ⟨g0, l0, f0⟩ := HF2.out.c0 HL.out
 dsimp only at g0 l0 f0
 by_cases c0 : c2 = 0
 ·subst c0
  have hin : 0 ≤ i ∧ i < d.aZ.l.length := by
   have h := HC2.out
   unfold zYa at h
   by_cases h1 : i < 0
   ·rw [if_pos h1] at h; simp at h
   ·rw [if_neg h1] at h
    by_cases h2 : i.toNat < d.aZ.l.length
    ·omega
    ·rw [List.getElem?_eq_none (by omega)] at h; simp at h
  obtain ⟨n, rfl⟩ : ∃ n : Nat, i = n := ⟨i.toNat, by omega⟩
  have hn : n < d.aZ.l.length := by omega
  have hn1 : (n : Int) < d.aZ.l.length := by omega
  obtain ⟨b2, off2, x, hA2, hb2, hx, hxok, hc2⟩ := HF2.out.at_ HAc.out (fun _ => rfl) (by omega) hn
  have p2 := hc2 2 _ rfl
  have HX := Hd ((HRB.out.ok x (List.mem_of_getElem? hx)).below (HF2.out.below.mono (by omega))).body
  have HV2 := Hd (show zef d n = x.body.l by rw [HV.out, if_pos rfl, if_neg (by omega), Int.toNat_natCast, hx])
  rw [HA0.out] at hA2
  subst hA2
  clear hc2 hx hxok
  go_wp2_with fail
  go_returns
  exact ⟨⟨x.body, rfl, HV2.out.symm, HX.out⟩, HF2.out.below⟩
 ·have c0' : (c2 != 0) = true := by simp [c0]
  have HV2 := Hd (HV.out.trans (if_neg c0))
  clear c0
  go_wp2_with fail
  go_returns
  exact ⟨⟨⟨none, 0, []⟩, rfl, HV2.out.symm, SLR.nil_ _⟩, HF2.out.below⟩
def lge (m : Nat) (p : Value → World → Prop) : LFact := fun j v u => m ≤ j → p v u
theorem lge_st {m : Nat} {p : Value → World → Prop} (h : zkb p) : ∀ (j : Nat) (v : Value) (u u' : World), Below u.heap.size u u' → lge m p j v u → lge m p j v u' := fun _ v u u' hb hp hj => h v u u' hb (hp hj)
theorem KeptF.wider {F F' : Nat → Prop} {w u : World} (h : KeptF F w u) (hi : ∀ k, F k → F' k) : KeptF F' w u := ⟨h.os, h.tape, h.output, h.size, fun k hk hn => h.block k hk fun hf => hn (hi k hf)⟩
def Rows3 (f : SL (Int × Int)) (h r : SL Int) (j k : Nat) : Prop := (1 ≤ j ∧ ownB f.a = some k) ∨ (2 ≤ j ∧ ownB h.a = some k) ∨ (3 ≤ j ∧ ownB r.a = some k)
def pCutF (g : Nat) (f : SL (Int × Int)) (v : Value) (u : World) : Prop := ∃ l, v = .slice f.a l.length f.c ∧ zga l f.l ∧ l.length ≤ f.l.length ∧ OwnFR u (g + 1) f.a f.c l
def pCutZ (g : Nat) (h : SL Int) (v : Value) (u : World) : Prop := ∃ l, v = .slice h.a l.length h.c ∧ zga l h.l ∧ l.length ≤ h.l.length ∧ OwnZ u (g + 1) h.a h.c l
theorem pCutF_st {g : Nat} {f : SL (Int × Int)} : zkb (pCutF g f) := fun v u u' hb ⟨l, e, h1, h2, ho⟩ => ⟨l, e, h1, h2, Own.below ho hb⟩
theorem pCutZ_st {g : Nat} {f : SL Int} : zkb (pCutZ g f) := fun v u u' hb ⟨l, e, h1, h2, ho⟩ => ⟨l, e, h1, h2, Own.below ho hb⟩
section
variable {N g : Nat} {f : SL (Int × Int)} {h r : SL Int} {W u : World}
theorem zdb {w u : World} {row : Option Nat} (hg : w.grownBy u row) : KeptF (fun k => row = some k) w u := (KeptF.refl _ w).step_grown hg fun k hk => hk
theorem AccB.rows (b : AccB N g f h r W) {j : Nat} (hk : KeptF (Rows3 f h r j) W u) : Blk u g 222 #[.slice f.a f.l.length f.c, .slice h.a h.l.length h.c, .slice r.a r.l.length r.c] := hk.blk b.box fun h1 => by
 rcases h1 with ⟨_, h1⟩ | ⟨_, h1⟩ | ⟨_, h1⟩
 ·exact zGc b.fo b.box (by decide) h1
 ·exact zGc b.ho b.box (by decide) h1
 ·exact zGc b.ro b.box (by decide) h1
theorem AccB.turnF (b : AccB N g f h r W) (hg : W.grownBy u (ownB f.a)) {L : List (Int × Int)} (ho : OwnFR u (g + 1) f.a f.c L) (hL : L.length = f.l.length) : AccB N g ⟨f.a, f.c, L⟩ h r u := by
 have hk := zdb hg
 exact ⟨b.lo, by simp only [hL]; exact hk.blk b.box (zGc b.fo b.box (by decide)), ho, zjb b.ho hk (fun k h1 h2 => zcd b.ho b.fo (by decide) h1 h2), zjb b.ro hk (fun k h1 h2 => zcd b.ro b.fo (by decide) h1 h2), b.hr⟩
theorem AccB.turnH (b : AccB N g f h r W) (hg : W.grownBy u (ownB h.a)) {L : List Int} (ho : OwnZ u (g + 1) h.a h.c L) (hL : L.length = h.l.length) : AccB N g f ⟨h.a, h.c, L⟩ r u := by
 have hk := zdb hg
 exact ⟨b.lo, by simp only [hL]; exact hk.blk b.box (zGc b.ho b.box (by decide)), zjb b.fo hk (fun k h1 h2 => zcd b.fo b.ho (by decide) h1 h2), ho, zjb b.ro hk (fun k h1 h2 => b.hr k h2 h1), b.hr⟩
theorem AccB.turnR (b : AccB N g f h r W) (hg : W.grownBy u (ownB r.a)) {L : List Int} (ho : OwnZ u (g + 1) r.a r.c L) (hL : L.length = r.l.length) : AccB N g f h ⟨r.a, r.c, L⟩ u := by
 have hk := zdb hg
 exact ⟨b.lo, by simp only [hL]; exact hk.blk b.box (zGc b.ro b.box (by decide)), zjb b.fo hk (fun k h1 h2 => zcd b.fo b.ro (by decide) h1 h2), zjb b.ho hk (fun k h1 h2 => b.hr k h1 h2), ho, b.hr⟩
end
def AccOut (g : Nat) (f : SL (Int × Int)) (h r : SL Int) (e : Ending) (w' : World) : Prop :=
 ∃ (f' : SL (Int × Int)) (h' r' : SL Int), e = .returned (.tuple #[.slice f'.a f'.l.length f'.c, .slice h'.a h'.l.length h'.c, .slice r'.a r'.l.length r'.c]) ∧ zga f'.l f.l ∧ zga h'.l h.l ∧ zga r'.l r.l ∧ f'.l.length ≤ f.l.length ∧ h'.l.length ≤ h.l.length ∧ r'.l.length ≤ r.l.length ∧ OwnFR w' (g + 1) f'.a f'.c f'.l ∧ OwnZ w' (g + 1) h'.a h'.c h'.l ∧ OwnZ w' (g + 1) r'.a r'.c r'.l
set_option maxRecDepth 100000 in
set_option maxHeartbeats 4000000 in
theorem sorted_any (N g : Nat) (f : SL (Int × Int)) (h r : SL Int) (w : World) (hA : AccB N g f h r w) (hfl : f.l.length ≤ 1000000) (hhl : h.l.length ≤ 1000000) (hrl : r.l.length ≤ 1000000) :
  Calls Tryz.prog 139 #[.pointer (some ⟨g, 0, none⟩)] w fun e w' => AccOut g f h r e w' ∧ KeptF (AccF g f h r) w w' := by
 have HA := Hd hA
 have c0 : ∀ i, w.cell? ⟨g, i, none⟩ = _ := fun i => hA.box.cell i
 have HK0 := Hd (KeptF.refl (AccF g f h r) w)
 clear hA
 go_enter Tryz.func139, Tryz.ntmps139
 go_wp2_with fail
 with_reducible refine (sortedF_any (g + 1) f.a f.c f.l w HA.out.fo hfl).mono ?_
 rintro e w1 ⟨rfl, ⟨l1, hp1, ho1⟩, hg1⟩
 have HA1 := Hd (HA.out.turnF hg1 ho1 hp1.length_eq)
 have HP1 := Hd hp1
 have HK1 := Hd (show KeptF (AccF g f h r) w w1 from (zdb hg1).wider fun k hk => .inr (.inl hk))
 have c1 : ∀ i, w1.cell? ⟨g, i, none⟩ = _ := fun i => HA1.out.box.cell i
 simp only [hp1.length_eq] at c1
 clear hp1 ho1 hg1 c0
 go_wp2_with fail
 with_reducible refine (zSe (g + 1) h.a h.c h.l w1 HA1.out.ho hhl).mono ?_
 rintro e w2 ⟨rfl, ⟨l2, hp2, ho2⟩, hg2⟩
 have HA2 := Hd (HA1.out.turnH hg2 ho2 hp2.length_eq)
 have HP2 := Hd hp2
 have HK2 := Hd (show KeptF (AccF g f h r) w w2 from HK1.out.step_grown hg2 fun k hk => .inr (.inr (.inl hk)))
 have c2 : ∀ i, w2.cell? ⟨g, i, none⟩ = _ := fun i => HA2.out.box.cell i
 simp only [hp2.length_eq, HP1.out.length_eq] at c2
 clear hp2 ho2 hg2 c1
 go_wp2_with fail
 with_reducible refine (zSe (g + 1) r.a r.c r.l w2 HA2.out.ro hrl).mono ?_
 rintro e w3 ⟨rfl, ⟨l3, hp3, ho3⟩, hg3⟩
 have hA3 := HA2.out.turnR hg3 ho3 hp3.length_eq
 have HP3 := Hd hp3
 have HK3 := Hd (show KeptF (AccF g f h r) w w3 from HK2.out.step_grown hg3 fun k hk => .inr (.inr (.inr hk)))
 clear hp3 ho3 hg3 c2
 obtain ⟨f3, hf3⟩ : ∃ z : SL (Int × Int), (⟨f.a, f.c, l1⟩ : SL (Int × Int)) = z := ⟨_, rfl⟩
 obtain ⟨h3, hh3⟩ : ∃ z : SL Int, (⟨h.a, h.c, l2⟩ : SL Int) = z := ⟨_, rfl⟩
 obtain ⟨r3, hr3⟩ : ∃ z : SL Int, (⟨r.a, r.c, l3⟩ : SL Int) = z := ⟨_, rfl⟩
 rw [hf3, hh3, hr3] at hA3
 have HSm := Hd (show zga f3.l f.l ∧ zga h3.l h.l ∧ zga r3.l r.l ∧ f3.l.length = f.l.length ∧ h3.l.length = h.l.length ∧ r3.l.length = r.l.length by rw [← hf3, ← hh3, ← hr3]; exact ⟨zCd HP1.out, zCd HP2.out, zCd HP3.out, HP1.out.length_eq, HP2.out.length_eq, HP3.out.length_eq⟩)
 have hf1 : f3.l.length ≤ 1000000 := by rw [HSm.out.2.2.2.1]; exact hfl
 have hh1 : h3.l.length ≤ 1000000 := by rw [HSm.out.2.2.2.2.1]; exact hhl
 have hr1 : r3.l.length ≤ 1000000 := by rw [HSm.out.2.2.2.2.2]; exact hrl
 have HRw := Hd (show ∀ k, Rows3 f3 h3 r3 3 k → AccF g f h r k by
  rw [← hf3, ← hh3, ← hr3]
  rintro k (⟨_, h1⟩ | ⟨_, h1⟩ | ⟨_, h1⟩)
  ·exact .inr (.inl h1)
  ·exact .inr (.inr (.inl h1))
  ·exact .inr (.inr (.inr h1)))
 have HA3 := Hd hA3
 clear hA3 hf3 hh3 hr3 HA HA1 HA2 HP1 HP2 HP3 hfl hhl hrl
 go_wp2_with fail
 have hstab : zba ([leq (.pointer (some ⟨g, 0, none⟩)), leq (.pointer (some ⟨g, 0, none⟩)), leq (.pointer (some ⟨g, 0, none⟩)), leq (.slice f3.a f3.l.length f3.c), lge 1 (pCutF g f3), leq (.pointer (some ⟨g, 0, none⟩)), leq (.pointer (some ⟨g, 0, none⟩)), leq (.pointer (some ⟨g, 1, none⟩)), leq (.slice h3.a h3.l.length h3.c), lge 2 (pCutZ g h3), leq (.pointer (some ⟨g, 0, none⟩)), leq (.pointer (some ⟨g, 0, none⟩)), leq (.pointer (some ⟨g, 2, none⟩)), leq (.slice r3.a r3.l.length r3.c), lge 3 (pCutZ g r3), lge 3 (pCutF g f3), lge 3 (pCutZ g h3), lge 3 (pCutZ g r3)]) := zba.cons_ (zea _) (zba.cons_ (zea _) (zba.cons_ (zea _) (zba.cons_ (zea _) (zba.cons_ (lge_st pCutF_st) (zba.cons_ (zea _) (zba.cons_ (zea _) (zba.cons_ (zea _) (zba.cons_ (zea _) (zba.cons_ (lge_st pCutZ_st) (zba.cons_ (zea _) (zba.cons_ (zea _) (zba.cons_ (zea _) (zba.cons_ (zea _) (zba.cons_ (lge_st pCutZ_st) (zba.cons_ (lge_st pCutF_st) (zba.cons_ (lge_st pCutZ_st) (zba.cons_ (lge_st pCutZ_st) (zba.nil_))))))))))))))))))
 have Hq9 := Hd (show ∀ i j, List.contains (Chain.effs ⟨[4, 9, 14], [(0, 0), (0, 0), (0, 0), (0, 0), (0, 0), (0, 1), (0, 1), (0, 1), (0, 1), (1, 1), (0, 2), (0, 2), (0, 2), (0, 2), (2, 2), (3, 3), (3, 3), (3, 3)]⟩) i = false → Chain.next ⟨[4, 9, 14], [(0, 0), (0, 0), (0, 0), (0, 0), (0, 0), (0, 1), (0, 1), (0, 1), (0, 1), (1, 1), (0, 2), (0, 2), (0, 2), (0, 2), (2, 2), (3, 3), (3, 3), (3, 3)]⟩ i j = j from fun i j h => zya h)
 refine zja ⟨[4, 9, 14], [(0, 0), (0, 0), (0, 0), (0, 0), (0, 0), (0, 1), (0, 1), (0, 1), (0, 1), (1, 1), (0, 2), (0, 2), (0, 2), (0, 2), (2, 2), (3, 3), (3, 3), (3, 3)]⟩ (fun j u => KeptF (Rows3 f3 h3 r3 j) w3 u) ([leq (.pointer (some ⟨g, 0, none⟩)), leq (.pointer (some ⟨g, 0, none⟩)), leq (.pointer (some ⟨g, 0, none⟩)), leq (.slice f3.a f3.l.length f3.c), lge 1 (pCutF g f3), leq (.pointer (some ⟨g, 0, none⟩)), leq (.pointer (some ⟨g, 0, none⟩)), leq (.pointer (some ⟨g, 1, none⟩)), leq (.slice h3.a h3.l.length h3.c), lge 2 (pCutZ g h3), leq (.pointer (some ⟨g, 0, none⟩)), leq (.pointer (some ⟨g, 0, none⟩)), leq (.pointer (some ⟨g, 2, none⟩)), leq (.slice r3.a r3.l.length r3.c), lge 3 (pCutZ g r3), lge 3 (pCutF g f3), lge 3 (pCutZ g h3), lge 3 (pCutZ g r3)]) (by kernel_rfl) (by kernel_rfl) (by kernel_rfl) (by kernel_rfl) ?_ ?_ ?_
 ·exact KeptF.of_below (Below.refl _ _).drew
 ·show zQb _ _ _ _ _ _ 0 _
  refine ⟨?_, ?_, ?_, ?_, ?_, ?_, ?_, ?_, ?_, ?_, ?_, ?_, ?_, ?_, ?_, ?_, ?_, ?_, trivial⟩
  ·intro j hj ρ y u hS hc hf hg hfree hdep
   obtain rfl := jz hj rfl
   rw [Hq9.out _ 0 rfl]
   have e0 : ρ (.tmp 0) = .pointer (some ⟨g, 0, none⟩) := hfree 0 rfl
   refine ⟨fun _ => ?_, zaa rfl⟩
   clear hdep hfree hj
   go_simp
   exact ⟨rfl, hS, KL hstab⟩
  ·intro j hj ρ y u hS hc hf hg hfree hdep
   obtain rfl := jz hj rfl
   rw [Hq9.out _ 0 rfl]
   have e20 : ρ (.tmp 20) = _ := (hdep 0 _ 20 rfl rfl rfl).1
   refine ⟨fun _ => ?_, zaa rfl⟩
   clear hdep hfree hj
   go_simp
   exact ⟨rfl, hS, KL hstab⟩
  ·intro j hj ρ y u hS hc hf hg hfree hdep
   obtain rfl := jz hj rfl
   rw [Hq9.out _ 0 rfl]
   have e21 : ρ (.tmp 21) = _ := (hdep 1 _ 21 rfl rfl rfl).1
   refine ⟨fun _ => ?_, zaa rfl⟩
   clear hdep hfree hj
   go_simp
   exact ⟨rfl, hS, KL hstab⟩
  ·intro j hj ρ y u hS hc hf hg hfree hdep
   obtain rfl := jz hj rfl
   rw [Hq9.out _ 0 rfl]
   have e22 : ρ (.tmp 22) = _ := (hdep 2 _ 22 rfl rfl rfl).1
   refine ⟨fun _ => ?_, zaa rfl⟩
   clear hdep hfree hj
   have d0 : u.cell? ⟨g, 0, none⟩ = some _ := (HA3.out.rows hS).cell 0
   go_simp
   exact ⟨rfl, hS, KL hstab⟩
  ·intro j hj ρ y u hS hc hf hg hfree hdep
   obtain rfl := jz hj rfl
   rw [show Chain.next ⟨[4, 9, 14], [(0, 0), (0, 0), (0, 0), (0, 0), (0, 0), (0, 1), (0, 1), (0, 1), (0, 1), (1, 1), (0, 2), (0, 2), (0, 2), (0, 2), (2, 2), (3, 3), (3, 3), (3, 3)]⟩ 4 0 = 1 from rfl]
   have e23 : ρ (.tmp 23) = _ := (hdep 3 _ 23 rfl rfl rfl).1
   refine ⟨fun _ => ?_, zaa rfl⟩
   clear hdep hfree hj
   have hO := zjb HA3.out.fo hS (by rintro k hk (⟨h1, _⟩ | ⟨h1, _⟩ | ⟨h1, _⟩) <;> omega)
   go_simp
   refine zha (compF_any (g + 1) f3.a f3.c f3.l u hO hf1) ?_
   rintro e w' ⟨⟨l', hs', hl', rfl, hO'⟩, hg'⟩
   refine ⟨_, rfl, (fun _ => ⟨l', rfl, hs', hl', hO'⟩), ?_, ⟨.inr (.inr (fun h => h)), .inr (.inr (fun h => h)), .inr (.inr (fun h => h)), .inr (.inr (fun h => h)), .inl rfl, .inr (.inr (fun h => h)), .inr (.inr (fun h => h)), .inr (.inr (fun h => h)), .inr (.inr (fun h => h)), .inr (.inl (by kernel_rfl)), .inr (.inr (fun h => h)), .inr (.inr (fun h => h)), .inr (.inr (fun h => h)), .inr (.inr (fun h => h)), .inr (.inl (by kernel_rfl)), .inr (.inl (by kernel_rfl)), .inr (.inl (by kernel_rfl)), .inr (.inl (by kernel_rfl)), trivial⟩⟩
   exact (hS.wider (fun k hk => by rcases hk with ⟨h1, _⟩ | ⟨h1, _⟩ | ⟨h1, _⟩ <;> omega)).step_grown hg' fun k hk => .inl ⟨by omega, hk⟩
  ·intro j hj ρ y u hS hc hf hg hfree hdep
   obtain ⟨hj0, hj1⟩ := hj _ rfl
   dsimp only at hj0 hj1
   rw [Hq9.out _ j rfl]
   have e0 : ρ (.tmp 0) = .pointer (some ⟨g, 0, none⟩) := hfree 0 rfl
   refine ⟨fun _ => ?_, zaa rfl⟩
   clear hdep hfree hj
   go_simp
   exact ⟨rfl, hS, KL hstab⟩
  ·intro j hj ρ y u hS hc hf hg hfree hdep
   obtain ⟨hj0, hj1⟩ := hj _ rfl
   dsimp only at hj0 hj1
   rw [Hq9.out _ j rfl]
   have e25 : ρ (.tmp 25) = _ := (hdep 5 _ 25 rfl rfl rfl).1
   refine ⟨fun _ => ?_, zaa rfl⟩
   clear hdep hfree hj
   go_simp
   exact ⟨rfl, hS, KL hstab⟩
  ·intro j hj ρ y u hS hc hf hg hfree hdep
   obtain ⟨hj0, hj1⟩ := hj _ rfl
   dsimp only at hj0 hj1
   rw [Hq9.out _ j rfl]
   have e26 : ρ (.tmp 26) = _ := (hdep 6 _ 26 rfl rfl rfl).1
   refine ⟨fun _ => ?_, zaa rfl⟩
   clear hdep hfree hj
   go_simp
   exact ⟨rfl, hS, KL hstab⟩
  ·intro j hj ρ y u hS hc hf hg hfree hdep
   obtain ⟨hj0, hj1⟩ := hj _ rfl
   dsimp only at hj0 hj1
   rw [Hq9.out _ j rfl]
   have e27 : ρ (.tmp 27) = _ := (hdep 7 _ 27 rfl rfl rfl).1
   refine ⟨fun _ => ?_, zaa rfl⟩
   clear hdep hfree hj
   have d0 : u.cell? ⟨g, 1, none⟩ = some _ := (HA3.out.rows hS).cell 1
   go_simp
   exact ⟨rfl, hS, KL hstab⟩
  ·intro j hj ρ y u hS hc hf hg hfree hdep
   obtain rfl := jz hj rfl
   rw [show Chain.next ⟨[4, 9, 14], [(0, 0), (0, 0), (0, 0), (0, 0), (0, 0), (0, 1), (0, 1), (0, 1), (0, 1), (1, 1), (0, 2), (0, 2), (0, 2), (0, 2), (2, 2), (3, 3), (3, 3), (3, 3)]⟩ 9 1 = 2 from rfl]
   have e28 : ρ (.tmp 28) = _ := (hdep 8 _ 28 rfl rfl rfl).1
   refine ⟨fun _ => ?_, zaa rfl⟩
   clear hdep hfree hj
   have hO := zjb HA3.out.ho hS (by rintro k hk (⟨h1, h2⟩ | ⟨h1, _⟩ | ⟨h1, _⟩); exact zcd HA3.out.ho HA3.out.fo (by decide) hk h2; all_goals omega)
   go_simp
   refine zha (zPe (g + 1) h3.a h3.c h3.l u hO hh1) ?_
   rintro e w' ⟨⟨l', hs', hl', rfl, hO'⟩, hg'⟩
   have hk' := zdb hg'
   refine ⟨_, rfl, (fun _ => ⟨l', rfl, hs', hl', hO'⟩), ?_, ⟨.inr (.inr (fun h => h)), .inr (.inr (fun h => h)), .inr (.inr (fun h => h)), .inr (.inr (fun h => h)), .inr (.inr (fun h1 _ => by obtain ⟨l, e1, e2, e3, ho⟩ := h1 (by omega); exact ⟨l, e1, e2, e3, zjb ho hk' (fun k a b => zcd ho hO (by decide) a b)⟩)), .inr (.inr (fun h => h)), .inr (.inr (fun h => h)), .inr (.inr (fun h => h)), .inr (.inr (fun h => h)), .inl rfl, .inr (.inr (fun h => h)), .inr (.inr (fun h => h)), .inr (.inr (fun h => h)), .inr (.inr (fun h => h)), .inr (.inl (by kernel_rfl)), .inr (.inl (by kernel_rfl)), .inr (.inl (by kernel_rfl)), .inr (.inl (by kernel_rfl)), trivial⟩⟩
   exact (hS.wider (fun k hk => by rcases hk with ⟨h1, h2⟩ | ⟨h1, _⟩ | ⟨h1, _⟩; exact .inl ⟨by omega, h2⟩; all_goals omega)).step_grown hg' fun k hk => .inr (.inl ⟨by omega, hk⟩)
  ·intro j hj ρ y u hS hc hf hg hfree hdep
   obtain ⟨hj0, hj1⟩ := hj _ rfl
   dsimp only at hj0 hj1
   rw [Hq9.out _ j rfl]
   have e0 : ρ (.tmp 0) = .pointer (some ⟨g, 0, none⟩) := hfree 0 rfl
   refine ⟨fun _ => ?_, zaa rfl⟩
   clear hdep hfree hj
   go_simp
   exact ⟨rfl, hS, KL hstab⟩
  ·intro j hj ρ y u hS hc hf hg hfree hdep
   obtain ⟨hj0, hj1⟩ := hj _ rfl
   dsimp only at hj0 hj1
   rw [Hq9.out _ j rfl]
   have e30 : ρ (.tmp 30) = _ := (hdep 10 _ 30 rfl rfl rfl).1
   refine ⟨fun _ => ?_, zaa rfl⟩
   clear hdep hfree hj
   go_simp
   exact ⟨rfl, hS, KL hstab⟩
  ·intro j hj ρ y u hS hc hf hg hfree hdep
   obtain ⟨hj0, hj1⟩ := hj _ rfl
   dsimp only at hj0 hj1
   rw [Hq9.out _ j rfl]
   have e31 : ρ (.tmp 31) = _ := (hdep 11 _ 31 rfl rfl rfl).1
   refine ⟨fun _ => ?_, zaa rfl⟩
   clear hdep hfree hj
   go_simp
   exact ⟨rfl, hS, KL hstab⟩
  ·intro j hj ρ y u hS hc hf hg hfree hdep
   obtain ⟨hj0, hj1⟩ := hj _ rfl
   dsimp only at hj0 hj1
   rw [Hq9.out _ j rfl]
   have e32 : ρ (.tmp 32) = _ := (hdep 12 _ 32 rfl rfl rfl).1
   refine ⟨fun _ => ?_, zaa rfl⟩
   clear hdep hfree hj
   have d0 : u.cell? ⟨g, 2, none⟩ = some _ := (HA3.out.rows hS).cell 2
   go_simp
   exact ⟨rfl, hS, KL hstab⟩
  ·intro j hj ρ y u hS hc hf hg hfree hdep
   obtain rfl := jz hj rfl
   rw [show Chain.next ⟨[4, 9, 14], [(0, 0), (0, 0), (0, 0), (0, 0), (0, 0), (0, 1), (0, 1), (0, 1), (0, 1), (1, 1), (0, 2), (0, 2), (0, 2), (0, 2), (2, 2), (3, 3), (3, 3), (3, 3)]⟩ 14 2 = 3 from rfl]
   have e33 : ρ (.tmp 33) = _ := (hdep 13 _ 33 rfl rfl rfl).1
   refine ⟨fun _ => ?_, zaa rfl⟩
   clear hdep hfree hj
   have hO := zjb HA3.out.ro hS (by rintro k hk (⟨h1, h2⟩ | ⟨h1, h2⟩ | ⟨h1, _⟩); exact zcd HA3.out.ro HA3.out.fo (by decide) hk h2; exact HA3.out.hr k h2 hk; omega)
   go_simp
   refine zha (zPe (g + 1) r3.a r3.c r3.l u hO hr1) ?_
   rintro e w' ⟨⟨l', hs', hl', rfl, hO'⟩, hg'⟩
   have hk' := zdb hg'
   refine ⟨_, rfl, (fun _ => ⟨l', rfl, hs', hl', hO'⟩), ?_, ⟨.inr (.inr (fun h => h)), .inr (.inr (fun h => h)), .inr (.inr (fun h => h)), .inr (.inr (fun h => h)), .inr (.inr (fun h1 _ => by obtain ⟨l, e1, e2, e3, ho⟩ := h1 (by omega); exact ⟨l, e1, e2, e3, zjb ho hk' (fun k a b => zcd ho hO (by decide) a b)⟩)), .inr (.inr (fun h => h)), .inr (.inr (fun h => h)), .inr (.inr (fun h => h)), .inr (.inr (fun h => h)), .inr (.inr (fun h1 _ => by obtain ⟨l, e1, e2, e3, ho⟩ := h1 (by omega); exact ⟨l, e1, e2, e3, zjb ho hk' (fun k a b => HA3.out.hr k a b)⟩)), .inr (.inr (fun h => h)), .inr (.inr (fun h => h)), .inr (.inr (fun h => h)), .inr (.inr (fun h => h)), .inl rfl, .inr (.inl (by kernel_rfl)), .inr (.inl (by kernel_rfl)), .inr (.inl (by kernel_rfl)), trivial⟩⟩
   exact (hS.wider (fun k hk => by rcases hk with ⟨h1, h2⟩ | ⟨h1, h2⟩ | ⟨h1, _⟩; exact .inl ⟨by omega, h2⟩; exact .inr (.inl ⟨by omega, h2⟩); omega)).step_grown hg' fun k hk => .inr (.inr ⟨by omega, hk⟩)
  ·intro j hj ρ y u hS hc hf hg hfree hdep
   obtain rfl := jz hj rfl
   rw [Hq9.out _ 3 rfl]
   have r24 := (hdep 4 _ 24 rfl rfl rfl).1
   refine ⟨fun _ => ?_, zaa rfl⟩
   clear hdep hfree hj
   go_simp
   exact ⟨fun _ => r24 (by omega), hS, KL hstab⟩
  ·intro j hj ρ y u hS hc hf hg hfree hdep
   obtain rfl := jz hj rfl
   rw [Hq9.out _ 3 rfl]
   have r29 := (hdep 9 _ 29 rfl rfl rfl).1
   refine ⟨fun _ => ?_, zaa rfl⟩
   clear hdep hfree hj
   go_simp
   exact ⟨fun _ => r29 (by omega), hS, KL hstab⟩
  ·intro j hj ρ y u hS hc hf hg hfree hdep
   obtain rfl := jz hj rfl
   rw [Hq9.out _ 3 rfl]
   have r34 := (hdep 14 _ 34 rfl rfl rfl).1
   refine ⟨fun _ => ?_, zaa rfl⟩
   clear hdep hfree hj
   go_simp
   exact ⟨fun _ => r34 (by omega), hS, KL hstab⟩
 intro u hS
 rintro _ rfl _ rfl _ rfl _ rfl _ r_24 _ rfl _ rfl _ rfl _ rfl _ r_29 _ rfl _ rfl _ rfl _ rfl _ r_34 _ r_2 _ r_3 _ r_4
 simp only [zxb, Act.put, List.setIfInBounds_toArray, List.set_cons_zero, List.set_cons_succ]
 obtain ⟨l4, e4, s4, n4, o4⟩ := r_2 (by decide)
 obtain ⟨l5, e5, s5, n5, o5⟩ := r_3 (by decide)
 obtain ⟨l6, e6, s6, n6, o6⟩ := r_4 (by decide)
 subst e4 e5 e6
 have hm := HSm.out
 have HE := Hd (show AccOut g f h r (.returned (.tuple #[.slice f3.a l4.length f3.c, .slice h3.a l5.length h3.c, .slice r3.a l6.length r3.c])) u from ⟨⟨f3.a, f3.c, l4⟩, ⟨h3.a, h3.c, l5⟩, ⟨r3.a, r3.c, l6⟩, rfl, s4.trans hm.1, s5.trans hm.2.1, s6.trans hm.2.2.1, by simp only; omega, by simp only; omega, by simp only; omega, o4, o5, o6⟩)
 have HKe := Hd (show KeptF (AccF g f h r) w u from HK3.out.trans (Sub.refl _ _) (hS.wider HRw.out))
 clear hstab hS r_24 r_29 r_34 r_2 r_3 r_4 s4 s5 s6 n4 n5 n6 o4 o5 o6 hm
 go_wp2_with fail
 go_returns
 exact ⟨HE.out, HKe.out⟩
end Go.Proofs.YtakgiamhdpgoeaaGreat
