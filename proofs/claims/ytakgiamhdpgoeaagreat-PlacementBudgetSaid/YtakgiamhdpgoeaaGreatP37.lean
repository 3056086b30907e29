/- Lemmas. -/
import Derived.Test.YtakgiamhdpgoeaaGreatP36
set_option linter.unusedSimpArgs false
namespace Go.Proofs.YtakgiamhdpgoeaaGreat
open Go.RowKit
set_option linter.unusedVariables false
theorem int2_good {u : World} {o : Oper} {ρ : Operand → Value} {F : Value → World → Prop} {S1 : World → Prop} {St : World → World → Prop} (s x : Operand)
  (ho : o.op = .call { callee := .builtin .append, args := #[s, x], argTypes := #[29, 29] })
  (base : Nat) (A0 : Option Addr) (n0 c0 : Nat) (S0 : List Int) (hn0 : S0.length = n0) (hs : ρ s = .slice A0 n0 c0) (hown : OwnZ u base A0 c0 S0)
  (B : Nat) (A : Option Addr) (m c : Nat) (S : List Int) (hm : S.length = m) (hx : ρ x = .slice A m c) (hr : Reads u B 1 A m (S.flatMap intE)) (hsz : n0 + m ≤ 10000000) (hbase : base ≤ u.heap.size)
  (h : ∀ A' c' w', OwnZ w' base A' c' (S0 ++ S) → u.grownBy w' (ownB A0) → (ownB A' = ownB A0 ∨ ownB A' = some u.heap.size) → F (.slice A' (n0 + m) c') w' ∧ S1 w' ∧ St u w') : OpGood Tryz.prog F S1 St u ((execOp ρ o).run Tryz.prog u) := by
 obtain ⟨i0, hi, hz0, hz1, hz2⟩ := info_parts infoInt
 subst hn0 hm
 refine zAd s x 29 ho base 3 i0 _ 1 8 Tryz.underlying29 hi hz0 hz1 hz2 rfl (by decide) A0 S0.length c0 _ hs hown B A S.length c _ hx hr (one_intE S) (by unfold maxLen; omega) (by omega) hbase ?_
 intro A' c' w' h1 h2 h3
 exact h A' c' w' (by unfold OwnZ; rw [List.flatMap_append, List.length_append]; exact h1) h2 h3
theorem ownZ_rd {w : World} {b c : Nat} {A : Option Addr} {l : List Int} (h : OwnZ w b A c l) : Reads w w.heap.size 1 A l.length (l.flatMap intE) := Own.reads h
def pGat {α : Type} (own : World → Option Addr → Nat → List α → Prop) (L0 : List α) (n : Nat) (v : Value) (u : World) : Prop := ∃ A c l, v = .slice A l.length c ∧ zga l L0 ∧ l.length ≤ n ∧ own u A c l
theorem zlg {α : Type} {own : World → Option Addr → Nat → List α → Prop} {L0 : List α} {n : Nat} (h : ∀ u u' A c l, Below u.heap.size u u' → own u A c l → own u' A c l) : zkb (pGat own L0 n) := fun v u u' hb ⟨A, c, l, e, h1, h2, ho⟩ => ⟨A, c, l, e, h1, h2, h u u' A c l hb ho⟩
def pRow {α : Type} (own : World → Option Addr → Nat → List α → Prop) (old : Option Nat) (M : Nat) (L0 : List α) (n : Nat) (v : Value) (u : World) : Prop := ∃ A c l, v = .slice A l.length c ∧ zga l L0 ∧ l.length ≤ n ∧ own u A c l ∧ (ownB A = old ∨ ∀ k, ownB A = some k → M ≤ k)
theorem pRow_st {α : Type} {own : World → Option Addr → Nat → List α → Prop} {old : Option Nat} {M : Nat} {L0 : List α} {n : Nat} (h : ∀ u u' A c l, Below u.heap.size u u' → own u A c l → own u' A c l) : zkb (pRow own old M L0 n) := fun v u u' hb ⟨A, c, l, e, h1, h2, ho, h3⟩ => ⟨A, c, l, e, h1, h2, h u u' A c l hb ho, h3⟩
def sj3 (a b c : World → Prop) (j : Nat) (u : World) : Prop := (j = 0 → a u) ∧ (j = 1 → b u) ∧ (j = 2 → c u)
theorem sj3_0 {a b c : World → Prop} {u : World} (h : a u) : sj3 a b c 0 u := ⟨fun _ => h, fun h => absurd h (by omega), fun h => absurd h (by omega)⟩
theorem sj3_1 {a b c : World → Prop} {u : World} (h : b u) : sj3 a b c 1 u := ⟨fun h => absurd h (by omega), fun _ => h, fun h => absurd h (by omega)⟩
theorem sj3_2 {a b c : World → Prop} {u : World} (h : c u) : sj3 a b c 2 u := ⟨fun h => absurd h (by omega), fun h => absurd h (by omega), fun _ => h⟩
set_option maxRecDepth 100000 in
set_option maxHeartbeats 4000000 in
theorem zhc (N g : Nat) (f : SL (Int × Int)) (h r : SL Int) (ex : SL ExD) (w : World) (hA : AccB N g f h r w) (hX : SLR w N 3 ExD.enc (fun _ => True) ex) (hxl : ex.l.length ≤ 1000) (hfl : f.l.length ≤ 1000000) (hhl : h.l.length ≤ 1000000) :
  Calls Tryz.prog 138 #[.pointer (some ⟨g, 0, none⟩), .slice ex.a ex.l.length ex.c] w fun e w' => e = .returned (.tuple #[]) ∧ AccStep N g f h r (exAcc ex.l) ex.l.length w w' := by
 have HA := Hd hA
 have hNg := hA.lo
 have hNw : N ≤ w.heap.size := by have := hA.box.lt; omega
 have HX := Hd (show ∀ W : World, Below N w W → SLR W W.heap.size 3 ExD.enc (fun _ => True) ex from fun W hb => (hX.below hb).more (Nat.le_trans hNw hb.size))
 clear hA hX
 go_enter Tryz.func138, Tryz.ntmps138
 go_wp2_with fail
 obtain ⟨M0, hM0⟩ : ∃ z, w.heap.size = z := ⟨_, rfl⟩
 have hgM0 : g < M0 := by rw [← hM0]; exact HA.out.box.lt
 obtain ⟨c0, f0⟩ : (∀ i, w.cell? ⟨g, i, none⟩ = _) ∧ (∀ i, w.frozen? ⟨g, i, none⟩ = false) := ⟨fun i => HA.out.box.cell i, fun i => HA.out.box.frozen i⟩
 have hstab : zba ([leq (.pointer (some ⟨g, 0, none⟩)), leq (.pointer (some ⟨g, 0, none⟩)), leq (.pointer (some ⟨g, 0, none⟩)), leq (.pointer (some ⟨g, 0, none⟩)), leq (.slice f.a f.l.length f.c), leq (.slice ex.a ex.l.length ex.c), lat 0 (pGat (fun u A c l => OwnFR u M0 A c l) (fieldsOf ex.l) ex.l.length), lat 1 (pRow (fun u A c l => OwnFR u (g + 1) A c l) (ownB f.a) M0 (f.l ++ fieldsOf ex.l) (f.l.length + ex.l.length)), leq (.pointer (some ⟨g, 0, none⟩)), leq (.pointer (some ⟨g, 0, none⟩)), lany]) := zba.cons_ (zea _) (zba.cons_ (zea _) (zba.cons_ (zea _) (zba.cons_ (zea _) (zba.cons_ (zea _) (zba.cons_ (zea _) (zba.cons_ (zic (zlg fun _ _ _ _ _ hb ho => Own.below ho hb)) (zba.cons_ (zic (pRow_st fun _ _ _ _ _ hb ho => Own.below ho hb)) (zba.cons_ (zea _) (zba.cons_ (zea _) (zba.cons_ zfc (zba.nil_)))))))))))
 have Hq9 := Hd (show ∀ i j, List.contains (Chain.effs ⟨[7, 10], [(0, 1), (0, 0), (0, 0), (0, 0), (0, 0), (0, 0), (0, 0), (0, 0), (1, 1), (1, 1), (1, 1)]⟩) i = false → Chain.next ⟨[7, 10], [(0, 1), (0, 0), (0, 0), (0, 0), (0, 0), (0, 0), (0, 0), (0, 0), (1, 1), (1, 1), (1, 1)]⟩ i j = j from fun i j h => zya h)
 refine zja ⟨[7, 10], [(0, 1), (0, 0), (0, 0), (0, 0), (0, 0), (0, 0), (0, 0), (0, 0), (1, 1), (1, 1), (1, 1)]⟩ (sj3 (fun u => Below M0 w u) (fun u => KeptF (fun k => ownB f.a = some k) w u) (fun u => ∃ f' : SL (Int × Int), AccB N g f' h r u ∧ zga f'.l (f.l ++ fieldsOf ex.l) ∧ f'.l.length ≤ f.l.length + ex.l.length ∧ Sub (AccF g f h r) (AccF g f' h r) M0 ∧ KeptF (AccF g f h r) w u)) ([leq (.pointer (some ⟨g, 0, none⟩)), leq (.pointer (some ⟨g, 0, none⟩)), leq (.pointer (some ⟨g, 0, none⟩)), leq (.pointer (some ⟨g, 0, none⟩)), leq (.slice f.a f.l.length f.c), leq (.slice ex.a ex.l.length ex.c), lat 0 (pGat (fun u A c l => OwnFR u M0 A c l) (fieldsOf ex.l) ex.l.length), lat 1 (pRow (fun u A c l => OwnFR u (g + 1) A c l) (ownB f.a) M0 (f.l ++ fieldsOf ex.l) (f.l.length + ex.l.length)), leq (.pointer (some ⟨g, 0, none⟩)), leq (.pointer (some ⟨g, 0, none⟩)), lany]) (by kernel_rfl) (by kernel_rfl) (by kernel_rfl) (by kernel_rfl) ?_ ?_ ?_
 ·exact sj3_0 (by rw [← hM0]; exact (Below.refl _ _).drew)
 ·show zQb _ _ _ _ _ _ 0 _
  refine ⟨?_, ?_, ?_, ?_, ?_, ?_, ?_, ?_, ?_, ?_, ?_, trivial⟩
  ·intro j hj ρ y u hS hc hf hg hfree hdep
   obtain ⟨hj0, hj1⟩ := hj _ rfl
   dsimp only at hj0 hj1
   rw [Hq9.out _ j rfl]
   have e0 : ρ (.tmp 0) = .pointer (some ⟨g, 0, none⟩) := hfree 0 rfl
   refine ⟨fun _ => ?_, zaa rfl⟩
   clear hdep hfree hj
   go_simp
   exact ⟨rfl, hS, KL hstab⟩
  ·intro j hj ρ y u hS hc hf hg hfree hdep
   obtain rfl := jz hj rfl
   rw [Hq9.out _ 0 rfl]
   have e0 : ρ (.tmp 0) = .pointer (some ⟨g, 0, none⟩) := hfree 0 rfl
   refine ⟨fun _ => ?_, zaa rfl⟩
   clear hdep hfree hj
   go_simp
   exact ⟨rfl, hS, KL hstab⟩
  ·intro j hj ρ y u hS hc hf hg hfree hdep
   obtain rfl := jz hj rfl
   rw [Hq9.out _ 0 rfl]
   have e5 : ρ (.tmp 5) = _ := (hdep 1 _ 5 rfl rfl rfl).1
   refine ⟨fun _ => ?_, zaa rfl⟩
   clear hdep hfree hj
   go_simp
   exact ⟨rfl, hS, KL hstab⟩
  ·intro j hj ρ y u hS hc hf hg hfree hdep
   obtain rfl := jz hj rfl
   rw [Hq9.out _ 0 rfl]
   have e6 : ρ (.tmp 6) = _ := (hdep 2 _ 6 rfl rfl rfl).1
   refine ⟨fun _ => ?_, zaa rfl⟩
   clear hdep hfree hj
   go_simp
   exact ⟨rfl, hS, KL hstab⟩
  ·intro j hj ρ y u hS hc hf hg hfree hdep
   obtain rfl := jz hj rfl
   rw [Hq9.out _ 0 rfl]
   have e7 : ρ (.tmp 7) = _ := (hdep 3 _ 7 rfl rfl rfl).1
   refine ⟨fun _ => ?_, zaa rfl⟩
   clear hdep hfree hj
   have d0 : u.cell? ⟨g, 0, none⟩ = some _ := ((hS.1 rfl).cell (p := ⟨g, 0, none⟩) hgM0).trans (c0 0)
   go_simp
   exact ⟨rfl, hS, KL hstab⟩
  ·intro j hj ρ y u hS hc hf hg hfree hdep
   obtain rfl := jz hj rfl
   rw [Hq9.out _ 0 rfl]
   have e1 : ρ (.tmp 1) = .slice ex.a ex.l.length ex.c := hfree 1 rfl
   refine ⟨fun _ => ?_, zaa rfl⟩
   clear hdep hfree hj
   go_simp
   exact ⟨rfl, hS, KL hstab⟩
  ·intro j hj ρ y u hS hc hf hg hfree hdep
   obtain rfl := jz hj rfl
   rw [Hq9.out _ 0 rfl]
   have e9 : ρ (.tmp 9) = _ := (hdep 5 _ 9 rfl rfl rfl).1
   refine ⟨fun _ => ?_, zaa rfl⟩
   clear hdep hfree hj
   have hS0 := hS.1 rfl
   have hMu : M0 ≤ u.heap.size := by have := hS0.size; omega
   go_simp
   refine zha (zrf ex u ((HX.out w (by first | exact Below.refl _ _ | exact HBW1.out)).below (by rw [hM0]; exact hS0) |>.more (by rw [hM0]; exact hMu)) hxl) ?_
   rintro e w' ⟨⟨A3, c3, l3, hs3, hl3, rfl, hO3⟩, hb3⟩
   exact ⟨_, rfl, (fun _ => ⟨A3, c3, l3, rfl, hs3, hl3, Own.rebase hO3 hMu⟩), sj3_0 (hS0.trans (hb3.mono hMu)), KeepL.below hb3 _ _ 0 hstab⟩
  ·intro j hj ρ y u hS hc hf hg hfree hdep
   obtain rfl := jz hj rfl
   rw [show Chain.next ⟨[7, 10], [(0, 1), (0, 0), (0, 0), (0, 0), (0, 0), (0, 0), (0, 0), (0, 0), (1, 1), (1, 1), (1, 1)]⟩ 7 0 = 1 from rfl]
   have e8 : ρ (.tmp 8) = _ := (hdep 4 _ 8 rfl rfl rfl).1
   have r10 := (hdep 6 _ 10 rfl rfl rfl).1
   refine ⟨fun _ => ?_, zaa rfl⟩
   clear hdep hfree hj
   have hS0 := hS.1 rfl
   have hMu : M0 ≤ u.heap.size := by have := hS0.size; omega
   have hSx : Below w.heap.size w u := by rw [hM0]; exact hS0
   obtain ⟨A3, c3, l3, e3, hs3, hl3, hO3⟩ := r10 rfl
   refine zhd (.tmp 8) (.tmp 10) rfl (g + 1) f.a f.l.length f.c f.l rfl e8 (Own.below HA.out.fo hSx) _ A3 l3.length c3 l3 rfl e3 ((fun h => (OwnFR_slr h).rd) hO3) (by omega) (by omega) ?_
   intro A2 c2 w2 hO2 hG2 hA2
   have hbA : ownB A2 = ownB f.a ∨ ∀ k, ownB A2 = some k → M0 ≤ k := hA2.imp id fun h k hk => by rw [h] at hk; injection hk with hk; omega
   refine ⟨fun _ => ⟨A2, c2, f.l ++ l3, by rw [List.length_append], hs3.app_l _, by rw [List.length_append]; omega, hO2, hbA⟩, sj3_1 ((KeptF.of_below hSx).step_grown hG2 fun k hk => hk), ⟨.inr (.inr (fun h => h)), .inr (.inr (fun h => h)), .inr (.inr (fun h => h)), .inr (.inr (fun h => h)), .inr (.inr (fun h => h)), .inr (.inr (fun h => h)), .inr (.inr (fun _ => zbc (by omega))), .inl rfl, .inr (.inl (by kernel_rfl)), .inr (.inl (by kernel_rfl)), trivial, trivial⟩⟩
  ·intro j hj ρ y u hS hc hf hg hfree hdep
   obtain rfl := jz hj rfl
   rw [Hq9.out _ 1 rfl]
   have e4 : ρ (.tmp 4) = _ := (hdep 0 _ 4 rfl rfl rfl).1
   refine ⟨fun _ => ?_, zaa rfl⟩
   clear hdep hfree hj
   go_simp
   exact ⟨rfl, hS, KL hstab⟩
  ·intro j hj ρ y u hS hc hf hg hfree hdep
   obtain rfl := jz hj rfl
   rw [Hq9.out _ 1 rfl]
   have e12 : ρ (.tmp 12) = _ := (hdep 8 _ 12 rfl rfl rfl).1
   refine ⟨fun _ => ?_, zaa rfl⟩
   clear hdep hfree hj
   go_simp
   exact ⟨rfl, hS, KL hstab⟩
  ·intro j hj ρ y u hS hc hf hg hfree hdep
   obtain rfl := jz hj rfl
   rw [show Chain.next ⟨[7, 10], [(0, 1), (0, 0), (0, 0), (0, 0), (0, 0), (0, 0), (0, 0), (0, 0), (1, 1), (1, 1), (1, 1)]⟩ 10 1 = 2 from rfl]
   have r11 := (hdep 7 _ 11 rfl rfl rfl).1
   have e13 : ρ (.tmp 13) = _ := (hdep 9 _ 13 rfl rfl rfl).1
   refine ⟨fun _ => ?_, zaa rfl⟩
   clear hdep hfree hj
   have hS1 := hS.2.1 rfl
   obtain ⟨A2, c2, L2, e2, hs2, hl2, hO2, hb2⟩ := r11 rfl
   have hset := HA.out.setF hS1 hO2 (by rw [hM0]; exact hb2)
   have hnk : ¬ ownB f.a = some g := zGc HA.out.fo HA.out.box (by decide)
   have hbx := hS1.blk HA.out.box hnk
   obtain ⟨d0, d1⟩ : (∀ i, u.cell? ⟨g, i, none⟩ = _) ∧ (∀ i, u.frozen? ⟨g, i, none⟩ = false) := ⟨fun i => hbx.cell i, fun i => hbx.frozen i⟩
   have d2 := hbx.lt
   go_simp
   refine ⟨trivial, sj3_2 ⟨⟨A2, c2, L2⟩, hset.1, hs2, hl2, by rw [← hM0]; exact hset.2.1, hset.2.2⟩, ⟨.inr (.inr (fun h => h)), .inr (.inr (fun h => h)), .inr (.inr (fun h => h)), .inr (.inr (fun h => h)), .inr (.inr (fun h => h)), .inr (.inr (fun h => h)), .inr (.inr (fun _ => zbc (by omega))), .inr (.inr (fun _ => zbc (by omega))), .inr (.inr (fun h => h)), .inr (.inr (fun h => h)), trivial, trivial⟩⟩
 intro u hS
 rintro _ rfl _ rfl _ rfl _ rfl _ rfl _ rfl _ r_10 _ r_11 _ rfl _ rfl
 simp only [zxb, Act.put, List.setIfInBounds_toArray, List.set_cons_zero, List.set_cons_succ]
 obtain ⟨f1, hA1, hs1, hl1, hS1, hK1⟩ := hS.2.2 rfl
 obtain ⟨W1, hW1⟩ : ∃ z, u = z := ⟨_, rfl⟩
 rw [hW1] at hA1 hK1 ⊢
 have HA1 := Hd hA1
 have HS1 := Hd hS1
 have HK1 := Hd hK1
 have HSm1 := Hd hs1
 have hb1 : Below N w W1 := hK1.below (fun k hk => (HA.out.foot hk).1) hNw
 have HBW1 := Hd hb1
 clear hW1 hA1 hS1 hK1 hs1 hS r_10 r_11 c0 f0 hstab hb1
 go_wp2_with fail
 obtain ⟨M1, hM1⟩ : ∃ z, W1.heap.size = z := ⟨_, rfl⟩
 have hgM1 : g < M1 := by rw [← hM1]; exact HA1.out.box.lt
 obtain ⟨c0, f0⟩ : (∀ i, W1.cell? ⟨g, i, none⟩ = _) ∧ (∀ i, W1.frozen? ⟨g, i, none⟩ = false) := ⟨fun i => HA1.out.box.cell i, fun i => HA1.out.box.frozen i⟩
 have hstab : zba ([leq (.pointer (some ⟨g, 0, none⟩)), leq (.pointer (some ⟨g, 0, none⟩)), leq (.pointer (some ⟨g, 0, none⟩)), leq (.pointer (some ⟨g, 1, none⟩)), leq (.slice h.a h.l.length h.c), leq (.slice ex.a ex.l.length ex.c), lat 0 (pGat (fun u A c l => OwnZ u M1 A c l) (zCa ex.l) ex.l.length), lat 1 (pRow (fun u A c l => OwnZ u (g + 1) A c l) (ownB h.a) M1 (h.l ++ zCa ex.l) (h.l.length + ex.l.length)), leq (.pointer (some ⟨g, 0, none⟩)), leq (.pointer (some ⟨g, 1, none⟩)), lany]) := zba.cons_ (zea _) (zba.cons_ (zea _) (zba.cons_ (zea _) (zba.cons_ (zea _) (zba.cons_ (zea _) (zba.cons_ (zea _) (zba.cons_ (zic (zlg fun _ _ _ _ _ hb ho => Own.below ho hb)) (zba.cons_ (zic (pRow_st fun _ _ _ _ _ hb ho => Own.below ho hb)) (zba.cons_ (zea _) (zba.cons_ (zea _) (zba.cons_ zfc (zba.nil_)))))))))))
 have Hq9 := Hd (show ∀ i j, List.contains (Chain.effs ⟨[7, 10], [(0, 1), (0, 0), (0, 0), (0, 0), (0, 0), (0, 0), (0, 0), (0, 0), (1, 1), (1, 1), (1, 1)]⟩) i = false → Chain.next ⟨[7, 10], [(0, 1), (0, 0), (0, 0), (0, 0), (0, 0), (0, 0), (0, 0), (0, 0), (1, 1), (1, 1), (1, 1)]⟩ i j = j from fun i j h => zya h)
 refine zja ⟨[7, 10], [(0, 1), (0, 0), (0, 0), (0, 0), (0, 0), (0, 0), (0, 0), (0, 0), (1, 1), (1, 1), (1, 1)]⟩ (sj3 (fun u => Below M1 W1 u) (fun u => KeptF (fun k => ownB h.a = some k) W1 u) (fun u => ∃ h' : SL Int, AccB N g f1 h' r u ∧ zga h'.l (h.l ++ zCa ex.l) ∧ h'.l.length ≤ h.l.length + ex.l.length ∧ Sub (AccF g f1 h r) (AccF g f1 h' r) M1 ∧ KeptF (AccF g f1 h r) W1 u)) ([leq (.pointer (some ⟨g, 0, none⟩)), leq (.pointer (some ⟨g, 0, none⟩)), leq (.pointer (some ⟨g, 0, none⟩)), leq (.pointer (some ⟨g, 1, none⟩)), leq (.slice h.a h.l.length h.c), leq (.slice ex.a ex.l.length ex.c), lat 0 (pGat (fun u A c l => OwnZ u M1 A c l) (zCa ex.l) ex.l.length), lat 1 (pRow (fun u A c l => OwnZ u (g + 1) A c l) (ownB h.a) M1 (h.l ++ zCa ex.l) (h.l.length + ex.l.length)), leq (.pointer (some ⟨g, 0, none⟩)), leq (.pointer (some ⟨g, 1, none⟩)), lany]) (by kernel_rfl) (by kernel_rfl) (by kernel_rfl) (by kernel_rfl) ?_ ?_ ?_
 ·exact sj3_0 (by rw [← hM1]; exact (Below.refl _ _).drew)
 ·show zQb _ _ _ _ _ _ 0 _
  refine ⟨?_, ?_, ?_, ?_, ?_, ?_, ?_, ?_, ?_, ?_, ?_, trivial⟩
  ·intro j hj ρ y u hS hc hf hg hfree hdep
   obtain ⟨hj0, hj1⟩ := hj _ rfl
   dsimp only at hj0 hj1
   rw [Hq9.out _ j rfl]
   have e0 : ρ (.tmp 0) = .pointer (some ⟨g, 0, none⟩) := hfree 0 rfl
   refine ⟨fun _ => ?_, zaa rfl⟩
   clear hdep hfree hj
   go_simp
   exact ⟨rfl, hS, KL hstab⟩
  ·intro j hj ρ y u hS hc hf hg hfree hdep
   obtain rfl := jz hj rfl
   rw [Hq9.out _ 0 rfl]
   have e0 : ρ (.tmp 0) = .pointer (some ⟨g, 0, none⟩) := hfree 0 rfl
   refine ⟨fun _ => ?_, zaa rfl⟩
   clear hdep hfree hj
   go_simp
   exact ⟨rfl, hS, KL hstab⟩
  ·intro j hj ρ y u hS hc hf hg hfree hdep
   obtain rfl := jz hj rfl
   rw [Hq9.out _ 0 rfl]
   have e15 : ρ (.tmp 15) = _ := (hdep 1 _ 15 rfl rfl rfl).1
   refine ⟨fun _ => ?_, zaa rfl⟩
   clear hdep hfree hj
   go_simp
   exact ⟨rfl, hS, KL hstab⟩
  ·intro j hj ρ y u hS hc hf hg hfree hdep
   obtain rfl := jz hj rfl
   rw [Hq9.out _ 0 rfl]
   have e16 : ρ (.tmp 16) = _ := (hdep 2 _ 16 rfl rfl rfl).1
   refine ⟨fun _ => ?_, zaa rfl⟩
   clear hdep hfree hj
   go_simp
   exact ⟨rfl, hS, KL hstab⟩
  ·intro j hj ρ y u hS hc hf hg hfree hdep
   obtain rfl := jz hj rfl
   rw [Hq9.out _ 0 rfl]
   have e17 : ρ (.tmp 17) = _ := (hdep 3 _ 17 rfl rfl rfl).1
   refine ⟨fun _ => ?_, zaa rfl⟩
   clear hdep hfree hj
   have d0 : u.cell? ⟨g, 1, none⟩ = some _ := ((hS.1 rfl).cell (p := ⟨g, 1, none⟩) hgM1).trans (c0 1)
   go_simp
   exact ⟨rfl, hS, KL hstab⟩
  ·intro j hj ρ y u hS hc hf hg hfree hdep
   obtain rfl := jz hj rfl
   rw [Hq9.out _ 0 rfl]
   have e1 : ρ (.tmp 1) = .slice ex.a ex.l.length ex.c := hfree 1 rfl
   refine ⟨fun _ => ?_, zaa rfl⟩
   clear hdep hfree hj
   go_simp
   exact ⟨rfl, hS, KL hstab⟩
  ·intro j hj ρ y u hS hc hf hg hfree hdep
   obtain rfl := jz hj rfl
   rw [Hq9.out _ 0 rfl]
   have e19 : ρ (.tmp 19) = _ := (hdep 5 _ 19 rfl rfl rfl).1
   refine ⟨fun _ => ?_, zaa rfl⟩
   clear hdep hfree hj
   have hS0 := hS.1 rfl
   have hMu : M1 ≤ u.heap.size := by have := hS0.size; omega
   go_simp
   refine zha (zze ex u ((HX.out W1 (by first | exact Below.refl _ _ | exact HBW1.out)).below (by rw [hM1]; exact hS0) |>.more (by rw [hM1]; exact hMu)) hxl) ?_
   rintro e w' ⟨⟨A3, c3, l3, hs3, hl3, rfl, hO3⟩, hb3⟩
   exact ⟨_, rfl, (fun _ => ⟨A3, c3, l3, rfl, hs3, hl3, Own.rebase hO3 hMu⟩), sj3_0 (hS0.trans (hb3.mono hMu)), KeepL.below hb3 _ _ 0 hstab⟩
  ·intro j hj ρ y u hS hc hf hg hfree hdep
   obtain rfl := jz hj rfl
   rw [show Chain.next ⟨[7, 10], [(0, 1), (0, 0), (0, 0), (0, 0), (0, 0), (0, 0), (0, 0), (0, 0), (1, 1), (1, 1), (1, 1)]⟩ 7 0 = 1 from rfl]
   have e18 : ρ (.tmp 18) = _ := (hdep 4 _ 18 rfl rfl rfl).1
   have r20 := (hdep 6 _ 20 rfl rfl rfl).1
   refine ⟨fun _ => ?_, zaa rfl⟩
   clear hdep hfree hj
   have hS0 := hS.1 rfl
   have hMu : M1 ≤ u.heap.size := by have := hS0.size; omega
   have hSx : Below W1.heap.size W1 u := by rw [hM1]; exact hS0
   obtain ⟨A3, c3, l3, e3, hs3, hl3, hO3⟩ := r20 rfl
   refine int2_good (.tmp 18) (.tmp 20) rfl (g + 1) h.a h.l.length h.c h.l rfl e18 (Own.below HA1.out.ho hSx) _ A3 l3.length c3 l3 rfl e3 (ownZ_rd hO3) (by omega) (by omega) ?_
   intro A2 c2 w2 hO2 hG2 hA2
   have hbA : ownB A2 = ownB h.a ∨ ∀ k, ownB A2 = some k → M1 ≤ k := hA2.imp id fun h k hk => by rw [h] at hk; injection hk with hk; omega
   refine ⟨fun _ => ⟨A2, c2, h.l ++ l3, by rw [List.length_append], hs3.app_l _, by rw [List.length_append]; omega, hO2, hbA⟩, sj3_1 ((KeptF.of_below hSx).step_grown hG2 fun k hk => hk), ⟨.inr (.inr (fun h => h)), .inr (.inr (fun h => h)), .inr (.inr (fun h => h)), .inr (.inr (fun h => h)), .inr (.inr (fun h => h)), .inr (.inr (fun h => h)), .inr (.inr (fun _ => zbc (by omega))), .inl rfl, .inr (.inl (by kernel_rfl)), .inr (.inl (by kernel_rfl)), trivial, trivial⟩⟩
  ·intro j hj ρ y u hS hc hf hg hfree hdep
   obtain rfl := jz hj rfl
   rw [Hq9.out _ 1 rfl]
   have e14 : ρ (.tmp 14) = _ := (hdep 0 _ 14 rfl rfl rfl).1
   refine ⟨fun _ => ?_, zaa rfl⟩
   clear hdep hfree hj
   go_simp
   exact ⟨rfl, hS, KL hstab⟩
  ·intro j hj ρ y u hS hc hf hg hfree hdep
   obtain rfl := jz hj rfl
   rw [Hq9.out _ 1 rfl]
   have e22 : ρ (.tmp 22) = _ := (hdep 8 _ 22 rfl rfl rfl).1
   refine ⟨fun _ => ?_, zaa rfl⟩
   clear hdep hfree hj
   go_simp
   exact ⟨rfl, hS, KL hstab⟩
  ·intro j hj ρ y u hS hc hf hg hfree hdep
   obtain rfl := jz hj rfl
   rw [show Chain.next ⟨[7, 10], [(0, 1), (0, 0), (0, 0), (0, 0), (0, 0), (0, 0), (0, 0), (0, 0), (1, 1), (1, 1), (1, 1)]⟩ 10 1 = 2 from rfl]
   have r21 := (hdep 7 _ 21 rfl rfl rfl).1
   have e23 : ρ (.tmp 23) = _ := (hdep 9 _ 23 rfl rfl rfl).1
   refine ⟨fun _ => ?_, zaa rfl⟩
   clear hdep hfree hj
   have hS1 := hS.2.1 rfl
   obtain ⟨A2, c2, L2, e2, hs2, hl2, hO2, hb2⟩ := r21 rfl
   have hset := HA1.out.setH hS1 hO2 (by rw [hM1]; exact hb2)
   have hnk : ¬ ownB h.a = some g := zGc HA1.out.ho HA1.out.box (by decide)
   have hbx := hS1.blk HA1.out.box hnk
   obtain ⟨d0, d1⟩ : (∀ i, u.cell? ⟨g, i, none⟩ = _) ∧ (∀ i, u.frozen? ⟨g, i, none⟩ = false) := ⟨fun i => hbx.cell i, fun i => hbx.frozen i⟩
   have d2 := hbx.lt
   go_simp
   refine ⟨trivial, sj3_2 ⟨⟨A2, c2, L2⟩, hset.1, hs2, hl2, by rw [← hM1]; exact hset.2.1, hset.2.2⟩, ⟨.inr (.inr (fun h => h)), .inr (.inr (fun h => h)), .inr (.inr (fun h => h)), .inr (.inr (fun h => h)), .inr (.inr (fun h => h)), .inr (.inr (fun h => h)), .inr (.inr (fun _ => zbc (by omega))), .inr (.inr (fun _ => zbc (by omega))), .inr (.inr (fun h => h)), .inr (.inr (fun h => h)), trivial, trivial⟩⟩
 intro u hS
 rintro _ rfl _ rfl _ rfl _ rfl _ rfl _ rfl _ r_20 _ r_21 _ rfl _ rfl
 simp only [zxb, Act.put, List.setIfInBounds_toArray, List.set_cons_zero, List.set_cons_succ]
 obtain ⟨h2, hA2, hs2, hl2, hS2, hK2⟩ := hS.2.2 rfl
 have HA2 := Hd hA2
 have HE := Hd (show AccStep N g f h r (exAcc ex.l) ex.l.length w u from ⟨f1, h2, r, hA2, HSm1.out, hs2, by unfold exAcc; rw [List.append_nil]; exact zga.refl _, hl1, hl2, by omega, (by rw [hM0]; exact HS1.out.trans hS2 (by have := HK1.out.size; omega)), HK1.out.trans (by rw [hM0]; exact HS1.out) hK2⟩)
 clear hA2 hs2 hS2 hK2 hS r_20 r_21 c0 f0 hstab
 go_wp2_with fail
 go_returns
 exact ⟨rfl, HE.out⟩
open Go.RowKit
structure AccTo (N g : Nat) (f : SL (Int × Int)) (h r : SL Int) (a : Acc) (n : Nat) (w w' : World) (f' : SL (Int × Int)) (h' r' : SL Int) : Prop where
 b : AccB N g f' h' r' w'
 sf : zga f'.l (f.l ++ a.f)
 sh : zga h'.l (h.l ++ a.h)
 sr : zga r'.l (r.l ++ a.r)
 nf : f'.l.length ≤ f.l.length + n
 nh : h'.l.length ≤ h.l.length + n
 nr : r'.l.length ≤ r.l.length + n
 sub : Sub (AccF g f h r) (AccF g f' h' r') w.heap.size
 kept : KeptF (AccF g f h r) w w'
section
variable {N g : Nat} {f f1 f2 : SL (Int × Int)} {h r h1 r1 h2 r2 : SL Int} {a b : Acc} {n m : Nat} {w w1 w2 : World}
theorem AccTo.refl (hb : AccB N g f h r w) : AccTo N g f h r .none_ 0 w w f h r :=
 ⟨hb, by unfold Acc.none_; rw [List.append_nil]; exact zga.refl _, by unfold Acc.none_; rw [List.append_nil]; exact zga.refl _, by unfold Acc.none_; rw [List.append_nil]; exact zga.refl _, Nat.le_refl _, Nat.le_refl _, Nat.le_refl _, Sub.refl _ _, KeptF.refl _ _⟩
theorem AccTo.trans (x : AccTo N g f h r a n w w1 f1 h1 r1) (y : AccTo N g f1 h1 r1 b m w1 w2 f2 h2 r2) : AccTo N g f h r (a.app b) (n + m) w w2 f2 h2 r2 :=
 ⟨y.b, y.sf.trans (by rw [Acc.app]; simp only; rw [← List.append_assoc]; exact x.sf.app (zga.refl _)), y.sh.trans (by rw [Acc.app]; simp only; rw [← List.append_assoc]; exact x.sh.app (zga.refl _)), y.sr.trans (by rw [Acc.app]; simp only; rw [← List.append_assoc]; exact x.sr.app (zga.refl _)),
  by have := x.nf; have := y.nf; omega, by have := x.nh; have := y.nh; omega, by have := x.nr; have := y.nr; omega, x.sub.trans y.sub x.kept.size, x.kept.trans x.sub y.kept⟩
theorem AccTo.of_step (x : AccStep N g f h r a n w w1) : ∃ f' h' r', AccTo N g f h r a n w w1 f' h' r' := by
 obtain ⟨f', h', r', q1, q2, q3, q4, q5, q6, q7, q8, q9⟩ := x
 exact ⟨f', h', r', q1, q2, q3, q4, q5, q6, q7, q8, q9⟩
theorem Acc.app_none (a : Acc) : a.app .none_ = a := by unfold Acc.app Acc.none_; simp
theorem Acc.none_app (a : Acc) : Acc.none_.app a = a := by unfold Acc.app Acc.none_; simp
theorem AccTo.pushF (hb : AccB N g f h r w) {wl w8 : World} {A : Option Addr} {c : Nat} {x : Int × Int} (hl : Below w.heap.size w wl) (hg : wl.grownBy w8 (ownB f.a)) (ho : OwnFR w8 (g + 1) A c (f.l ++ [x])) (hA : ownB A = ownB f.a ∨ ownB A = some wl.heap.size) :
  AccTo N g f h r ⟨[x], [], []⟩ 1 w (w8.setCell ⟨g, 0, none⟩ (.slice A (f.l.length + 1) c)) ⟨A, c, f.l ++ [x]⟩ h r := by
 have hk : KeptF (fun k => ownB f.a = some k) w w8 := (KeptF.of_below hl).step_grown hg fun k hk => hk
 have hs := hb.setF hk ho (hA.imp id fun e k hk => by rw [e] at hk; injection hk with hk; have := hl.size; omega)
 rw [List.length_append] at hs
 exact ⟨hs.1, zga.refl _, by rw [List.append_nil]; exact zga.refl _, by rw [List.append_nil]; exact zga.refl _, by simp, by omega, by omega, hs.2.1, hs.2.2⟩
theorem AccTo.pushH (hb : AccB N g f h r w) {wl w8 : World} {A : Option Addr} {c : Nat} {x : Int} (hl : Below w.heap.size w wl) (hg : wl.grownBy w8 (ownB h.a)) (ho : OwnZ w8 (g + 1) A c (h.l ++ [x])) (hA : ownB A = ownB h.a ∨ ownB A = some wl.heap.size) :
  AccTo N g f h r ⟨[], [x], []⟩ 1 w (w8.setCell ⟨g, 1, none⟩ (.slice A (h.l.length + 1) c)) f ⟨A, c, h.l ++ [x]⟩ r := by
 have hk : KeptF (fun k => ownB h.a = some k) w w8 := (KeptF.of_below hl).step_grown hg fun k hk => hk
 have hs := hb.setH hk ho (hA.imp id fun e k hk => by rw [e] at hk; injection hk with hk; have := hl.size; omega)
 rw [List.length_append] at hs
 exact ⟨hs.1, by rw [List.append_nil]; exact zga.refl _, zga.refl _, by rw [List.append_nil]; exact zga.refl _, by omega, by simp, by omega, hs.2.1, hs.2.2⟩
theorem AccTo.pushR (hb : AccB N g f h r w) {wl w8 : World} {A : Option Addr} {c : Nat} {x : Int} (hl : Below w.heap.size w wl) (hg : wl.grownBy w8 (ownB r.a)) (ho : OwnZ w8 (g + 1) A c (r.l ++ [x])) (hA : ownB A = ownB r.a ∨ ownB A = some wl.heap.size) :
  AccTo N g f h r ⟨[], [], [x]⟩ 1 w (w8.setCell ⟨g, 2, none⟩ (.slice A (r.l.length + 1) c)) f h ⟨A, c, r.l ++ [x]⟩ := by
 have hk : KeptF (fun k => ownB r.a = some k) w w8 := (KeptF.of_below hl).step_grown hg fun k hk => hk
 have hs := hb.setR hk ho (hA.imp id fun e k hk => by rw [e] at hk; injection hk with hk; have := hl.size; omega)
 rw [List.length_append] at hs
 exact ⟨hs.1, by rw [List.append_nil]; exact zga.refl _, by rw [List.append_nil]; exact zga.refl _, zga.refl _, by omega, by omega, by simp, hs.2.1, hs.2.2⟩
theorem AccTo.conv (x : AccTo N g f h r a n w w1 f1 h1 r1) {a' : Acc} {n' : Nat} (ha : a' = a) (hn : n ≤ n') : AccTo N g f h r a' n' w w1 f1 h1 r1 := by
 subst ha
 exact ⟨x.b, x.sf, x.sh, x.sr, Nat.le_trans x.nf (by omega), Nat.le_trans x.nh (by omega), Nat.le_trans x.nr (by omega), x.sub, x.kept⟩
theorem AccB.boxG (hb : AccB N g f h r w) {wl w8 : World} {row : Option Nat} (hl : Below w.heap.size w wl) (hg : wl.grownBy w8 row) (hr : row = ownB f.a ∨ row = ownB h.a ∨ row = ownB r.a) :
  (∀ i, w8.cell? ⟨g, i, none⟩ = (#[.slice f.a f.l.length f.c, .slice h.a h.l.length h.c, .slice r.a r.l.length r.c] : Array Value)[i]?) ∧ (∀ i, w8.frozen? ⟨g, i, none⟩ = false) ∧ g < w8.heap.size := by
 have h1 : Blk wl g _ _ := hb.box.below hl hb.box.lt
 have h2 : Blk w8 g _ _ := (hg.block g h1.lt (fun e => by
  rcases hr with h | h | h
  ·exact zGc hb.fo hb.box (by decide) (h ▸ e.symm)
  ·exact zGc hb.ho hb.box (by decide) (h ▸ e.symm)
  ·exact zGc hb.ro hb.box (by decide) (h ▸ e.symm))).trans h1
 exact ⟨h2.cell, h2.frozen, h2.lt⟩
end
theorem accAll_app (q : StD → Acc) : ∀ (a b : List StD), zVa q (a ++ b) = (zVa q a).app (zVa q b)
 | [], b => by rw [List.nil_append, zVa, Acc.none_app]
 | x :: a, b => by
  rw [List.cons_append, zVa, zVa, accAll_app q a b]
  unfold Acc.app
  simp [List.append_assoc]
theorem zbg (q : StD → Acc) {l : List StD} {k : Nat} {x : StD} (h : l[k]? = some x) : zVa q (l.take (k + 1)) = (zVa q (l.take k)).app (q x) := by
 rw [List.take_add_one, h, accAll_app]
 congr 1
 show zVa q [x] = _
 rw [zVa, zVa, Acc.app_none]
theorem bodyC (d : PrgD) (i : Int) : (zef d i).length ≤ 12 ∧ ∀ s ∈ zef d i, (s.kind = 1 ∨ s.kind = 2 ∨ s.kind = 3 ∨ s.kind = 4 ∨ s.kind = 5) ∧ ((s.kind = 2 ∨ s.kind = 3) → 0 ≤ s.hdr ∧ s.hdr < d.hZ.l.length) ∧ ((s.kind = 1 ∨ s.kind = 5) → s.value.l.length ≤ 24) ∧ ((s.kind = 4 ∨ s.kind = 5) → s.index.l.length ≤ 24) := by
 unfold zef
 by_cases hc : (zYa d i).2 = 0
 ·rw [if_pos hc]
  unfold zYa at hc
  generalize (if i < 0 then none else d.aZ.l[i.toNat]?) = o at hc
  cases o with
  | none => simp at hc
  | some a =>
   simp only at hc ⊢
   obtain ⟨_, h2, h3⟩ := actC_of hc
   exact ⟨h2, fun s hs => stC_of (h3 s hs)⟩
 ·rw [if_neg hc]
  exact ⟨by simp, fun s hs => absurd hs (by simp)⟩
end Go.Proofs.YtakgiamhdpgoeaaGreat
