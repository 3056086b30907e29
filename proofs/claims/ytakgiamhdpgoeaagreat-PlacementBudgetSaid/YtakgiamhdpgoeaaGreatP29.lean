/- Lemmas. -/
import Derived.Test.YtakgiamhdpgoeaaGreatP24
import Derived.Test.YtakgiamhdpgoeaaGreatP27
set_option linter.unusedSimpArgs false
namespace Go.Proofs.YtakgiamhdpgoeaaGreat
open Go.RowKit
set_option linter.unusedVariables false
def OwnEx (w : World) (base : Nat) (A : Option Addr) (c : Nat) (l : List ExD) : Prop := Own w base 90 3 A l.length c (l.flatMap ExD.enc)
theorem infoEx : (Tryz.prog.info? 90).map (fun i => (i.zero, i.size, i.bytes)) = some (some (.agg #[.int .i64 0, .int .i64 0, .int .i64 0]), 3, 24) := by kernel_rfl
theorem OwnEx_one (l : List ExD) : ∀ u ∈ l.flatMap ExD.enc, u.oneCell' = true := by
 intro u hu
 obtain ⟨x, _, hx⟩ := List.mem_flatMap.1 hu
 simp [ExD.enc] at hx
 rcases hx with rfl | hx
 ·rfl
 ·first
  | (rcases hx with rfl | rfl <;> rfl)
  | (subst hx; rfl)
theorem zRf {w : World} {ops : Array Oper} {rest : List Oper} {o : Oper} {a : Act} {Q : Exit → Act → World → Prop} (hgd : o.guard = none) (s x : Operand)
  (ho : o.op = .call { callee := .builtin .append, args := #[s, x], argTypes := #[91, 91] })
  (base : Nat) (A0 : Option Addr) (n0 c0 : Nat) (S0 : List ExD) (hn0 : S0.length = n0) (hs : a.eval s = .slice A0 n0 c0) (hown : OwnEx w base A0 c0 S0)
  (B : Nat) (A : Option Addr) (m c : Nat) (S : List ExD) (hm : S.length = m) (hx : a.eval x = .slice A m c) (hr : Reads w B 3 A m (S.flatMap ExD.enc)) (hsz : n0 + m ≤ 10000000) (hbase : base ≤ w.heap.size)
  (h : ∀ A' c' w', OwnEx w' base A' c' (S0 ++ S) → w.grownBy w' (ownB A0) → (ownB A' = ownB A0 ∨ ownB A' = some w.heap.size) → wpList Tryz.prog ops Q rest (a.put o.dst (.slice A' (n0 + m) c')) w') : wpList Tryz.prog ops Q (o :: rest) a w := by
 obtain ⟨i0, hi, hz0, hz1, hz2⟩ := info_parts infoEx
 subst hn0 hm
 refine zNa w hgd s x 91 ho base 90 i0 _ 3 24 Tryz.underlying91 hi hz0 hz1 hz2 rfl (by decide) A0 S0.length c0 _ hs hown B A S.length c _ hx hr (OwnEx_one S) (by unfold maxLen; omega) (by omega) hbase ?_
 intro A' c' w' h1 h2 h3
 exact h A' c' w' (by unfold OwnEx; rw [List.flatMap_append, List.length_append]; exact h1) h2 h3
set_option maxRecDepth 100000 in
set_option maxHeartbeats 1000000 in
theorem cloneG_any {ok : zxa → Prop} (s : SL zxa) (w : World) (hS : SLR w w.heap.size 2 zxa.enc ok s) (hl : s.l.length ≤ 1000000) :
  Calls Tryz.prog 65 #[.slice s.a s.l.length s.c] w fun e w' => (∃ A c, e = .returned (.slice A s.l.length c) ∧ OwnG w' w.heap.size A c s.l) ∧ Below w.heap.size w w' := by
 obtain ⟨N, hN⟩ : ∃ N, w.heap.size = N := ⟨_, rfl⟩
 obtain ⟨sa, sc, sl⟩ := s
 have hrd := hS.rd
 simp only at hrd hl ⊢
 have HR := Hd hrd
 have q22 : ∀ (w : World) (a : Option Addr) (n c n' c' : Nat), (binOp .eql 107 (.slice a n c) (.slice none n' c')).run Tryz.prog w = .ok (.bool a.isNone) w := fun w a n c n' c' => Lib.run_eql_slice_nil w _ _ a n c n' c' Tryz.underlying107
 cases sa with
 | none =>
  have h0 : sl = [] := by
   cases sl with
   | nil => rfl
   | cons x l => obtain ⟨ad, h, _⟩ := hrd.2 (by simp); cases h
  subst h0
  clear hrd hS HR
  go_enter Tryz.func65, Tryz.ntmps65
  go_wp2_with fail
  exact bodyPost_ret (v := .slice none 0 0) (by simp [results, Tryz.results65, go_sem]) rfl ⟨⟨none, 0, rfl, Own.none_ _ _ _ _⟩, by (first | (refine zca ?_ _; go_grown; done) | (go_grown; done))⟩
 | some ad =>
  obtain ⟨b, off, spot⟩ := ad
  clear hrd hS
  rw [hN] at HR ⊢
  have HF1 := Hd ((Fr.start w).alloc #[] 148)
  rw [hN] at HF1
  have HO := Hd (show OwnG (w.alloc (.cells #[] 148)) N (some ⟨N, 0, none⟩) 0 [] by rw [← hN]; exact Own.new w #[] 0 148 (Nat.le_refl _) (by unfold maxLen; omega) (by simp))
  have HR2 := Hd (HR.out.below HF1.out.below)
  go_enter Tryz.func65, Tryz.ntmps65
  go_wp2_with (at_builtin; (refine zfe rfl _ _ rfl N _ 0 0 [] rfl (by first | rfl | (rw [hN]; rfl) | (rw [← hN]; rfl)) HO.out _ _ sl.length sc sl rfl rfl HR2.out (by omega) (by simp; omega) ?_; intro A2 c2 w8 hO2 hG2 hA2; have HO2 := Hd hO2; have HG2 := Hd hG2; clear hO2 hG2 hA2))
  go_returns
  exact ⟨⟨A2, c2, by simp, by simpa using HO2.out⟩, by have := zad (w := w) (o := .cells #[] 148) (by rw [hN]; exact HG2.out); rwa [hN] at this⟩
set_option maxRecDepth 100000 in
set_option maxHeartbeats 1000000 in
theorem cloneE_any {ok : ExD → Prop} (s : SL ExD) (w : World) (hS : SLR w w.heap.size 3 ExD.enc ok s) (hl : s.l.length ≤ 1000000) :
  Calls Tryz.prog 66 #[.slice s.a s.l.length s.c] w fun e w' => (∃ A c, e = .returned (.slice A s.l.length c) ∧ OwnEx w' w.heap.size A c s.l) ∧ Below w.heap.size w w' := by
 obtain ⟨N, hN⟩ : ∃ N, w.heap.size = N := ⟨_, rfl⟩
 obtain ⟨sa, sc, sl⟩ := s
 have hrd := hS.rd
 simp only at hrd hl ⊢
 have HR := Hd hrd
 have q22 : ∀ (w : World) (a : Option Addr) (n c n' c' : Nat), (binOp .eql 91 (.slice a n c) (.slice none n' c')).run Tryz.prog w = .ok (.bool a.isNone) w := fun w a n c n' c' => Lib.run_eql_slice_nil w _ _ a n c n' c' Tryz.underlying91
 cases sa with
 | none =>
  have h0 : sl = [] := by
   cases sl with
   | nil => rfl
   | cons x l => obtain ⟨ad, h, _⟩ := hrd.2 (by simp); cases h
  subst h0
  clear hrd hS HR
  go_enter Tryz.func66, Tryz.ntmps66
  go_wp2_with fail
  exact bodyPost_ret (v := .slice none 0 0) (by simp [results, Tryz.results66, go_sem]) rfl ⟨⟨none, 0, rfl, Own.none_ _ _ _ _⟩, by (first | (refine zca ?_ _; go_grown; done) | (go_grown; done))⟩
 | some ad =>
  obtain ⟨b, off, spot⟩ := ad
  clear hrd hS
  rw [hN] at HR ⊢
  have HF1 := Hd ((Fr.start w).alloc #[] 90)
  rw [hN] at HF1
  have HO := Hd (show OwnEx (w.alloc (.cells #[] 90)) N (some ⟨N, 0, none⟩) 0 [] by rw [← hN]; exact Own.new w #[] 0 90 (Nat.le_refl _) (by unfold maxLen; omega) (by simp))
  have HR2 := Hd (HR.out.below HF1.out.below)
  go_enter Tryz.func66, Tryz.ntmps66
  go_wp2_with (at_builtin; (refine zRf rfl _ _ rfl N _ 0 0 [] rfl (by first | rfl | (rw [hN]; rfl) | (rw [← hN]; rfl)) HO.out _ _ sl.length sc sl rfl rfl HR2.out (by omega) (by simp; omega) ?_; intro A2 c2 w8 hO2 hG2 hA2; have HO2 := Hd hO2; have HG2 := Hd hG2; clear hO2 hG2 hA2))
  go_returns
  exact ⟨⟨A2, c2, by simp, by simpa using HO2.out⟩, by have := zad (w := w) (o := .cells #[] 90) (by rw [hN]; exact HG2.out); rwa [hN] at this⟩
open Go.RowKit
section
variable {F F' : Nat → Prop} {W W' : World} {L : List (Nat × TypeId × Array Value)}
def Held (F : Nat → Prop) (W : World) (L : List (Nat × TypeId × Array Value)) : Prop := ∀ x ∈ L, ¬ F x.1 ∧ Blk W x.1 x.2.1 x.2.2
theorem Held.nil_ : Held F W [] := fun x hx => absurd hx (by simp)
theorem Held.kept (h : Held F W L) (hk : KeptF F W W') (hs : Sub F F' W.heap.size) : Held F' W' L := fun x hx =>
 ⟨fun h' => by
  rcases hs _ h' with h1 | h1
  ·exact (h x hx).1 h1
  ·have := (h x hx).2.lt; omega, hk.blk (h x hx).2 (h x hx).1⟩
theorem Held.below (h : Held F W L) (hb : Below W.heap.size W W') : Held F W' L := h.kept (KeptF.of_below hb) (Sub.refl _ _)
theorem Held.alloc (h : Held F W L) (hF : ∀ k, F k → k < W.heap.size) (cs : Array Value) (t : TypeId) : Held F (W.alloc (.cells cs t)) ((W.heap.size, t, cs) :: L) := fun x hx => by
 rcases List.mem_cons.1 hx with rfl | hx
 ·exact ⟨fun h' => by have := hF _ h'; simp only at this; omega, Blk.new _ _ _⟩
 ·exact h.below ((Below.refl _ W).alloc (Nat.le_refl _) _) x hx
theorem Held.skip {x : Nat × TypeId × Array Value} (h : Held F W (x :: L)) : Held F W L := fun y hy => h y (List.mem_cons_of_mem _ hy)
theorem Held.at_ {g : Nat} {t : TypeId} {cs : Array Value} (h : Held F W L) (hm : (g, t, cs) ∈ L) : (∀ i, W.cell? ⟨g, i, none⟩ = cs[i]?) ∧ g < W.heap.size ∧ ∀ i, W.frozen? ⟨g, i, none⟩ = false :=
 ⟨(h _ hm).2.cell, (h _ hm).2.lt, (h _ hm).2.frozen⟩
end
set_option maxRecDepth 100000 in
set_option maxHeartbeats 4000000 in
theorem zPd (gs : SL zxa) (n : Nat) (want : Bool) (gb ib : Nat) (w : World) (hG : SLR w w.heap.size 2 zxa.enc (fun _ => True) gs) (hl : gs.l.length ≤ 100000)
  (hg : Blk w gb 107 #[.slice gs.a gs.l.length gs.c]) (hi : Blk w ib 3 #[.int .i64 n]) :
  Calls Tryz.prog 67 #[.bool want, .pointer (some ⟨gb, 0, none⟩), .pointer (some ⟨ib, 0, none⟩)] w fun e w' => (∃ A c, e = .returned (.slice A (gs.l.length + 1) c) ∧ OwnG w' w.heap.size A c (gs.l ++ [⟨n, want⟩])) ∧ Below w.heap.size w w' := by
 obtain ⟨N, hN⟩ : ∃ N, w.heap.size = N := ⟨_, rfl⟩
 have HG := Hd hG
 have HGb := Hd hg
 have HIb := Hd hi
 have HF0 := Hd (Fr.start w)
 have g0 : w.cell? ⟨gb, 0, none⟩ = some (.slice gs.a gs.l.length gs.c) := hg.cell 0
 have g1 : w.cell? ⟨ib, 0, none⟩ = some (.int .i64 n) := hi.cell 0
 have l0 := hg.lt
 have l1 := hi.lt
 have hgl := hG.len
 rw [hN] at HF0 ⊢
 have hNw : N ≤ w.heap.size := by omega
 clear hG hg hi
 go_enter Tryz.func67, Tryz.ntmps67
 go_wp2_with fail
 have hstab : zba ([leq (.slice gs.a gs.l.length gs.c), lat 0 (pOwn (fun u A c => OwnG u N A c gs.l) gs.l.length), leq (.int .i64 n), leq (.bool want), leq (.agg #[.int .i64 n, .bool want]), lat 0 (pLit N 148 1 #[.int .i64 n, .bool want]), lat 1 (pOwn (fun u A c => OwnG u N A c (gs.l ++ [⟨n, want⟩])) (gs.l.length + 1)), lat 1 (pOwn (fun u A c => OwnG u N A c (gs.l ++ [⟨n, want⟩])) (gs.l.length + 1))]) := zba.cons_ (zea _) (zba.cons_ (zic (zDe fun _ _ _ _ hb ho => Own.below ho hb)) (zba.cons_ (zea _) (zba.cons_ (zea _) (zba.cons_ (zea _) (zba.cons_ (zic zYd) (zba.cons_ (zic (zDe fun _ _ _ _ hb ho => Own.below ho hb)) (zba.cons_ (zic (zDe fun _ _ _ _ hb ho => Own.below ho hb)) (zba.nil_))))))))
 have Hq9 := Hd (show ∀ i j, List.contains (Chain.effs ⟨[6], [(0, 0), (0, 0), (0, 0), (0, 0), (0, 0), (0, 0), (0, 0), (1, 1)]⟩) i = false → Chain.next ⟨[6], [(0, 0), (0, 0), (0, 0), (0, 0), (0, 0), (0, 0), (0, 0), (1, 1)]⟩ i j = j from fun i j h => zya h)
 refine zja ⟨[6], [(0, 0), (0, 0), (0, 0), (0, 0), (0, 0), (0, 0), (0, 0), (1, 1)]⟩ (fun _ u => Below N w u) ([leq (.slice gs.a gs.l.length gs.c), lat 0 (pOwn (fun u A c => OwnG u N A c gs.l) gs.l.length), leq (.int .i64 n), leq (.bool want), leq (.agg #[.int .i64 n, .bool want]), lat 0 (pLit N 148 1 #[.int .i64 n, .bool want]), lat 1 (pOwn (fun u A c => OwnG u N A c (gs.l ++ [⟨n, want⟩])) (gs.l.length + 1)), lat 1 (pOwn (fun u A c => OwnG u N A c (gs.l ++ [⟨n, want⟩])) (gs.l.length + 1))]) (by kernel_rfl) (by kernel_rfl) (by kernel_rfl) (by kernel_rfl) ?_ ?_ ?_
 ·exact (Below.refl _ _).drew
 ·show zQb _ _ _ _ _ _ 0 _
  refine ⟨?_, ?_, ?_, ?_, ?_, ?_, ?_, ?_, trivial⟩
  ·intro j hj ρ y u hS hc hf hg hfree hdep
   obtain rfl := jz hj rfl
   rw [Hq9.out _ 0 rfl]
   have e1 : ρ (.tmp 1) = .pointer (some ⟨gb, 0, none⟩) := hfree 1 rfl
   refine ⟨fun _ => ?_, zaa rfl⟩
   clear hdep hfree hj
   have c0 : u.cell? ⟨gb, 0, none⟩ = some (.slice gs.a gs.l.length gs.c) := (hS.cell (p := ⟨gb, 0, none⟩) (by show gb < N; omega)).trans g0
   go_simp
   exact ⟨rfl, hS, KL hstab⟩
  ·intro j hj ρ y u hS hc hf hg hfree hdep
   obtain rfl := jz hj rfl
   rw [Hq9.out _ 0 rfl]
   have e5 : ρ (.tmp 5) = _ := (hdep 0 _ 5 rfl rfl rfl).1
   refine ⟨fun _ => ?_, zaa rfl⟩
   clear hdep hfree hj
   go_simp
   refine zha (cloneG_any gs u ((HG.out.below (by rw [hN]; exact hS)).more (by rw [hN]; exact Nat.le_trans hNw hS.size)) (by omega)) ?_
   rintro e w' ⟨⟨A, c, rfl, hO⟩, hb⟩
   exact ⟨_, rfl, (fun _ => ⟨A, c, rfl, Own.rebase hO (Nat.le_trans hNw hS.size)⟩), hS.trans (hb.mono (Nat.le_trans hNw hS.size)), KeepL.below hb _ _ 0 hstab⟩
  ·intro j hj ρ y u hS hc hf hg hfree hdep
   obtain rfl := jz hj rfl
   rw [Hq9.out _ 0 rfl]
   have e2 : ρ (.tmp 2) = .pointer (some ⟨ib, 0, none⟩) := hfree 2 rfl
   refine ⟨fun _ => ?_, zaa rfl⟩
   clear hdep hfree hj
   have c0 : u.cell? ⟨ib, 0, none⟩ = some (.int .i64 n) := (hS.cell (p := ⟨ib, 0, none⟩) (by show ib < N; omega)).trans g1
   go_simp
   exact ⟨rfl, hS, KL hstab⟩
  ·intro j hj ρ y u hS hc hf hg hfree hdep
   obtain rfl := jz hj rfl
   rw [Hq9.out _ 0 rfl]
   have e0 : ρ (.tmp 0) = .bool want := hfree 0 rfl
   refine ⟨fun _ => ?_, zaa rfl⟩
   clear hdep hfree hj
   go_simp
   exact ⟨rfl, hS, KL hstab⟩
  ·intro j hj ρ y u hS hc hf hg hfree hdep
   obtain rfl := jz hj rfl
   rw [Hq9.out _ 0 rfl]
   have e7 : ρ (.tmp 7) = _ := (hdep 2 _ 7 rfl rfl rfl).1
   have e8 : ρ (.tmp 8) = _ := (hdep 3 _ 8 rfl rfl rfl).1
   refine ⟨fun _ => ?_, zaa rfl⟩
   clear hdep hfree hj
   go_simp
   exact ⟨rfl, hS, KL hstab⟩
  ·intro j hj ρ y u hS hc hf hg hfree hdep
   obtain rfl := jz hj rfl
   rw [Hq9.out _ 0 rfl]
   have e9 : ρ (.tmp 9) = _ := (hdep 4 _ 9 rfl rfl rfl).1
   refine ⟨fun _ => ?_, zaa rfl⟩
   clear hdep hfree hj
   go_simp
   exact ⟨(fun _ => ⟨u.heap.size, rfl, Nat.le_trans hNw hS.size, Blk.new _ _ _⟩), hS.alloc (Nat.le_trans hNw hS.size) _, KeepL.below ((Below.refl _ _).alloc (Nat.le_refl _) _) _ _ 0 hstab⟩
  ·intro j hj ρ y u hS hc hf hg hfree hdep
   obtain rfl := jz hj rfl
   rw [show Chain.next ⟨[6], [(0, 0), (0, 0), (0, 0), (0, 0), (0, 0), (0, 0), (0, 0), (1, 1)]⟩ 6 0 = 1 from rfl]
   have r6 := (hdep 1 _ 6 rfl rfl rfl).1
   have r10 := (hdep 5 _ 10 rfl rfl rfl).1
   refine ⟨fun _ => ?_, zaa rfl⟩
   clear hdep hfree hj
   obtain ⟨A, c, e6, hO⟩ := r6 rfl
   obtain ⟨g, e10, hg10, hB⟩ := r10 rfl
   have hsr : SLR u u.heap.size 2 zxa.enc (fun _ => True) ⟨some ⟨g, 0, none⟩, 1, [⟨(n : Int), want⟩]⟩ := zoa hB hB.lt [⟨(n : Int), want⟩] rfl guard_len (by simp [maxLen]) (fun _ _ => trivial)
   refine zZc (.tmp 6) (.tmp 10) rfl N A gs.l.length c gs.l rfl e6 hO _ _ 1 1 [⟨(n : Int), want⟩] rfl e10 hsr.rd (by omega) (Nat.le_trans hNw hS.size) ?_
   intro A2 c2 w2 hO2 hG2 hA2
   refine ⟨fun _ => ⟨A2, c2, rfl, hO2⟩, hS.grown hG2 (Nat.le_trans hNw hS.size) (fun k hk => (Own.lt hO k hk).1), ?_⟩
   exact ⟨.inr (.inr (fun h => h)), .inr (.inr (fun _ => zbc (by omega))), .inr (.inr (fun h => h)), .inr (.inr (fun h => h)), .inr (.inr (fun h => h)), .inr (.inr (fun _ => zbc (by omega))), .inl rfl, .inr (.inl (by kernel_rfl)), trivial⟩
  ·intro j hj ρ y u hS hc hf hg hfree hdep
   obtain rfl := jz hj rfl
   rw [Hq9.out _ 1 rfl]
   have r11 := (hdep 6 _ 11 rfl rfl rfl).1
   refine ⟨fun _ => ?_, zaa rfl⟩
   clear hdep hfree hj
   go_simp
   exact ⟨r11, hS, KL hstab⟩
 intro u hS
 rintro _ rfl _ r_6 _ rfl _ rfl _ rfl _ r_10 _ r_11 _ r_4
 simp only [zxb, Act.put, List.setIfInBounds_toArray, List.set_cons_zero, List.set_cons_succ]
 go_wp2_with fail
 obtain ⟨A2, c2, e2, hO2⟩ := r_4 rfl
 subst e2
 go_returns
 exact ⟨⟨A2, c2, rfl, hO2⟩, hS⟩
open Go.RowKit
theorem nodU_eq : ∀ (x : NodD) (gs : List (Int × Bool)) (i : Nat), nodU x gs i =
  { table := if x.kind = 2 then -1 else x.table, cond := if x.kind = 2 then x.cond.l else [], guards := gs } ::
   (nodsU x.thn.l (gs ++ [((i : Int), true)]) (i + 1) ++ nodsU x.els.l (gs ++ [((i : Int), false)]) (i + 1 + (nodsU x.thn.l (gs ++ [((i : Int), true)]) (i + 1)).length))
 | .mk .., gs, i => by rw [nodU]; rfl
theorem nodsU_app : ∀ (a b : List NodD) (gs : List (Int × Bool)) (i : Nat), nodsU (a ++ b) gs i = nodsU a gs i ++ nodsU b gs (i + (nodsU a gs i).length)
 | [], b, gs, i => by simp [nodsU]
 | x :: a, b, gs, i => by
  rw [List.cons_append, nodsU, nodsU, nodsU_app a b, List.append_assoc, List.length_append]
  congr 3
  omega
theorem nodsU_take {l : List NodD} {k : Nat} {x : NodD} (h : l[k]? = some x) (gs : List (Int × Bool)) (i : Nat) : nodsU (l.take (k + 1)) gs i = nodsU (l.take k) gs i ++ nodU x gs (i + (nodsU (l.take k) gs i).length) := by
 rw [List.take_add_one, h, nodsU_app]
 congr 1
 show nodsU [x] _ _ = _
 rw [nodsU, nodsU, List.append_nil]
theorem nodsU_len : ∀ (n : Nat) (l : List NodD) (gs : List (Int × Bool)) (i : Nat), (zda l).length < n → (nodsU l gs i).length = (zda l).length := by
 intro n
 induction n with
 | zero => intro l gs i h; omega
 | succ n ih =>
  intro l gs i h
  cases l with
  | nil => rw [nodsU, zda]; rfl
  | cons x l =>
   rw [zda, zjc] at h ⊢
   simp only [List.length_append, List.length_cons] at h ⊢
   rw [nodsU, nodU_eq]
   simp only [List.length_append, List.length_cons]
   rw [ih x.thn.l _ _ (by omega), ih x.els.l _ _ (by omega), ih l _ _ (by omega)]
theorem zrb (l : List NodD) (gs : List (Int × Bool)) (i : Nat) : (nodsU l gs i).length = (zda l).length := nodsU_len _ l gs i (Nat.lt_succ_self _)
abbrev gM (gs : List zxa) : List (Int × Bool) := gs.map fun g => (g.unit, g.want)
def UF (lb : Nat) (A : Option Addr) (k : Nat) : Prop := k = lb ∨ ownB A = some k
structure UB (B lb vb : Nat) (A : Option Addr) (c : Nat) (us : List UnitD) (W : World) : Prop where
 b1 : B ≤ lb
 b2 : lb < vb
 box : Blk W lb 63 #[.slice A us.length c]
 own : OwnU W (vb + 1) A c us
 vis : Blk W vb 145 #[.func (.func 64) #[] #[.pointer (some ⟨lb, 0, none⟩), .pointer (some ⟨vb, 0, none⟩)]]
 ok : ∀ u ∈ us, u.okP W (UF lb A) ∧ I64 u.table
section
variable {B lb vb c : Nat} {A : Option Addr} {us : List UnitD} {W W' : World}
theorem UB.foot (h : UB B lb vb A c us W) {k : Nat} (hk : UF lb A k) : B ≤ k ∧ k < W.heap.size := by
 have h1 := h.b1; have h2 := h.b2
 rcases hk with rfl | hk
 ·exact ⟨h1, h.box.lt⟩
 ·have := Own.lt h.own k hk
  exact ⟨by omega, this.2⟩
theorem UB.nvis (h : UB B lb vb A c us W) : ¬ UF lb A vb := by
 have h2 := h.b2
 rintro (hk | hk)
 ·omega
 ·have := (Own.lt h.own vb hk).1; omega
theorem UB.below (h : UB B lb vb A c us W) (hb : Below W.heap.size W W') : UB B lb vb A c us W' :=
 ⟨h.b1, h.b2, h.box.below hb h.box.lt, Own.below h.own hb, h.vis.below hb h.vis.lt, fun u hu => ⟨(h.ok u hu).1.kept (KeptF.of_below hb) (Sub.refl _ _), (h.ok u hu).2⟩⟩
theorem UB.row (h : UB B lb vb A c us W) (hg : W.grownBy W' (ownB A)) : W'.cell? ⟨lb, 0, none⟩ = some (.slice A us.length c) ∧ W'.frozen? ⟨lb, 0, none⟩ = false ∧ lb < W'.heap.size := by
 have h2 := h.b2
 have h1 : Blk W' lb _ _ := (hg.block lb h.box.lt (fun e => by have := (Own.lt h.own lb e.symm).1; omega)).trans h.box
 exact ⟨h1.cell 0, h1.frozen 0, h1.lt⟩
theorem UB.push (h : UB B lb vb A c us W) {A' : Option Addr} {c' : Nat} {u : UnitD} (hu : u.okP W (UF lb A)) (hut : I64 u.table) (hg : W.grownBy W' (ownB A)) (ho : OwnU W' (vb + 1) A' c' (us ++ [u])) (hA : ownB A' = ownB A ∨ ownB A' = some W.heap.size) :
  UB B lb vb A' c' (us ++ [u]) (W'.setCell ⟨lb, 0, none⟩ (.slice A' (us.length + 1) c')) ∧ Sub (UF lb A) (UF lb A') W.heap.size ∧ KeptF (UF lb A) W (W'.setCell ⟨lb, 0, none⟩ (.slice A' (us.length + 1) c')) := by
 have h1 := h.b1; have h2 := h.b2
 have hs : Sub (UF lb A) (UF lb A') W.heap.size := by
  intro k hk
  rcases hk with hk | hk
  ·exact .inl (.inl hk)
  ·rcases hA with hA | hA
   ·exact .inl (.inr (by rw [← hA]; exact hk))
   ·right; rw [hA] at hk; injection hk with hk; omega
 have hk : KeptF (UF lb A) W (W'.setCell ⟨lb, 0, none⟩ (.slice A' (us.length + 1) c')) :=
  ((KeptF.refl (UF lb A) W).step_grown hg (fun k hk => .inr hk)).set (.inl rfl) 0 _
 have hlb : Blk W' lb 63 #[.slice A us.length c] := (hg.block lb h.box.lt (fun e => by have := (Own.lt h.own lb e.symm).1; omega)).trans h.box
 refine ⟨⟨h1, h2, ?_, ?_, hk.blk h.vis h.nvis, ?_⟩, hs, hk⟩
 ·have := hlb.set_ 0 (.slice A' (us.length + 1) c')
  simp only [List.length_append, List.length_singleton]
  exact this
 ·exact ownsRow_setCell_below ho (by show lb < vb + 1; omega) _
 ·intro x hx
  rcases List.mem_append.1 hx with hx | hx
  ·exact ⟨(h.ok x hx).1.kept hk hs, (h.ok x hx).2⟩
  ·obtain rfl : x = u := by simpa using hx
   exact ⟨hu.kept hk hs, hut⟩
end
section
variable {w : World} {base : Nat} {e t : TypeId} {size n c g : Nat} {A : Option Addr} {xs : List Value} {cs : Array Value}
theorem zGc (h : Own w base e size A n c xs) (hb : Blk w g t cs) (hne : e ≠ t) : ownB A ≠ some g := by
 rcases h.2 with ⟨h1, _⟩ | ⟨g', cap, cur, hv, _, hh, _⟩
 ·injection h1 with h1; subst h1; simp [ownB]
 ·injection hv with hv; subst hv
  intro he
  have he : g' = g := by simpa [ownB] using he
  subst he
  have h2 : w.heap[g']? = some (.cells cs t (0, 0)) := hb
  rw [hh] at h2
  injection h2 with h2
  injection h2 with _ h3
  exact hne h3
theorem zzb (h : Own w base e size A n c xs) (hb : Blk w g t cs) (hne : e ≠ t) (i : Nat) (v : Value) : Own (w.setCell ⟨g, i, none⟩ v) base e size A n c xs :=
 Own.grown h (zHa (zpb w (some g)) i v) (.inr (zGc h hb hne))
end
def bxU (N : Nat) (tb : Int) (gs : List zxa) : LFact := fun j v u => (j = 0 → pBlk N 109 #[.int .i64 0, .slice none 0 0, .slice none 0 0] v u) ∧ (j = 1 → ∃ A c, pBlk N 109 #[.int .i64 tb, .slice none 0 0, .slice A gs.length c] v u ∧ OwnG u N A c gs)
theorem bxU_st {N : Nat} {tb : Int} {gs : List zxa} : ∀ (j : Nat) (v : Value) (u u' : World), Below u.heap.size u u' → bxU N tb gs j v u → bxU N tb gs j v u' := fun j v u u' hb h =>
 ⟨fun hj => pBlk_st v u u' hb (h.1 hj), fun hj => by obtain ⟨A, c, h1, h2⟩ := h.2 hj; exact ⟨A, c, pBlk_st v u u' hb h1, Own.below h2 hb⟩⟩
def pUv (N : Nat) (tb : Int) (gs : List zxa) (v : Value) (u : World) : Prop := ∃ A c, v = .agg #[.int .i64 tb, .slice none 0 0, .slice A gs.length c] ∧ OwnG u N A c gs
theorem pUv_st {N : Nat} {tb : Int} {gs : List zxa} : zkb (pUv N tb gs) := fun v u u' hb ⟨A, c, e, ho⟩ => ⟨A, c, e, Own.below ho hb⟩
theorem UF_lt {B lb vb c : Nat} {A : Option Addr} {us : List UnitD} {W : World} (h : UB B lb vb A c us W) : ∀ k, UF lb A k → k < W.heap.size := fun k hk => (h.foot hk).2
def VisEnd (B lb vb : Nat) (A : Option Addr) (us : List UnitD) (l : List NodD) (gs : List (Int × Bool)) (W u : World) : Prop :=
 ∃ A' c' l1, UB B lb vb A' c' (us ++ l1) u ∧ l1.map UnitD.m = nodsU l gs us.length ∧ Sub (UF lb A) (UF lb A') W.heap.size ∧ KeptF (UF lb A) W u
set_option maxRecDepth 100000 in
set_option maxHeartbeats 8000000 in
theorem visit_any (B lb vb : Nat) : ∀ (n : Nat) (s : SL NodD) (gs : SL zxa) (us : List UnitD) (A : Option Addr) (c : Nat) (w : World), (zda s.l).length < n → SLR w B 5 NodD.enc (NodD.ok w B) s → (∀ y ∈ zda s.l, y.kind = 2 → y.cond.l.length ≤ 1000) →
  us.length + (zda s.l).length ≤ 1000 → SLP w (UF lb A) 2 zxa.enc gs → gs.l.length + (zda s.l).length ≤ 2000 → UB B lb vb A c us w → B ≤ w.heap.size →
  Calls Tryz.prog 64 #[.slice s.a s.l.length s.c, .slice gs.a gs.l.length gs.c, .pointer (some ⟨lb, 0, none⟩), .pointer (some ⟨vb, 0, none⟩)] w fun e w' => e = .returned (.tuple #[]) ∧ VisEnd B lb vb A us s.l (gM gs.l) w w' := by
 intro n
 induction n with
 | zero => intro s gs us A c w h; omega
 | succ n ih =>
  intro s gs us0 A0 c0 w hn hS hC hu hG hgl hU hB
  have HIh := Hd ih
  obtain ⟨sa, sc, sl⟩ := s
  simp only at hn hS hC hu hgl ⊢
  have HC := Hd hC
  have HS := Hd hS
  have hlen := hS.len
  simp only at hlen
  obtain ⟨N, hN⟩ : ∃ N, w.heap.size = N := ⟨_, rfl⟩
  obtain ⟨w1, hw1⟩ : ∃ W, w.alloc (.cells #[.slice gs.a gs.l.length gs.c] 107) = W := ⟨_, rfl⟩
  have hbw : Below w.heap.size w w1 := by rw [← hw1]; exact (Below.refl _ w).alloc (Nat.le_refl _) _
  have hsz1 : w1.heap.size = N + 1 := by rw [← hw1]; simp [hN]
  have HBw := Hd hbw
  have HU1 := Hd (hU.below hbw)
  have HG1 := Hd (hG.below hbw)
  have HH1 := Hd (show Held (UF lb A0) w1 [(N, 107, #[.slice gs.a gs.l.length gs.c])] by
   rw [← hw1, ← hN]; exact Held.nil_.alloc (UF_lt hU) _ _)
  have HFo := Hd (fun k (h : UF lb A0 k) => (hU.foot h).1)
  have hmf : ∀ (fn : Fn) (first cap : Array Value) (w : World), (Instr.makeFunc fn first cap).run Tryz.prog w = .ok (.func fn first cap) w := fun _ _ _ _ => rfl
  clear ih hS hG hU hC hbw
  go_enter Tryz.func64, Tryz.ntmps64
  go_wp2_with fail
  try simp only [hw1, hN]
  have hBN : B ≤ N := by omega
  clear hw1
  go_loopw [13] (fun i wr => ∃ (k : Nat) (A : Option Addr) (c : Nat) (l1 : List UnitD), k ≤ sl.length ∧ i = .int .i64 k ∧ UB B lb vb A c (us0 ++ l1) wr ∧ l1.map UnitD.m = nodsU (sl.take k) (gM gs.l) us0.length ∧ Sub (UF lb A0) (UF lb A) (N + 1) ∧ KeptF (UF lb A0) w1 wr ∧
   Held (UF lb A) wr [(N, 107, #[.slice gs.a gs.l.length gs.c])] ∧ SLP wr (UF lb A) 2 zxa.enc gs) (fun i _ => sl.length - (intOf i).toNat)
  case atStart => exact ⟨0, A0, c0, [], Nat.zero_le _, rfl, by rw [List.append_nil]; exact HU1.out, rfl, Sub.refl _ _, KeptF.refl _ _, HH1.out, HG1.out⟩
  case round =>
   obtain ⟨k, A, c, l1, hk, rfl, hU, hl1, hsub, hkept, hH, hG⟩ := hrel
   obtain ⟨us, hus⟩ : ∃ z, us0 ++ l1 = z := ⟨_, rfl⟩
   have hul : us.length = us0.length + (zda (sl.take k)).length := by
    rw [← hus, List.length_append, ← zrb (sl.take k) (gM gs.l) us0.length, ← hl1, List.length_map]
   rw [hus] at hU
   have HUs := Hd hus
   have HUk := Hd hU
   have HL1 := Hd hl1
   have HSub := Hd hsub
   have HK := Hd hkept
   have HH := Hd hH
   have HG := Hd hG
   have HBel := Hd (HBw.out.mono hB |>.trans (hkept.below (B := B) HFo.out (by omega)))
   clear hl1 hsub hkept hH hG hus HU1 HG1 HH1
   by_cases hlt : k < sl.length
   ·obtain ⟨b2, off2, x, hA2, hb2, hx, hxok, hc2⟩ := (HS.out.below HBel.out).at_ zCe (by omega) hlt
    rw [nod_enc x] at hc2
    have p0 := hc2 0 _ rfl
    have p1 := hc2 1 _ rfl
    have p2 := hc2 2 _ rfl
    have p3 := hc2 3 _ rfl
    have p4 := hc2 4 _ rfl
    simp only [Nat.add_zero] at p0
    simp only at hA2
    have hsz := zpd hx
    have HX := Hd hx
    have HM := Hd (zoe hx)
    have HXo := Hd (NodD.open (NodD.ok_below x hxok HBel.out))
    have hk1 : (k : Int) < sl.length := by omega
    have hBr : B ≤ wr.heap.size := by have := HK.out.size; omega
    subst hA2
    clear hc2 hx hxok
    go_wp2_with fail
    refine zfa ?_
    intro W hW
    obtain ⟨g7, hg7⟩ : ∃ z, wr.heap.size = z := ⟨_, rfl⟩
    have HBW := Hd (show Below wr.heap.size wr W by rw [hW]; exact (Below.refl _ _).alloc (Nat.le_refl _) _)
    have HH2 := Hd (show Held (UF lb A) W [(g7, 100, #[.int .i64 x.kind, .int .i64 x.table, .slice x.cond.a x.cond.l.length x.cond.c, .slice x.thn.a x.thn.l.length x.thn.c, .slice x.els.a x.els.l.length x.els.c]), (N, 107, #[.slice gs.a gs.l.length gs.c])] by
     rw [hW, ← hg7]; exact HH.out.alloc (UF_lt HUk.out) _ _)
    have HU2 := Hd (HUk.out.below HBW.out)
    have HG2 := Hd (HG.out.below HBW.out)
    simp only [hg7] at HBW ⊢
    obtain ⟨M, hM⟩ : ∃ z, W.heap.size = z := ⟨_, rfl⟩
    have hg7M : g7 < M := by rw [← hM]; exact (HH2.out _ (.head _)).2.lt
    have hNM : N < M := by rw [← hM]; exact (HH2.out _ (.tail _ (.head _))).2.lt
    clear hW p0 p1 p2 p3 p4
    obtain ⟨a0, m0, z0⟩ := HH2.out.at_ (.head _)
    obtain ⟨a1, m1, z1⟩ := HH2.out.at_ (.tail _ (.head _))
    have hstab : zba ([leq (.pointer (some ⟨g7, 1, none⟩)), leq (.int .i64 x.table), leq (.slice gs.a gs.l.length gs.c), lat 0 (pOwn (fun u A c => OwnG u M A c gs.l) gs.l.length), lat 0 (pUv M x.table gs.l), bxU M x.table gs.l, lany]) := zba.cons_ (zea _) (zba.cons_ (zea _) (zba.cons_ (zea _) (zba.cons_ (zic (zDe fun _ _ _ _ hb ho => Own.below ho hb)) (zba.cons_ (zic pUv_st) (zba.cons_ (bxU_st) (zba.cons_ zfc (zba.nil_)))))))
    have Hq9 := Hd (show ∀ i j, List.contains (Chain.effs ⟨[6], [(0, 0), (0, 0), (0, 0), (0, 0), (0, 0), (0, 0), (0, 0)]⟩) i = false → Chain.next ⟨[6], [(0, 0), (0, 0), (0, 0), (0, 0), (0, 0), (0, 0), (0, 0)]⟩ i j = j from fun i j h => zya h)
    refine zja ⟨[6], [(0, 0), (0, 0), (0, 0), (0, 0), (0, 0), (0, 0), (0, 0)]⟩ (fun _ u => Below M W u) ([leq (.pointer (some ⟨g7, 1, none⟩)), leq (.int .i64 x.table), leq (.slice gs.a gs.l.length gs.c), lat 0 (pOwn (fun u A c => OwnG u M A c gs.l) gs.l.length), lat 0 (pUv M x.table gs.l), bxU M x.table gs.l, lany]) (by kernel_rfl) (by kernel_rfl) (by kernel_rfl) (by kernel_rfl) ?_ ?_ ?_
    ·rw [← hM]; exact (Below.refl _ _).drew
    ·show zQb _ _ _ _ _ _ 0 _
     refine ⟨?_, ?_, ?_, ?_, ?_, ?_, ?_, trivial⟩
     ·intro j hj ρ y u hS hc hf hg hfree hdep
      obtain rfl := jz hj rfl
      rw [Hq9.out _ 0 rfl]
      have e7 : ρ (.tmp 7) = .pointer (some ⟨g7, 0, none⟩) := hfree 7 rfl
      refine ⟨fun _ => ?_, zaa rfl⟩
      clear hdep hfree hj
      go_simp
      exact ⟨rfl, hS, KL hstab⟩
     ·intro j hj ρ y u hS hc hf hg hfree hdep
      obtain rfl := jz hj rfl
      rw [Hq9.out _ 0 rfl]
      have e17 : ρ (.tmp 17) = _ := (hdep 0 _ 17 rfl rfl rfl).1
      refine ⟨fun _ => ?_, zaa rfl⟩
      clear hdep hfree hj
      have c0 : u.cell? ⟨g7, 1, none⟩ = some (.int .i64 x.table) := (hS.cell (p := ⟨g7, 1, none⟩) hg7M).trans (a0 1)
      go_simp
      exact ⟨rfl, hS, KL hstab⟩
     ·intro j hj ρ y u hS hc hf hg hfree hdep
      obtain rfl := jz hj rfl
      rw [Hq9.out _ 0 rfl]
      have e5 : ρ (.tmp 5) = .pointer (some ⟨N, 0, none⟩) := hfree 5 rfl
      refine ⟨fun _ => ?_, zaa rfl⟩
      clear hdep hfree hj
      have c0 : u.cell? ⟨N, 0, none⟩ = some (.slice gs.a gs.l.length gs.c) := (hS.cell (p := ⟨N, 0, none⟩) hNM).trans (a1 0)
      go_simp
      exact ⟨rfl, hS, KL hstab⟩
     ·intro j hj ρ y u hS hc hf hg hfree hdep
      obtain rfl := jz hj rfl
      rw [Hq9.out _ 0 rfl]
      have e19 : ρ (.tmp 19) = _ := (hdep 2 _ 19 rfl rfl rfl).1
      refine ⟨fun _ => ?_, zaa rfl⟩
      clear hdep hfree hj
      have hMu : M ≤ u.heap.size := by have := hS.size; omega
      go_simp
      refine zha (cloneG_any gs u (((HG2.out.slr).below (by rw [hM]; exact hS)).more (by rw [hM]; exact hMu)) (by omega)) ?_
      rintro e w' ⟨⟨A3, c3, rfl, hO3⟩, hb3⟩
      exact ⟨_, rfl, (fun _ => ⟨A3, c3, rfl, Own.rebase hO3 hMu⟩), hS.trans (hb3.mono hMu), KeepL.below hb3 _ _ 0 hstab⟩
     ·intro j hj ρ y u hS hc hf hg hfree hdep
      obtain rfl := jz hj rfl
      rw [Hq9.out _ 0 rfl]
      have e18 : ρ (.tmp 18) = _ := (hdep 1 _ 18 rfl rfl rfl).1
      have r20 := (hdep 3 _ 20 rfl rfl rfl).1
      refine ⟨fun _ => ?_, zaa rfl⟩
      clear hdep hfree hj
      obtain ⟨A3, c3, e20, hO3⟩ := r20 rfl
      go_simp
      exact ⟨(fun _ => ⟨A3, c3, rfl, hO3⟩), hS, KL hstab⟩
     ·intro j hj ρ y u hS hc hf hg hfree hdep
      obtain rfl := jz hj rfl
      rw [Hq9.out _ 0 rfl]
      refine ⟨fun _ => ?_, zaa rfl⟩
      clear hdep hfree hj
      have hMu : M ≤ u.heap.size := by have := hS.size; omega
      go_simp
      exact ⟨⟨fun _ => ⟨u.heap.size, rfl, hMu, Blk.new _ _ _⟩, fun h => absurd h (by omega)⟩, hS.alloc hMu _, KeepL.below ((Below.refl _ _).alloc (Nat.le_refl _) _) _ _ 0 hstab⟩
     ·intro j hj ρ y u hS hc hf hg hfree hdep
      obtain rfl := jz hj rfl
      rw [show Chain.next ⟨[6], [(0, 0), (0, 0), (0, 0), (0, 0), (0, 0), (0, 0), (0, 0)]⟩ 6 0 = 1 from rfl]
      have r8 := (hdep 5 _ 8 rfl rfl rfl).1
      have r21 := (hdep 4 _ 21 rfl rfl rfl).1
      refine ⟨fun _ => ?_, zaa rfl⟩
      clear hdep hfree hj
      obtain ⟨g, e8, hg8, hB8⟩ := r8.1 rfl
      obtain ⟨A3, c3, e21, hO3⟩ := r21 rfl
      have q0 : ∀ i, u.cell? ⟨g, i, none⟩ = _ := fun i => hB8.cell i
      have q1 : ∀ i, u.frozen? ⟨g, i, none⟩ = _ := fun i => hB8.frozen i
      have q2 := hB8.lt
      have b1 := hB8.set_ 0 (.int .i64 x.table)
      have b2 := b1.set_ 1 (.slice none 0 0)
      have b3 := b2.set_ 2 (.slice A3 gs.l.length c3)
      have o1 := zzb hO3 hB8 (by decide) 0 (.int .i64 x.table)
      have o2 := zzb o1 b1 (by decide) 1 (.slice none 0 0)
      have o3 := zzb o2 b2 (by decide) 2 (.slice A3 gs.l.length c3)
      have hs3 := ((hS.setCell (p := ⟨g, 0, none⟩) hg8 (.int .i64 x.table)).setCell (p := ⟨g, 1, none⟩) hg8 (.slice none 0 0)).setCell (p := ⟨g, 2, none⟩) hg8 (.slice A3 gs.l.length c3)
      go_simp
      exact ⟨trivial, hs3, ⟨.inr (.inr (fun h => h)), .inr (.inr (fun h => h)), .inr (.inr (fun h => h)), .inr (.inr (fun _ => zbc (by omega))), .inr (.inr (fun _ => zbc (by omega))), .inr (.inr (fun _ => ⟨fun h => absurd h (by omega), fun _ => ⟨A3, c3, ⟨g, e8, hg8, b3⟩, o3⟩⟩)), trivial, trivial⟩⟩
    intro u hS
    rintro _ rfl _ rfl _ rfl _ r_20 _ r_21 _ r_8
    simp only [zxb, Act.put, List.setIfInBounds_toArray, List.set_cons_zero, List.set_cons_succ]
    obtain ⟨A3, c3, ⟨g8, e8, hg8, hB8⟩, hO3⟩ := r_8.2 rfl
    subst e8
    obtain ⟨W4, hW4⟩ : ∃ z, u = z := ⟨_, rfl⟩
    rw [hW4] at hS hB8 hO3 ⊢
    clear hW4 a0 m0 z0 a1 m1 z1 r_20 r_21 r_8
    have hufM : ∀ k, UF lb A k → k < M := fun k hk => by rw [← hM]; exact UF_lt HU2.out k hk
    have HS4 := Hd hS
    have HB8 := Hd hB8
    have HO4 := Hd hO3
    have HXc := Hd (show SLR W B 3 ExD.enc ExD.ok x.cond from HXo.out.2.2.1.below (HBW.out.mono (by omega)))
    have hBM : B ≤ M := by omega
    have hcl := HC.out x HM.out.1
    clear hS hB8 hO3
    obtain ⟨a0, m0, z0⟩ := Held.at_ (HH2.out.below (by rw [hM]; exact HS4.out)) (.head _)
    obtain ⟨q0, q1⟩ : (∀ i, W4.cell? ⟨g8, i, none⟩ = _) ∧ (∀ i, W4.frozen? ⟨g8, i, none⟩ = _) := ⟨fun i => HB8.out.cell i, fun i => HB8.out.frozen i⟩
    have q2 := HB8.out.lt
    by_cases ck : x.kind = 2
    ·have ck' : (x.kind == 2) = true := by simp [ck]
     have hcl := hcl ck
     go_wp2_with fail
     refine Calls.named ?_
     intro W5 hW5
     have b1 := HB8.out.set_ 0 (.int .i64 (-1))
     have o1 := zzb HO4.out HB8.out (by decide) 0 (.int .i64 (-1))
     have hs1 := HS4.out.setCell (p := ⟨g8, 0, none⟩) hg8 (.int .i64 (-1))
     rw [← hW5] at b1 o1 hs1
     clear hW5 a0 m0 z0 q0 q1 q2
     have hMs : M ≤ W5.heap.size := by have := hs1.size; omega
     with_reducible refine (cloneE_any x.cond W5 ((HXc.out.below (hs1.mono hBM)).more (by omega)) (by omega)).mono ?_
     rintro e w6 ⟨⟨Acd, ccd, rfl, hO5⟩, hb6⟩
     have b2 := b1.below hb6 b1.lt
     have o2 := Own.below o1 hb6
     have hs2 := hs1.trans (hb6.mono hMs)
     have hO5' : OwnEx w6 M Acd ccd x.cond.l := Own.rebase hO5 hMs
     have b3 := b2.set_ 1 (.slice Acd x.cond.l.length ccd)
     have o3 := zzb o2 b2 (by decide) 1 (.slice Acd x.cond.l.length ccd)
     have o5 := zzb hO5' b2 (by decide) 1 (.slice Acd x.cond.l.length ccd)
     have hs3 := hs2.setCell (p := ⟨g8, 1, none⟩) hg8 (.slice Acd x.cond.l.length ccd)
     obtain ⟨q0, q1⟩ : (∀ i, w6.cell? ⟨g8, i, none⟩ = _) ∧ (∀ i, w6.frozen? ⟨g8, i, none⟩ = _) := ⟨fun i => b2.cell i, fun i => b2.frozen i⟩
     have q2 := b2.lt
     have HX1 := Hd (And.intro b3 (And.intro o3 (And.intro o5 hs3)))
     clear b1 b2 b3 o1 o2 o3 o5 hO5 hO5' hs1 hs2 hs3 hb6
     go_upto_region 8 with (fail)
     refine zfa ?_
     intro Wt hWt
     have hx1 := HX1.out
     rw [← hWt] at hx1
     clear hWt q0 q1 q2 HX1
     obtain ⟨hBt, hO3t, hO5t, hSt⟩ := hx1
     have hnF : ∀ k, UF lb A k → k < M := hufM
     have hCt : SLP Wt (UF lb A) 3 ExD.enc ⟨Acd, ccd, x.cond.l⟩ := SLP.of_own hO5t rfl (fun k hk he => by have := hnF k hk; have := (Own.lt hO5t k he).1; omega)
     have hMt : M ≤ Wt.heap.size := by have := hSt.size; omega
     have HSt := Hd hSt
     have HBt := Hd hBt
     have HUt := Hd (HU2.out.below (by rw [hM]; exact hSt))
     have HGt := Hd (HG2.out.below (by rw [hM]; exact hSt))
     have HGn := Hd (show SLP Wt (UF lb A) 2 zxa.enc ⟨A3, c3, gs.l⟩ from SLP.of_own hO3t rfl (fun k hk he => by have := hnF k hk; have := (Own.lt hO3t k he).1; omega))
     have HCt := Hd hCt
     have HHt := Hd (HH2.out.below (by rw [hM]; exact hSt))
     obtain ⟨nU, hnU⟩ : ∃ z, us.length = z := ⟨_, rfl⟩
     have hnb : nU ≤ 1000 := by omega
     obtain ⟨g9, hg9⟩ : ∃ z, Wt.heap.size = z := ⟨_, rfl⟩
     obtain ⟨Wi, hWi⟩ : ∃ z, Wt.alloc (.cells #[.int .i64 nU] 3) = z := ⟨_, rfl⟩
     have hbi : Below Wt.heap.size Wt Wi := by rw [← hWi]; exact (Below.refl _ _).alloc (Nat.le_refl _) _
     have hsi : Wi.heap.size = g9 + 1 := by rw [← hWi, ← hg9]; simp
     obtain ⟨Wa, hWa⟩ : ∃ z, Wi.alloc (.cells #[.int .i64 (-1), .slice Acd x.cond.l.length ccd, .slice A3 gs.l.length c3] 109) = z := ⟨_, rfl⟩
     have hba : Below Wi.heap.size Wi Wa := by rw [← hWa]; exact (Below.refl _ _).alloc (Nat.le_refl _) _
     have hsa : Wa.heap.size = g9 + 2 := by rw [← hWa]; simp [hsi]
     have hbt : Below Wt.heap.size Wt Wa := hbi.trans (hba.mono hbi.size)
     have HUa := Hd (HUt.out.below hbt)
     have HGa := Hd (HGt.out.below hbt)
     have HUn := Hd (show UnitD.okP Wa (UF lb A) ⟨(-1), ⟨Acd, ccd, x.cond.l⟩, ⟨A3, c3, gs.l⟩⟩ from ⟨HCt.out.below hbt, HGn.out.below hbt⟩)
     have HHa := Hd (show Held (UF lb A) Wa [(g9, 3, #[.int .i64 nU]), (g7, 100, #[.int .i64 x.kind, .int .i64 x.table, .slice x.cond.a x.cond.l.length x.cond.c, .slice x.thn.a x.thn.l.length x.thn.c, .slice x.els.a x.els.l.length x.els.c]), (N, 107, #[.slice gs.a gs.l.length gs.c])] from by
      have := (HHt.out.alloc (UF_lt HUt.out) #[.int .i64 nU] 3)
      rw [hWi, hg9] at this
      exact this.below hba)
     have HRd := Hd (show Reads Wa (g9 + 1 + 1) 3 (some ⟨g9 + 1, 0, none⟩) 1 ([(⟨(-1), ⟨Acd, ccd, x.cond.l⟩, ⟨A3, c3, gs.l⟩⟩ : UnitD)].flatMap UnitD.enc) from by
      have := rd_lit (enc := UnitD.enc) Wi 109 #[.int .i64 (-1), .slice Acd x.cond.l.length ccd, .slice A3 gs.l.length c3] (g9 + 1) hsi [⟨(-1), ⟨Acd, ccd, x.cond.l⟩, ⟨A3, c3, gs.l⟩⟩] rfl ztd (by simp [maxLen])
      rw [hWa] at this
      exact this)
     obtain ⟨u0, u1, u2⟩ : (Wt.cell? ⟨lb, 0, none⟩ = some (.slice A nU c)) ∧ (Wt.frozen? ⟨lb, 0, none⟩ = false) ∧ lb < g9 := ⟨by rw [← hnU]; exact HUt.out.box.cell 0, HUt.out.box.frozen 0, by rw [← hg9]; exact HUt.out.box.lt⟩
     obtain ⟨w0, w1', w2⟩ : (Wi.cell? ⟨lb, 0, none⟩ = some (.slice A nU c)) ∧ (Wi.frozen? ⟨lb, 0, none⟩ = false) ∧ lb < Wi.heap.size := ⟨(hbi.cell (p := ⟨lb, 0, none⟩) (by rw [hg9]; exact u2)).trans u0, (HUt.out.below hbi).box.frozen 0, by omega⟩
     have q0 : ∀ i, Wi.cell? ⟨g8, i, none⟩ = _ := fun i => (HBt.out.below hbi HBt.out.lt).cell i
     have hvW : vb + 1 ≤ Wa.heap.size := by have := HUa.out.vis.lt; omega
     clear hO3t hCt hBt hSt hbi hba hbt
     go_wp2_with (at_builtin; (refine zOc rfl _ _ rfl (vb + 1) A nU c us hnU rfl HUa.out.own _ _ 1 _ [⟨(-1), ⟨Acd, ccd, x.cond.l⟩, ⟨A3, c3, gs.l⟩⟩] rfl rfl HRd.out (by omega) hvW ?_; intro A2 c2 w8 hO2 hG2 hA2; have HO2 := Hd hO2; have HG2x := Hd hG2; have HA2 := Hd hA2; clear u0 u1 w0 w1' w2; obtain ⟨u0, u1, u3⟩ := HUa.out.row hG2; rw [hnU] at u0; clear hO2 hG2 hA2))
     refine zfa ?_
     intro Wv hWv
     have hpush := HUa.out.push HUn.out (by first | exact HXo.out.2.1 | exact (show I64 ((-1)) by unfold I64; omega)) HG2x.out HO2.out HA2.out
     rw [hnU, ← hWv] at hpush
     obtain ⟨hUv, hsv, hkv⟩ := hpush
     obtain ⟨usA, husA⟩ : ∃ z, us ++ [(⟨(-1), ⟨Acd, ccd, x.cond.l⟩, ⟨A3, c3, gs.l⟩⟩ : UnitD)] = z := ⟨_, rfl⟩
     have hlA : usA.length = nU + 1 := by rw [← husA]; simp [hnU]
     rw [husA] at hUv
     have HsA := Hd husA
     have HUv := Hd hUv
     have HHv := Hd (HHa.out.kept hkv hsv)
     have HGv := Hd (HGa.out.kept hkv hsv)
     have hbwa : Below g7 wr Wa := (HBW.out.trans (HSt.out.mono (by omega))).trans (by rw [← hWa, ← hWi]; exact ((Below.refl _ _).alloc (by omega) _).alloc (by simp; omega) _)
     have hkwv : KeptF (UF lb A) wr Wv := (KeptF.of_below (by rw [hg7]; exact hbwa)).trans (Sub.refl _ _) hkv
     have hswv : Sub (UF lb A) (UF lb A2) wr.heap.size := fun k hk => (hsv k hk).imp id fun h => by omega
     have HSv := Hd hswv
     have HKv := Hd hkwv
     have HKWv := Hd (hkwv.below (fun k h => (HUk.out.foot h).1) hBr)
     clear hWv hUv hsv hkv hbwa hkwv hswv husA u0 u1 u3 q0 hWa hWi
     obtain ⟨P11, hP11⟩ : ∃ z, Wv.heap.size = z := ⟨_, rfl⟩
     obtain ⟨v0, v2⟩ : (∀ i, Wv.cell? ⟨vb, i, none⟩ = _) ∧ vb < P11 := ⟨fun i => HUv.out.vis.cell i, by rw [← hP11]; exact HUv.out.vis.lt⟩
     obtain ⟨s0, s1, _⟩ := Held.at_ HHv.out (.tail _ (.head _))
     rw [hP11] at s1
     have HT11 := Hd (show SLR Wv B 5 NodD.enc (NodD.ok Wv B) x.thn from ((HXo.out.2.2.2.1.below HKWv.out).imp fun y hy => NodD.ok_below y hy HKWv.out))
     have hBP11 : B ≤ P11 := by have := HUv.out.b1; have := HUv.out.b2; omega
     have hUFP11 : ∀ k, UF lb A2 k → k < P11 := fun k hk => by rw [← hP11]; exact UF_lt HUv.out k hk
     have hstab : zba ([leq (.func (.func 64) #[] #[.pointer (some ⟨lb, 0, none⟩), .pointer (some ⟨vb, 0, none⟩)]), leq (.pointer (some ⟨g7, 3, none⟩)), leq (.slice x.thn.a x.thn.l.length x.thn.c), leq (.func (.func 67) #[] #[.pointer (some ⟨N, 0, none⟩), .pointer (some ⟨g9, 0, none⟩)]), lat 0 (pOwn (fun u A c => OwnG u P11 A c (gs.l ++ [⟨(nU : Int), true⟩])) (gs.l.length + 1)), lany]) := zba.cons_ (zea _) (zba.cons_ (zea _) (zba.cons_ (zea _) (zba.cons_ (zea _) (zba.cons_ (zic (zDe fun _ _ _ _ hb ho => Own.below ho hb)) (zba.cons_ zfc (zba.nil_))))))
     have Hq9 := Hd (show ∀ i j, List.contains (Chain.effs ⟨[5], [(0, 0), (0, 0), (0, 0), (0, 0), (0, 0), (0, 0)]⟩) i = false → Chain.next ⟨[5], [(0, 0), (0, 0), (0, 0), (0, 0), (0, 0), (0, 0)]⟩ i j = j from fun i j h => zya h)
     refine zja ⟨[5], [(0, 0), (0, 0), (0, 0), (0, 0), (0, 0), (0, 0)]⟩ (sj (fun u => Below P11 Wv u) (fun u => VisEnd B lb vb A2 usA x.thn.l (gM gs.l ++ [((nU : Int), true)]) Wv u)) ([leq (.func (.func 64) #[] #[.pointer (some ⟨lb, 0, none⟩), .pointer (some ⟨vb, 0, none⟩)]), leq (.pointer (some ⟨g7, 3, none⟩)), leq (.slice x.thn.a x.thn.l.length x.thn.c), leq (.func (.func 67) #[] #[.pointer (some ⟨N, 0, none⟩), .pointer (some ⟨g9, 0, none⟩)]), lat 0 (pOwn (fun u A c => OwnG u P11 A c (gs.l ++ [⟨(nU : Int), true⟩])) (gs.l.length + 1)), lany]) (by kernel_rfl) (by kernel_rfl) (by kernel_rfl) (by kernel_rfl) ?_ ?_ ?_
     ·exact sj0 (by rw [← hP11]; exact (Below.refl _ _).drew)
     ·show zQb _ _ _ _ _ _ 0 _
      refine ⟨?_, ?_, ?_, ?_, ?_, ?_, trivial⟩
      ·intro j hj ρ y u hS hc hf hg hfree hdep
       obtain rfl := jz hj rfl
       rw [Hq9.out _ 0 rfl]
       have e3 : ρ (.tmp 3) = .pointer (some ⟨vb, 0, none⟩) := hfree 3 rfl
       refine ⟨fun _ => ?_, zaa rfl⟩
       clear hdep hfree hj
       have c0 : u.cell? ⟨vb, 0, none⟩ = some _ := ((hS.1 rfl).cell (p := ⟨vb, 0, none⟩) v2).trans (v0 0)
       go_simp
       exact ⟨rfl, hS, KL hstab⟩
      ·intro j hj ρ y u hS hc hf hg hfree hdep
       obtain rfl := jz hj rfl
       rw [Hq9.out _ 0 rfl]
       have e7 : ρ (.tmp 7) = .pointer (some ⟨g7, 0, none⟩) := hfree 7 rfl
       refine ⟨fun _ => ?_, zaa rfl⟩
       clear hdep hfree hj
       go_simp
       exact ⟨rfl, hS, KL hstab⟩
      ·intro j hj ρ y u hS hc hf hg hfree hdep
       obtain rfl := jz hj rfl
       rw [Hq9.out _ 0 rfl]
       have e38 : ρ (.tmp 38) = _ := (hdep 1 _ 38 rfl rfl rfl).1
       refine ⟨fun _ => ?_, zaa rfl⟩
       clear hdep hfree hj
       have c0 : u.cell? ⟨g7, 3, none⟩ = some _ := ((hS.1 rfl).cell (p := ⟨g7, 3, none⟩) s1).trans (s0 3)
       go_simp
       exact ⟨rfl, hS, KL hstab⟩
      ·intro j hj ρ y u hS hc hf hg hfree hdep
       obtain rfl := jz hj rfl
       rw [Hq9.out _ 0 rfl]
       have e10 : ρ (.tmp 10) = .func (.func 67) #[] #[.pointer (some ⟨N, 0, none⟩), .pointer (some ⟨g9, 0, none⟩)] := hfree 10 rfl
       refine ⟨fun _ => ?_, zaa rfl⟩
       clear hdep hfree hj
       go_simp
       exact ⟨rfl, hS, KL hstab⟩
      ·intro j hj ρ y u hS hc hf hg hfree hdep
       obtain rfl := jz hj rfl
       rw [Hq9.out _ 0 rfl]
       have e40 : ρ (.tmp 40) = _ := (hdep 3 _ 40 rfl rfl rfl).1
       refine ⟨fun _ => ?_, zaa rfl⟩
       clear hdep hfree hj
       have hS0 := hS.1 rfl
       have hPu : P11 ≤ u.heap.size := by have := hS0.size; omega
       have hSx : Below Wv.heap.size Wv u := by rw [hP11]; exact hS0
       go_simp
       refine zha (zPd gs nU true N g9 u (((HGv.out.slr).below hSx).more (by rw [hP11]; exact hPu)) (by omega) (HHv.out.below hSx _ (.tail _ (.tail _ (.head _)))).2 (HHv.out.below hSx _ (.head _)).2) ?_
       rintro e w' ⟨⟨A4, c4, rfl, hO4⟩, hb4⟩
       exact ⟨_, rfl, (fun _ => ⟨A4, c4, rfl, Own.rebase hO4 hPu⟩), sj0 (hS0.trans (hb4.mono hPu)), KeepL.below hb4 _ _ 0 hstab⟩
      ·intro j hj ρ y u hS hc hf hg hfree hdep
       obtain rfl := jz hj rfl
       rw [show Chain.next ⟨[5], [(0, 0), (0, 0), (0, 0), (0, 0), (0, 0), (0, 0)]⟩ 5 0 = 1 from rfl]
       have e37 : ρ (.tmp 37) = _ := (hdep 0 _ 37 rfl rfl rfl).1
       have e39 : ρ (.tmp 39) = _ := (hdep 2 _ 39 rfl rfl rfl).1
       have r41 := (hdep 4 _ 41 rfl rfl rfl).1
       refine ⟨fun _ => ?_, zaa rfl⟩
       clear hdep hfree hj
       have hS0 := hS.1 rfl
       have hPu : P11 ≤ u.heap.size := by have := hS0.size; omega
       have hSx : Below Wv.heap.size Wv u := by rw [hP11]; exact hS0
       have hSB : Below B Wv u := hS0.mono hBP11
       obtain ⟨A4, c4, eA4, hO4⟩ := r41 rfl
       have hgl4 : (gs.l ++ [(⟨(nU : Int), true⟩ : zxa)]).length = gs.l.length + 1 := by simp
       have hslp : SLP u (UF lb A2) 2 zxa.enc ⟨A4, c4, gs.l ++ [⟨(nU : Int), true⟩]⟩ := SLP.of_own (e := 148) (n := (gs.l ++ [(⟨(nU : Int), true⟩ : zxa)]).length) hO4 rfl (fun k hk he => by have h1 := hUFP11 k hk; have h2 := (Own.lt hO4 k he).1; omega)
       have hcon := HIh.out x.thn ⟨A4, c4, gs.l ++ [⟨(nU : Int), true⟩]⟩ usA A2 c2 u (by omega) ((HT11.out.below hSB).imp fun y hy => NodD.ok_below y hy hSB) (fun y hy hk => HC.out y (HM.out.2.1 y hy) hk) (by omega) hslp (by dsimp only; omega) (HUv.out.below hSx) (by omega)
       dsimp only at hcon
       rw [hgl4] at hcon
       go_simp
       refine zha hcon ?_
       rintro e w' ⟨rfl, A', c', l1', hU', hl', hs', hk'⟩
       refine ⟨_, rfl, trivial, sj1 ⟨A', c', l1', hU', (by rw [gM, List.map_append] at hl'; exact hl'), (fun k hk => (hs' k hk).imp id fun h => by omega), (KeptF.of_below hSx).trans (Sub.refl _ _) hk'⟩, ⟨.inr (.inr (fun h => h)), .inr (.inr (fun h => h)), .inr (.inr (fun h => h)), .inr (.inr (fun h => h)), .inr (.inr (fun _ => zbc (by omega))), .inl rfl, trivial⟩⟩
     intro u hS
     rintro _ rfl _ rfl _ rfl _ rfl _ r_41 _ r_42
     simp only [zxb, Act.put, List.setIfInBounds_toArray, List.set_cons_zero, List.set_cons_succ]
     obtain ⟨A5, c5, l2, hU', hl', hs', hk'⟩ := hS.2 rfl
     obtain ⟨Wx, hWO⟩ : ∃ z, u = z := ⟨_, rfl⟩
     rw [hWO] at hU' hk' ⊢
     have HUx := Hd hU'
     have HL11 := Hd hl'
     have hL11 : (l2).length = (zda x.thn.l).length := by rw [← zrb x.thn.l (gM gs.l ++ [((nU : Int), true)]) (usA).length, ← hl', List.length_map]
     have HS11 := Hd hs'
     have HK11 := Hd hk'
     have HHx := Hd (HHv.out.kept hk' hs')
     have HGx := Hd (HGv.out.kept hk' hs')
     clear hWO hU' hl' hs' hk' hS v0 v2 s0 s1 r_41 r_42
     have HKWx := Hd (HKWv.out.trans (HK11.out.below (B := B) (fun k h => (HUv.out.foot h).1) (by omega)))
     obtain ⟨usB, husB⟩ : ∃ z, usA ++ l2 = z := ⟨_, rfl⟩
     have hlB : usB.length = nU + 1 + (zda x.thn.l).length := by rw [← husB, List.length_append]; omega
     rw [husB] at HUx
     have HsB := Hd husB
     clear husB
     go_wp2_with fail
     obtain ⟨P12, hP12⟩ : ∃ z, Wx.heap.size = z := ⟨_, rfl⟩
     obtain ⟨v0, v2⟩ : (∀ i, Wx.cell? ⟨vb, i, none⟩ = _) ∧ vb < P12 := ⟨fun i => HUx.out.vis.cell i, by rw [← hP12]; exact HUx.out.vis.lt⟩
     obtain ⟨s0, s1, _⟩ := Held.at_ HHx.out (.tail _ (.head _))
     rw [hP12] at s1
     have HT12 := Hd (show SLR Wx B 5 NodD.enc (NodD.ok Wx B) x.els from ((HXo.out.2.2.2.2.below HKWx.out).imp fun y hy => NodD.ok_below y hy HKWx.out))
     have hBP12 : B ≤ P12 := by have := HUx.out.b1; have := HUx.out.b2; omega
     have hUFP12 : ∀ k, UF lb A5 k → k < P12 := fun k hk => by rw [← hP12]; exact UF_lt HUx.out k hk
     have hstab : zba ([leq (.func (.func 64) #[] #[.pointer (some ⟨lb, 0, none⟩), .pointer (some ⟨vb, 0, none⟩)]), leq (.pointer (some ⟨g7, 4, none⟩)), leq (.slice x.els.a x.els.l.length x.els.c), leq (.func (.func 67) #[] #[.pointer (some ⟨N, 0, none⟩), .pointer (some ⟨g9, 0, none⟩)]), lat 0 (pOwn (fun u A c => OwnG u P12 A c (gs.l ++ [⟨(nU : Int), false⟩])) (gs.l.length + 1)), lany]) := zba.cons_ (zea _) (zba.cons_ (zea _) (zba.cons_ (zea _) (zba.cons_ (zea _) (zba.cons_ (zic (zDe fun _ _ _ _ hb ho => Own.below ho hb)) (zba.cons_ zfc (zba.nil_))))))
     have Hq9 := Hd (show ∀ i j, List.contains (Chain.effs ⟨[5], [(0, 0), (0, 0), (0, 0), (0, 0), (0, 0), (0, 0)]⟩) i = false → Chain.next ⟨[5], [(0, 0), (0, 0), (0, 0), (0, 0), (0, 0), (0, 0)]⟩ i j = j from fun i j h => zya h)
     refine zja ⟨[5], [(0, 0), (0, 0), (0, 0), (0, 0), (0, 0), (0, 0)]⟩ (sj (fun u => Below P12 Wx u) (fun u => VisEnd B lb vb A5 usB x.els.l (gM gs.l ++ [((nU : Int), false)]) Wx u)) ([leq (.func (.func 64) #[] #[.pointer (some ⟨lb, 0, none⟩), .pointer (some ⟨vb, 0, none⟩)]), leq (.pointer (some ⟨g7, 4, none⟩)), leq (.slice x.els.a x.els.l.length x.els.c), leq (.func (.func 67) #[] #[.pointer (some ⟨N, 0, none⟩), .pointer (some ⟨g9, 0, none⟩)]), lat 0 (pOwn (fun u A c => OwnG u P12 A c (gs.l ++ [⟨(nU : Int), false⟩])) (gs.l.length + 1)), lany]) (by kernel_rfl) (by kernel_rfl) (by kernel_rfl) (by kernel_rfl) ?_ ?_ ?_
     ·exact sj0 (by rw [← hP12]; exact (Below.refl _ _).drew)
     ·show zQb _ _ _ _ _ _ 0 _
      refine ⟨?_, ?_, ?_, ?_, ?_, ?_, trivial⟩
      ·intro j hj ρ y u hS hc hf hg hfree hdep
       obtain rfl := jz hj rfl
       rw [Hq9.out _ 0 rfl]
       have e3 : ρ (.tmp 3) = .pointer (some ⟨vb, 0, none⟩) := hfree 3 rfl
       refine ⟨fun _ => ?_, zaa rfl⟩
       clear hdep hfree hj
       have c0 : u.cell? ⟨vb, 0, none⟩ = some _ := ((hS.1 rfl).cell (p := ⟨vb, 0, none⟩) v2).trans (v0 0)
       go_simp
       exact ⟨rfl, hS, KL hstab⟩
      ·intro j hj ρ y u hS hc hf hg hfree hdep
       obtain rfl := jz hj rfl
       rw [Hq9.out _ 0 rfl]
       have e7 : ρ (.tmp 7) = .pointer (some ⟨g7, 0, none⟩) := hfree 7 rfl
       refine ⟨fun _ => ?_, zaa rfl⟩
       clear hdep hfree hj
       go_simp
       exact ⟨rfl, hS, KL hstab⟩
      ·intro j hj ρ y u hS hc hf hg hfree hdep
       obtain rfl := jz hj rfl
       rw [Hq9.out _ 0 rfl]
       have e44 : ρ (.tmp 44) = _ := (hdep 1 _ 44 rfl rfl rfl).1
       refine ⟨fun _ => ?_, zaa rfl⟩
       clear hdep hfree hj
       have c0 : u.cell? ⟨g7, 4, none⟩ = some _ := ((hS.1 rfl).cell (p := ⟨g7, 4, none⟩) s1).trans (s0 4)
       go_simp
       exact ⟨rfl, hS, KL hstab⟩
      ·intro j hj ρ y u hS hc hf hg hfree hdep
       obtain rfl := jz hj rfl
       rw [Hq9.out _ 0 rfl]
       have e10 : ρ (.tmp 10) = .func (.func 67) #[] #[.pointer (some ⟨N, 0, none⟩), .pointer (some ⟨g9, 0, none⟩)] := hfree 10 rfl
       refine ⟨fun _ => ?_, zaa rfl⟩
       clear hdep hfree hj
       go_simp
       exact ⟨rfl, hS, KL hstab⟩
      ·intro j hj ρ y u hS hc hf hg hfree hdep
       obtain rfl := jz hj rfl
       rw [Hq9.out _ 0 rfl]
       have e46 : ρ (.tmp 46) = _ := (hdep 3 _ 46 rfl rfl rfl).1
       refine ⟨fun _ => ?_, zaa rfl⟩
       clear hdep hfree hj
       have hS0 := hS.1 rfl
       have hPu : P12 ≤ u.heap.size := by have := hS0.size; omega
       have hSx : Below Wx.heap.size Wx u := by rw [hP12]; exact hS0
       go_simp
       refine zha (zPd gs nU false N g9 u (((HGx.out.slr).below hSx).more (by rw [hP12]; exact hPu)) (by omega) (HHx.out.below hSx _ (.tail _ (.tail _ (.head _)))).2 (HHx.out.below hSx _ (.head _)).2) ?_
       rintro e w' ⟨⟨A4, c4, rfl, hO4⟩, hb4⟩
       exact ⟨_, rfl, (fun _ => ⟨A4, c4, rfl, Own.rebase hO4 hPu⟩), sj0 (hS0.trans (hb4.mono hPu)), KeepL.below hb4 _ _ 0 hstab⟩
      ·intro j hj ρ y u hS hc hf hg hfree hdep
       obtain rfl := jz hj rfl
       rw [show Chain.next ⟨[5], [(0, 0), (0, 0), (0, 0), (0, 0), (0, 0), (0, 0)]⟩ 5 0 = 1 from rfl]
       have e43 : ρ (.tmp 43) = _ := (hdep 0 _ 43 rfl rfl rfl).1
       have e45 : ρ (.tmp 45) = _ := (hdep 2 _ 45 rfl rfl rfl).1
       have r47 := (hdep 4 _ 47 rfl rfl rfl).1
       refine ⟨fun _ => ?_, zaa rfl⟩
       clear hdep hfree hj
       have hS0 := hS.1 rfl
       have hPu : P12 ≤ u.heap.size := by have := hS0.size; omega
       have hSx : Below Wx.heap.size Wx u := by rw [hP12]; exact hS0
       have hSB : Below B Wx u := hS0.mono hBP12
       obtain ⟨A4, c4, eA4, hO4⟩ := r47 rfl
       have hgl4 : (gs.l ++ [(⟨(nU : Int), false⟩ : zxa)]).length = gs.l.length + 1 := by simp
       have hslp : SLP u (UF lb A5) 2 zxa.enc ⟨A4, c4, gs.l ++ [⟨(nU : Int), false⟩]⟩ := SLP.of_own (e := 148) (n := (gs.l ++ [(⟨(nU : Int), false⟩ : zxa)]).length) hO4 rfl (fun k hk he => by have h1 := hUFP12 k hk; have h2 := (Own.lt hO4 k he).1; omega)
       have hcon := HIh.out x.els ⟨A4, c4, gs.l ++ [⟨(nU : Int), false⟩]⟩ usB A5 c5 u (by omega) ((HT12.out.below hSB).imp fun y hy => NodD.ok_below y hy hSB) (fun y hy hk => HC.out y (HM.out.2.2 y hy) hk) (by omega) hslp (by dsimp only; omega) (HUx.out.below hSx) (by omega)
       dsimp only at hcon
       rw [hgl4] at hcon
       go_simp
       refine zha hcon ?_
       rintro e w' ⟨rfl, A', c', l1', hU', hl', hs', hk'⟩
       refine ⟨_, rfl, trivial, sj1 ⟨A', c', l1', hU', (by rw [gM, List.map_append] at hl'; exact hl'), (fun k hk => (hs' k hk).imp id fun h => by omega), (KeptF.of_below hSx).trans (Sub.refl _ _) hk'⟩, ⟨.inr (.inr (fun h => h)), .inr (.inr (fun h => h)), .inr (.inr (fun h => h)), .inr (.inr (fun h => h)), .inr (.inr (fun _ => zbc (by omega))), .inl rfl, trivial⟩⟩
     intro u hS
     rintro _ rfl _ rfl _ rfl _ rfl _ r_47 _ r_48
     simp only [zxb, Act.put, List.setIfInBounds_toArray, List.set_cons_zero, List.set_cons_succ]
     obtain ⟨A6, c6, l3, hU', hl', hs', hk'⟩ := hS.2 rfl
     obtain ⟨Wy, hWO⟩ : ∃ z, u = z := ⟨_, rfl⟩
     rw [hWO] at hU' hk' ⊢
     have HUy := Hd hU'
     have HL12 := Hd hl'
     have hL12 : (l3).length = (zda x.els.l).length := by rw [← zrb x.els.l (gM gs.l ++ [((nU : Int), false)]) (usB).length, ← hl', List.length_map]
     have HS12 := Hd hs'
     have HK12 := Hd hk'
     have HHy := Hd (HHx.out.kept hk' hs')
     have HGy := Hd (HGx.out.kept hk' hs')
     clear hWO hU' hl' hs' hk' hS v0 v2 s0 s1 r_47 r_48
     obtain ⟨uA, huA⟩ : ∃ z, (⟨(-1), ⟨Acd, ccd, x.cond.l⟩, ⟨A3, c3, gs.l⟩⟩ : UnitD) = z := ⟨_, rfl⟩
     have HuA := Hd huA
     have HEq := Hd (show usB ++ l3 = us0 ++ (l1 ++ (uA :: (l2 ++ l3))) by rw [← HsB.out, ← HsA.out, ← HUs.out, huA]; simp)
     have e1 : us0.length + (l1.map UnitD.m).length = nU := by rw [List.length_map, ← hnU, ← HUs.out, List.length_append]
     have HMap := Hd (show (l1 ++ (uA :: (l2 ++ l3))).map UnitD.m = nodsU (sl.take (k + 1)) (gM gs.l) us0.length by
      rw [nodsU_take HX.out, ← HL1.out, e1, nodU_eq, List.map_append, List.map_cons, List.map_append, HL11.out, HL12.out, hlA, hlB]
      have e2 : (nodsU x.thn.l (gM gs.l ++ [((nU : Int), true)]) (nU + 1)).length = (zda x.thn.l).length := zrb _ _ _
      rw [e2, show UnitD.m uA = { table := if x.kind = 2 then -1 else x.table, cond := if x.kind = 2 then x.cond.l else [], guards := gM gs.l } by rw [← huA]; simp [UnitD.m, ck]])
     have hz1 := HK.out.size
     have hz2 := HKv.out.size
     have hz3 := HK11.out.size
     rw [hsz1] at hz1
     have HSf := Hd (show Sub (UF lb A0) (UF lb A6) (N + 1) from ((HSub.out.trans HSv.out (by omega)).trans HS11.out (by omega)).trans HS12.out (by omega))
     have HKf := Hd (show KeptF (UF lb A0) w1 Wy from (((HK.out.trans (fun k hk => by have := HSub.out k hk; rwa [← hsz1] at this) HKv.out).trans (fun k hk => by have := (HSub.out.trans HSv.out (by omega)) k hk; rwa [← hsz1] at this) HK11.out).trans (fun k hk => by have := ((HSub.out.trans HSv.out (by omega)).trans HS11.out (by omega)) k hk; rwa [← hsz1] at this) HK12.out))
     rw [HEq.out] at HUy
     clear huA
     go_wp2_with fail
     go_roundw
     case rel => exact ⟨k + 1, A6, c6, l1 ++ (uA :: (l2 ++ l3)), by omega, by go_num, HUy.out, HMap.out, HSf.out, HKf.out, HHy.out.skip.skip, HGy.out⟩
     case measure => simp [intOf]; omega
    ·have ck' : (x.kind == 2) = false := by simp [ck]
     go_upto_region 8 with (fail)
     refine zfa ?_
     intro Wt hWt
     have hBt := HB8.out
     have hO3t := HO4.out
     have hSt := HS4.out
     rw [← hWt] at hBt hO3t hSt
     have hnF : ∀ k, UF lb A k → k < M := hufM
     have hCt : SLP Wt (UF lb A) 3 ExD.enc ⟨none, 0, []⟩ := SLP.nil_
     clear hWt a0 m0 z0 q0 q1 q2
     have hMt : M ≤ Wt.heap.size := by have := hSt.size; omega
     have HSt := Hd hSt
     have HBt := Hd hBt
     have HUt := Hd (HU2.out.below (by rw [hM]; exact hSt))
     have HGt := Hd (HG2.out.below (by rw [hM]; exact hSt))
     have HGn := Hd (show SLP Wt (UF lb A) 2 zxa.enc ⟨A3, c3, gs.l⟩ from SLP.of_own hO3t rfl (fun k hk he => by have := hnF k hk; have := (Own.lt hO3t k he).1; omega))
     have HCt := Hd hCt
     have HHt := Hd (HH2.out.below (by rw [hM]; exact hSt))
     obtain ⟨nU, hnU⟩ : ∃ z, us.length = z := ⟨_, rfl⟩
     have hnb : nU ≤ 1000 := by omega
     obtain ⟨g9, hg9⟩ : ∃ z, Wt.heap.size = z := ⟨_, rfl⟩
     obtain ⟨Wi, hWi⟩ : ∃ z, Wt.alloc (.cells #[.int .i64 nU] 3) = z := ⟨_, rfl⟩
     have hbi : Below Wt.heap.size Wt Wi := by rw [← hWi]; exact (Below.refl _ _).alloc (Nat.le_refl _) _
     have hsi : Wi.heap.size = g9 + 1 := by rw [← hWi, ← hg9]; simp
     obtain ⟨Wa, hWa⟩ : ∃ z, Wi.alloc (.cells #[.int .i64 x.table, .slice none 0 0, .slice A3 gs.l.length c3] 109) = z := ⟨_, rfl⟩
     have hba : Below Wi.heap.size Wi Wa := by rw [← hWa]; exact (Below.refl _ _).alloc (Nat.le_refl _) _
     have hsa : Wa.heap.size = g9 + 2 := by rw [← hWa]; simp [hsi]
     have hbt : Below Wt.heap.size Wt Wa := hbi.trans (hba.mono hbi.size)
     have HUa := Hd (HUt.out.below hbt)
     have HGa := Hd (HGt.out.below hbt)
     have HUn := Hd (show UnitD.okP Wa (UF lb A) ⟨x.table, ⟨none, 0, ([] : List ExD)⟩, ⟨A3, c3, gs.l⟩⟩ from ⟨HCt.out.below hbt, HGn.out.below hbt⟩)
     have HHa := Hd (show Held (UF lb A) Wa [(g9, 3, #[.int .i64 nU]), (g7, 100, #[.int .i64 x.kind, .int .i64 x.table, .slice x.cond.a x.cond.l.length x.cond.c, .slice x.thn.a x.thn.l.length x.thn.c, .slice x.els.a x.els.l.length x.els.c]), (N, 107, #[.slice gs.a gs.l.length gs.c])] from by
      have := (HHt.out.alloc (UF_lt HUt.out) #[.int .i64 nU] 3)
      rw [hWi, hg9] at this
      exact this.below hba)
     have HRd := Hd (show Reads Wa (g9 + 1 + 1) 3 (some ⟨g9 + 1, 0, none⟩) 1 ([(⟨x.table, ⟨none, 0, ([] : List ExD)⟩, ⟨A3, c3, gs.l⟩⟩ : UnitD)].flatMap UnitD.enc) from by
      have := rd_lit (enc := UnitD.enc) Wi 109 #[.int .i64 x.table, .slice none 0 0, .slice A3 gs.l.length c3] (g9 + 1) hsi [⟨x.table, ⟨none, 0, ([] : List ExD)⟩, ⟨A3, c3, gs.l⟩⟩] rfl ztd (by simp [maxLen])
      rw [hWa] at this
      exact this)
     obtain ⟨u0, u1, u2⟩ : (Wt.cell? ⟨lb, 0, none⟩ = some (.slice A nU c)) ∧ (Wt.frozen? ⟨lb, 0, none⟩ = false) ∧ lb < g9 := ⟨by rw [← hnU]; exact HUt.out.box.cell 0, HUt.out.box.frozen 0, by rw [← hg9]; exact HUt.out.box.lt⟩
     obtain ⟨w0, w1', w2⟩ : (Wi.cell? ⟨lb, 0, none⟩ = some (.slice A nU c)) ∧ (Wi.frozen? ⟨lb, 0, none⟩ = false) ∧ lb < Wi.heap.size := ⟨(hbi.cell (p := ⟨lb, 0, none⟩) (by rw [hg9]; exact u2)).trans u0, (HUt.out.below hbi).box.frozen 0, by omega⟩
     have q0 : ∀ i, Wi.cell? ⟨g8, i, none⟩ = _ := fun i => (HBt.out.below hbi HBt.out.lt).cell i
     have hvW : vb + 1 ≤ Wa.heap.size := by have := HUa.out.vis.lt; omega
     clear hO3t hCt hBt hSt hbi hba hbt
     go_wp2_with (at_builtin; (refine zOc rfl _ _ rfl (vb + 1) A nU c us hnU rfl HUa.out.own _ _ 1 _ [⟨x.table, ⟨none, 0, ([] : List ExD)⟩, ⟨A3, c3, gs.l⟩⟩] rfl rfl HRd.out (by omega) hvW ?_; intro A2 c2 w8 hO2 hG2 hA2; have HO2 := Hd hO2; have HG2x := Hd hG2; have HA2 := Hd hA2; clear u0 u1 w0 w1' w2; obtain ⟨u0, u1, u3⟩ := HUa.out.row hG2; rw [hnU] at u0; clear hO2 hG2 hA2))
     refine zfa ?_
     intro Wv hWv
     have hpush := HUa.out.push HUn.out (by first | exact HXo.out.2.1 | exact (show I64 (x.table) by unfold I64; omega)) HG2x.out HO2.out HA2.out
     rw [hnU, ← hWv] at hpush
     obtain ⟨hUv, hsv, hkv⟩ := hpush
     obtain ⟨usA, husA⟩ : ∃ z, us ++ [(⟨x.table, ⟨none, 0, ([] : List ExD)⟩, ⟨A3, c3, gs.l⟩⟩ : UnitD)] = z := ⟨_, rfl⟩
     have hlA : usA.length = nU + 1 := by rw [← husA]; simp [hnU]
     rw [husA] at hUv
     have HsA := Hd husA
     have HUv := Hd hUv
     have HHv := Hd (HHa.out.kept hkv hsv)
     have HGv := Hd (HGa.out.kept hkv hsv)
     have hbwa : Below g7 wr Wa := (HBW.out.trans (HSt.out.mono (by omega))).trans (by rw [← hWa, ← hWi]; exact ((Below.refl _ _).alloc (by omega) _).alloc (by simp; omega) _)
     have hkwv : KeptF (UF lb A) wr Wv := (KeptF.of_below (by rw [hg7]; exact hbwa)).trans (Sub.refl _ _) hkv
     have hswv : Sub (UF lb A) (UF lb A2) wr.heap.size := fun k hk => (hsv k hk).imp id fun h => by omega
     have HSv := Hd hswv
     have HKv := Hd hkwv
     have HKWv := Hd (hkwv.below (fun k h => (HUk.out.foot h).1) hBr)
     clear hWv hUv hsv hkv hbwa hkwv hswv husA u0 u1 u3 q0 hWa hWi
     obtain ⟨P11, hP11⟩ : ∃ z, Wv.heap.size = z := ⟨_, rfl⟩
     obtain ⟨v0, v2⟩ : (∀ i, Wv.cell? ⟨vb, i, none⟩ = _) ∧ vb < P11 := ⟨fun i => HUv.out.vis.cell i, by rw [← hP11]; exact HUv.out.vis.lt⟩
     obtain ⟨s0, s1, _⟩ := Held.at_ HHv.out (.tail _ (.head _))
     rw [hP11] at s1
     have HT11 := Hd (show SLR Wv B 5 NodD.enc (NodD.ok Wv B) x.thn from ((HXo.out.2.2.2.1.below HKWv.out).imp fun y hy => NodD.ok_below y hy HKWv.out))
     have hBP11 : B ≤ P11 := by have := HUv.out.b1; have := HUv.out.b2; omega
     have hUFP11 : ∀ k, UF lb A2 k → k < P11 := fun k hk => by rw [← hP11]; exact UF_lt HUv.out k hk
     have hstab : zba ([leq (.func (.func 64) #[] #[.pointer (some ⟨lb, 0, none⟩), .pointer (some ⟨vb, 0, none⟩)]), leq (.pointer (some ⟨g7, 3, none⟩)), leq (.slice x.thn.a x.thn.l.length x.thn.c), leq (.func (.func 67) #[] #[.pointer (some ⟨N, 0, none⟩), .pointer (some ⟨g9, 0, none⟩)]), lat 0 (pOwn (fun u A c => OwnG u P11 A c (gs.l ++ [⟨(nU : Int), true⟩])) (gs.l.length + 1)), lany]) := zba.cons_ (zea _) (zba.cons_ (zea _) (zba.cons_ (zea _) (zba.cons_ (zea _) (zba.cons_ (zic (zDe fun _ _ _ _ hb ho => Own.below ho hb)) (zba.cons_ zfc (zba.nil_))))))
     have Hq9 := Hd (show ∀ i j, List.contains (Chain.effs ⟨[5], [(0, 0), (0, 0), (0, 0), (0, 0), (0, 0), (0, 0)]⟩) i = false → Chain.next ⟨[5], [(0, 0), (0, 0), (0, 0), (0, 0), (0, 0), (0, 0)]⟩ i j = j from fun i j h => zya h)
     refine zja ⟨[5], [(0, 0), (0, 0), (0, 0), (0, 0), (0, 0), (0, 0)]⟩ (sj (fun u => Below P11 Wv u) (fun u => VisEnd B lb vb A2 usA x.thn.l (gM gs.l ++ [((nU : Int), true)]) Wv u)) ([leq (.func (.func 64) #[] #[.pointer (some ⟨lb, 0, none⟩), .pointer (some ⟨vb, 0, none⟩)]), leq (.pointer (some ⟨g7, 3, none⟩)), leq (.slice x.thn.a x.thn.l.length x.thn.c), leq (.func (.func 67) #[] #[.pointer (some ⟨N, 0, none⟩), .pointer (some ⟨g9, 0, none⟩)]), lat 0 (pOwn (fun u A c => OwnG u P11 A c (gs.l ++ [⟨(nU : Int), true⟩])) (gs.l.length + 1)), lany]) (by kernel_rfl) (by kernel_rfl) (by kernel_rfl) (by kernel_rfl) ?_ ?_ ?_
     ·exact sj0 (by rw [← hP11]; exact (Below.refl _ _).drew)
     ·show zQb _ _ _ _ _ _ 0 _
      refine ⟨?_, ?_, ?_, ?_, ?_, ?_, trivial⟩
      ·intro j hj ρ y u hS hc hf hg hfree hdep
       obtain rfl := jz hj rfl
       rw [Hq9.out _ 0 rfl]
       have e3 : ρ (.tmp 3) = .pointer (some ⟨vb, 0, none⟩) := hfree 3 rfl
       refine ⟨fun _ => ?_, zaa rfl⟩
       clear hdep hfree hj
       have c0 : u.cell? ⟨vb, 0, none⟩ = some _ := ((hS.1 rfl).cell (p := ⟨vb, 0, none⟩) v2).trans (v0 0)
       go_simp
       exact ⟨rfl, hS, KL hstab⟩
      ·intro j hj ρ y u hS hc hf hg hfree hdep
       obtain rfl := jz hj rfl
       rw [Hq9.out _ 0 rfl]
       have e7 : ρ (.tmp 7) = .pointer (some ⟨g7, 0, none⟩) := hfree 7 rfl
       refine ⟨fun _ => ?_, zaa rfl⟩
       clear hdep hfree hj
       go_simp
       exact ⟨rfl, hS, KL hstab⟩
      ·intro j hj ρ y u hS hc hf hg hfree hdep
       obtain rfl := jz hj rfl
       rw [Hq9.out _ 0 rfl]
       have e38 : ρ (.tmp 38) = _ := (hdep 1 _ 38 rfl rfl rfl).1
       refine ⟨fun _ => ?_, zaa rfl⟩
       clear hdep hfree hj
       have c0 : u.cell? ⟨g7, 3, none⟩ = some _ := ((hS.1 rfl).cell (p := ⟨g7, 3, none⟩) s1).trans (s0 3)
       go_simp
       exact ⟨rfl, hS, KL hstab⟩
      ·intro j hj ρ y u hS hc hf hg hfree hdep
       obtain rfl := jz hj rfl
       rw [Hq9.out _ 0 rfl]
       have e10 : ρ (.tmp 10) = .func (.func 67) #[] #[.pointer (some ⟨N, 0, none⟩), .pointer (some ⟨g9, 0, none⟩)] := hfree 10 rfl
       refine ⟨fun _ => ?_, zaa rfl⟩
       clear hdep hfree hj
       go_simp
       exact ⟨rfl, hS, KL hstab⟩
      ·intro j hj ρ y u hS hc hf hg hfree hdep
       obtain rfl := jz hj rfl
       rw [Hq9.out _ 0 rfl]
       have e40 : ρ (.tmp 40) = _ := (hdep 3 _ 40 rfl rfl rfl).1
       refine ⟨fun _ => ?_, zaa rfl⟩
       clear hdep hfree hj
       have hS0 := hS.1 rfl
       have hPu : P11 ≤ u.heap.size := by have := hS0.size; omega
       have hSx : Below Wv.heap.size Wv u := by rw [hP11]; exact hS0
       go_simp
       refine zha (zPd gs nU true N g9 u (((HGv.out.slr).below hSx).more (by rw [hP11]; exact hPu)) (by omega) (HHv.out.below hSx _ (.tail _ (.tail _ (.head _)))).2 (HHv.out.below hSx _ (.head _)).2) ?_
       rintro e w' ⟨⟨A4, c4, rfl, hO4⟩, hb4⟩
       exact ⟨_, rfl, (fun _ => ⟨A4, c4, rfl, Own.rebase hO4 hPu⟩), sj0 (hS0.trans (hb4.mono hPu)), KeepL.below hb4 _ _ 0 hstab⟩
      ·intro j hj ρ y u hS hc hf hg hfree hdep
       obtain rfl := jz hj rfl
       rw [show Chain.next ⟨[5], [(0, 0), (0, 0), (0, 0), (0, 0), (0, 0), (0, 0)]⟩ 5 0 = 1 from rfl]
       have e37 : ρ (.tmp 37) = _ := (hdep 0 _ 37 rfl rfl rfl).1
       have e39 : ρ (.tmp 39) = _ := (hdep 2 _ 39 rfl rfl rfl).1
       have r41 := (hdep 4 _ 41 rfl rfl rfl).1
       refine ⟨fun _ => ?_, zaa rfl⟩
       clear hdep hfree hj
       have hS0 := hS.1 rfl
       have hPu : P11 ≤ u.heap.size := by have := hS0.size; omega
       have hSx : Below Wv.heap.size Wv u := by rw [hP11]; exact hS0
       have hSB : Below B Wv u := hS0.mono hBP11
       obtain ⟨A4, c4, eA4, hO4⟩ := r41 rfl
       have hgl4 : (gs.l ++ [(⟨(nU : Int), true⟩ : zxa)]).length = gs.l.length + 1 := by simp
       have hslp : SLP u (UF lb A2) 2 zxa.enc ⟨A4, c4, gs.l ++ [⟨(nU : Int), true⟩]⟩ := SLP.of_own (e := 148) (n := (gs.l ++ [(⟨(nU : Int), true⟩ : zxa)]).length) hO4 rfl (fun k hk he => by have h1 := hUFP11 k hk; have h2 := (Own.lt hO4 k he).1; omega)
       have hcon := HIh.out x.thn ⟨A4, c4, gs.l ++ [⟨(nU : Int), true⟩]⟩ usA A2 c2 u (by omega) ((HT11.out.below hSB).imp fun y hy => NodD.ok_below y hy hSB) (fun y hy hk => HC.out y (HM.out.2.1 y hy) hk) (by omega) hslp (by dsimp only; omega) (HUv.out.below hSx) (by omega)
       dsimp only at hcon
       rw [hgl4] at hcon
       go_simp
       refine zha hcon ?_
       rintro e w' ⟨rfl, A', c', l1', hU', hl', hs', hk'⟩
       refine ⟨_, rfl, trivial, sj1 ⟨A', c', l1', hU', (by rw [gM, List.map_append] at hl'; exact hl'), (fun k hk => (hs' k hk).imp id fun h => by omega), (KeptF.of_below hSx).trans (Sub.refl _ _) hk'⟩, ⟨.inr (.inr (fun h => h)), .inr (.inr (fun h => h)), .inr (.inr (fun h => h)), .inr (.inr (fun h => h)), .inr (.inr (fun _ => zbc (by omega))), .inl rfl, trivial⟩⟩
     intro u hS
     rintro _ rfl _ rfl _ rfl _ rfl _ r_41 _ r_42
     simp only [zxb, Act.put, List.setIfInBounds_toArray, List.set_cons_zero, List.set_cons_succ]
     obtain ⟨A5, c5, l2, hU', hl', hs', hk'⟩ := hS.2 rfl
     obtain ⟨Wx, hWO⟩ : ∃ z, u = z := ⟨_, rfl⟩
     rw [hWO] at hU' hk' ⊢
     have HUx := Hd hU'
     have HL11 := Hd hl'
     have hL11 : (l2).length = (zda x.thn.l).length := by rw [← zrb x.thn.l (gM gs.l ++ [((nU : Int), true)]) (usA).length, ← hl', List.length_map]
     have HS11 := Hd hs'
     have HK11 := Hd hk'
     have HHx := Hd (HHv.out.kept hk' hs')
     have HGx := Hd (HGv.out.kept hk' hs')
     clear hWO hU' hl' hs' hk' hS v0 v2 s0 s1 r_41 r_42
     have HKWx := Hd (HKWv.out.trans (HK11.out.below (B := B) (fun k h => (HUv.out.foot h).1) (by omega)))
     obtain ⟨usB, husB⟩ : ∃ z, usA ++ l2 = z := ⟨_, rfl⟩
     have hlB : usB.length = nU + 1 + (zda x.thn.l).length := by rw [← husB, List.length_append]; omega
     rw [husB] at HUx
     have HsB := Hd husB
     clear husB
     go_wp2_with fail
     obtain ⟨P12, hP12⟩ : ∃ z, Wx.heap.size = z := ⟨_, rfl⟩
     obtain ⟨v0, v2⟩ : (∀ i, Wx.cell? ⟨vb, i, none⟩ = _) ∧ vb < P12 := ⟨fun i => HUx.out.vis.cell i, by rw [← hP12]; exact HUx.out.vis.lt⟩
     obtain ⟨s0, s1, _⟩ := Held.at_ HHx.out (.tail _ (.head _))
     rw [hP12] at s1
     have HT12 := Hd (show SLR Wx B 5 NodD.enc (NodD.ok Wx B) x.els from ((HXo.out.2.2.2.2.below HKWx.out).imp fun y hy => NodD.ok_below y hy HKWx.out))
     have hBP12 : B ≤ P12 := by have := HUx.out.b1; have := HUx.out.b2; omega
     have hUFP12 : ∀ k, UF lb A5 k → k < P12 := fun k hk => by rw [← hP12]; exact UF_lt HUx.out k hk
     have hstab : zba ([leq (.func (.func 64) #[] #[.pointer (some ⟨lb, 0, none⟩), .pointer (some ⟨vb, 0, none⟩)]), leq (.pointer (some ⟨g7, 4, none⟩)), leq (.slice x.els.a x.els.l.length x.els.c), leq (.func (.func 67) #[] #[.pointer (some ⟨N, 0, none⟩), .pointer (some ⟨g9, 0, none⟩)]), lat 0 (pOwn (fun u A c => OwnG u P12 A c (gs.l ++ [⟨(nU : Int), false⟩])) (gs.l.length + 1)), lany]) := zba.cons_ (zea _) (zba.cons_ (zea _) (zba.cons_ (zea _) (zba.cons_ (zea _) (zba.cons_ (zic (zDe fun _ _ _ _ hb ho => Own.below ho hb)) (zba.cons_ zfc (zba.nil_))))))
     have Hq9 := Hd (show ∀ i j, List.contains (Chain.effs ⟨[5], [(0, 0), (0, 0), (0, 0), (0, 0), (0, 0), (0, 0)]⟩) i = false → Chain.next ⟨[5], [(0, 0), (0, 0), (0, 0), (0, 0), (0, 0), (0, 0)]⟩ i j = j from fun i j h => zya h)
     refine zja ⟨[5], [(0, 0), (0, 0), (0, 0), (0, 0), (0, 0), (0, 0)]⟩ (sj (fun u => Below P12 Wx u) (fun u => VisEnd B lb vb A5 usB x.els.l (gM gs.l ++ [((nU : Int), false)]) Wx u)) ([leq (.func (.func 64) #[] #[.pointer (some ⟨lb, 0, none⟩), .pointer (some ⟨vb, 0, none⟩)]), leq (.pointer (some ⟨g7, 4, none⟩)), leq (.slice x.els.a x.els.l.length x.els.c), leq (.func (.func 67) #[] #[.pointer (some ⟨N, 0, none⟩), .pointer (some ⟨g9, 0, none⟩)]), lat 0 (pOwn (fun u A c => OwnG u P12 A c (gs.l ++ [⟨(nU : Int), false⟩])) (gs.l.length + 1)), lany]) (by kernel_rfl) (by kernel_rfl) (by kernel_rfl) (by kernel_rfl) ?_ ?_ ?_
     ·exact sj0 (by rw [← hP12]; exact (Below.refl _ _).drew)
     ·show zQb _ _ _ _ _ _ 0 _
      refine ⟨?_, ?_, ?_, ?_, ?_, ?_, trivial⟩
      ·intro j hj ρ y u hS hc hf hg hfree hdep
       obtain rfl := jz hj rfl
       rw [Hq9.out _ 0 rfl]
       have e3 : ρ (.tmp 3) = .pointer (some ⟨vb, 0, none⟩) := hfree 3 rfl
       refine ⟨fun _ => ?_, zaa rfl⟩
       clear hdep hfree hj
       have c0 : u.cell? ⟨vb, 0, none⟩ = some _ := ((hS.1 rfl).cell (p := ⟨vb, 0, none⟩) v2).trans (v0 0)
       go_simp
       exact ⟨rfl, hS, KL hstab⟩
      ·intro j hj ρ y u hS hc hf hg hfree hdep
       obtain rfl := jz hj rfl
       rw [Hq9.out _ 0 rfl]
       have e7 : ρ (.tmp 7) = .pointer (some ⟨g7, 0, none⟩) := hfree 7 rfl
       refine ⟨fun _ => ?_, zaa rfl⟩
       clear hdep hfree hj
       go_simp
       exact ⟨rfl, hS, KL hstab⟩
      ·intro j hj ρ y u hS hc hf hg hfree hdep
       obtain rfl := jz hj rfl
       rw [Hq9.out _ 0 rfl]
       have e44 : ρ (.tmp 44) = _ := (hdep 1 _ 44 rfl rfl rfl).1
       refine ⟨fun _ => ?_, zaa rfl⟩
       clear hdep hfree hj
       have c0 : u.cell? ⟨g7, 4, none⟩ = some _ := ((hS.1 rfl).cell (p := ⟨g7, 4, none⟩) s1).trans (s0 4)
       go_simp
       exact ⟨rfl, hS, KL hstab⟩
      ·intro j hj ρ y u hS hc hf hg hfree hdep
       obtain rfl := jz hj rfl
       rw [Hq9.out _ 0 rfl]
       have e10 : ρ (.tmp 10) = .func (.func 67) #[] #[.pointer (some ⟨N, 0, none⟩), .pointer (some ⟨g9, 0, none⟩)] := hfree 10 rfl
       refine ⟨fun _ => ?_, zaa rfl⟩
       clear hdep hfree hj
       go_simp
       exact ⟨rfl, hS, KL hstab⟩
      ·intro j hj ρ y u hS hc hf hg hfree hdep
       obtain rfl := jz hj rfl
       rw [Hq9.out _ 0 rfl]
       have e46 : ρ (.tmp 46) = _ := (hdep 3 _ 46 rfl rfl rfl).1
       refine ⟨fun _ => ?_, zaa rfl⟩
       clear hdep hfree hj
       have hS0 := hS.1 rfl
       have hPu : P12 ≤ u.heap.size := by have := hS0.size; omega
       have hSx : Below Wx.heap.size Wx u := by rw [hP12]; exact hS0
       go_simp
       refine zha (zPd gs nU false N g9 u (((HGx.out.slr).below hSx).more (by rw [hP12]; exact hPu)) (by omega) (HHx.out.below hSx _ (.tail _ (.tail _ (.head _)))).2 (HHx.out.below hSx _ (.head _)).2) ?_
       rintro e w' ⟨⟨A4, c4, rfl, hO4⟩, hb4⟩
       exact ⟨_, rfl, (fun _ => ⟨A4, c4, rfl, Own.rebase hO4 hPu⟩), sj0 (hS0.trans (hb4.mono hPu)), KeepL.below hb4 _ _ 0 hstab⟩
      ·intro j hj ρ y u hS hc hf hg hfree hdep
       obtain rfl := jz hj rfl
       rw [show Chain.next ⟨[5], [(0, 0), (0, 0), (0, 0), (0, 0), (0, 0), (0, 0)]⟩ 5 0 = 1 from rfl]
       have e43 : ρ (.tmp 43) = _ := (hdep 0 _ 43 rfl rfl rfl).1
       have e45 : ρ (.tmp 45) = _ := (hdep 2 _ 45 rfl rfl rfl).1
       have r47 := (hdep 4 _ 47 rfl rfl rfl).1
       refine ⟨fun _ => ?_, zaa rfl⟩
       clear hdep hfree hj
       have hS0 := hS.1 rfl
       have hPu : P12 ≤ u.heap.size := by have := hS0.size; omega
       have hSx : Below Wx.heap.size Wx u := by rw [hP12]; exact hS0
       have hSB : Below B Wx u := hS0.mono hBP12
       obtain ⟨A4, c4, eA4, hO4⟩ := r47 rfl
       have hgl4 : (gs.l ++ [(⟨(nU : Int), false⟩ : zxa)]).length = gs.l.length + 1 := by simp
       have hslp : SLP u (UF lb A5) 2 zxa.enc ⟨A4, c4, gs.l ++ [⟨(nU : Int), false⟩]⟩ := SLP.of_own (e := 148) (n := (gs.l ++ [(⟨(nU : Int), false⟩ : zxa)]).length) hO4 rfl (fun k hk he => by have h1 := hUFP12 k hk; have h2 := (Own.lt hO4 k he).1; omega)
       have hcon := HIh.out x.els ⟨A4, c4, gs.l ++ [⟨(nU : Int), false⟩]⟩ usB A5 c5 u (by omega) ((HT12.out.below hSB).imp fun y hy => NodD.ok_below y hy hSB) (fun y hy hk => HC.out y (HM.out.2.2 y hy) hk) (by omega) hslp (by dsimp only; omega) (HUx.out.below hSx) (by omega)
       dsimp only at hcon
       rw [hgl4] at hcon
       go_simp
       refine zha hcon ?_
       rintro e w' ⟨rfl, A', c', l1', hU', hl', hs', hk'⟩
       refine ⟨_, rfl, trivial, sj1 ⟨A', c', l1', hU', (by rw [gM, List.map_append] at hl'; exact hl'), (fun k hk => (hs' k hk).imp id fun h => by omega), (KeptF.of_below hSx).trans (Sub.refl _ _) hk'⟩, ⟨.inr (.inr (fun h => h)), .inr (.inr (fun h => h)), .inr (.inr (fun h => h)), .inr (.inr (fun h => h)), .inr (.inr (fun _ => zbc (by omega))), .inl rfl, trivial⟩⟩
     intro u hS
     rintro _ rfl _ rfl _ rfl _ rfl _ r_47 _ r_48
     simp only [zxb, Act.put, List.setIfInBounds_toArray, List.set_cons_zero, List.set_cons_succ]
     obtain ⟨A6, c6, l3, hU', hl', hs', hk'⟩ := hS.2 rfl
     obtain ⟨Wy, hWO⟩ : ∃ z, u = z := ⟨_, rfl⟩
     rw [hWO] at hU' hk' ⊢
     have HUy := Hd hU'
     have HL12 := Hd hl'
     have hL12 : (l3).length = (zda x.els.l).length := by rw [← zrb x.els.l (gM gs.l ++ [((nU : Int), false)]) (usB).length, ← hl', List.length_map]
     have HS12 := Hd hs'
     have HK12 := Hd hk'
     have HHy := Hd (HHx.out.kept hk' hs')
     have HGy := Hd (HGx.out.kept hk' hs')
     clear hWO hU' hl' hs' hk' hS v0 v2 s0 s1 r_47 r_48
     obtain ⟨uA, huA⟩ : ∃ z, (⟨x.table, ⟨none, 0, ([] : List ExD)⟩, ⟨A3, c3, gs.l⟩⟩ : UnitD) = z := ⟨_, rfl⟩
     have HuA := Hd huA
     have HEq := Hd (show usB ++ l3 = us0 ++ (l1 ++ (uA :: (l2 ++ l3))) by rw [← HsB.out, ← HsA.out, ← HUs.out, huA]; simp)
     have e1 : us0.length + (l1.map UnitD.m).length = nU := by rw [List.length_map, ← hnU, ← HUs.out, List.length_append]
     have HMap := Hd (show (l1 ++ (uA :: (l2 ++ l3))).map UnitD.m = nodsU (sl.take (k + 1)) (gM gs.l) us0.length by
      rw [nodsU_take HX.out, ← HL1.out, e1, nodU_eq, List.map_append, List.map_cons, List.map_append, HL11.out, HL12.out, hlA, hlB]
      have e2 : (nodsU x.thn.l (gM gs.l ++ [((nU : Int), true)]) (nU + 1)).length = (zda x.thn.l).length := zrb _ _ _
      rw [e2, show UnitD.m uA = { table := if x.kind = 2 then -1 else x.table, cond := if x.kind = 2 then x.cond.l else [], guards := gM gs.l } by rw [← huA]; simp [UnitD.m, ck]])
     have hz1 := HK.out.size
     have hz2 := HKv.out.size
     have hz3 := HK11.out.size
     rw [hsz1] at hz1
     have HSf := Hd (show Sub (UF lb A0) (UF lb A6) (N + 1) from ((HSub.out.trans HSv.out (by omega)).trans HS11.out (by omega)).trans HS12.out (by omega))
     have HKf := Hd (show KeptF (UF lb A0) w1 Wy from (((HK.out.trans (fun k hk => by have := HSub.out k hk; rwa [← hsz1] at this) HKv.out).trans (fun k hk => by have := (HSub.out.trans HSv.out (by omega)) k hk; rwa [← hsz1] at this) HK11.out).trans (fun k hk => by have := ((HSub.out.trans HSv.out (by omega)).trans HS11.out (by omega)) k hk; rwa [← hsz1] at this) HK12.out))
     rw [HEq.out] at HUy
     clear huA
     go_wp2_with fail
     go_roundw
     case rel => exact ⟨k + 1, A6, c6, l1 ++ (uA :: (l2 ++ l3)), by omega, by go_num, HUy.out, HMap.out, HSf.out, HKf.out, HHy.out.skip.skip, HGy.out⟩
     case measure => simp [intOf]; omega
   ·obtain rfl : k = sl.length := by omega
    have hl := HL1.out
    rw [List.take_length] at hl
    have HL2 := Hd hl
    clear hlt hl
    go_wp2_with fail
    go_returns
    refine ⟨rfl, A, c, l1, by rw [HUs.out]; exact HUk.out, HL2.out, fun k hk => ?_, ?_⟩
    ·rcases HSub.out k hk with h | h
     ·exact .inl h
     ·exact .inr (by omega)
    ·exact (KeptF.of_below HBw.out).trans (Sub.refl _ _) HK.out
end Go.Proofs.YtakgiamhdpgoeaaGreat
