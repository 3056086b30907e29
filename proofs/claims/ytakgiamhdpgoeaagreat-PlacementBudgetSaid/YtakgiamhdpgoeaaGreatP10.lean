/- Lemmas. -/
import Derived.Test.YtakgiamhdpgoeaaGreatP7
set_option linter.unusedSimpArgs false
namespace Go.Proofs.YtakgiamhdpgoeaaGreat
open Go.RowKit
set_option linter.unusedVariables false
theorem zCe : ∀ x : NodD, (NodD.enc x).length = 5
 | .mk .. => rfl
abbrev nodV (x : NodD) : Value := .agg #[.int .i64 x.kind, .int .i64 x.table, .slice x.cond.a x.cond.l.length x.cond.c, .slice x.thn.a x.thn.l.length x.thn.c, .slice x.els.a x.els.l.length x.els.c]
theorem nod_enc : ∀ x : NodD, NodD.enc x = [.int .i64 x.kind, .int .i64 x.table, .slice x.cond.a x.cond.l.length x.cond.c, .slice x.thn.a x.thn.l.length x.thn.c, .slice x.els.a x.els.l.length x.els.c]
 | .mk .. => by unfold NodD.enc; rfl
theorem zjc : ∀ x : NodD, nodPre x = x :: (zda x.thn.l ++ zda x.els.l)
 | .mk .. => by rw [nodPre]; rfl
theorem zne : ∀ (a b : List NodD), zda (a ++ b) = zda a ++ zda b
 | [], b => by simp [zda]
 | x :: a, b => by rw [List.cons_append, zda, zda, zne a b, List.append_assoc]
theorem zqb {l : List NodD} {k : Nat} {x : NodD} (h : l[k]? = some x) : zda (l.take (k + 1)) = zda (l.take k) ++ (x :: (zda x.thn.l ++ zda x.els.l)) := by
 rw [List.take_add_one, h, zne]
 congr 1
 show zda [x] = _
 rw [zda, zda, List.append_nil, zjc]
theorem zeb (l : List NodD) (k : Nat) : zda l = zda (l.take k) ++ zda (l.drop k) := by
 rw [← zne, List.take_append_drop]
theorem zpd {l : List NodD} {k : Nat} {x : NodD} (h : l[k]? = some x) : (zda (l.take k)).length + 1 + (zda x.thn.l).length + (zda x.els.l).length ≤ (zda l).length := by
 rw [zeb l (k + 1), zqb h]
 simp only [List.length_append, List.length_cons]
 omega
theorem zoe {l : List NodD} {k : Nat} {x : NodD} (h : l[k]? = some x) : x ∈ zda l ∧ (∀ y ∈ zda x.thn.l, y ∈ zda l) ∧ ∀ y ∈ zda x.els.l, y ∈ zda l := by
 rw [zeb l (k + 1), zqb h]
 simp only [List.mem_append, List.mem_cons]
 exact ⟨by simp, fun y hy => .inl (.inr (.inr (.inl hy))), fun y hy => .inl (.inr (.inr (.inr hy)))⟩
theorem nods_len (l : List NodD) : l.length ≤ (zda l).length := by
 induction l with
 | nil => simp
 | cons x l ih => rw [zda, zjc]; simp only [List.length_cons, List.length_append]; omega
section
variable {σ : Type} (stp : NodD → σ → σ × Bool)
def zta : List NodD → σ → σ × Bool
 | [], s => (s, true)
 | x :: l, s => if (stp x s).2 then zta l (stp x s).1 else ((stp x s).1, false)
theorem zqe : ∀ (a b : List NodD) (s : σ), zta stp (a ++ b) s = if (zta stp a s).2 then zta stp b (zta stp a s).1 else zta stp a s
 | [], b, s => by simp [zta]
 | x :: a, b, s => by
  simp only [List.cons_append, zta]
  by_cases h : (stp x s).2 = true
  ·simp only [if_pos h]; exact zqe a b _
  ·simp [if_neg h]
theorem zGb {a b : List NodD} {s t : σ} (h : zta stp a s = (t, true)) : zta stp (a ++ b) s = zta stp b t := by
 rw [zqe, h]; rfl
theorem zXb {a b : List NodD} {s t : σ} (h : zta stp a s = (t, false)) : zta stp (a ++ b) s = (t, false) := by
 rw [zqe, h]; rfl
end
structure KeptF (F : Nat → Prop) (w w' : World) : Prop where
 os : w'.os = w.os
 tape : w'.tape = w.tape
 output : w'.output = w.output
 size : w.heap.size ≤ w'.heap.size
 block : ∀ k, k < w.heap.size → ¬ F k → w'.heap[k]? = w.heap[k]?
def Sub (F F' : Nat → Prop) (n : Nat) : Prop := ∀ k, F' k → F k ∨ n ≤ k
section
variable {F F1 F2 : Nat → Prop} {w w1 w2 : World} {B n m : Nat}
theorem KeptF.refl (F : Nat → Prop) (w : World) : KeptF F w w := ⟨rfl, rfl, rfl, Nat.le_refl _, fun _ _ _ => rfl⟩
theorem KeptF.trans (h : KeptF F w w1) (hs : Sub F F1 w.heap.size) (h2 : KeptF F1 w1 w2) : KeptF F w w2 :=
 ⟨h2.os.trans h.os, h2.tape.trans h.tape, h2.output.trans h.output, Nat.le_trans h.size h2.size, fun k hk hF => (h2.block k (Nat.lt_of_lt_of_le hk h.size) (fun h1 => by rcases hs k h1 with h | h; exact hF h; omega)).trans (h.block k hk hF)⟩
theorem KeptF.of_below (hb : Below w.heap.size w w1) : KeptF F w w1 := ⟨hb.os, hb.tape, hb.output, hb.size, fun k hk _ => hb.block k hk⟩
theorem KeptF.below (h : KeptF F w w1) (hF : ∀ k, F k → B ≤ k) (hB : B ≤ w.heap.size) : Below B w w1 :=
 ⟨h.os, h.tape, h.output, h.size, fun k hk => h.block k (by omega) (fun hf => by have := hF k hf; omega)⟩
theorem KeptF.blk {g : Nat} {t : TypeId} {cs : Array Value} (h : KeptF F w w1) (hg : Blk w g t cs) (hn : ¬ F g) : Blk w1 g t cs := (h.block g hg.lt hn).trans hg
theorem Sub.refl (F : Nat → Prop) (n : Nat) : Sub F F n := fun k h => .inl h
theorem Sub.trans (h : Sub F F1 n) (h2 : Sub F1 F2 m) (hm : n ≤ m) : Sub F F2 n := fun k h3 => by rcases h2 k h3 with h4 | h4; exact h k h4; exact .inr (by omega)
end
def After {σ : Type} (I : (Nat → Prop) → σ → World → Prop) (F : Nat → Prop) (W : World) (s' : σ) (w' : World) : Prop := ∃ F', I F' s' w' ∧ Sub F F' W.heap.size ∧ KeptF F W w'
structure Visit {σ : Type} (P : NodD → Prop) (stp : NodD → σ → σ × Bool) (B : Nat) (I : (Nat → Prop) → σ → World → Prop) (call : NodD → World → (Ending → World → Prop) → Prop) : Prop where
 stable : ∀ F s W W', I F s W → Below W.heap.size W W' → I F s W'
 foot : ∀ F s W k, I F s W → F k → B ≤ k ∧ k < W.heap.size
 call : ∀ F x s W, I F s W → NodD.ok W B x → P x → B ≤ W.heap.size → call x W fun e w' => e = .returned (.bool (stp x s).2) ∧ After I F W (stp x s).1 w'
set_option maxRecDepth 100000 in
set_option maxHeartbeats 2000000 in
theorem preCount {σ : Type} {P : NodD → Prop} {stp : NodD → σ → σ × Bool} {B : Nat} {I : (Nat → Prop) → σ → World → Prop} {c : Nat} (V : Visit P stp B I (fun x W Q => Calls Tryz.prog 124 #[nodV x, .pointer (some ⟨c, 0, none⟩)] W Q)) :
  ∀ (n : Nat) (s : SL NodD) (s0 : σ) (F : Nat → Prop) (w : World), (zda s.l).length < n → (∀ y ∈ zda s.l, P y) → SLR w B 5 NodD.enc (NodD.ok w B) s → I F s0 w → B ≤ w.heap.size →
  Calls Tryz.prog 89 #[.slice s.a s.l.length s.c, .func (.func 124) #[] #[.pointer (some ⟨c, 0, none⟩)]] w fun e w' => e = .returned (.bool (zta stp (zda s.l) s0).2) ∧ After I F w (zta stp (zda s.l) s0).1 w' := by
 intro n
 induction n with
 | zero => intro s s0 F w h; omega
 | succ n ih =>
  intro s s0 F w hn hP hS hI hB
  have HIh := Hd ih
  obtain ⟨sa, sc, sl⟩ := s
  simp only at hn hS hP ⊢
  have HP := Hd hP
  clear hP
  have HS := Hd hS
  have HI := Hd hI
  have HV := Hd V
  have hlen := hS.len
  simp only at hlen
  clear ih hS hI V
  go_enter Tryz.func89, Tryz.ntmps89
  go_wp2_with fail
  go_loopw [9] (fun i wr => ∃ (k : Nat) (sk : σ) (Fk : Nat → Prop), k ≤ sl.length ∧ i = .int .i64 k ∧ zta stp (zda (sl.take k)) s0 = (sk, true) ∧ I Fk sk wr ∧ Sub F Fk w.heap.size ∧ KeptF F w wr) (fun i _ => sl.length - (intOf i).toNat)
  case atStart => exact ⟨0, s0, F, Nat.zero_le _, rfl, rfl, HI.out, Sub.refl _ _, KeptF.refl _ _⟩
  case round =>
   obtain ⟨k, sk, Fk, hk, rfl, hfold, hIk, hsub, hkept⟩ := hrel
   have HFo := Hd hfold
   have HIk := Hd hIk
   have HSub := Hd hsub
   have HK := Hd hkept
   clear hfold hIk hsub hkept
   have HBel := Hd (HK.out.below (B := B) (fun k h => (HV.out.foot F s0 w k HI.out h).1) hB)
   by_cases hlt : k < sl.length
   ·obtain ⟨b2, off2, x, hA2, hb2, hx, hxok, hc2⟩ := (HS.out.below HBel.out).at_ zCe (by omega) hlt
    rw [nod_enc x] at hc2
    have p0 := hc2 0 _ rfl
    have p1 := hc2 1 _ rfl
    have p2 := hc2 2 _ rfl
    have p3 := hc2 3 _ rfl
    have p4 := hc2 4 _ rfl
    simp only [Nat.add_zero] at p0
    simp only at hA2
    have HX := Hd hx
    have HM := Hd (zoe hx)
    have HXo := Hd (NodD.ok_below x hxok HBel.out)
    have hsz := zpd hx
    have hk1 : (k : Int) < sl.length := by omega
    have hBr : B ≤ wr.heap.size := Nat.le_trans hB HK.out.size
    subst hA2
    clear hc2 hx hxok
    go_wp2_with fail
    refine Calls.named ?_
    intro W4 hW4
    obtain ⟨g, hg⟩ : ∃ g, wr.heap.size = g := ⟨_, rfl⟩
    have HB4 := Hd (show Below wr.heap.size wr W4 by rw [hW4]; exact (Below.refl _ _).alloc (Nat.le_refl _) _)
    have hblk : Blk W4 g 100 #[.int .i64 x.kind, .int .i64 x.table, .slice x.cond.a x.cond.l.length x.cond.c, .slice x.thn.a x.thn.l.length x.thn.c, .slice x.els.a x.els.l.length x.els.c] := by rw [hW4, ← hg]; exact Blk.new _ _ _
    have hnF : ¬ Fk g := fun h => by have := (HV.out.foot _ _ _ _ HIk.out h).2; omega
    simp only [hg] at hBr ⊢
    have HG := Hd hg
    have HBk := Hd hblk
    have HNF := Hd hnF
    clear hW4 hblk hnF hg p0 p1 p2 p3 p4
    have hB4 : B ≤ W4.heap.size := by have := HB4.out.size; have := HG.out; omega
    refine (HV.out.call Fk x sk W4 (HV.out.stable _ _ _ _ HIk.out HB4.out) (NodD.ok_below x HXo.out (HB4.out.mono (by have := HG.out; omega))) (HP.out x HM.out.1) hB4).mono ?_
    rintro e w5 ⟨rfl, F5, hI5, hs5, hk5⟩
    have HI5 := Hd hI5
    have HS5 := Hd hs5
    have HK5 := Hd hk5
    have HB5 := Hd (hk5.blk HBk.out HNF.out)
    have HN5 := Hd (show ¬ F5 g from fun h => by rcases hs5 g h with h | h; exact HNF.out h; have := HBk.out.lt; omega)
    have HKr5 := Hd (((KeptF.of_below (F := Fk) HB4.out).trans (Sub.refl _ _) hk5))
    have hg0 : ∀ i, w5.cell? ⟨g, i, none⟩ = _ := fun i => HB5.out.cell i
    clear hI5 hs5 hk5
    obtain ⟨⟨s5, q5⟩, hstp⟩ : ∃ z, stp x sk = z := ⟨_, rfl⟩
    rw [hstp] at HI5 ⊢
    have HSt := Hd hstp
    simp only at HI5
    clear hstp
    dsimp only
    cases q5 with
    | false =>
     have HR := Hd (show zta stp (zda sl) s0 = (s5, false) by
      rw [zeb sl (k + 1), zqb HX.out]
      refine zXb stp ?_
      rw [zGb stp HFo.out, zta, HSt.out]
      rfl)
     go_wp2_with fail
     go_returns
     exact ⟨by rw [HR.out]; try rfl, F5, by rw [HR.out]; exact HI5.out, (HSub.out.trans (Sub.trans (Sub.refl _ _) HS5.out HB4.out.size) HK.out.size), HK.out.trans HSub.out HKr5.out⟩
    | true =>
     have hB5 : B ≤ w5.heap.size := by have := HK5.out.size; omega
     obtain ⟨_, _, _, hthn, hels⟩ := NodD.open HXo.out
     have HThn := Hd hthn
     have HEls := Hd hels
     have HBel5 := Hd (HBel.out.trans (HKr5.out.below (B := B) (fun k h => (HV.out.foot _ _ _ k HIk.out h).1) (by have := HG.out; omega)))
     clear hthn hels
     go_wp2_with fail
     refine (HIh.out x.thn s5 F5 w5 (by omega) (fun y hy => HP.out y (HM.out.2.1 y hy)) ((HThn.out.below (HKr5.out.below (B := B) (fun k h => (HV.out.foot _ _ _ k HIk.out h).1) (by have := HG.out; omega))).imp fun y hy => NodD.ok_below y hy (HKr5.out.below (B := B) (fun k h => (HV.out.foot _ _ _ k HIk.out h).1) (by have := HG.out; omega))) HI5.out hB5).mono ?_
     rintro e w6 ⟨rfl, F6, hI6, hs6, hk6⟩
     have HI6 := Hd hI6
     have HS6 := Hd hs6
     have HK6 := Hd hk6
     have HB6 := Hd (hk6.blk HB5.out HN5.out)
     have HKr6 := Hd (HKr5.out.trans (Sub.trans (Sub.refl _ _) HS5.out HB4.out.size) hk6)
     have HSr6 := Hd (Sub.trans (Sub.trans (Sub.refl Fk wr.heap.size) HS5.out HB4.out.size) hs6 HKr5.out.size)
     have hg0' : ∀ i, w6.cell? ⟨g, i, none⟩ = _ := fun i => HB6.out.cell i
     clear hI6 hs6 hk6 hg0
     obtain ⟨⟨s6, q6⟩, hf6⟩ : ∃ z, zta stp (zda x.thn.l) s5 = z := ⟨_, rfl⟩
     rw [hf6] at HI6 ⊢
     have HFo6 := Hd hf6
     simp only at HI6
     clear hf6
     dsimp only
     cases q6 with
     | false =>
      have HR := Hd (show zta stp (zda sl) s0 = (s6, false) by
       rw [zeb sl (k + 1), zqb HX.out]
       refine zXb stp ?_
       rw [zGb stp HFo.out, zta, HSt.out]
       simp only [if_true]
       exact zXb stp HFo6.out)
      go_wp2_with fail
      go_returns
      exact ⟨by rw [HR.out]; try rfl, F6, by rw [HR.out]; exact HI6.out, HSub.out.trans HSr6.out HK.out.size, HK.out.trans HSub.out HKr6.out⟩
     | true =>
      have hB6 : B ≤ w6.heap.size := by have := HK6.out.size; omega
      have HBr6 := Hd (HKr6.out.below (B := B) (fun k h => (HV.out.foot _ _ _ k HIk.out h).1) (by have := HG.out; omega))
      go_wp2_with fail
      refine (HIh.out x.els s6 F6 w6 (by omega) (fun y hy => HP.out y (HM.out.2.2 y hy)) ((HEls.out.below HBr6.out).imp fun y hy => NodD.ok_below y hy HBr6.out) HI6.out hB6).mono ?_
      rintro e w7 ⟨rfl, F7, hI7, hs7, hk7⟩
      have HI7 := Hd hI7
      have HSr7 := Hd (Sub.trans HSr6.out hs7 HKr6.out.size)
      have HKr7 := Hd (HKr6.out.trans HSr6.out hk7)
      clear hI7 hs7 hk7 hg0'
      obtain ⟨⟨s7, q7⟩, hf7⟩ : ∃ z, zta stp (zda x.els.l) s6 = z := ⟨_, rfl⟩
      rw [hf7] at HI7 ⊢
      have HFo7 := Hd (show zta stp (zda (sl.take (k + 1))) s0 = (s7, q7) by
       rw [zqb HX.out, zGb stp HFo.out, zta, HSt.out]
       simp only [if_true]
       rw [zGb stp HFo6.out]
       exact hf7)
      simp only at HI7
      clear hf7
      dsimp only
      cases q7 with
      | false =>
       have HR := Hd (show zta stp (zda sl) s0 = (s7, false) by
        rw [zeb sl (k + 1)]
        exact zXb stp HFo7.out)
       go_wp2_with fail
       go_returns
       exact ⟨by rw [HR.out]; try rfl, F7, by rw [HR.out]; exact HI7.out, HSub.out.trans HSr7.out HK.out.size, HK.out.trans HSub.out HKr7.out⟩
      | true =>
       go_wp2_with fail
       go_roundw
       case rel => exact ⟨k + 1, s7, F7, by omega, by go_num, HFo7.out, HI7.out, HSub.out.trans HSr7.out HK.out.size, HK.out.trans HSub.out HKr7.out⟩
       case measure => simp [intOf]; omega
   ·obtain rfl : k = sl.length := by omega
    have HR := Hd (show zta stp (zda sl) s0 = (sk, true) by have := HFo.out; rwa [List.take_length] at this)
    clear hlt
    go_wp2_with fail
    go_returns
    exact ⟨by rw [HR.out]; try rfl, Fk, by rw [HR.out]; exact HIk.out, HSub.out, HK.out⟩
theorem count_fold : ∀ (l : List NodD) (n : Int), zta (fun _ (n : Int) => (wr (n + 1), true)) l (wr n) = (wr (n + l.length), true)
 | [], n => by simp [zta]
 | x :: l, n => by
  rw [zta]
  simp only [if_true]
  rw [wr_add, count_fold l (n + 1), List.length_cons]
  congr 2
  omega
def CountI (B c : Nat) (F : Nat → Prop) (n : Int) (W : World) : Prop := F = (fun k => k = c) ∧ B ≤ c ∧ Blk W c 3 #[.int .i64 n]
theorem countVisit (B c : Nat) : Visit (fun _ => True) (fun _ (n : Int) => (wr (n + 1), true)) B (CountI B c) (fun x W Q => Calls Tryz.prog 124 #[nodV x, .pointer (some ⟨c, 0, none⟩)] W Q) where
 stable F s W W' h hb := ⟨h.1, h.2.1, h.2.2.below hb h.2.2.lt⟩
 foot F s W k h hk := by
  obtain ⟨rfl, h1, h2⟩ := h
  obtain rfl : k = c := hk
  exact ⟨h1, h2.lt⟩
 call F x s W h hx _ hB := by
  obtain ⟨rfl, h1, h2⟩ := h
  have HB := Hd h2
  have hc : W.cell? ⟨c, 0, none⟩ = some (.int .i64 s) := h2.cell 0
  have hf : W.frozen? ⟨c, 0, none⟩ = false := h2.frozen 0
  have hl : c < W.heap.size := h2.lt
  clear h2 hx
  go_enter Tryz.func124, Tryz.ntmps124
  go_wp2_with fail
  go_returns
  refine ⟨rfl, (fun k => k = c), ⟨rfl, h1, ?_⟩, Sub.refl _ _, ?_⟩
  ·rw [wr_64]
   have h3 := HB.out.set_ 0 (.int .i64 (wrap64 (s + 1)))
   exact h3.below ((Below.refl _ _).alloc (Nat.le_refl _) _) (by simp [World.setCell]; exact hl)
  ·exact ⟨rfl, rfl, rfl, by simp [World.setCell], fun k hk hF => (Below.heap_alloc _ _ _ (by simp [World.setCell]; exact hk)).trans (Below.heap_setCell _ _ _ _ (fun e => hF e))⟩
set_option maxRecDepth 100000 in
theorem count_any (s : SL NodD) (w : World) (hS : SLR w w.heap.size 5 NodD.enc (NodD.ok w w.heap.size) s) :
  Calls Tryz.prog 87 #[.slice s.a s.l.length s.c] w fun e w' => e = .returned (.int .i64 (wr ((zda s.l).length : Int))) ∧ Below w.heap.size w w' := by
 obtain ⟨N, hN⟩ : ∃ N, w.heap.size = N := ⟨_, rfl⟩
 rw [hN] at hS ⊢
 have HS := Hd hS
 have hmf : ∀ (fn : Fn) (first cap : Array Value) (w : World), (Instr.makeFunc fn first cap).run Tryz.prog w = .ok (.func fn first cap) w := fun _ _ _ _ => rfl
 clear hS
 go_enter Tryz.func87, Tryz.ntmps87
 go_wp2_with fail
 refine Calls.named ?_
 intro W hW
 have hb : Below N w W := by rw [hW, ← hN]; exact (Below.refl _ _).alloc (Nat.le_refl _) _
 have hk : Blk W N 3 #[.int .i64 (wr 0)] := by rw [hW, ← hN]; exact Blk.new _ _ _
 have HB := Hd hb
 have HK := Hd hk
 have hsz : N ≤ W.heap.size := Nat.le_of_lt hk.lt
 clear hW hb hk
 refine (preCount (countVisit N N) ((zda s.l).length + 1) s (wr 0) (fun k => k = N) W (by omega) (fun _ _ => trivial) ((HS.out.below HB.out).imp fun y hy => NodD.ok_below y hy HB.out) ⟨rfl, Nat.le_refl _, HK.out⟩ hsz).mono ?_
 rintro e w2 ⟨rfl, F2, hI2, _, hk2⟩
 rw [count_fold, Int.zero_add] at hI2 ⊢
 obtain ⟨_, _, hI2⟩ := hI2
 have c0 : w2.cell? ⟨N, 0, none⟩ = some (.int .i64 (wr ((zda s.l).length : Int))) := hI2.cell 0
 have HB2 := Hd (HB.out.trans (hk2.below (B := N) (fun k h => by have h' : k = N := h; omega) hsz))
 clear hI2 hk2
 go_wp2_with fail
 go_returns
 exact ⟨rfl, HB2.out⟩
end Go.Proofs.YtakgiamhdpgoeaaGreat
