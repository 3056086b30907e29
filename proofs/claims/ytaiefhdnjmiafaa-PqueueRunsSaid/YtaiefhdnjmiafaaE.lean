/- Contracts of the reference's small functions. -/
import Derived.Test.YtaiefhdnjmiafaaD
namespace Go.Proofs.Ytaiefhdnjmiafaa
open Go.RowKit
set_option linter.unusedVariables false

/-- the reference's items: keys and values -/
def imCells (x : PI) : List Value := [.int .i64 x.1, .int .i64 x.2.2]
def imRow : List PI → List Value
  | [] => []
  | x :: l => imCells x ++ imRow l
theorem im_len (l : List PI) : (imRow l).length = l.length * 2 := by induction l with | nil => rfl | cons x l ih => simp only [imRow, List.length_append, ih, List.length_cons, imCells, List.length_nil]; omega
theorem im_app (l r : List PI) : imRow (l ++ r) = imRow l ++ imRow r := by induction l with | nil => rfl | cons x l ih => simp only [List.cons_append, imRow, ih, List.append_assoc]
theorem im_get (l : List PI) (k : Nat) (hk : k < l.length) : (imRow l)[k * 2]? = some (.int .i64 (at_ l k).1) ∧ (imRow l)[k * 2 + 1]? = some (.int .i64 (at_ l k).2.2) := by
  induction l generalizing k with
  | nil => simp at hk
  | cons x l ih =>
    cases k with
    | zero => exact ⟨rfl, rfl⟩
    | succ k =>
      have := ih k (by simpa using hk)
      rw [show (k + 1) * 2 = (imCells x).length + k * 2 by simp [imCells]; omega]
      simp only [imRow, Nat.add_assoc]
      rw [List.getElem?_append_right (by omega), List.getElem?_append_right (by omega)]
      simp only [Nat.add_sub_cancel_left]
      exact this
theorem im_take (l : List PI) (k : Nat) : imRow (l.take k) = (imRow l).take (k * 2) := by
  induction l generalizing k with
  | nil => simp [imRow]
  | cons x l ih =>
    cases k with
    | zero => simp [imRow]
    | succ k =>
      simp only [List.take_succ_cons, imRow, ih]
      rw [show (k + 1) * 2 = (imCells x).length + k * 2 by simp [imCells]; omega, List.take_length_add_append]
theorem im_drop (l : List PI) (k : Nat) : imRow (l.drop k) = (imRow l).drop (k * 2) := by
  induction l generalizing k with
  | nil => simp [imRow]
  | cons x l ih =>
    cases k with
    | zero => simp [imRow]
    | succ k =>
      simp only [List.drop_succ_cons, imRow, ih]
      rw [show (k + 1) * 2 = (imCells x).length + k * 2 by simp [imCells]; omega, List.drop_length_add_append]
theorem im_one (l : List PI) : ∀ u ∈ imRow l, u.oneCell' = true := by
  induction l with
  | nil => intro u hu; cases hu
  | cons x l ih =>
    intro u hu
    simp only [imRow, imCells, List.mem_append, List.mem_cons, List.not_mem_nil, or_false] at hu
    rcases hu with (rfl | rfl) | hu
    · rfl
    · rfl
    · exact ih u hu
/-- a slice of items reads as S -/
def Rd (w : World) (B : Nat) (A : Option Addr) (S : List PI) : Prop := Reads w B 2 A S.length (imRow S)
def OwnI (w : World) (base : Nat) (A : Option Addr) (c : Nat) (S : List PI) : Prop := Own w base 52 2 A S.length c (imRow S)
section
variable {w w' : World} {B base c : Nat} {A : Option Addr} {S : List PI}
theorem Rd.at_ {k : Nat} (h : Rd w B A S) (hk : k < S.length) : ∃ b off, A = some ⟨b, off, none⟩ ∧ b < B ∧ w.cell? ⟨b, off + k * 2, none⟩ = some (.int .i64 (at_ S k).1) ∧ w.cell? ⟨b, off + k * 2 + 1, none⟩ = some (.int .i64 (at_ S k).2.2) := by
  obtain ⟨⟨b, off, spot⟩, e, hb, hc⟩ := h.2 (by omega)
  obtain ⟨g0, _⟩ := im_get S 0 (by omega)
  have h0 := hc 0 _ g0
  have hspot : spot = none := by simpa [Addr.add] using World.cell?_spot h0
  subst hspot
  obtain ⟨g1, g2⟩ := im_get S k hk
  have ea : ∀ j, (⟨b, off, none⟩ : Addr).add j = ⟨b, off + j, none⟩ := fun j => by unfold Addr.add; split <;> simp_all
  refine ⟨b, off, e, hb, ?_, ?_⟩
  · have := hc _ _ g1; rwa [ea] at this
  · have := hc _ _ g2; rwa [ea, ← Nat.add_assoc] at this
theorem Rd.below (h : Rd w B A S) (hb : Below B w w') : Rd w' B A S := Reads.below h hb
theorem Rd.more {B' : Nat} (h : Rd w B A S) (hB : B ≤ B') : Rd w B' A S := Reads.more h hB
theorem Rd.none_ (w : World) (B : Nat) : Rd w B none [] := Reads.none_
theorem Rd.addr (h : Rd w B A S) (hn : 0 < S.length) : ∃ b off, A = some ⟨b, off, none⟩ ∧ b < B := by
  obtain ⟨b, off, e, hb, _⟩ := h.at_ hn; exact ⟨b, off, e, hb⟩
theorem Rd.take (h : Rd w B A S) (k : Nat) (hk : k ≤ S.length) : Rd w B A (S.take k) := by
  have hl : (S.take k).length = k := by rw [List.length_take]; omega
  unfold Rd
  rw [hl, im_take]
  exact Reads.take h hk
theorem Rd.drop {b off : Nat} (h : Rd w B (some ⟨b, off, none⟩) S) (k : Nat) (hk : k ≤ S.length) : Rd w B (some ⟨b, off + k * 2, none⟩) (S.drop k) := by
  have hl : (S.drop k).length = S.length - k := List.length_drop
  unfold Rd
  rw [hl, im_drop]
  have := Reads.cut (cap := S.length + 1) h hk (by omega)
  rw [if_neg (by omega)] at this
  rw [show (⟨b, off + k * 2, none⟩ : Addr) = (⟨b, off, none⟩ : Addr).add (k * 2) from by unfold Addr.add; split <;> simp_all]
  exact this
theorem OwnI.rd (h : OwnI w base A c S) : Rd w w.heap.size A S := Own.reads h
theorem OwnI.below (h : OwnI w base A c S) (hb : Below w.heap.size w w') : OwnI w' base A c S := Own.below h hb
theorem OwnI.none_ (w : World) (base : Nat) : OwnI w base none 0 [] := Own.none_ _ _ _ _
theorem OwnI.len_cap (h : OwnI w base A c S) : S.length ≤ c := by
  rcases h.2 with ⟨h1, h2⟩ | ⟨g, cap, cur, hv, _, _, hc, _⟩
  · omega
  · injection hv with _ _ hv; omega
theorem OwnI.step {w0 : World} (h : OwnI w base A c S) (hb : Below B w0 w) (hg : w.grownBy w' (ownB A)) (hB : B ≤ base) (hs : B ≤ w.heap.size) : Below B w0 w' :=
  hb.grown hg hs (fun k hk => Nat.le_trans hB (Own.lt h k hk).1)
end
theorem infoIm : (Try.prog.info? 52).map (fun i => (i.zero, i.size, i.bytes)) = some (some (.agg #[.int .i64 0, .int .i64 0]), 2, 16) := by kernel_rfl
theorem wpList_append_im {w : World} {ops : Array Oper} {rest : List Oper} {o : Oper} {a : Act} {Q : Exit → Act → World → Prop} (hgd : o.guard = none) (s x : Operand)
    (ho : o.op = .call { callee := .builtin .append, args := #[s, x], argTypes := #[28, 28] })
    (base : Nat) (A0 : Option Addr) (n0 c0 : Nat) (S0 : List PI) (hn0 : S0.length = n0) (hs : a.eval s = .slice A0 n0 c0) (hown : OwnI w base A0 c0 S0)
    (B : Nat) (A : Option Addr) (m c : Nat) (S : List PI) (hm : S.length = m) (hx : a.eval x = .slice A m c) (hr : Rd w B A S) (hsz : n0 + m ≤ 1000000) (hbase : base ≤ w.heap.size)
    (h : ∀ A' c' w', OwnI w' base A' c' (S0 ++ S) → w.grownBy w' (ownB A0) → wpList Try.prog ops Q rest (a.put o.dst (.slice A' (n0 + m) c')) w') : wpList Try.prog ops Q (o :: rest) a w := by
  obtain ⟨i0, hi, hz0, hz1, hz2⟩ := info_parts infoIm
  subst hn0 hm
  refine wpList_append_any w hgd s x 28 ho base 52 i0 _ 2 16 Try.underlying28 hi hz0 hz1 hz2 rfl (by decide) A0 S0.length c0 _ hs hown B A S.length c _ hx hr (im_one S) (by unfold maxLen; omega) (by omega) hbase ?_
  intro A' c' w' h1 h2 h3
  exact h A' c' w' (by unfold OwnI; rw [im_app, List.length_append]; exact h1) h2

theorem RNew_bad (c : Int) (w : World) (h : c < 0 ∨ 4096 < c) :
    Calls Try.prog 9 #[.int .i64 c] w fun e w' => e = .returned (.tuple #[.agg #[.int .i64 0, .slice none 0 0], .int .i64 9]) ∧ Below w.heap.size w w' := by
  by_cases h0 : c < 0
  · clear h
    go_enter Try.func9, Try.ntmps9
    go_wp2
    exact bodyPost_ret (v := .tuple #[.agg #[.int .i64 0, .slice none 0 0], .int .i64 9]) (by simp [results, go_sem]) rfl ⟨rfl, by repeat (first | exact Below.refl _ _ | refine Below.setCell ?_ (by simp) _ | refine Below.alloc ?_ (by simp) _)⟩
  · have h1 : 4096 < c := by omega
    have hq : decide (c < 0) = false := by simpa using h0
    clear h h0
    go_enter Try.func9, Try.ntmps9
    go_wp2
    exact bodyPost_ret (v := .tuple #[.agg #[.int .i64 0, .slice none 0 0], .int .i64 9]) (by simp [results, go_sem]) rfl ⟨rfl, by repeat (first | exact Below.refl _ _ | refine Below.setCell ?_ (by simp) _ | refine Below.alloc ?_ (by simp) _)⟩
theorem RNew_any (c : Nat) (w : World) (h : c ≤ 4096) :
    Calls Try.prog 9 #[.int .i64 c] w fun e w' => e = .returned (.tuple #[.agg #[.int .i64 c, .slice none 0 0], .int .i64 0]) ∧ Below w.heap.size w w' := by
  have hq : decide ((c : Int) < 0) = false := by simp
  have hq2 : decide ((4096 : Int) < c) = false := by simp; omega
  go_enter Try.func9, Try.ntmps9
  go_wp2
  exact bodyPost_ret (v := .tuple #[.agg #[.int .i64 c, .slice none 0 0], .int .i64 0]) (by simp [results, go_sem]) rfl ⟨rfl, by repeat (first | exact Below.refl _ _ | refine Below.setCell ?_ (by simp) _ | refine Below.alloc ?_ (by simp) _)⟩

/-- the reference's queue as a value -/
def rq (cap n : Nat) (A : Option Addr) (c : Nat) : Value := .agg #[.int .i64 cap, .slice A n c]
theorem fmTo_le (S : List PI) (i : Nat) : fmTo S i ≤ i := by
  rcases Nat.eq_zero_or_pos i with h | h
  · subst h; exact Nat.le_refl _
  · exact Nat.le_of_lt (fmTo_lt S i h)
set_option maxRecDepth 100000 in
theorem first_any (cap c : Nat) (A : Option Addr) (S : List PI) (w : World) (hR : Rd w w.heap.size A S) (hl : S.length ≤ 100000) :
    Calls Try.prog 21 #[.agg #[.int .i64 cap, .slice A S.length c]] w fun e w' => e = .returned (.int .i64 (fm S)) ∧ ∃ m, w' = (w.alloc (.cells #[.int .i64 cap, .slice A S.length c] 30)).drewN m := by
  have HR := Lib.hid hR
  clear hR
  go_enter Try.func21, Try.ntmps21
  go_wp2_with fail
  go_loopw [3, 4] (fun k i wr => ∃ j : Nat, j ≤ S.length ∧ i = .int .i64 j ∧ k = .int .i64 (fmTo S j) ∧ ∃ m, wr = (w.alloc (.cells #[.int .i64 cap, .slice A S.length c] 30)).drewN m) (fun _ i _ => S.length - (intOf i).toNat)
  case atStart => exact ⟨0, Nat.zero_le _, rfl, rfl, 0, rfl⟩
  case round =>
    obtain ⟨j, hj, rfl, rfl, m, rfl⟩ := hrel
    by_cases hlt : j < S.length
    · have hf : fmTo S j ≤ j := fmTo_le S j
      obtain ⟨f, hfe⟩ : ∃ f, f = fmTo S j := ⟨_, rfl⟩
      rw [← hfe] at hf ⊢
      have R2 := (HR.out.below ((Below.refl _ w).alloc (Nat.le_refl _) (.cells #[.int .i64 cap, .slice A S.length c] 30)))
      obtain ⟨b, off, rfl, hb, c0, c1⟩ := R2.at_ hlt
      obtain ⟨b', off', e', hb', d0, d1⟩ := R2.at_ (show f < S.length by omega)
      obtain ⟨rfl, rfl⟩ := addr_inj e'
      obtain ⟨q, hq⟩ : ∃ q, decide ((at_ S j).1 < (at_ S f).1) = q := ⟨_, rfl⟩
      have HF := Lib.hid (show fmTo S (j + 1) = if q then j else f by
        rw [← hq]; show (if (at_ S j).1 < (at_ S (fmTo S j)).1 then j else fmTo S j) = _
        rw [← hfe]; by_cases h : (at_ S j).1 < (at_ S f).1 <;> simp [h])
      have hji : (j : Int) < S.length := by omega
      have hfi : (f : Int) < S.length := by omega
      have HFE := Lib.hid hfe
      clear e' R2 c1 d1 hfe
      cases q
      all_goals
        go_wp2_with fail
        go_quiet (fail)
        go_wp2_with fail
        go_roundw
        case rel => exact ⟨j + 1, by omega, by go_num, by rw [HF.out]; rfl, _, rfl⟩
        case measure => simp [intOf]; omega
    · have hjl : j = S.length := by omega
      subst hjl
      go_wp2_with fail
      go_ret
      exact ⟨rfl, _, rfl⟩
end Go.Proofs.Ytaiefhdnjmiafaa
