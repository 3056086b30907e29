/- Contracts of the functions that make slices of bytes. -/
import Derived.Test.YtfomcphbclojpaaB
import Derived.Test.YtfomcphbclojpaaM2
namespace Go.Proofs.Ytfomcphbclojpaa
open Go.RowKit
set_option linter.unusedVariables false

theorem infoU8 : (Try.prog.info? 5).map (fun i => (i.zero, i.size, i.bytes)) = some (some (.int .u8 0), 1, 1) := by kernel_rfl
/-- a slice of bytes of the call's own, holding l -/
def OwnB (w : World) (base : Nat) (A : Option Addr) (n c : Nat) (l : List UInt8) : Prop := l.length = n ∧ Own w base 5 1 A n c (l.map bv)
section
variable {w w' : World} {base n c : Nat} {A : Option Addr} {l : List UInt8}
theorem OwnB.bytes (h : OwnB w base A n c l) : Bytes w w.heap.size A n l := ⟨h.1, h.2.reads⟩
theorem OwnB.cap (h : OwnB w base A n c l) : n ≤ c := by
  rcases h.2.2 with ⟨h1, h2⟩ | ⟨g, cap, cur, hv, _, _, hc, _⟩
  · omega
  · injection hv with _ _ hv; omega
theorem OwnB.none_ (w : World) (base : Nat) : OwnB w base none 0 0 [] := ⟨rfl, Own.none_ _ _ _ _⟩
theorem OwnB.below (h : OwnB w base A n c l) (hb : Below w.heap.size w w') : OwnB w' base A n c l := ⟨h.1, h.2.below hb⟩
theorem OwnB.grown {row : Option Nat} (h : OwnB w base A n c l) (hg : w.grownBy w' row) (hne : ownB A = none ∨ ownB A ≠ row) : OwnB w' base A n c l := ⟨h.1, h.2.grown hg hne⟩
theorem OwnB.new (w : World) (l : List UInt8) (hb : base ≤ w.heap.size) (hm : l.length ≤ maxLen) :
    OwnB (w.alloc (.cells (l.map bv).toArray 5)) base (some ⟨w.heap.size, 0, none⟩) l.length l.length l :=
  ⟨rfl, by have := Own.new (base := base) (size := 1) w (l.map bv).toArray l.length 5 hb hm (by simp); simpa using this⟩
theorem Bytes.more {B B' : Nat} (h : Bytes w B A n l) (hB : B ≤ B') : Bytes w B' A n l := ⟨h.1, h.2.more hB⟩
theorem Bytes.drop {B b off k : Nat} (h : Bytes w B (some ⟨b, off, none⟩) n l) (hk : k ≤ n) : Bytes w B (some ⟨b, off + k, none⟩) (n - k) (l.drop k) := by
  refine ⟨by rw [List.length_drop, h.1], ?_⟩
  have := h.2.cut (cap := n + 1) hk (by omega)
  rw [if_neg (by omega), Nat.mul_one, List.map_drop.symm] at this
  rw [show (⟨b, off + k, none⟩ : Addr) = (⟨b, off, none⟩ : Addr).add k from by unfold Addr.add; split <;> simp_all]
  exact this
theorem Bytes.take {B k : Nat} (h : Bytes w B A n l) (hk : k ≤ n) : Bytes w B A k (l.take k) := by
  refine ⟨by rw [List.length_take, h.1]; omega, ?_⟩
  have := h.2.take hk
  rwa [Nat.mul_one, List.map_take.symm] at this
theorem Bytes.addr {B : Nat} (h : Bytes w B A n l) (hn : 0 < n) : ∃ b off, A = some ⟨b, off, none⟩ ∧ b < B := by
  obtain ⟨b, off, c, e, hb, _⟩ := h.at_ hn
  exact ⟨b, off, e, hb⟩
theorem bv_one (l : List UInt8) : ∀ u ∈ l.map bv, u.oneCell' = true := by
  intro u hu
  obtain ⟨c, _, rfl⟩ := List.mem_map.1 hu
  rfl
end
theorem wpList_append_u8 {w : World} {ops : Array Oper} {rest : List Oper} {o : Oper} {a : Act} {Q : Exit → Act → World → Prop} (hgd : o.guard = none) (s x : Operand)
    (ho : o.op = .call { callee := .builtin .append, args := #[s, x], argTypes := #[22, 22] })
    (base : Nat) (A0 : Option Addr) (n c0 : Nat) (l0 : List UInt8) (hs : a.eval s = .slice A0 n c0) (hown : OwnB w base A0 n c0 l0)
    (B : Nat) (A : Option Addr) (m c : Nat) (l : List UInt8) (hx : a.eval x = .slice A m c) (hr : Bytes w B A m l) (hsz : n + m ≤ 10000000) (hbase : base ≤ w.heap.size)
    (h : ∀ A' c' w', OwnB w' base A' (n + m) c' (l0 ++ l) → w.grownBy w' (ownB A0) → (ownB A' = ownB A0 ∨ ownB A' = some w.heap.size) → wpList Try.prog ops Q rest (a.put o.dst (.slice A' (n + m) c')) w') : wpList Try.prog ops Q (o :: rest) a w := by
  obtain ⟨i0, hi, hz0, hz1, hz2⟩ := info_parts infoU8
  refine wpList_append_any w hgd s x 22 ho base 5 i0 (.int .u8 0) 1 1 Try.underlying22 hi hz0 hz1 hz2 rfl (by decide) A0 n c0 _ hs hown.2 B A m c _ hx hr.2 (bv_one l) (by unfold maxLen; omega) (by omega) hbase ?_
  intro A' c' w' h1 h2 h3
  exact h A' c' w' ⟨by rw [List.length_append, hown.1, hr.1], by rw [List.map_append]; exact h1⟩ h2 h3
theorem OwnB.step {B : Nat} {w0 w w' : World} {base n c : Nat} {A : Option Addr} {l : List UInt8} (h : OwnB w base A n c l) (hb : Below B w0 w) (hg : w.grownBy w' (ownB A)) (hB : B ≤ base) (hs : B ≤ w.heap.size) : Below B w0 w' :=
  hb.grown hg hs (fun k hk => Nat.le_trans hB (h.2.lt k hk).1)
theorem below_grown_own {B : Nat} {w0 w w' : World} {A : Option Addr} (h : Below B w0 w) (hg : w.grownBy w' (ownB A)) (hB : B ≤ w.heap.size) (hr : ∀ k, ownB A = some k → B ≤ k) : Below B w0 w' := h.grown hg hB hr


set_option maxRecDepth 100000 in
theorem Frame_any (A : Option Addr) (n cap : Nat) (l : List UInt8) (w : World) (hl : Bytes w w.heap.size A n l) (hn : n ≤ 100000) :
    Calls Try.prog 16 #[.slice A n cap] w fun e w' => ∃ A' c', e = .returned (.slice A' (n + 8) c') ∧ OwnB w' w.heap.size A' (n + 8) c' (frameL l) ∧ Below w.heap.size w w' := by
  have HL := Lib.hid hl
  clear hl
  have hw : ((n : Int) % 4294967296) = n := by omega
  go_enter Try.func16, Try.ntmps16
  go_wp2_with fail
  refine (word_any _ _ (by omega) (by omega)).mono ?_
  rintro e w' ⟨rfl, rfl⟩
  have HO := Lib.hid (OwnB.new (base := w.heap.size) w (be4 n) (Nat.le_refl _) (by show 4 ≤ _; unfold maxLen; omega))
  have HB := Lib.hid ((Below.refl w.heap.size w).alloc (Nat.le_refl _) (Obj.cells (List.map bv (be4 n)).toArray 5))
  have HL2 := Lib.hid (HL.out.below HB.out)
  go_wp2_with (at_builtin; refine wpList_append_u8 rfl _ _ rfl w.heap.size _ _ _ _ rfl HO.out _ _ _ _ _ rfl HL2.out (by show 4 + n ≤ _; omega) (by simp) ?_; intro A1 c1 w1 hO1 hG1 hA1)
  have HB1 := Lib.hid (HO.out.step HB.out hG1 (Nat.le_refl _) (by simp))
  have HO1 := Lib.hid hO1
  clear hO1 hG1 hA1 HO HB HL2
  refine (FNV1a_any _ _ _ _ _ HO1.out.bytes (by omega)).mono ?_
  rintro e w2 ⟨rfl, hb2⟩
  have HB2 := Lib.hid (HB1.out.trans (hb2.mono HB1.out.size))
  have HO2 := Lib.hid (HO1.out.below hb2)
  obtain ⟨hf0, hf1⟩ := fnv_bd 2166136261 (by decide) (by decide) (be4 n ++ l)
  clear hb2 HB1 HO1
  go_wp2_with fail
  refine (word_any _ _ hf0 hf1).mono ?_
  rintro e w' ⟨rfl, rfl⟩
  have HO3 := Lib.hid (OwnB.new (base := w.heap.size) w2 (be4 (fnvFrom 2166136261 (be4 n ++ l))) HB2.out.size (by show 4 ≤ _; unfold maxLen; omega))
  have HO4 := Lib.hid (HO2.out.below ((Below.refl _ w2).alloc (Nat.le_refl _) (Obj.cells (List.map bv (be4 (fnvFrom 2166136261 (be4 n ++ l)))).toArray 5)))
  have HB3 := Lib.hid (HB2.out.alloc HB2.out.size (Obj.cells (List.map bv (be4 (fnvFrom 2166136261 (be4 n ++ l)))).toArray 5))
  have hsz : w.heap.size ≤ w2.heap.size := HB2.out.size
  go_wp2_with (at_builtin; refine wpList_append_u8 rfl _ _ rfl w.heap.size _ _ _ _ rfl HO4.out _ _ _ _ _ rfl HO3.out.bytes (by show 4 + n + 4 ≤ _; omega) (by simp; omega) ?_; intro A5 c5 w5 hO5 hG5 hA5)
  have HB5 := Lib.hid (HO4.out.step HB3.out hG5 (Nat.le_refl _) (by simp; omega))
  go_ret
  have hnn : n + 8 = 4 + n + 4 := by omega
  rw [hnn]
  exact ⟨A5, c5, rfl, by unfold frameL; rw [HL.out.1]; exact hO5, HB5.out⟩

set_option maxRecDepth 100000 in
theorem Frame_ref (A : Option Addr) (n cap : Nat) (l : List UInt8) (w : World) (hl : Bytes w w.heap.size A n l) (hn : n ≤ 100000) :
    Calls Try.prog 17 #[.slice A n cap] w fun e w' => ∃ A' c', e = .returned (.slice A' (n + 8) c') ∧ OwnB w' w.heap.size A' (n + 8) c' (frameL l) ∧ Below w.heap.size w w' := by
  have HL := Lib.hid hl
  clear hl
  have hw : ((n : Int) % 4294967296) = n := by omega
  go_enter Try.func17, Try.ntmps17
  go_wp2_with fail
  refine (word_ref _ _ (by omega) (by omega)).mono ?_
  rintro e w' ⟨rfl, rfl⟩
  have HO := Lib.hid (OwnB.new (base := w.heap.size) w (be4 n) (Nat.le_refl _) (by show 4 ≤ _; unfold maxLen; omega))
  have HB := Lib.hid ((Below.refl w.heap.size w).alloc (Nat.le_refl _) (Obj.cells (List.map bv (be4 n)).toArray 5))
  have HL2 := Lib.hid (HL.out.below HB.out)
  have HN := Lib.hid (OwnB.none_ (w.alloc (Obj.cells (List.map bv (be4 n)).toArray 5)) w.heap.size)
  go_wp2_with (first
    | (at_builtin; refine wpList_append_u8 rfl (.tmp 4) (.tmp 8) rfl w.heap.size _ _ _ _ rfl HN.out _ _ _ _ _ rfl HO.out.bytes (by show 0 + 4 ≤ _; omega) (by simp) ?_; intro A1 c1 w1 hO1 hG1 hA1; have HB1 := Lib.hid (HN.out.step HB.out hG1 (Nat.le_refl _) (by simp)); have HO1 := Lib.hid hO1; have hs1 := HB1.out.size; have HL3 := Lib.hid (HL.out.below HB1.out); clear hO1 hG1 hA1 HO HB HL2 HN; rw [List.nil_append, Nat.zero_add] at HO1; rw [Nat.zero_add])
    | (at_builtin; refine wpList_append_u8 rfl (.tmp 10) (.tmp 11) rfl w.heap.size _ _ _ _ rfl HO1.out _ _ _ _ _ rfl HL3.out (by show 4 + n ≤ _; omega) (by assumption) ?_; intro A2 c2 w2 hO1 hG1 hA1; have HB2 := Lib.hid (HO1.out.step HB1.out hG1 (Nat.le_refl _) (by assumption)); have HO2 := Lib.hid hO1; clear hO1 hG1 hA1 HO1 HB1 HL3))
  refine (FNV1a_ref _ _ _ _ _ _ HO2.out.bytes (by omega)).mono ?_
  rintro e w3 ⟨rfl, rfl⟩
  obtain ⟨hf0, hf1⟩ := fnv_bd 2166136261 (by decide) (by decide) (be4 n ++ l)
  go_wp2_with fail
  refine (word_ref _ _ hf0 hf1).mono ?_
  rintro e w' ⟨rfl, rfl⟩
  have HO3 := Lib.hid (OwnB.new (base := w.heap.size) w2 (be4 (fnvFrom 2166136261 (be4 n ++ l))) HB2.out.size (by show 4 ≤ _; unfold maxLen; omega))
  have HO4 := Lib.hid (HO2.out.below ((Below.refl _ w2).alloc (Nat.le_refl _) (Obj.cells (List.map bv (be4 (fnvFrom 2166136261 (be4 n ++ l)))).toArray 5)))
  have HB3 := Lib.hid (HB2.out.alloc HB2.out.size (Obj.cells (List.map bv (be4 (fnvFrom 2166136261 (be4 n ++ l)))).toArray 5))
  have hsz : w.heap.size ≤ w2.heap.size := HB2.out.size
  go_wp2_with (at_builtin; refine wpList_append_u8 rfl _ _ rfl w.heap.size _ _ _ _ rfl HO4.out _ _ _ _ _ rfl HO3.out.bytes (by show 4 + n + 4 ≤ _; omega) (by simp; omega) ?_; intro A5 c5 w5 hO5 hG5 hA5)
  have HB5 := Lib.hid (HO4.out.step HB3.out hG5 (Nat.le_refl _) (by simp; omega))
  go_ret
  have hnn : n + 8 = 4 + n + 4 := by omega
  rw [hnn]
  exact ⟨A5, c5, rfl, by unfold frameL; rw [HL.out.1]; exact hO5, HB5.out⟩

set_option maxRecDepth 100000 in
theorem join_any (A : Option Addr) (n cap : Nat) (l : List UInt8) (A2 : Option Addr) (n2 cap2 : Nat) (l2 : List UInt8) (w : World) (hl : Bytes w w.heap.size A n l) (hl2 : Bytes w w.heap.size A2 n2 l2) (hn : n ≤ 100000) (hn2 : n2 ≤ 100000) :
    Calls Try.prog 18 #[.slice A n cap, .slice A2 n2 cap2] w fun e w' => ∃ A' c', e = .returned (.slice A' (n + n2) c') ∧ OwnB w' w.heap.size A' (n + n2) c' (l ++ l2) ∧ Below w.heap.size w w' := by
  have HL := Lib.hid hl
  have HL2 := Lib.hid hl2
  clear hl hl2
  have HN := Lib.hid (OwnB.none_ w w.heap.size)
  go_enter Try.func18, Try.ntmps18
  go_wp2_with (first
   | (at_builtin; refine wpList_append_u8 rfl (.tmp 6) (.tmp 7) rfl w.heap.size _ _ _ _ rfl HN.out _ _ _ _ _ rfl HL.out (by omega) (Nat.le_refl _) ?_; intro A3 c3 w3 hO1 hG1 hA1; have HB1 := Lib.hid (HN.out.step (Below.refl _ _) hG1 (Nat.le_refl _) (Nat.le_refl _)); have HO1 := Lib.hid hO1; have hs1 := HB1.out.size; have HL3 := Lib.hid (HL2.out.below HB1.out); clear hO1 hG1 hA1; rw [List.nil_append, Nat.zero_add] at HO1; rw [Nat.zero_add])
   | (at_builtin; refine wpList_append_u8 rfl (.tmp 9) (.tmp 10) rfl w.heap.size _ _ _ _ rfl HO1.out _ _ _ _ _ rfl HL3.out (by omega) (by assumption) ?_; intro A4 c4 w4 hO1 hG1 hA1; have HB2 := Lib.hid (HO1.out.step HB1.out hG1 (Nat.le_refl _) (by assumption)); have HO2 := Lib.hid hO1; clear hO1 hG1 hA1))
  go_ret
  exact ⟨_, _, rfl, HO2.out, HB2.out⟩

set_option maxRecDepth 100000 in
theorem Clone_any (b off n cap : Nat) (l : List UInt8) (w : World) (hl : Bytes w w.heap.size (some ⟨b, off, none⟩) n l) (hn : n ≤ 100000) :
    Calls Try.prog 20 #[.slice (some ⟨b, off, none⟩) n cap] w fun e w' => ∃ A' c', e = .returned (.slice A' n c') ∧ OwnB w' w.heap.size A' n c' l ∧ Below w.heap.size w w' := by
  have HL := Lib.hid hl
  clear hl
  go_enter Try.func20, Try.ntmps20
  have HN := Lib.hid (Own.new (base := w.heap.size) (size := 1) w #[] 0 5 (Nat.le_refl _) (by omega) (by rfl))
  have HN : Hid (OwnB (w.alloc (.cells #[] 5)) w.heap.size (some ⟨w.heap.size, 0, none⟩) 0 0 []) := ⟨rfl, HN.out⟩
  have HB := Lib.hid ((Below.refl w.heap.size w).alloc (Nat.le_refl _) (Obj.cells #[] 5))
  have HL2 := Lib.hid (HL.out.below HB.out)
  have heq := fun W : World => Lib.run_eql_slice_nil (P := Try.prog) W 22 5 (some ⟨b, off, none⟩) n cap 0 0 Try.underlying22
  go_wp2_with (at_builtin; refine wpList_append_u8 rfl _ _ rfl w.heap.size _ _ _ _ rfl HN.out _ _ _ _ _ rfl HL2.out (by omega) (by simp) ?_; intro A5 c5 w5 hO5 hG5 hA5)
  have HB5 := Lib.hid (HN.out.step HB.out hG5 (Nat.le_refl _) (by simp))
  go_ret
  rw [Nat.zero_add, List.nil_append] at hO5
  exact ⟨A5, c5, rfl, hO5, HB5.out⟩
end Go.Proofs.Ytfomcphbclojpaa
