/- Contracts of the reference's Unframe. -/
import Derived.Test.YtfomcphbclojpaaD
import Derived.Laws.BytesArg
namespace Go.Proofs.Ytfomcphbclojpaa
open Go.RowKit
set_option linter.unusedVariables false

def str (l : List UInt8) : ByteArray := ⟨l.toArray⟩
theorem str_toList (l : List UInt8) : (str l).toList = l := ByteArray.toList_mk l
theorem str_eq (l r : List UInt8) : ((str l).toList == (str r).toList) = decide (l = r) := by
  rw [str_toList, str_toList]
  by_cases h : l = r <;> simp [h]
theorem conv_bytes {W : World} {B n : Nat} {A : Option Addr} {l : List UInt8} (cap : Nat) (h : Bytes W B A n l) :
    (convert 22 9 (.slice A n cap)).run Try.prog W = .ok (.string (str l)) W := by
  rcases Nat.eq_zero_or_pos n with h0 | h0
  · subst h0
    have hl : l = [] := List.eq_nil_of_length_eq_zero h.1
    subst hl
    cases A with
    | none => exact run_convert_bytes_nil W 22 5 Try.underlying22 Try.underlying5 0 cap _ Try.underlying9
    | some a =>
      rw [run_convert_bytes_string W 22 9 5 _ 0 cap Try.underlying22 Try.underlying5 Try.underlying9, run_bytesToString W a 0 cap [] (by simp [loadCells, loadCellsFrom])]
      rfl
  · obtain ⟨b, off, rfl, _⟩ := h.addr h0
    have := run_convert_bytes_arg (P := Try.prog) W 22 5 Try.underlying22 Try.underlying5 b off n cap (l.map fun c => (c.toNat : Int)) (by rw [List.length_map, h.1]) (fun i hi => by
      obtain ⟨b', off', c, e, _, hc, hcell⟩ := h.at_ hi
      obtain ⟨rfl, rfl⟩ := addr_inj e
      rw [hcell]
      simp [List.getD, hc]) _ Try.underlying9
    rw [this]
    unfold str strOfNums
    congr 2
    rw [List.map_map]
    simp [Function.comp_def]

theorem conv_new (W : World) (l : List UInt8) (hl : l.length ≤ 10000) : (convert 22 9 (.slice (some ⟨W.heap.size, 0, none⟩) l.length l.length)).run Try.prog (W.alloc (.cells (l.map bv).toArray 5)) = .ok (.string (str l)) (W.alloc (.cells (l.map bv).toArray 5)) :=
  conv_bytes _ (OwnB.new (base := 0) W l (Nat.zero_le _) (by unfold maxLen; omega)).bytes
theorem Bytes.alloc {w : World} {B n : Nat} {A : Option Addr} {l : List UInt8} (h : Bytes w B A n l) (hB : B ≤ w.heap.size) (o : Obj) : Bytes (w.alloc o) B A n l := h.below ((Below.refl _ _).alloc hB o)
theorem Bytes.drewN {w : World} {B n : Nat} {A : Option Addr} {l : List UInt8} (h : Bytes w B A n l) (m : Nat) : Bytes (w.drewN m) B A n l := h
set_option maxRecDepth 100000 in
theorem UnfRef_short (A : Option Addr) (n cap : Nat) (l : List UInt8) (w : World) (hl : Bytes w w.heap.size A n l) (hn : n < 8) :
    Calls Try.prog 11 #[.slice A n cap] w (UnfPost w l) := by
  have HU := Lib.hid (show unf l = ([], 0, 3) by unfold unf; rw [if_pos (by rw [hl.1]; omega)])
  go_enter Try.func11, Try.ntmps11
  go_wp2_with fail
  go_ret3
  exact UnfPost.none_ HU.out (Below.refl _ _)

set_option maxRecDepth 100000 in
theorem UnfRef_short2 (A : Option Addr) (n cap : Nat) (l : List UInt8) (w : World) (hl : Bytes w w.heap.size A n l) (hn : ¬ n < 8) (hnc : n ≤ cap) (hm : n ≤ 100000) (hs : (n : Int) - 8 < num4 l) :
    Calls Try.prog 11 #[.slice A n cap] w (UnfPost w l) := by
  have HU := Lib.hid (show unf l = ([], 0, 3) by unfold unf; rw [if_neg (by rw [hl.1]; omega), if_pos (by rw [hl.1]; omega)])
  obtain ⟨hb0, hb1⟩ := num4_bd l
  have hq : decide ((n : Int) < 8) = false := by simp; omega
  have HL := Lib.hid hl
  clear hl
  go_enter Try.func11, Try.ntmps11
  go_wp2_with (go_at_call 21; refine (number_ref _ _ _ l _ _ HL.out (by omega)).mono ?_; rintro e w' ⟨rfl, m, rfl⟩)
  go_ret3
  exact UnfPost.none_ HU.out (drew_below (Below.refl _ _) _)

set_option maxRecDepth 100000 in
set_option maxHeartbeats 1000000 in
theorem UnfRef_rest (A : Option Addr) (n cap : Nat) (l : List UInt8) (w : World) (hl : Bytes w w.heap.size A n l) (hn : ¬ n < 8) (hnc : n ≤ cap) (hm : n ≤ 100000) (hs : ¬ (n : Int) - 8 < num4 l) :
    Calls Try.prog 11 #[.slice A n cap] w (UnfPost w l) := by
  obtain ⟨hb0, hb1⟩ := num4_bd l
  obtain ⟨b, off, rfl, hbb⟩ := hl.addr (by omega)
  obtain ⟨k, hk⟩ : ∃ k : Nat, num4 l = k := ⟨(num4 l).toNat, by omega⟩
  have HU := Lib.hid (show unf l = if fnvFrom 2166136261 (l.take (4 + k)) = num4 (l.drop (4 + k)) then ((l.drop 4).take k, 4 + k + 4, 0) else ([], 0, 24) by unfold unf; rw [if_neg (by rw [hl.1]; omega), if_neg (by rw [hl.1]; omega), hk]; rfl)
  have HK := Lib.hid hk
  rw [hk] at hs hb0 hb1
  have hkn : k + 8 ≤ n := by omega
  clear hs hb0 hb1
  have HL := Lib.hid hl
  have HT := Lib.hid (hl.take (show k + 4 ≤ n by omega))
  have HD := Lib.hid ((hl.drop (show k + 4 ≤ n by omega)).take (show 4 ≤ n - (k + 4) by omega))
  have HX := Lib.hid ((hl.drop (show 4 ≤ n by omega)).take (show k ≤ n - 4 by omega))
  clear hl hk
  obtain ⟨hf0, hf1⟩ := fnv_bd 2166136261 (by decide) (by decide) (l.take (k + 4))
  obtain ⟨q, hq⟩ : ∃ q, ((str (be4 (fnvFrom 2166136261 (l.take (k + 4))))).toList == (str ((l.drop (k + 4)).take 4)).toList) = q := ⟨_, rfl⟩
  have HU2 : Hid (unf l = if q then ((l.drop 4).take k, k + 8, 0) else ([], 0, 24)) := by
    unfold Hid
    have hin := be4_inj _ hf0 hf1 ((l.drop (k + 4)).take 4) (by rw [List.length_take, List.length_drop, HL.out.1]; omega)
    rw [num4_take] at hin
    rw [HU.out, ← hq, str_eq, show 4 + k = k + 4 from by omega]
    by_cases h : fnvFrom 2166136261 (l.take (k + 4)) = num4 (l.drop (k + 4))
    · rw [if_pos h, if_pos (by simpa using hin.2 h)]
    · rw [if_neg h, if_neg (by simpa using fun e => h (hin.1 e))]
  clear HU
  have hq8 : decide ((n : Int) < 8) = false := by simp; omega
  have hhi : (k + 8 : Int) ≤ cap := by omega
  have ht : ((k : Int) + 4).toNat = k + 4 := by omega
  have ht8 : ((k : Int) + 8).toNat = k + 8 := by omega
  have hw4 : IntKind.i64.wrap ((k : Int) + 4) = k + 4 := IntWalk.i64_in _ (by omega)
  have hw8 : IntKind.i64.wrap ((k : Int) + 8) = k + 8 := IntWalk.i64_in _ (by omega)
  have hp4 : (0 : Int) ≤ k + 4 := by omega
  have hp8 : (0 : Int) ≤ k + 8 := by omega
  have hc4 : (k : Int) + 4 ≤ cap := by omega
  have hc48 : (k : Int) + 4 ≤ k + 8 := by omega
  have hcv1 := fun m : Nat => conv_new (w.drewN m) (be4 (fnvFrom 2166136261 (l.take (k + 4)))) (by show 4 ≤ _; omega)
  simp only [World.heap_drewN, show (be4 (fnvFrom 2166136261 (l.take (k + 4)))).length = 4 from rfl] at hcv1
  have hcv2 := fun m : Nat => conv_bytes (cap - (k + 4)) (HD.out.drewN m)
  have hcv3 := fun m : Nat => conv_bytes (cap - (k + 4)) ((HD.out.drewN m).alloc (Nat.le_refl _) (.cells ((be4 (fnvFrom 2166136261 (l.take (k + 4)))).map bv).toArray 5))
  cases q
  all_goals
    go_enter Try.func11, Try.ntmps11
    go_wp2_with (go_at_call 21; refine (number_ref _ _ _ l w.heap.size _ (by exact HL.out) (by omega)).mono ?_; rintro e w' ⟨rfl, m, rfl⟩; rw [HK.out])
    go_region_with (first
      | (go_at_call 13; refine (FNV1a_ref _ _ _ (l.take (k + 4)) w.heap.size _ (by exact HT.out) (by omega)).mono ?_; rintro e w2 ⟨rfl, rfl⟩)
      | (go_at_call 22; refine (word_ref _ _ hf0 hf1).mono ?_; rintro e w' ⟨rfl, rfl⟩))
    all_goals go_wp2_with (at_builtin; refine wpList_append_u8 rfl _ _ rfl w.heap.size _ _ _ _ rfl (OwnB.none_ _ _) w.heap.size _ _ _ ((l.drop 4).take k) rfl ((HX.out.drewN _).alloc (Nat.le_refl _) _) (by omega) (by simp) ?_; intro A5 c5 w5 hO5 hG5 hA5; have HO5 := Lib.hid hO5; have HB5 := Lib.hid (((drew_below (Below.refl _ w) _).alloc (Nat.le_refl _) _).grown hG5 (by simp) (fun k hk => by cases hk)); clear hO5 hG5 hA5; rw [Nat.zero_add, List.nil_append] at HO5)
    all_goals first
      | (go_ret3; exact UnfPost.none_ HU2.out ((drew_below (Below.refl _ w) _).alloc (Nat.le_refl _) _))
      | (go_ret3; exact UnfPost.some_ HU2.out HX.out.1 HO5.out HB5.out)
end Go.Proofs.Ytfomcphbclojpaa
