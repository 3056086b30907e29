/- Contracts: the reference and the small functions. -/
import Derived.Test.YtfomcphbclojpaaA
namespace Go.Proofs.Ytfomcphbclojpaa
open Go.RowKit
set_option linter.unusedVariables false
theorem FNV1a_ref (A : Option Addr) (n cap : Nat) (l : List UInt8) (B : Nat) (w : World) (hl : Bytes w B A n l) (hn : n ≤ 1000000) :
    Calls Try.prog 13 #[.slice A n cap] w fun e w' => e = .returned (.int .u32 (fnvFrom 2166136261 l)) ∧ w = w' := by
  have HL := Lib.hid hl
  clear hl
  go_enter Try.func13, Try.ntmps13
  go_wp2
  go_loop [3, 4] (fun s i => ∃ k : Nat, k ≤ n ∧ i = .int .i64 k ∧ s = .int .u64 (fnvFrom 2166136261 (l.take k))) (fun _ i => n - (intOf i).toNat)
  case atStart => exact ⟨0, by omega, rfl, rfl⟩
  case round =>
    obtain ⟨k, hk, rfl, rfl⟩ := hrel
    have hb := fnv_bd 2166136261 (by decide) (by decide) (l.take k)
    by_cases hlt : k < n
    · obtain ⟨bb, off, c, rfl, hab, hlc, hac⟩ := HL.out.at_ hlt
      have hc := u8_lt c
      obtain ⟨f1, f2, f3⟩ := fstep64 (fnvFrom 2166136261 (l.take k)) c hb.1 hb.2
      have HF := Lib.hid (fnv_snoc 2166136261 l k c hlc)
      have HF1 := Lib.hid f1
      clear f1 hlc hb
      go_wp2
      go_round
      case rel => exact ⟨k + 1, by omega, by go_num, by rw [HF.out, ← HF1.out]⟩
      case measure => simp [intOf]; omega
    · have hkn : l.take k = l := List.take_of_length_le (by rw [HL.out.1]; omega)
      rw [hkn] at hb ⊢
      obtain ⟨hb0, hb1⟩ := hb
      clear hkn
      go_wp2
      go_ret
      exact ⟨rfl, rfl⟩

set_option maxRecDepth 100000 in
theorem Internet_ref (A : Option Addr) (n cap : Nat) (l : List UInt8) (B : Nat) (w : World) (hl : Bytes w B A n l) (hn : n ≤ 1000000) :
    Calls Try.prog 15 #[.slice A n cap] w fun e w' => e = .returned (.int .u16 (inet l)) ∧ w = w' := by
  have HL := Lib.hid hl
  clear hl
  go_enter Try.func15, Try.ntmps15
  go_wp2
  go_loop [3, 4] (fun s i => ∃ k : Nat, k ≤ n + 1 ∧ k % 2 = 0 ∧ i = .int .i64 k ∧ s = .int .u64 (wsum true (l.take k))) (fun _ i => n + 1 - (intOf i).toNat)
  case atStart => exact ⟨0, by omega, rfl, rfl, rfl⟩
  case round =>
    obtain ⟨k, hk, hp, rfl, rfl⟩ := hrel
    have HP := Lib.hid hp
    clear hp
    have hw := wsum_bd true (l.take k)
    have hw0 := hw.1
    have hw1 : wsum true (l.take k) ≤ 65536000000 := by have := List.length_take_le k l; have := List.length_take_le' k l; have := HL.out.1; omega
    clear hw
    by_cases hlt : k < n
    · obtain ⟨bb, off, c, rfl, hab, hlc, hac⟩ := HL.out.at_ hlt
      have hc := u8_lt c
      have HF := Lib.hid (wsum_even l k c hlc HP.out)
      clear hlc
      by_cases hlt2 : k + 1 < n
      · obtain ⟨bb, off, d, e1, hab2, hld, had⟩ := HL.out.at_ hlt2
        obtain ⟨rfl, rfl⟩ := addr_inj e1
        clear e1
        have hd := u8_lt d
        have HF2 := Lib.hid (wsum_odd l (k + 1) d hld (by have := HP.out; omega))
        clear hld
        go_wp2
        go_round
        case rel => exact ⟨k + 2, by omega, by have := HP.out; omega, by go_num, by rw [HF2.out, HF.out]; try (congr 1; omega)⟩
        case measure => simp [intOf]; omega
      · have hkn : l.take (k + 2) = l.take (k + 1) := by rw [List.take_of_length_le (by rw [HL.out.1]; omega), List.take_of_length_le (by rw [HL.out.1]; omega)]
        have HK := Lib.hid hkn
        clear hkn
        go_wp2
        go_round
        case rel => exact ⟨k + 2, by omega, by have := HP.out; omega, by go_num, by rw [HK.out, HF.out]; try (congr 1; omega)⟩
        case measure => simp [intOf]; omega
    · have hkn : l.take k = l := List.take_of_length_le (by rw [HL.out.1]; omega)
      rw [hkn] at hw0 hw1 ⊢
      clear hkn
      go_wp2
      go_loop [3] (fun s => ∃ z : Int, 0 ≤ z ∧ z ≤ 65536000000 ∧ fold16 z = fold16 (wsum true l) ∧ s = .int .u64 z) (fun s => (intOf s).toNat)
      case atStart => exact ⟨_, hw0, hw1, rfl, rfl⟩
      case round =>
        obtain ⟨z, h0, h1, hf, rfl⟩ := hrel
        have HF := Lib.hid hf
        clear hf
        by_cases hh : 65535 < z
        · obtain ⟨f1, f2, f3⟩ := fold_step z hh
          have hwr : IntKind.u64.wrap (z / 65536 + z % 65536) = z / 65536 + z % 65536 := by rw [IntKind.wrap_u64]; omega
          have HF1 := Lib.hid f1
          clear f1
          go_wp2
          go_round
          case rel => exact ⟨_, f2, by omega, by rw [HF1.out]; exact HF.out, rfl⟩
          case measure => simp only [intOf]; omega
        · go_wp2
          go_ret
          have HG := HF.out
          rw [fold_small z h0 (by omega)] at HG
          exact ⟨by unfold inet; rw [← HG]; rfl, rfl⟩

set_option maxRecDepth 100000 in
theorem number_any (A : Option Addr) (n cap : Nat) (l : List UInt8) (B : Nat) (w : World) (hl : Bytes w B A n l) (h4 : 4 ≤ n) (hnc : n ≤ cap) (hn : n ≤ 1000000) :
    Calls Try.prog 19 #[.slice A n cap] w fun e w' => e = .returned (.int .u32 (num4 l)) ∧ w = w' := by
  have HL := Lib.hid hl
  clear hl
  go_enter Try.func19, Try.ntmps19
  go_wp2
  go_loop [3, 9] (fun s i => ∃ k : Nat, k ≤ 4 ∧ i = .int .i64 k ∧ s = .int .u32 (num4 (l.take k))) (fun _ i => 4 - (intOf i).toNat)
  case atStart => exact ⟨0, by omega, rfl, rfl⟩
  case round =>
    obtain ⟨k, hk, rfl, rfl⟩ := hrel
    by_cases hlt : k < 4
    · obtain ⟨bb, off, c, rfl, hab, hlc, hac⟩ := HL.out.at_ (show k < n by omega)
      have hc := u8_lt c
      obtain ⟨hb0, hb1, hb2⟩ := num4_step l k c hlt hlc
      have ho := or_8 (num4 (l.take k)) c hb0 hb1
      have HF := Lib.hid hb2
      clear hb2 hlc
      go_wp2
      go_round
      case rel => exact ⟨k + 1, by omega, by go_num, by rw [HF.out]⟩
      case measure => simp [intOf]; omega
    · obtain rfl : k = 4 := by omega
      have HN := Lib.hid (num4_take l)
      go_wp2
      go_ret
      exact ⟨by rw [← HN.out]; rfl, rfl⟩
theorem word_any (v : Int) (w : World) (h0 : 0 ≤ v) (h1 : v < 4294967296) :
    Calls Try.prog 24 #[.int .u32 v] w fun e w' => e = .returned (.slice (some ⟨w.heap.size, 0, none⟩) 4 4) ∧ w.alloc (.cells ((be4 v).map bv).toArray 5) = w' := by
  have HB := Lib.hid (be4_cells v h0 h1)
  go_enter Try.func24, Try.ntmps24
  go_wp2
  go_ret
  exact ⟨rfl, by rw [HB.out]⟩
theorem word_ref (v : Int) (w : World) (h0 : 0 ≤ v) (h1 : v < 4294967296) :
    Calls Try.prog 22 #[.int .u32 v] w fun e w' => e = .returned (.slice (some ⟨w.heap.size, 0, none⟩) 4 4) ∧ w.alloc (.cells ((be4 v).map bv).toArray 5) = w' := by
  have HB := Lib.hid (be4_cells v h0 h1)
  go_enter Try.func22, Try.ntmps22
  go_wp2
  go_ret
  exact ⟨rfl, by rw [HB.out]⟩
theorem number_ref (A : Option Addr) (n cap : Nat) (l : List UInt8) (B : Nat) (w : World) (hl : Bytes w B A n l) (h4 : 4 ≤ n) :
    Calls Try.prog 21 #[.slice A n cap] w fun e w' => e = .returned (.int .i64 (num4 l)) ∧ ∃ m, w' = w.drewN m := by
  obtain ⟨bb, off, c0, rfl, hab, hl0, hc0⟩ := hl.at_ (show 0 < n by omega)
  obtain ⟨bb1, off1, c1, e1, hab1, hl1, hc1⟩ := hl.at_ (show 1 < n by omega)
  obtain ⟨bb2, off2, c2, e2, hab2, hl2, hc2⟩ := hl.at_ (show 2 < n by omega)
  obtain ⟨bb3, off3, c3, e3, hab3, hl3, hc3⟩ := hl.at_ (show 3 < n by omega)
  obtain ⟨rfl, rfl⟩ := addr_inj e1
  obtain ⟨rfl, rfl⟩ := addr_inj e2
  obtain ⟨rfl, rfl⟩ := addr_inj e3
  have g0 : (0 : Int) < n := by omega
  have g1 : (1 : Int) < n := by omega
  have g2 : (2 : Int) < n := by omega
  have g3 : (3 : Int) < n := by omega
  rw [Nat.add_zero] at hc0
  have HN := Lib.hid (num4_four l c0 c1 c2 c3 hl0 hl1 hl2 hl3)
  have b0 := u8_lt c0
  have b1 := u8_lt c1
  have b2 := u8_lt c2
  have b3 := u8_lt c3
  clear e1 e2 e3 hl0 hl1 hl2 hl3 hl hab1 hab2 hab3 hab
  go_enter Try.func21, Try.ntmps21
  go_wp2
  go_quiet (fail)
  go_wp2
  go_ret
  exact ⟨by rw [HN.out]; rfl, _, rfl⟩
end Go.Proofs.Ytfomcphbclojpaa
