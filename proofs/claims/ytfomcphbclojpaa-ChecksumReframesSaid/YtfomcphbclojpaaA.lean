/- Contracts of the functions of package checksum. -/
import Derived.Test.YtfomcphbclojpaaBase
import Derived.Test.YtfomcphbclojpaaM
namespace Go.Proofs.Ytfomcphbclojpaa
open Go.RowKit
set_option linter.unusedVariables false

/-- a slice of bytes reads as the list l -/
def Bytes (w : World) (B : Nat) (A : Option Addr) (n : Nat) (l : List UInt8) : Prop := l.length = n ∧ Reads w B 1 A n (l.map bv)
theorem Bytes.at_ {w : World} {B n : Nat} {A : Option Addr} {l : List UInt8} (h : Bytes w B A n l) {k : Nat} (hk : k < n) :
    ∃ b off c, A = some ⟨b, off, none⟩ ∧ b < B ∧ l[k]? = some c ∧ w.cell? ⟨b, off + k, none⟩ = some (.int .u8 (c.toNat : Int)) := by
  obtain ⟨b, off, u, e, hb, hx, hc⟩ := h.2.at_ hk
  rw [List.getElem?_map] at hx
  cases hl : l[k]? with
  | none => rw [hl] at hx; cases hx
  | some c => rw [hl] at hx; obtain rfl := Option.some.inj hx; exact ⟨b, off, c, e, hb, rfl, hc⟩
theorem Bytes.grown {w w' : World} {B n : Nat} {A : Option Addr} {l : List UInt8} {g : Nat} (h : Bytes w B A n l) (hg : w.grownBy w' (some g)) (hB : B ≤ g) (hgw : g < w.heap.size) : Bytes w' B A n l := ⟨h.1, h.2.grown hg hB hgw⟩
theorem Bytes.below {w w' : World} {B n : Nat} {A : Option Addr} {l : List UInt8} (h : Bytes w B A n l) (hb : Below B w w') : Bytes w' B A n l := ⟨h.1, h.2.below hb⟩

theorem add_any (a : Addr) (v : Int) (c : UInt8) (w : World) (hc : w.cell? a = some (.int .u32 v)) (hf : w.frozen? a = false) (h0 : 0 ≤ v) (h1 : v < 4294967296) :
    Calls Try.prog 25 #[.pointer (some a), .int .u8 (c.toNat : Int)] w fun e w' => e = .returned (.tuple #[]) ∧ w' = w.setCell a (.int .u32 (fstep v c)) := by
  have h3 := u8_lt c
  unfold fstep
  go_enter Try.func25, Try.ntmps25
  go_wp2
  go_end0
  exact ⟨rfl, rfl⟩

theorem write_any (g : Nat) (v cnt : Int) (A : Option Addr) (n cap : Nat) (l : List UInt8) (w : World) (hB : Blk w g 43 #[.int .u32 v, .int .i64 cnt]) (hl : Bytes w g A n l) (hn : n ≤ 1000000) (h0 : 0 ≤ v) (h1 : v < 4294967296) (hc0 : cnt = 0) :
    Calls Try.prog 23 #[.pointer (some ⟨g, 0, none⟩), .slice A n cap] w fun e w' => e = .returned (.tuple #[]) ∧ Blk w' g 43 #[.int .u32 (fnvFrom v l), .int .i64 n] ∧ w.grownBy w' (some g) := by
  subst hc0
  have HB := Lib.hid hB
  have HL := Lib.hid hl
  clear hB hl
  go_enter Try.func23, Try.ntmps23
  go_wp2
  go_loopw [13] (fun i wr => ∃ k : Nat, k ≤ n ∧ i = .int .i64 k ∧ Blk wr g 43 #[.int .u32 (fnvFrom v (l.take k)), .int .i64 0] ∧ w.grownBy wr (some g)) (fun i _ => n - (intOf i).toNat)
  case atStart => exact ⟨0, Nat.zero_le _, rfl, HB.out, grown_refl _ _⟩
  case round =>
    obtain ⟨k, hk, rfl, hb, hg⟩ := hrel
    by_cases hlt : k < n
    · obtain ⟨bb, off, c, rfl, hab, hlc, hac⟩ := (HL.out.grown hg (Nat.le_refl _) HB.out.lt).at_ hlt
      have hcell : ‹World›.cell? ⟨g, 0, none⟩ = some (.int .u32 (fnvFrom v (l.take k))) := hb.cell 0
      have hfz : ‹World›.frozen? ⟨g, 0, none⟩ = false := hb.frozen 0
      have hbd := fnv_bd v h0 h1 (l.take k)
      have hbd0 := hbd.1
      have hbd1 := hbd.2
      have HF := Lib.hid (fnv_snoc v l k c hlc)
      have HB2 := Lib.hid hb
      have HG := Lib.hid hg
      clear hb hg hbd hlc
      go_wp2_with (go_at_call 25; refine (add_any _ _ _ _ (by assumption) (by assumption) (by assumption) (by assumption)).mono ?_; rintro e w' ⟨rfl, rfl⟩)
      go_roundw
      case rel => exact ⟨k + 1, by omega, by go_num, by rw [HF.out]; exact HB2.out.set_ 0 _, grown_setCell HG.out 0 _⟩
      case measure => simp [intOf]; omega
    · have hkn : k = n := by omega
      subst hkn
      have hcell : ‹World›.cell? ⟨g, 1, none⟩ = some (.int .i64 0) := hb.cell 1
      have hfz : ‹World›.frozen? ⟨g, 1, none⟩ = false := hb.frozen 1
      have HB2 := Lib.hid hb
      have HG := Lib.hid hg
      clear hb hg
      go_wp2
      go_end0
      refine ⟨rfl, ?_, grown_setCell HG.out 1 _⟩
      have := HB2.out.set_ 1 (.int .i64 (k : Int))
      rw [List.take_of_length_le (by rw [HL.out.1]; omega)] at this
      exact this

theorem FNV1a_any (A : Option Addr) (n cap : Nat) (l : List UInt8) (w : World) (hl : Bytes w w.heap.size A n l) (hn : n ≤ 1000000) :
    Calls Try.prog 12 #[.slice A n cap] w fun e w' => e = .returned (.int .u32 (fnvFrom 2166136261 l)) ∧ Below w.heap.size w w' := by
  have HL := Lib.hid hl
  clear hl
  go_enter Try.func12, Try.ntmps12
  have hB := HL.out.below ((Below.refl _ _).alloc (Nat.le_refl _) (Obj.cells #[Value.int IntKind.u32 2166136261, Value.int IntKind.i64 0] 43))
  have HB := Lib.hid hB
  clear hB
  go_wp2_with fail
  refine (write_any _ _ _ _ _ _ l _ (Blk.new _ _ _) HB.out hn (by decide) (by decide) rfl).mono ?_
  rintro e w' ⟨rfl, hb, hg⟩
  have hcell : w'.cell? ⟨w.heap.size, 0, none⟩ = some (.int .u32 (fnvFrom 2166136261 l)) := hb.cell 0
  have HH := Lib.hid hb
  have HG := Lib.hid hg
  clear hb hg
  go_wp2_with fail
  go_ret
  exact ⟨rfl, below_alloc_grown HG.out⟩
theorem Internet_any (A : Option Addr) (n cap : Nat) (l : List UInt8) (B : Nat) (w : World) (hl : Bytes w B A n l) (hn : n ≤ 1000000) :
    Calls Try.prog 14 #[.slice A n cap] w fun e w' => e = .returned (.int .u16 (inet l)) ∧ w = w' := by
  have HL := Lib.hid hl
  clear hl
  go_enter Try.func14, Try.ntmps14
  go_wp2
  go_loop [3, 8] (fun s i => ∃ k : Nat, k ≤ n ∧ i = .int .i64 k ∧ s = .int .u64 (wsum true (l.take k))) (fun _ i => n - (intOf i).toNat)
  case atStart => exact ⟨0, by omega, rfl, rfl⟩
  case round =>
    obtain ⟨k, hk, rfl, rfl⟩ := hrel
    have hw := wsum_bd true (l.take k)
    have hw0 := hw.1
    have hw1 : wsum true (l.take k) ≤ 65536000000 := by have := List.length_take_le k l; omega
    clear hw
    by_cases hlt : k < n
    · obtain ⟨bb, off, c, rfl, hab, hlc, hac⟩ := HL.out.at_ hlt
      have hc := u8_lt c
      by_cases hp : k % 2 = 0
      · have hb : (((k : Int) % 2) == 0) = true := by simp; omega
        have HF := Lib.hid (wsum_even l k c hlc hp)
        clear hp hlc
        go_wp2
        go_round
        case rel => exact ⟨k + 1, by omega, by go_num, by rw [HF.out]⟩
        case measure => simp [intOf]; omega
      · have hb : (((k : Int) % 2) == 0) = false := by simp; omega
        have HF := Lib.hid (wsum_odd l k c hlc hp)
        clear hp hlc
        go_wp2
        go_round
        case rel => exact ⟨k + 1, by omega, by go_num, by rw [HF.out]⟩
        case measure => simp [intOf]; omega
    · have hkn : l.take k = l := List.take_of_length_le (by rw [HL.out.1]; omega)
      rw [hkn] at hw0 hw1 ⊢
      clear hkn
      go_wp2
      go_loop [3] (fun s => ∃ z : Int, 0 ≤ z ∧ z ≤ 65536000000 ∧ fold16 z = fold16 (wsum true l) ∧ s = .int .u64 z) (fun s => (intOf s).toNat)
      case atStart => exact ⟨_, hw0, hw1, rfl, rfl⟩
      case round =>
        obtain ⟨z, h0, h1, hf, rfl⟩ := hrel
        have HF := Lib.hid hf
        clear hf
        by_cases hh : 65535 < z
        · have hand := and_16 z h0 (by omega)
          obtain ⟨f1, f2, f3⟩ := fold_step z hh
          have hwr : IntKind.u64.wrap (z / 65536 + z % 65536) = z / 65536 + z % 65536 := by rw [IntKind.wrap_u64]; omega
          have HF1 := Lib.hid f1
          clear f1
          go_wp2
          go_round
          case rel => exact ⟨_, f2, by omega, by rw [HF1.out]; exact HF.out, rfl⟩
          case measure => simp only [intOf]; omega
        · have hx := xor_max16 z h0 (by omega)
          go_wp2
          go_ret
          have HG := HF.out
          rw [fold_small z h0 (by omega)] at HG
          exact ⟨by unfold inet; rw [← HG]; rfl, rfl⟩
end Go.Proofs.Ytfomcphbclojpaa
