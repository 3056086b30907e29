/- From the arguments as the rows hand them over to the words of the walks. -/
import Derived.Test.YtfomcphbclojpaaP
import Derived.Test.YtfomcphbclojpaaO
import Derived.ProofKit
import Derived.OpenShut
import Derived.ShutString
import Derived.ChangeOld
namespace Go.Proofs.Ytfomcphbclojpaa
open Go.ChangeShapes Go.WideShapes Go.ChangeAt Go.RowKit
set_option linter.unusedVariables false

def IsRow (k : IntKind) (w : World) (a : Option Addr) (len cap : Nat) (zs : List Int) : Prop :=
  (a = none ∧ len = 0 ∧ cap = 0 ∧ zs = []) ∨
  ∃ x, a = some x ∧ len ≤ cap ∧ cap ≤ maxLen ∧ zs.length = cap ∧ (∀ i, i < zs.length → w.cell? (x.add i) = some (.int k (zs.getD i 0))) ∧ ∀ n ∈ zs, (Lit.int k n).wf = true
theorem row_bytes {w : World} {a : Option Addr} {len cap : Nat} {zs : List Int} (h : IsRow .u8 w a len cap zs) : ∃ l, Bytes w w.heap.size a len l ∧ len ≤ cap := by
  rcases h with ⟨rfl, rfl, rfl, rfl⟩ | ⟨x, rfl, hl, hm, hz, hcell, hwf⟩
  · exact ⟨[], ⟨rfl, Reads.none_⟩, Nat.le_refl _⟩
  · have hlen : ((zs.take len).map fun n => UInt8.ofNat n.toNat).length = len := by rw [List.length_map, List.length_take]; omega
    refine ⟨(zs.take len).map fun n => UInt8.ofNat n.toNat, ⟨hlen, by rw [List.length_map, hlen]; omega, fun hn => ?_⟩, hl⟩
    have h0 := hcell 0 (by omega)
    have hb := World.block_lt_of_cell? _ _ h0
    rw [block_add] at hb
    refine ⟨x, rfl, hb, fun j u hu => ?_⟩
    rw [List.getElem?_map, List.getElem?_map] at hu
    cases ht : (zs.take len)[j]? with
    | none => rw [ht] at hu; cases hu
    | some n =>
      rw [ht] at hu
      obtain rfl := Option.some.inj hu
      have hj : j < (zs.take len).length := (List.getElem?_eq_some_iff.1 ht).1
      rw [List.length_take] at hj
      rw [List.getElem?_take, if_pos (by omega)] at ht
      rw [hcell j (by omega), List.getD_eq_getElem?_getD, ht]
      have hw := hwf n (List.mem_of_getElem? ht)
      have hx : 0 ≤ n ∧ n ≤ 255 := by simpa [Lit.wf, IntKind.min, IntKind.max, IntKind.signed, IntKind.bits] using hw
      show some (Value.int .u8 n) = some (bv (UInt8.ofNat n.toNat))
      unfold bv
      rw [UInt8.toNat_ofNat']
      congr 2
      omega
theorem wf_i64 {n : Int} (h : (Lit.int .i64 n).wf = true) : -9223372036854775808 ≤ n ∧ n ≤ 9223372036854775807 := by
  simpa [Lit.wf, IntKind.min, IntKind.max, IntKind.signed, IntKind.bits] using h
theorem wf_u8 {n : Int} (h : (Lit.int .u8 n).wf = true) : ∃ c : UInt8, n = (c.toNat : Int) := by
  have hx : 0 ≤ n ∧ n ≤ 255 := by simpa [Lit.wf, IntKind.min, IntKind.max, IntKind.signed, IntKind.bits] using h
  exact ⟨UInt8.ofNat n.toNat, by rw [UInt8.toNat_ofNat']; omega⟩
end Go.Proofs.Ytfomcphbclojpaa
