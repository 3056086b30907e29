/- Contract of the law's equal. -/
import Derived.Test.YtaiefhdnjmiafaaH
namespace Go.Proofs.Ytaiefhdnjmiafaa
open Go.RowKit
set_option linter.unusedVariables false

def kv (x : PI) : Int × Int := (x.1, x.2.2)
theorem neqItem (a b c d : Int) (w : World) : (binOp .neq 52 (.agg #[.int .i64 a, .int .i64 b]) (.agg #[.int .i64 c, .int .i64 d])).run Try.prog w = .ok (.bool (!(a == c && b == d))) w := by
  have u3 := Try.underlying3
  have a3 := Try.isAgg3
  have z3 := Try.sizeOf3
  have hS : Try.prog.underlying 52 = some (.struct (Try.prog.fieldsOf 52)) := by kernel_rfl
  have hp : Try.prog.stoodInHeld 52 = false := by kernel_rfl
  rw [run_neq_struct, show (10000 : Nat) = 9999 + 1 from rfl, run_equalIn_agg w 9999 52 _ _ hS hp]
  simp only [Program.fieldsOf, Try.underlying52]
  go_simp
  by_cases h1 : a = c <;> by_cases h2 : b = d <;> simp [h1, h2]
theorem neqItemG (w : World) (x y : Operand) (xs ys : Array Value) : (eqGuard .neq 52 x y (.agg xs) (.agg ys)).run Try.prog w = .ok () w := run_eqGuard_agg w .neq _ x y xs ys (by kernel_rfl)
theorem kv_getElem {S : List PI} {k : Nat} (h : k < S.length) : (S.map kv)[k]? = some (kv (at_ S k)) := by
  rw [List.getElem?_map, at_get h]; rfl
theorem map_kv_at {S T : List PI} (e : S.map kv = T.map kv) {k : Nat} (h : k < S.length) (h' : k < T.length) : kv (at_ S k) = kv (at_ T k) := by
  have h1 := kv_getElem h
  rw [e, kv_getElem h'] at h1
  exact (Option.some.inj h1).symm
theorem map_kv_of {S T : List PI} (hl : S.length = T.length) (h : ∀ k, k < S.length → kv (at_ S k) = kv (at_ T k)) : S.map kv = T.map kv := by
  refine List.ext_getElem? fun k => ?_
  rcases Nat.lt_or_ge k S.length with hk | hk
  · rw [kv_getElem hk, kv_getElem (by omega), h k hk]
  · rw [List.getElem?_eq_none (by simpa using hk), List.getElem?_eq_none (by simp; omega)]
set_option maxRecDepth 100000 in
theorem equal_any (c c' : Nat) (A A' : Option Addr) (S T : List PI) (w : World) (hR : Rd w w.heap.size A S) (hT : Rd w w.heap.size A' T) (hl : S.length ≤ 100000) (hl' : T.length ≤ 100000) :
    Calls Try.prog 17 #[.slice A S.length c, .slice A' T.length c'] w fun e w' => e = .returned (.bool (decide (S.map kv = T.map kv))) ∧ ∃ m, w' = w.drewN m := by
  have HR := Lib.hid hR
  have HT := Lib.hid hT
  clear hR hT
  by_cases hlen : S.length = T.length
  · have hd : (((S.length : Nat) : Int) == ((T.length : Nat) : Int)) = true := by simp; omega
    go_enter Try.func17, Try.ntmps17
    go_wp2_with fail
    go_loopw [5] (fun i wr => ∃ j : Nat, j ≤ S.length ∧ i = .int .i64 j ∧ (∀ k, k < j → kv (at_ S k) = kv (at_ T k)) ∧ ∃ m, wr = w.drewN m) (fun i _ => S.length - (intOf i).toNat)
    case atStart => exact ⟨0, Nat.zero_le _, rfl, fun k hk => absurd hk (by omega), 0, rfl⟩
    case round =>
      obtain ⟨j, hj, rfl, hall, m, rfl⟩ := hrel
      have HA := Lib.hid hall
      clear hall
      by_cases hlt : j < S.length
      · obtain ⟨b, off, hA, hb, c0, c1⟩ := HR.out.at_ hlt
        obtain ⟨b', off', hA', hb', d0, d1⟩ := HT.out.at_ (show j < T.length by omega)
        subst hA hA'
        have hji : (j : Int) < S.length := by omega
        have hji2 : (j : Int) < T.length := by omega
        have hN := neqItem
        have hN2 := neqItemG
        obtain ⟨q1, hq1⟩ : ∃ q, ((at_ S j).1 == (at_ T j).1) = q := ⟨_, rfl⟩
        obtain ⟨q2, hq2⟩ : ∃ q, ((at_ S j).2.2 == (at_ T j).2.2) = q := ⟨_, rfl⟩
        have HQ := Lib.hid (show decide (kv (at_ S j) = kv (at_ T j)) = (q1 && q2) by
          rw [← hq1, ← hq2]; unfold kv
          by_cases h1 : (at_ S j).1 = (at_ T j).1 <;> by_cases h2 : (at_ S j).2.2 = (at_ T j).2.2 <;> simp [h1, h2])
        obtain ⟨q, hq⟩ : ∃ q, (q1 && q2) = q := ⟨_, rfl⟩
        rw [hq] at HQ
        have hlj : j < T.length := by omega
        clear hlen
        go_wp2_with fail
        go_quiet (fail)
        cases q
        · go_wp2_with fail
          go_ret
          refine ⟨?_, _, World.drewN_drewN _ _ _⟩
          have : ¬ (S.map kv = T.map kv) := fun e => by
            have := map_kv_at e hlt hlj
            have h := HQ.out
            simp [this] at h
          simp [this]
        · go_wp2_with fail
          go_roundw
          case rel =>
            refine ⟨j + 1, by omega, by go_num, fun k hk => ?_, _, rfl⟩
            by_cases hkj : k < j
            · exact HA.out k hkj
            · obtain rfl : k = j := by omega
              simpa using HQ.out
          case measure => simp [intOf]; omega
      · obtain rfl : j = S.length := by omega
        go_wp2_with fail
        go_ret
        refine ⟨?_, _, rfl⟩
        rw [map_kv_of hlen HA.out]
        simp
  · have hd : (((S.length : Nat) : Int) == ((T.length : Nat) : Int)) = false := by simp; omega
    go_enter Try.func17, Try.ntmps17
    go_wp2_with fail
    go_ret
    refine ⟨?_, 0, rfl⟩
    have : ¬ (S.map kv = T.map kv) := fun e => hlen (by simpa using congrArg List.length e)
    simp [this]
end Go.Proofs.Ytaiefhdnjmiafaa
