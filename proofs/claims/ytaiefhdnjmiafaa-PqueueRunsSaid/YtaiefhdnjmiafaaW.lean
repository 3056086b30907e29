/- The walk of the law on sorting. -/
import Derived.Test.YtaiefhdnjmiafaaV
namespace Go.Proofs.Ytaiefhdnjmiafaa
open Go.RowKit Go.Shelf
set_option linter.unusedVariables false

set_option maxRecDepth 100000 in
set_option maxHeartbeats 2000000 in
theorem sorts_walk (A : Option Addr) (n cap : Nat) (z : List Int) (w : World) (hR : Reads w w.heap.size 1 A n (z.map zi)) :
    Calls Try.prog 4 #[.slice A n cap] w fun e w' => e = .returned (.bool true) ∧ Below w.heap.size w w' := by
  obtain ⟨N, hN⟩ : ∃ N, N = w.heap.size := ⟨_, rfl⟩
  have HN := Lib.hid hN
  have HR := Lib.hid hR
  rw [← hN]
  clear hR hN
  by_cases h300 : 300 < n
  · go_enter Try.func4, Try.ntmps4
    go_wp2_with fail
    refine (awake_any w).mono ?_
    rintro e w1 ⟨rfl, hb⟩
    rw [← HN.out] at hb
    have HB := Lib.hid hb
    clear hb
    go_wp2_with fail
    go_ret
    exact ⟨rfl, HB.out⟩
  · have hn : n ≤ 300 := by omega
    have hd : decide ((300 : Int) < n) = false := by simp; omega
    clear h300
    go_enter Try.func4, Try.ntmps4
    go_wp2_with fail
    refine (New_pq n w (by omega)).mono ?_
    rintro e w1 ⟨rfl, hq1, hb1⟩
    rw [← HN.out] at hq1 hb1 ⊢
    have HQ1 := Lib.hid hq1
    have HB1 := Lib.hid hb1
    clear hq1 hb1
    go_wp2_with fail
    go_loopw [5] (fun i wr => ∃ k : Nat, k ≤ n ∧ i = .int .i64 k ∧ PQ wr N N (its z k) n k ∧ Below N w wr) (fun i _ => n - (intOf i).toNat)
    case atStart => exact ⟨0, Nat.zero_le _, rfl, HQ1.out, HB1.out⟩
    case round =>
      obtain ⟨k, hk, rfl, hq, hb⟩ := hrel
      have HQ := Lib.hid hq
      have HB := Lib.hid hb
      clear hq hb
      by_cases hlt : k < n
      · obtain ⟨b, off, hA, hbb, hc⟩ := ints_at HR.out hlt
        have hc1 : wr.cell? ⟨b, off + k, none⟩ = some (.int .i64 (zat z k)) := (HB.out.cell (p := ⟨b, off + k, none⟩) (by rw [HN.out]; exact hbb)).trans hc
        subst hA
        have hkn : (k : Int) < n := by omega
        clear hc
        go_wp2_with fail
        refine (Push_pq N N (its z k) n k _ _ wr HQ.out (by rw [its_len]; omega) (by omega) (by omega)).mono ?_
        rintro e w2 ⟨rfl, hq2, hb2⟩
        rw [← its_succ] at hq2
        have HQ2 := Lib.hid hq2
        have HB2 := Lib.hid (HB.out.trans hb2)
        clear hq2 hb2
        go_wp2_with fail
        go_roundw
        case rel => exact ⟨k + 1, by omega, by go_num, HQ2.out, HB2.out⟩
        case measure => simp [intOf]; omega
      · obtain rfl : k = n := by omega
        clear hlt hk HQ1 HB1
        obtain ⟨i0, hi, hz0, hz1, hz2⟩ := info_parts infoB
        have HI := Lib.hid hi
        have HI0 := Lib.hid hz0
        have HI1 := Lib.hid hz1
        have HI2 := Lib.hid hz2
        clear hi hz0 hz1 hz2
        go_wp2_with (refine wpList_make_full _ rfl (.tmp 47) (.tmp 47) 49 rfl N 4 i0 (.bool false) 1 Try.underlying49 HI.out HI0.out HI1.out .i64 .i64 k k k rfl rfl rfl rfl (by rw [HI2.out]; omega) (by unfold maxLen; omega) (by have := HB.out.size; have := HN.out; omega) ?_; intro w2 hs2 hg2; go_loud (have HS2 := Lib.hid hs2; have HG2 := Lib.hid hg2; clear hs2 hg2))
        have hsb : N ≤ wr.heap.size := by have := HB.out.size; have := HN.out; omega
        obtain ⟨sb, hsbe⟩ : ∃ sb, sb = wr.heap.size := ⟨_, rfl⟩
        rw [← hsbe]
        have HSn := Lib.hid (show Seen w2 N sb k (List.replicate k false) by
          have h := HS2.out
          rw [Nat.mul_one, show (Value.bool false).cells = #[.bool false] from rfl, toList_madeCells_one] at h
          unfold Seen; rw [List.map_replicate, hsbe]; exact h)
        have hbw : Below wr.heap.size wr w2 := ⟨HG2.out.os, HG2.out.tape, HG2.out.output, HG2.out.size, fun b hb => HG2.out.block b hb (by simp)⟩
        have HQ2 := Lib.hid (HQ.out.below hbw)
        have HB2 := Lib.hid (HB.out.trans (hbw.mono hsb))
        have HLf := Lib.hid (left_start z k 0 (-1) (its_num z k))
        clear hbw HQ HB HS2 HG2 HI HI0 HI1 HI2 hsbe hsb
        go_loopw [7, 8, 9] (fun kk ll i wr => ∃ (j : Nat) (T : List PI) (a b : Int) (sn : List Bool), j ≤ k ∧ kk = .int .i64 a ∧ ll = .int .i64 b ∧ i = .int .i64 j ∧ PQ wr N N T k k ∧ Seen wr N sb k sn ∧ Left z k sn j a b T ∧ Below N w wr) (fun _ _ i _ => k - (intOf i).toNat)
        case atStart => exact ⟨0, _, 0, -1, _, Nat.zero_le _, rfl, rfl, rfl, HQ2.out, HSn.out, HLf.out, HB2.out⟩
        case round =>
          obtain ⟨j, T, a, b, sn, hj, rfl, rfl, rfl, hq, hs, hl, hb⟩ := hrel
          have HQ := Lib.hid hq
          have HS := Lib.hid hs
          have HL := Lib.hid hl
          have HB := Lib.hid hb
          have htl := hl.len
          clear hq hs hl hb HQ2 HSn HLf HB2
          by_cases hlt : j < k
          · obtain ⟨m, hm, hx, hsn, hge, hL2⟩ := left_step HL.out (by omega)
            have HX := Lib.hid hx
            have HL2 := Lib.hid hL2
            have HGe := Lib.hid hge
            have HSnm := Lib.hid hsn
            clear hx hL2 hge hsn
            go_wp2_with fail
            refine (Pop_pqk N N T k k _ HQ.out (by omega) (by omega)).mono ?_
            rintro e w4 ⟨rfl, hq4, hk4⟩
            rw [HX.out]
            have HQ4 := Lib.hid hq4
            have HS4 := Lib.hid (HS.out.qk hk4)
            have HB4 := Lib.hid (HB.out.trans hk4.below)
            have hc4 : w4.cell? ⟨sb, m, none⟩ = some (.bool false) := by rw [HS4.out.cell hm, HSnm.out]
            obtain ⟨bA, off, hA, hbb, hcA⟩ := ints_at HR.out hm
            have hcA4 : w4.cell? ⟨bA, off + m, none⟩ = some (.int .i64 (zat z m)) := (HB4.out.cell (p := ⟨bA, off + m, none⟩) (by rw [HN.out]; exact hbb)).trans hcA
            have hf4 := HS4.out.frozen m
            have hmk : (m : Int) < k := by omega
            have hm0 : decide ((m : Int) < 0) = false := by simp
            have hmk2 : decide (k ≤ m) = false := by simp; omega
            subst hA
            clear hq4 hk4 hcA HQ HS HB
            by_cases h0 : 0 < j
            · have d0 : decide ((0 : Int) < (j : Nat)) = true := by simp; omega
              have hg := HGe.out h0
              have d1 : decide (zat z m < a) = false := by simp; omega
              obtain ⟨q, hq⟩ : ∃ q, (zat z m == a) = q := ⟨_, rfl⟩
              have d2 : q = true → decide ((m : Int) < b) = false := by intro h; rw [h] at hq; have : zat z m = a := by simpa using hq
                                                                        simp; omega
              have d0' : decide (0 < j) = true := by simp; omega
              clear h0 hg
              cases q
              · clear d2
                go_wp2_with fail
                exact ⟨⟨j + 1, _, _, _, _, by omega, rfl, rfl, by go_num, PQ.other HQ4.out (grown_setCell (grown_refl w4 (some sb)) m (.bool true)) HS4.out.isQ, HS4.out.set m, HL2.out, HB4.out.setCell (p := ⟨sb, m, none⟩) HS4.out.base_le.1 _⟩, by simp [intOf]; omega⟩
              · have d3 := d2 rfl
                clear d2
                go_wp2_with fail
                exact ⟨⟨j + 1, _, _, _, _, by omega, rfl, rfl, by go_num, PQ.other HQ4.out (grown_setCell (grown_refl w4 (some sb)) m (.bool true)) HS4.out.isQ, HS4.out.set m, HL2.out, HB4.out.setCell (p := ⟨sb, m, none⟩) HS4.out.base_le.1 _⟩, by simp [intOf]; omega⟩
            · have d0 : decide ((0 : Int) < (j : Nat)) = false := by simp; omega
              have d0' : decide (0 < j) = false := by simp; omega
              clear h0
              go_wp2_with fail
              exact ⟨⟨j + 1, _, _, _, _, by omega, rfl, rfl, by go_num, PQ.other HQ4.out (grown_setCell (grown_refl w4 (some sb)) m (.bool true)) HS4.out.isQ, HS4.out.set m, HL2.out, HB4.out.setCell (p := ⟨sb, m, none⟩) HS4.out.base_le.1 _⟩, by simp [intOf]; omega⟩
          · obtain rfl : j = k := by omega
            have hT : T.length = 0 := by omega
            clear hlt hj
            go_wp2_with fail
            refine (Pop_pq0 N N T j j _ HQ.out hT).mono ?_
            rintro e w5 ⟨rfl, h5⟩
            subst h5
            go_wp2_with fail
            refine (Len_pq N N T j j _ HQ.out).mono ?_
            rintro e w6 ⟨rfl, h6⟩
            subst h6
            rw [hT]
            go_wp2_with fail
            refine (awake_any _).mono ?_
            rintro e w7 ⟨rfl, hb7⟩
            have HB7 := Lib.hid (HB.out.trans (hb7.mono (by have := HB.out.size; have := HN.out; omega)))
            clear hb7
            go_wp2_with fail
            go_ret
            exact ⟨rfl, HB7.out⟩
end Go.Proofs.Ytaiefhdnjmiafaa
