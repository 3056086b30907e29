/- The walk of the law on iteration. -/
import Derived.Test.YtaiefhdnjmiafaaW
namespace Go.Proofs.Ytaiefhdnjmiafaa
open Go.RowKit Go.Shelf
set_option linter.unusedVariables false

theorem ord_mem {n : Nat} : ∀ {S : List PI}, n ≤ S.length → ∀ y ∈ ord n S, y ∈ S := by
  induction n with
  | zero => intro S _ y hy; cases hy
  | succ n ih =>
    intro S hn y hy
    rcases List.mem_cons.1 hy with rfl | hy
    · exact List.mem_of_getElem? (at_get (fm_lt (by omega)))
    · exact (List.eraseIdx_sublist ..).mem (ih (by rw [List.length_eraseIdx, if_pos (fm_lt (by omega))]; omega) y hy)
theorem ord_sorted {n : Nat} : ∀ {S : List PI}, n ≤ S.length → (ord n S).Pairwise fun a b => a.1 ≤ b.1 := by
  induction n with
  | zero => intro S _; exact List.Pairwise.nil
  | succ n ih =>
    intro S hn
    have hl : n ≤ (S.eraseIdx (fm S)).length := by rw [List.length_eraseIdx, if_pos (fm_lt (by omega))]; omega
    refine List.pairwise_cons.2 ⟨fun y hy => ?_, ih hl⟩
    have hy' := (List.eraseIdx_sublist ..).mem (ord_mem hl y hy)
    obtain ⟨i, hi⟩ := List.mem_iff_getElem?.1 hy'
    have hil : i < S.length := (List.getElem?_eq_some_iff.1 hi).1
    rw [at_get hil] at hi
    rw [← Option.some.inj hi]
    exact (fmTo_min S S.length i hil).1
theorem ord_le {S : List PI} {k : Nat} (h0 : 0 < k) (hk : k < S.length) : (at_ (ord S.length S) (k - 1)).1 ≤ (at_ (ord S.length S) k).1 := by
  have hl : (ord S.length S).length = S.length := ord_len _ _
  have := List.pairwise_iff_getElem.1 (ord_sorted (Nat.le_refl S.length)) (k - 1) k (by omega) (by omega) (by omega)
  have e1 := at_get (l := ord S.length S) (i := k - 1) (by omega)
  have e2 := at_get (l := ord S.length S) (i := k) (by omega)
  rw [List.getElem?_eq_getElem (by omega)] at e1 e2
  rw [← Option.some.inj e1, ← Option.some.inj e2]
  exact this
theorem bne_of {x : Int} {m : Nat} (h : x = (m : Int)) : ((m : Int) != x) = false := by rw [h]; simp
theorem list_pqi (base q : Nat) (S : List PI) (cap p : Nat) (most : Nat) (mi : Int) (w : World) (h : PQ w base q S cap p) (hl : S.length ≤ 4096) (hm : most ≤ 100000) (hmi : mi = most) :
    Calls Try.prog 16 #[.pointer (some ⟨q, 0, none⟩), .int .i64 mi] w fun e w' => ∃ A c, e = .returned (.tuple #[.slice A ((ord S.length S).take most).length c, .bool true]) ∧ OwnI w' w.heap.size A c ((ord S.length S).take most) ∧ Below w.heap.size w w' := by
  subst hmi
  exact list_pq base q S cap p most w h hl hm
set_option maxRecDepth 100000 in
set_option maxHeartbeats 2000000 in
theorem iterates_walk (A : Option Addr) (n cap : Nat) (z : List Int) (most : Int) (w : World) (hR : Reads w w.heap.size 1 A n (z.map zi)) :
    Calls Try.prog 5 #[.slice A n cap, .int .i64 most] w fun e w' => e = .returned (.bool true) ∧ Below w.heap.size w w' := by
  obtain ⟨N, hN⟩ : ∃ N, N = w.heap.size := ⟨_, rfl⟩
  have HN := Lib.hid hN
  have HR := Lib.hid hR
  rw [← hN]
  clear hR hN
  by_cases h300 : 300 < n
  · go_enter Try.func5, Try.ntmps5
    go_wp2_with fail
    refine (awake_any w).mono ?_
    rintro e w1 ⟨rfl, hb⟩
    rw [← HN.out] at hb
    have HB := Lib.hid hb
    clear hb
    go_wp2_with fail
    go_ret
    exact ⟨rfl, HB.out⟩
  · have hn : n ≤ 300 := by omega
    have hd : decide ((300 : Int) < n) = false := by simp; omega
    clear h300
    go_enter Try.func5, Try.ntmps5
    go_wp2_with fail
    refine (New_pq (n + 1) w (by omega)).mono ?_
    rintro e w1 ⟨rfl, hq1, hb1⟩
    rw [← HN.out] at hq1 hb1 ⊢
    have HQ1 := Lib.hid hq1
    have HB1 := Lib.hid hb1
    clear hq1 hb1
    go_wp2_with fail
    go_loopw [7] (fun i wr => ∃ k : Nat, k ≤ n ∧ i = .int .i64 k ∧ PQ wr N N (its z k) (n + 1) k ∧ Below N w wr) (fun i _ => n - (intOf i).toNat)
    case atStart => exact ⟨0, Nat.zero_le _, rfl, HQ1.out, HB1.out⟩
    case round =>
      obtain ⟨k, hk, rfl, hq, hb⟩ := hrel
      have HQ := Lib.hid hq
      have HB := Lib.hid hb
      clear hq hb
      by_cases hlt : k < n
      · obtain ⟨b, off, hA, hbb, hc⟩ := ints_at HR.out hlt
        have hc1 : wr.cell? ⟨b, off + k, none⟩ = some (.int .i64 (zat z k)) := (HB.out.cell (p := ⟨b, off + k, none⟩) (by rw [HN.out]; exact hbb)).trans hc
        subst hA
        have hkn : (k : Int) < n := by omega
        clear hc
        go_wp2_with fail
        refine (Push_pq N N (its z k) (n + 1) k _ _ wr HQ.out (by rw [its_len]; omega) (by omega) (by omega)).mono ?_
        rintro e w2 ⟨rfl, hq2, hb2⟩
        rw [← its_succ] at hq2
        have HQ2 := Lib.hid hq2
        have HB2 := Lib.hid (HB.out.trans hb2)
        clear hq2 hb2
        go_wp2_with fail
        go_roundw
        case rel => exact ⟨k + 1, by omega, by go_num, HQ2.out, HB2.out⟩
        case measure => simp [intOf]; omega
      · obtain rfl : k = n := by omega
        clear hlt hk HQ1 HB1
        have hOl : (its z k).length = k := its_len z k
        have HNn : N ≤ wr.heap.size := by have := HB.out.size; have := HN.out; omega
        obtain ⟨O, hO⟩ : ∃ O, O = ord (its z k).length (its z k) := ⟨_, rfl⟩
        have hol : O.length = k := by rw [hO, ord_len, hOl]
        have HO := Lib.hid hO
        have HOl := Lib.hid hol
        have HOL := Lib.hid hOl
        clear hO hol hOl
        obtain ⟨m, hmk, hmd⟩ : ∃ m : Nat, m ≤ k ∧ ((most ≤ k ∧ most ≤ 0 ∧ (0 : Int) = m) ∨ (most ≤ k ∧ 0 < most ∧ most = m) ∨ ((k : Int) < most ∧ (0 : Int) < k ∧ (k : Int) = m) ∨ ((k : Int) < most ∧ (k : Int) ≤ 0 ∧ (0 : Int) = m)) := by
          rcases Int.lt_or_le (k : Int) most with h | h
          · exact ⟨k, Nat.le_refl _, by omega⟩
          · exact ⟨most.toNat, by omega, by omega⟩
        rcases hmd with ⟨h1, h1', h2⟩ | ⟨h1, h1', h2⟩ | ⟨h1, h1', h2⟩ | ⟨h1, h1', h2⟩
        all_goals
          have HM := Lib.hid h2
          clear h2
          go_wp2_with fail
          refine (list_pqi N N (its z k) (k + 1) k m _ wr HQ.out (by have := HOL.out; omega) (by omega) HM.out).mono ?_
          rintro e w2 ⟨A2, c2, rfl, hO2, hb2⟩
          rw [← HO.out] at hO2 ⊢
          rw [show (O.take m).length = m from by rw [List.length_take, HOl.out]; omega]
          have HO2 := Lib.hid hO2
          have HB2 := Lib.hid (HB.out.trans (hb2.mono HNn))
          have HQ2 := Lib.hid (HQ.out.below hb2)
          have HN2 := Lib.hid (Nat.le_trans HNn hb2.size)
          clear hO2 hb2
          go_wp2_with fail
          refine (list_pqi N N (its z k) (k + 1) k (k + 1) _ w2 HQ2.out (by have := HOL.out; omega) (by omega) (by omega)).mono ?_
          rintro e w3 ⟨A3, c3, rfl, hO3, hb3⟩
          rw [← HO.out, List.take_of_length_le (l := O) (by have := HOl.out; omega)] at hO3 ⊢
          rw [HOl.out]
          have HO2' := Lib.hid (HO2.out.below hb3)
          have HO3 := Lib.hid hO3
          have HB3 := Lib.hid (HB2.out.trans (hb3.mono HN2.out))
          have HQ3 := Lib.hid (HQ2.out.below hb3)
          have HN3 := Lib.hid (Nat.le_trans HN2.out hb3.size)
          clear hO3 hb3 HO2 HB2 HQ2 HN2
          go_wp2_with fail
          refine (list_pqi N N (its z k) (k + 1) k (k + 1) _ w3 HQ3.out (by have := HOL.out; omega) (by omega) (by omega)).mono ?_
          rintro e w4 ⟨A4, c4, rfl, hO4, hb4⟩
          rw [← HO.out, List.take_of_length_le (l := O) (by have := HOl.out; omega)] at hO4 ⊢
          rw [HOl.out]
          have HO2 := Lib.hid (HO2'.out.below hb4)
          have HO3' := Lib.hid (HO3.out.below hb4)
          have HO4 := Lib.hid hO4
          have HB4 := Lib.hid (HB3.out.trans (hb4.mono HN3.out))
          have HQ4 := Lib.hid (HQ3.out.below hb4)
          have HN4 := Lib.hid (Nat.le_trans HN3.out hb4.size)
          clear hO4 hb4 HO2' HO3 HB3 HQ3 HN3
          go_wp2_with fail
          refine (Len_pq N N (its z k) (k + 1) k _ HQ4.out).mono ?_
          rintro e w5 ⟨rfl, h5⟩
          subst h5
          rw [HOL.out]
          go_wp2_with fail
          have hE := equal_any c3 c4 A3 A4 O O w4 HO3'.out.rd HO4.out.rd (by have := HOl.out; omega) (by have := HOl.out; omega)
          rw [HOl.out, show decide (O.map kv = O.map kv) = true from by simp] at hE
          refine hE.mono ?_
          rintro e w6 ⟨rfl, k6, hw6⟩
          clear hE
          have hbb : Below w4.heap.size w4 w6 := by rw [hw6]; exact drew_below (Below.refl _ _) _
          have HO2' := Lib.hid (HO2.out.below hbb)
          have HO3 := Lib.hid (HO3'.out.below hbb)
          have HB6 := Lib.hid (HB4.out.trans (hbb.mono HN4.out))
          have HN6 := Lib.hid (Nat.le_trans HN4.out hbb.size)
          clear hw6 hbb HO2 HO3' HO4 HB4 HQ4 HN4
          have hkc : k ≤ c3 := by have := HO3.out.len_cap; have := HOl.out; omega
          go_wp2_with fail
          have hE := equal_any c2 c3 A2 A3 (O.take m) (O.take m) w6 HO2'.out.rd (HO3.out.rd.take m (by have := HOl.out; omega)) (by rw [List.length_take, HOl.out]; omega) (by rw [List.length_take, HOl.out]; omega)
          rw [show (O.take m).length = m from by rw [List.length_take, HOl.out]; omega, show decide ((O.take m).map kv = (O.take m).map kv) = true from by simp] at hE
          refine hE.mono ?_
          rintro e w7 ⟨rfl, k7, hw7⟩
          clear hE
          have hbb : Below w6.heap.size w6 w7 := by rw [hw7]; exact drew_below (Below.refl _ _) _
          have HO7 := Lib.hid (HO3.out.below hbb)
          have HB7 := Lib.hid (HB6.out.trans (hbb.mono HN6.out))
          have HN7 := Lib.hid (Nat.le_trans HN6.out hbb.size)
          have hq := bne_of HM.out
          clear hw7 hbb HO2' HO3 HB6 HN6
          go_wp2_with fail
          go_loopw [14] (fun v wx => ∃ i : Nat, i ≤ k ∧ v = .int .i64 ((i : Int) + 1) ∧ ∃ nq, wx = w7.drewN nq) (fun v _ => k + 1 - (intOf v).toNat)
          case atStart => exact ⟨0, Nat.zero_le _, rfl, 0, rfl⟩
          case round =>
            obtain ⟨i, hi, rfl, nq, rfl⟩ := hrel
            clear hq
            by_cases hlt : i + 1 < k
            · try (exfalso; omega)
              all_goals
                have hlO : i + 1 < O.length := by rw [HOl.out]; exact hlt
                obtain ⟨b, off, hA, hbb, d0, d1⟩ := HO7.out.rd.at_ hlO
                obtain ⟨b', off', hA', hbb', f0, f1⟩ := HO7.out.rd.at_ (show i < O.length by omega)
                subst hA
                obtain ⟨rfl, rfl⟩ := addr_inj hA'
                have hle := ord_le (S := its z k) (k := i + 1) (by omega) (by rw [HOL.out]; exact hlt)
                rw [← HO.out, Nat.add_sub_cancel] at hle
                have hd2 : decide ((at_ O (i + 1)).1 < (at_ O i).1) = false := by simp; omega
                have hik : (i : Int) + 1 < k := by omega
                have hik2 : (i : Int) < k := by omega
                clear hA' hle hbb hbb' d1 f1 hlO
                go_wp2_with fail
                go_quiet (fail)
                go_wp2_with fail
                exact ⟨⟨i + 1, by omega, by go_num, _, rfl⟩, by simp [intOf]; omega⟩
            · go_wp2_with fail
              refine (awake_any _).mono ?_
              rintro e w8 ⟨rfl, hb8⟩
              have HB8 := Lib.hid ((drew_below HB7.out _).trans (hb8.mono HN7.out))
              clear hb8
              go_wp2_with fail
              go_ret
              exact ⟨rfl, HB8.out⟩
end Go.Proofs.Ytaiefhdnjmiafaa
