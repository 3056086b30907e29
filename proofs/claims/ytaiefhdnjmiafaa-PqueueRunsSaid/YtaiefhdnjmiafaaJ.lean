/- The iterator 'drain': a queue popped item by item, each handed to yield. -/
import Derived.Test.YtaiefhdnjmiafaaI
import Derived.RangeFuncNested
import Derived.RangeFuncBound
import Derived.RangeFuncCalls
import Derived.RangeFuncLeaves
import Derived.Shelf.Abstract
import Derived.Shelf.RegionOpen
import Derived.OwnWalkIn
import Derived.TacticsInMore
import Derived.LoopNIn
import Derived.LoopIn
namespace Go.Proofs.Ytaiefhdnjmiafaa
open Go.RowKit Go.Shelf
set_option linter.unusedVariables false
attribute [local go_sem] Oper.semAt_some

theorem Pop_empty (q : Nat) (A : Option Addr) (c : Nat) (w : World) (hc : w.cell? ⟨q, 0, none⟩ = some (.slice A 0 c)) :
    Calls Try.prog 13 #[.pointer (some ⟨q, 0, none⟩)] w fun e w' => e = .returned (.tuple #[.int .i64 0, .int .i64 0, .bool false]) ∧ w' = w := by
  go_enter Try.func13, Try.ntmps13
  go_wp2_with fail
  refine (Peek_empty q A c w hc).mono ?_
  rintro e w' ⟨rfl, h⟩
  subst h
  go_wp2_with fail
  go_ret3
  exact ⟨rfl, rfl⟩

/-- how many items the queue's block tells -/
def lenQ (w : World) (q : Nat) : Nat := match w.cell? ⟨q, 0, none⟩ with | some (.slice _ m _) => m | _ => 0
/-- the blocks that drain reads between two rounds -/
def Kd (bd cq g : Nat) (U U' : World) : Prop := U.heap.size ≤ U'.heap.size ∧ ∀ b, b = bd ∨ b = cq ∨ b = g → U'.heap[b]? = U.heap[b]?
theorem QAt.kd {U U' : World} {base bd cq g c cap p : Nat} {l : List PI} (h : QAt U base cq (some ⟨g, 0, none⟩) c l cap p) (hk : Kd bd cq g U U') : QAt U' base cq (some ⟨g, 0, none⟩) c l cap p := by
  refine ⟨h.1, (hk.2 cq (.inr (.inl rfl))).trans h.2.1, h.2.2.1, ?_⟩
  rcases h.2.2.2 with ⟨h', h2⟩ | ⟨g', cap', cur, h', hb, hg, r⟩
  · exact .inl ⟨h', h2⟩
  · have e : g' = g := by simp only [Value.slice.injEq, Option.some.injEq, Addr.mk.injEq] at h'; exact h'.1.1.symm
    subst e
    exact .inr ⟨g', cap', cur, h', hb, (hk.2 g' (.inr (.inr rfl))).trans hg, r⟩
set_option maxRecDepth 100000 in
theorem drain1_in (n : Nat) (l : Nat) (base bd cq g c cap p : Nat) (S hs : List PI) (J Jx : List PI → World → Prop)
    (hJ : ∀ pre U U', J pre U → Fr base cq g U U' → (∃ hs', QAt U' base cq (some ⟨g, 0, none⟩) c hs' cap p) → J pre U')
    (hY : ∀ pre x U, J pre U → pre.length < S.length → YieldAt Fence.wide (n - 1) Try.prog l #[.int .i64 x.1, .int .i64 x.2.2] U fun e U' =>
      (e = .returned (.bool true) ∧ J (pre ++ [x]) U' ∧ Kd bd cq g U U') ∨ (e = .returned (.bool false) ∧ Jx (pre ++ [x]) U'))
    (W : World) (hb1 : bd ≠ cq) (hb2 : bd ≠ g) (hW : bd < W.heap.size) (hc : W.cell? ⟨bd, 0, none⟩ = some (.pointer (some ⟨cq, 0, none⟩))) (hQ : QAt W base cq (some ⟨g, 0, none⟩) c hs cap p) (hp : hs.Perm S) (hn : Num S) (hh : IsHeap hs) (hl : S.length ≤ 4096) (h0 : J [] W) :
    CallsIn Fence.wide n Try.prog 26 #[.func (.yield l) #[] #[], .pointer (some ⟨bd, 0, none⟩)] W fun e U => (∃ v, e = .returned v) ∧
      (J (ord S.length S) U ∨ ∃ pre, pre <+: ord S.length S ∧ Jx pre U) := by
  refine callsIn_of_wp Try.func26 rfl trivial ?_ rfl
  simp only [Try.ntmps26, List.size_toArray, List.length_cons, List.length_nil, Nat.reduceAdd, Nat.reduceSub, Array.replicate_succ, Array.replicate_zero, List.push_toArray, List.append_toArray, List.nil_append, List.cons_append]
  gi_wp2
  gi_loopw [3] (fun _ wr => ∃ (pre S' hs' : List PI), J pre wr ∧ wr.cell? ⟨bd, 0, none⟩ = some (.pointer (some ⟨cq, 0, none⟩)) ∧ QAt wr base cq (some ⟨g, 0, none⟩) c hs' cap p ∧ hs'.Perm S' ∧ Num S' ∧ IsHeap hs' ∧ pre ++ ord S'.length S' = ord S.length S ∧ bd < wr.heap.size)
    (fun _ wr => lenQ wr cq)
  case atStart => exact ⟨[], S, hs, h0, hc, hQ, hp, hn, hh, rfl, hW⟩
  case round =>
    obtain ⟨pre, S', hs', hj, hbc, hQ', hp', hn', hh', hord, hsz⟩ := hrel
    have HO := Lib.hid hord
    have hlen : pre.length + S'.length = S.length := by have := congrArg List.length hord; rw [List.length_append, ord_len, ord_len] at this; exact this
    have hpl := hp'.length_eq
    have HQ := Lib.hid hQ'
    have HP := Lib.hid hp'
    have HN := Lib.hid hn'
    have HH := Lib.hid hh'
    have HJ := Lib.hid hJ
    have HY := Lib.hid hY
    clear hord hQ' hp' hn' hh' hJ hY hQ hp hn hh h0
    by_cases hz : hs'.length = 0
    · have c0 : wr.cell? ⟨cq, 0, none⟩ = some (.slice (some ⟨g, 0, none⟩) 0 c) := by have := HQ.out.2.1.cell 0; rw [hz] at this; exact this
      gi_wp2
      refine ⟨trivial, fun h => (by cases h), (callsIn_wide.2 (Pop_empty cq _ c wr c0)).mono ?_⟩
      rintro e w1 ⟨rfl, rfl⟩
      gi_wp2
      have hS0 : S' = [] := List.eq_nil_of_length_eq_zero (by omega)
      subst hS0
      refine ⟨fun _ h => (by cases h), ?_⟩
      gi_wp2
      refine bodyPost_ret (results_none rfl _ _ _) rfl ⟨⟨_, rfl⟩, .inl ?_⟩
      have e : pre = ord S.length S := by have := HO.out; simpa [ord] using this
      rw [← e]; exact hj
    · have hz' : 0 < hs'.length := by omega
      have hr := root_fm HH.out HP.out HN.out hz'
      gi_wp2
      refine ⟨trivial, fun h => (by cases h), (callsIn_wide.2 (Pop_fr base cq g c hs' cap p wr HQ.out hz' (by omega) HH.out)).mono ?_⟩
      rintro e w1 ⟨rfl, hs2, hQ2, hp2, hh2, hf2⟩
      obtain ⟨fn, tmps, assign, body, hy, hR⟩ := HY.out pre (at_ S' (fm S')) w1 (HJ.out _ _ _ hj hf2 ⟨_, hQ2⟩) (by omega)
      gi_wp2
      refine ⟨fun h => (by cases h), hR.mono ?_⟩
      rintro e w2 (⟨rfl, hj2, hk2⟩ | ⟨rfl, hx2⟩)
      · gi_wp2
        have hQ3 := hQ2.kd hk2
        have hb3 : w2.cell? ⟨bd, 0, none⟩ = some (.pointer (some ⟨cq, 0, none⟩)) := by
          rw [← hbc]
          unfold World.cell?
          rw [hk2.2 bd (.inl rfl), hf2.rest bd hsz hb1 hb2]
        refine ⟨⟨_, S'.eraseIdx (fm S'), hs2, hj2, hb3, hQ3, popped_of HH.out HP.out HN.out hz' hp2, num_erase HN.out _, hh2, ?_, by have := hf2.below.size; have := hk2.1; omega⟩, ?_⟩
        · rw [← HO.out, ord_step (S := S') (by omega), List.append_assoc]; rfl
        · have h1 := hQ3.2.1.cell 0
          have h2 := HQ.out.2.1.cell 0
          unfold lenQ
          rw [h1, h2]
          show hs2.length < hs'.length
          rw [hp2.length_eq, popped_len]; omega
      · gi_wp2
        refine bodyPost_ret (results_none rfl _ _ _) rfl ⟨⟨_, rfl⟩, .inr ⟨_, ?_, hx2⟩⟩
        rw [← HO.out, ord_step (by omega)]
        exact ⟨_, by rw [List.append_assoc]; rfl⟩
end Go.Proofs.Ytaiefhdnjmiafaa
