/- Lemmas. -/
import Derived.Test.YtakgiamhdpgoeaaGreatP23
set_option linter.unusedSimpArgs false
namespace Go.Proofs.YtakgiamhdpgoeaaGreat
open Go.RowKit
set_option linter.unusedVariables false
structure Mat (W : World) (lo m n : Nat) (t : TypeId) (gs : Nat → Nat) (M : Nat → Nat → Value) : Prop where
 lo : ∀ k, k < m → lo ≤ gs k
 blk : ∀ k, k < m → Blk W (gs k) t (rowF n (M k))
 inj : ∀ k k', k < m → k' < m → gs k = gs k' → k = k'
section
variable {W W' : World} {lo m n : Nat} {t : TypeId} {gs : Nat → Nat} {M M' : Nat → Nat → Value}
theorem Mat.none_ (W : World) (lo n : Nat) (t : TypeId) (gs : Nat → Nat) (M : Nat → Nat → Value) : Mat W lo 0 n t gs M := ⟨fun k h => absurd h (by omega), fun k h => absurd h (by omega), fun k k' h => absurd h (by omega)⟩
theorem Mat.below (h : Mat W lo m n t gs M) (hb : Below W.heap.size W W') : Mat W' lo m n t gs M := ⟨h.lo, fun k hk => (h.blk k hk).below hb (h.blk k hk).lt, h.inj⟩
theorem Mat.other (h : Mat W lo m n t gs M) {g : Nat} (hg : ∀ k, k < m → gs k ≠ g) (i : Nat) (v : Value) : Mat (W.setCell ⟨g, i, none⟩ v) lo m n t gs M := ⟨h.lo, fun k hk => zka (h.blk k hk) (hg k hk) i v, h.inj⟩
theorem Mat.row (h : Mat W lo m n t gs M) {g : Nat} (hlo : lo ≤ g) (hn : ∀ k, k < m → gs k ≠ g) (hb : Blk W g t (rowF n (M m))) : Mat W lo (m + 1) n t (fun k => if k = m then g else gs k) M := by
 refine ⟨fun k hk => ?_, fun k hk => ?_, fun k k' hk hk' he => ?_⟩
 ·by_cases hm : k = m
  ·simp only [hm, if_true]; exact hlo
  ·simp only [if_neg hm]; exact h.lo k (by omega)
 ·by_cases hm : k = m
  ·subst hm; simp only [if_true]; exact hb
  ·simp only [if_neg hm]; exact h.blk k (by omega)
 ·by_cases hm : k = m <;> by_cases hm' : k' = m
  ·omega
  ·rw [if_pos hm, if_neg hm'] at he; exact absurd he.symm (hn k' (by omega))
  ·rw [if_neg hm, if_pos hm'] at he; exact absurd he (hn k (by omega))
  ·rw [if_neg hm, if_neg hm'] at he; exact h.inj k k' (by omega) (by omega) he
theorem Mat.set_ (h : Mat W lo m n t gs M) {i : Nat} (hi : i < m) (j : Nat) (v : Value) : Mat (W.setCell ⟨gs i, j, none⟩ v) lo m n t gs (fun a b => if a = i ∧ b = j then v else M a b) := by
 refine ⟨h.lo, fun k hk => ?_, h.inj⟩
 by_cases hk2 : k = i
 ·subst hk2
  have := (h.blk k hk).set_ j v
  rw [zXc] at this
  refine Eq.mp (congrArg (Blk _ _ _) (zDa fun b _ => ?_)) this
  by_cases hb : b = j <;> simp [hb]
 ·have := zka (h.blk k hk) (fun e => hk2 (h.inj k i hk hi e)) j v
  refine Eq.mp (congrArg (Blk _ _ _) (zDa fun b _ => ?_)) this
  simp [hk2]
theorem Mat.congr (h : Mat W lo m n t gs M) (he : ∀ a b, a < m → b < n → M a b = M' a b) : Mat W lo m n t gs M' :=
 ⟨h.lo, fun k hk => Eq.mp (congrArg (Blk _ _ _) (zDa fun b hb => he k b hk hb)) (h.blk k hk), h.inj⟩
theorem Mat.cell (h : Mat W lo m n t gs M) {i j : Nat} (hi : i < m) (hj : j < n) : W.cell? ⟨gs i, j, none⟩ = some (M i j) := by
 rw [(h.blk i hi).cell j, zbb hj]
theorem Mat.frozen (h : Mat W lo m n t gs M) {i : Nat} (hi : i < m) (j : Nat) : W.frozen? ⟨gs i, j, none⟩ = false := (h.blk i hi).frozen j
theorem Mat.lt (h : Mat W lo m n t gs M) {i : Nat} (hi : i < m) : gs i < W.heap.size := (h.blk i hi).lt
end
def headF (n m len : Nat) (gs : Nat → Nat) : Array Value := rowF n (fun k => if k < m then .slice (some ⟨gs k, 0, none⟩) len len else .slice none 0 0)
theorem addr0_add (g j : Nat) : ((⟨g, 0, none⟩ : Addr).add j) = ⟨g, j, none⟩ := by unfold Addr.add; split <;> simp_all
theorem zoa {α : Type} {size : Nat} {enc : α → List Value} {ok : α → Prop} {w : World} {g B : Nat} {t : TypeId} {cs : Array Value} (h : Blk w g t cs) (hB : g < B) (l : List α) (hc : cs.toList = l.flatMap enc) (hl : ∀ x, (enc x).length = size)
  (hn : l.length ≤ maxLen) (hok : ∀ x ∈ l, ok x) : SLR w B size enc ok ⟨some ⟨g, 0, none⟩, l.length, l⟩ :=
 ⟨Nat.le_refl _, hn, ⟨zyb hl l, fun _ => ⟨_, rfl, hB, fun j u hu => by
  rw [addr0_add, h.cell j, ← Array.getElem?_toList, hc]
  exact hu⟩⟩, hok⟩
theorem rd_lit {α : Type} {size : Nat} {enc : α → List Value} (W : World) (t : TypeId) (cs : Array Value) (g : Nat) (hg : W.heap.size = g) (l : List α) (hc : cs.toList = l.flatMap enc) (hl : ∀ x, (enc x).length = size) (hn : l.length ≤ maxLen) :
  Reads (W.alloc (.cells cs t)) (g + 1) size (some ⟨g, 0, none⟩) l.length (l.flatMap enc) := by
 subst hg
 exact (zoa (ok := fun _ => True) (Blk.new W t cs) (Nat.lt_succ_self _) l hc hl hn (fun _ _ => trivial)).rd
theorem ztf {α : Type} (l : List α) (f : α → Value) : l.flatMap (fun x => [f x]) = l.map f := by
 induction l with
 | nil => rfl
 | cons x l ih => rw [List.flatMap_cons, ih]; rfl
theorem Mat.ints {W : World} {lo n len g : Nat} {t ts : TypeId} {gs : Nat → Nat} {M : Nat → Nat → Int} (h : Mat W lo n len t gs (fun a b => .int .i64 (M a b))) (hh : Blk W g ts (headF n n len gs)) (hn : n ≤ maxLen) (hl : len ≤ maxLen) :
  MatR W W.heap.size ⟨some ⟨g, 0, none⟩, n, (List.range n).map fun k => ⟨some ⟨gs k, 0, none⟩, len, (List.range len).map (M k)⟩⟩ := by
 have e : ((List.range n).map fun k => (⟨some ⟨gs k, 0, none⟩, len, (List.range len).map (M k)⟩ : SL Int)).length = n := by simp
 have := zoa (α := SL Int) (size := 1) (enc := rowE) (ok := fun r => SLR W W.heap.size 1 intE (fun _ => True) r) hh hh.lt ((List.range n).map fun k => ⟨some ⟨gs k, 0, none⟩, len, (List.range len).map (M k)⟩) (by
   unfold headF rowF rowE
   rw [ztf (f := fun r : SL Int => Value.slice r.a r.l.length r.c), List.map_map, List.toList_toArray]
   refine List.map_congr_left fun k hk => ?_
   simp [List.mem_range.1 hk]) rowE_len (by rw [e]; exact hn) (fun r hr => by
   obtain ⟨k, hk, rfl⟩ := List.mem_map.1 hr
   have hk := List.mem_range.1 hk
   have e2 : ((List.range len).map (M k)).length = len := by simp
   have := zoa (α := Int) (size := 1) (enc := intE) (ok := fun _ => True) (h.blk k hk) (h.lt hk) ((List.range len).map (M k)) (by
    unfold rowF intE
    rw [ztf (f := fun x : Int => Value.int .i64 x), List.map_map, List.toList_toArray]
    rfl) zna (by rw [e2]; exact hl) (fun _ _ => trivial)
   rwa [e2] at this)
 rwa [e] at this
open Go.RowKit
structure JobD where
 chip : ChipD
 us : SL UnitD
 cs : SL (Int × Int)
 ds : SL (SL Int)
def JobD.m (J : JobD) : JobM := ⟨J.chip, J.us.l.map fun u => decide (u.table < 0), J.cs.l, J.ds.rows⟩
abbrev JobD.cells (J : JobD) : Array Value := #[.int .i64 J.chip.stages, .int .i64 J.chip.tZ, .int .i64 J.chip.gates, .int .i64 J.chip.sram, .int .i64 J.chip.tcam, .int .i64 J.chip.c8, .int .i64 J.chip.c16, .int .i64 J.chip.c32,
 .slice J.us.a J.us.l.length J.us.c, .slice J.cs.a J.cs.l.length J.cs.c, .slice J.ds.a J.ds.l.length J.ds.c]
structure JobR (w : World) (B g : Nat) (J : JobD) : Prop where
 lt : g < B
 blk : Blk w g 67 J.cells
 us : SLR w B 3 UnitD.enc (UnitD.ok w B) J.us
 cs : SLR w B 2 frE (fun _ => True) J.cs
 ds : MatR w B J.ds
 n1 : J.cs.l.length = J.us.l.length
 n2 : J.ds.l.length = J.us.l.length
 n3 : ∀ r ∈ J.ds.l, r.l.length = J.us.l.length
theorem JobR.below {w w' : World} {B g : Nat} {J : JobD} (h : JobR w B g J) (hb : Below B w w') : JobR w' B g J :=
 ⟨h.lt, h.blk.below hb h.lt, (SLR.below h.us hb).imp fun u hu => hu.below hb, SLR.below h.cs hb, h.ds.below hb, h.n1, h.n2, h.n3⟩
theorem JobR.more {w : World} {B B' g : Nat} {J : JobD} (h : JobR w B g J) (hB : B ≤ B') : JobR w B' g J :=
 ⟨Nat.lt_of_lt_of_le h.lt hB, h.blk, (SLR.more h.us hB).imp fun u hu => hu.more hB, SLR.more h.cs hB, h.ds.more hB, h.n1, h.n2, h.n3⟩
theorem Fr.job {N g : Nat} {w W : World} {L : List (Nat × TypeId × Array Value)} {J : JobD} (F : Fr N w W L) (h : JobR w N g J) : JobR W W.heap.size g J := (h.below F.below).more F.le
theorem Fr.mat {N : Nat} {w W : World} {L : List (Nat × TypeId × Array Value)} {d : SL (SL Int)} (F : Fr N w W L) (h : MatR w N d) : MatR W W.heap.size d := (h.below F.below).more F.le
theorem JobD.dep_at {J : JobD} {i j : Nat} {r : SL Int} {x : Int} (h : J.ds.l[i]? = some r) (h2 : r.l[j]? = some x) : J.m.dep i j = x := by
 unfold JobM.dep JobD.m
 rw [rows_at h, zec h2]
theorem follows_no {J : JobM} {pre : List Int} {unit k : Nat} {s x : Int} (hk : k < unit) (hx : pre[k]? = some x) (h : depOk (J.dep k unit) x s = false) : J.follows pre unit s = false := by
 unfold JobM.follows
 rw [List.all_eq_false]
 exact ⟨k, List.mem_range.2 hk, by rw [zec hx, h]; simp⟩
theorem follows_yes {J : JobM} {pre : List Int} {unit : Nat} {s : Int} (h : ∀ (k : Nat) (x : Int), k < unit → pre[k]? = some x → depOk (J.dep k unit) x s = true) (hl : unit ≤ pre.length) : J.follows pre unit s = true := by
 unfold JobM.follows
 rw [List.all_eq_true]
 intro k hk
 have hk := List.mem_range.1 hk
 obtain ⟨x, hx⟩ : ∃ x, pre[k]? = some x := ⟨_, List.getElem?_eq_getElem (by omega)⟩
 rw [zec hx]
 exact h k x hk hx
theorem depOk_2 {a b : Int} : depOk 2 a b = decide (a < b) := rfl
theorem depOk_1 {a b : Int} : depOk 1 a b = decide (a ≤ b) := rfl
theorem depOk_0 {k a b : Int} (h1 : k ≠ 1) (h2 : k ≠ 2) : depOk k a b = true := by unfold depOk; rw [if_neg h2, if_neg h1]
set_option maxRecDepth 100000 in
set_option maxHeartbeats 2000000 in
theorem jobFollows_any (J : JobD) (g : Nat) (st : SL Int) (unit : Nat) (s : Int) (w : World) (hJ : JobR w w.heap.size g J) (hT : SLR w w.heap.size 1 intE (fun _ => True) st) (hu : unit < J.us.l.length) (hl : unit ≤ st.l.length) :
  Calls Tryz.prog 39 #[.pointer (some ⟨g, 0, none⟩), .slice st.a st.l.length st.c, .int .i64 unit, .int .i64 s] w fun e w' => e = .returned (.bool (J.m.follows st.l unit s)) ∧ w = w' := by
 have hcap := hT.cap
 have hle := hT.le
 have hmx : unit ≤ 9223372036854775807 := by unfold maxLen at hcap; omega
 have HT := Hd ((hT.take_ zna unit hl))
 have HD := Hd hJ.ds
 have hdl := hJ.ds.len
 have hn2 := hJ.n2
 have HN3 := Hd hJ.n3
 have hg : ∀ i, w.cell? ⟨g, i, none⟩ = _ := fun i => hJ.blk.cell i
 have hgl := hJ.lt
 obtain ⟨ta, tc, tl⟩ := st
 simp only at hle hl hT HT ⊢
 have htk : (tl.take unit).length = unit := by rw [List.length_take]; exact Nat.min_eq_left hl
 have HTK := Hd htk
 unfold JobD.cells at hg
 obtain ⟨mm, hmm⟩ : ∃ mm, J.m = mm := ⟨_, rfl⟩
 have HMM := Hd hmm
 rw [hmm]
 clear hJ hT htk hmm
 have hc1 : (unit : Int) ≤ tc := by omega
 have hc2 : (unit : Int) ≤ tl.length := by omega
 go_enter Tryz.func39, Tryz.ntmps39
 go_wp2_with fail
 go_loop [15] (fun i => ∃ k : Nat, k ≤ unit ∧ i = .int .i64 k ∧ (∀ (j : Nat) (x : Int), j < k → tl[j]? = some x → depOk (mm.dep j unit) x s = true)) (fun i => unit - (intOf i).toNat)
 case atStart => exact ⟨0, Nat.zero_le _, rfl, fun j x hj => absurd hj (by omega)⟩
 case round =>
  obtain ⟨k, hk, rfl, hall⟩ := hrel
  have HAl := Hd hall
  clear hall
  by_cases hlt : k < unit
  ·obtain ⟨b2, off2, x, hA2, hb2, hx, _, hc2⟩ := HT.out.at_ zna (by omega) (by rw [HTK.out]; exact hlt)
   have p0 := hc2 0 _ rfl
   simp only [Nat.add_zero, Nat.mul_one] at p0
   simp only at hA2 hx
   rw [List.getElem?_take, if_pos hlt] at hx
   have HX := Hd hx
   obtain ⟨b3, off3, r, hA3, hb3, hr, hok, hc3⟩ := HD.out.at_ rowE_len (by omega) (show k < J.ds.l.length by omega)
   have p1 := hc3 0 _ rfl
   simp only [Nat.add_zero, Nat.mul_one] at p1
   have hrl := HN3.out r (List.mem_of_getElem? hr)
   obtain ⟨b4, off4, y, hA4, hb4, hy, _, hc4⟩ := hok.at_ zna (by omega) (show unit < r.l.length by omega)
   have p2 := hc4 0 _ rfl
   simp only [Nat.add_zero, Nat.mul_one] at p2
   have HDe := Hd (show mm.dep k unit = y by rw [← HMM.out]; exact JobD.dep_at hr hy)
   have hk1 : (k : Int) < unit := by omega
   have hk2 : (k : Int) < J.ds.l.length := by omega
   have hu1 : (unit : Int) < r.l.length := by omega
   have hrlen := hok.len
   obtain ⟨ra, rc, rl⟩ := r
   simp only at hA4 p1 hu1 hrl hrlen
   obtain ⟨ja, hja⟩ : ∃ z, J.ds.a = z := ⟨_, rfl⟩
   rw [hja] at hA3
   subst hA2 hA4 hA3
   rw [hja] at hg
   clear hc2 hx hc3 hc4 hr hok hy hja
   by_cases c2 : y = 2
   ·subst c2
    by_cases c3 : s ≤ x
    ·have HV := Hd (follows_no (s := s) hlt HX.out (by rw [HDe.out, depOk_2]; exact decide_eq_false (by omega)))
     go_wp2_with fail
     go_returns
     exact ⟨by rw [HV.out]; try rfl, rfl⟩
    ·have c3' : decide (s ≤ x) = false := decide_eq_false c3
     have HOk := Hd (show depOk (mm.dep k unit) x s = true by rw [HDe.out, depOk_2]; exact decide_eq_true (by omega))
     go_wp2_with fail
     go_round
     case rel => exact ⟨k + 1, by omega, by go_num, fun j x' hj hx' => by
      rcases Nat.lt_succ_iff_lt_or_eq.1 hj with h | h
      ·exact HAl.out j x' h hx'
      ·rw [h, HX.out] at hx'; injection hx' with hx'; rw [← hx', h]; exact HOk.out⟩
     case measure => simp [intOf]; omega
   ·have c2' : (y == 2) = false := by simp [c2]
    by_cases c1 : y = 1
    ·subst c1
     by_cases c3 : s < x
     ·have HV := Hd (follows_no (s := s) hlt HX.out (by rw [HDe.out, depOk_1]; exact decide_eq_false (by omega)))
      go_wp2_with fail
      go_returns
      exact ⟨by rw [HV.out]; try rfl, rfl⟩
     ·have c3' : decide (s < x) = false := decide_eq_false c3
      have HOk := Hd (show depOk (mm.dep k unit) x s = true by rw [HDe.out, depOk_1]; exact decide_eq_true (by omega))
      go_wp2_with fail
      go_round
      case rel => exact ⟨k + 1, by omega, by go_num, fun j x' hj hx' => by
       rcases Nat.lt_succ_iff_lt_or_eq.1 hj with h | h
       ·exact HAl.out j x' h hx'
       ·rw [h, HX.out] at hx'; injection hx' with hx'; rw [← hx', h]; exact HOk.out⟩
      case measure => simp [intOf]; omega
    ·have c1' : (y == 1) = false := by simp [c1]
     have HOk := Hd (show depOk (mm.dep k unit) x s = true by rw [HDe.out]; exact depOk_0 c1 c2)
     go_wp2_with fail
     go_round
     case rel => exact ⟨k + 1, by omega, by go_num, fun j x' hj hx' => by
      rcases Nat.lt_succ_iff_lt_or_eq.1 hj with h | h
      ·exact HAl.out j x' h hx'
      ·rw [h, HX.out] at hx'; injection hx' with hx'; rw [← hx', h]; exact HOk.out⟩
     case measure => simp [intOf]; omega
  ·obtain rfl : k = unit := by omega
   have HV := Hd (follows_yes (s := s) HAl.out hl)
   clear hlt
   go_wp2_with fail
   go_returns
   exact ⟨by rw [HV.out]; try rfl, rfl⟩
end Go.Proofs.YtakgiamhdpgoeaaGreat
