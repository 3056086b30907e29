/- Lemmas. -/
import Derived.Shelf.SlSortCmp.WholeK
import Derived.Shelf.SortG.Plain
import Derived.Shelf.SlicesG.In.CompactI
import Derived.Shelf.SlSortCmp.NoneTotal
import Derived.Shelf.SortG.SortNone
import Derived.Shelf.SlicesE.Kit
import Derived.Test.YtakgiamhdpgoeaaGreatP24
import Derived.Test.YtakgiamhdpgoeaaGreatP27
set_option linter.unusedSimpArgs false
namespace Go.Proofs.YtakgiamhdpgoeaaGreat
open Go.Shelf Go.RowKit Go.Lib Go.Sort
set_option linter.unusedVariables false
def sortFR_ren : Ren where
 f := fun x => match x with
  | 6 => 130
  | 15 => 151
  | 14 => 150
  | 28 => 169
  | 29 => 170
  | 20 => 161
  | 21 => 162
  | 22 => 163
  | 23 => 164
  | 24 => 165
  | 25 => 166
  | 26 => 167
  | 27 => 168
  | 46 => 182
  | 47 => 183
  | 48 => 184
  | 49 => 185
  | 50 => 186
  | 57 => 190
  | n => n
 t := fun x => match x with
  | 22 => 183
  | 24 => 82
  | 25 => 217
  | 3 => 3
  | 39 => 238
  | 0 => 0
  | 53 => 162
  | 55 => 257
  | 4 => 4
  | 46 => 250
  | 45 => 249
  | 50 => 203
  | 5 => 5
  | 9 => 9
  | 66 => 266
  | 70 => 270
  | 76 => 274
  | 77 => 275
  | n => n
 g := fun n => n
set_option maxRecDepth 100000 in
theorem sortFR : SlLaysF0.n6 Tryz.prog sortFR_ren where
 mixed := by kernel_rfl
 f6 := Exists.intro "slices.SortFunc[[]patchbay/api.FieldRef,patchbay/api.FieldRef]" ⟨of_decide_eq_true (id (Eq.refl true)), Tryz.func130.trans (congrArg some (by kernel_rfl))⟩
 f14 := Exists.intro "slices.pdqsortCmpFunc[patchbay/api.FieldRef]" ⟨of_decide_eq_true (id (Eq.refl true)), Tryz.func150.trans (congrArg some (by kernel_rfl))⟩
 f15 := Tryz.func151.trans (congrArg some (by kernel_rfl))
 f20 := Exists.intro "slices.insertionSortCmpFunc[patchbay/api.FieldRef]" ⟨of_decide_eq_true (id (Eq.refl true)), Tryz.func161.trans (congrArg some (by kernel_rfl))⟩
 f21 := Exists.intro "slices.heapSortCmpFunc[patchbay/api.FieldRef]" ⟨of_decide_eq_true (id (Eq.refl true)), Tryz.func162.trans (congrArg some (by kernel_rfl))⟩
 f22 := Exists.intro "slices.breakPatternsCmpFunc[patchbay/api.FieldRef]" ⟨of_decide_eq_true (id (Eq.refl true)), Tryz.func163.trans (congrArg some (by kernel_rfl))⟩
 f23 := Exists.intro "slices.choosePivotCmpFunc[patchbay/api.FieldRef]" ⟨of_decide_eq_true (id (Eq.refl true)), Tryz.func164.trans (congrArg some (by kernel_rfl))⟩
 f24 := Exists.intro "slices.reverseRangeCmpFunc[patchbay/api.FieldRef]" ⟨of_decide_eq_true (id (Eq.refl true)), Tryz.func165.trans (congrArg some (by kernel_rfl))⟩
 f25 := Exists.intro "slices.partialInsertionSortCmpFunc[patchbay/api.FieldRef]" ⟨of_decide_eq_true (id (Eq.refl true)), Tryz.func166.trans (congrArg some (by kernel_rfl))⟩
 f26 := Exists.intro "slices.partitionEqualCmpFunc[patchbay/api.FieldRef]" ⟨of_decide_eq_true (id (Eq.refl true)), Tryz.func167.trans (congrArg some (by kernel_rfl))⟩
 f27 := Exists.intro "slices.partitionCmpFunc[patchbay/api.FieldRef]" ⟨of_decide_eq_true (id (Eq.refl true)), Tryz.func168.trans (congrArg some (by kernel_rfl))⟩
 f28 := Tryz.func169.trans (congrArg some (by kernel_rfl))
 f29 := Tryz.func170.trans (congrArg some (by kernel_rfl))
 f46 := Exists.intro "slices.siftDownCmpFunc[patchbay/api.FieldRef]" ⟨of_decide_eq_true (id (Eq.refl true)), Tryz.func182.trans (congrArg some (by kernel_rfl))⟩
 f47 := Tryz.func183.trans (congrArg some (by kernel_rfl))
 f48 := Tryz.func184.trans (congrArg some (by kernel_rfl))
 f49 := Exists.intro "slices.medianAdjacentCmpFunc[patchbay/api.FieldRef]" ⟨of_decide_eq_true (id (Eq.refl true)), Tryz.func185.trans (congrArg some (by kernel_rfl))⟩
 f50 := Exists.intro "slices.medianCmpFunc[patchbay/api.FieldRef]" ⟨of_decide_eq_true (id (Eq.refl true)), Tryz.func186.trans (congrArg some (by kernel_rfl))⟩
 f57 := Exists.intro "slices.order2CmpFunc[patchbay/api.FieldRef]" ⟨of_decide_eq_true (id (Eq.refl true)), Tryz.func190.trans (congrArg some (by kernel_rfl))⟩
 t0 := Tryz.underlying0
 a0 := Tryz.isAgg0
 z0 := Tryz.sizeOf0
 v0 := Tryz.zeroValue0
 t3 := Tryz.underlying3
 a3 := Tryz.isAgg3
 z3 := Tryz.sizeOf3
 v3 := Tryz.zeroValue3
 t4 := Tryz.underlying4
 a4 := Tryz.isAgg4
 z4 := Tryz.sizeOf4
 v4 := Tryz.zeroValue4
 t5 := Tryz.underlying5
 a5 := Tryz.isAgg5
 z5 := Tryz.sizeOf5
 v5 := Tryz.zeroValue5
 t9 := Tryz.underlying9
 a9 := Tryz.isAgg9
 z9 := Tryz.sizeOf9
 v9 := Tryz.zeroValue9
 t22 := Tryz.underlying183
 a22 := Tryz.isAgg183
 z22 := Tryz.sizeOf183
 v22 := Tryz.zeroValue183
 t25 := Tryz.underlying217
 a25 := Tryz.isAgg217
 z25 := Tryz.sizeOf217
 v25 := Tryz.zeroValue217
 t39 := Tryz.underlying238
 a39 := Tryz.isAgg238
 z39 := Tryz.sizeOf238
 v39 := Tryz.zeroValue238
 t45 := Tryz.underlying249
 a45 := Tryz.isAgg249
 z45 := Tryz.sizeOf249
 v45 := Tryz.zeroValue249
 t46 := Tryz.underlying250
 a46 := Tryz.isAgg250
 z46 := Tryz.sizeOf250
 v46 := Tryz.zeroValue250
 t50 := Tryz.underlying203
 a50 := Tryz.isAgg203
 z50 := Tryz.sizeOf203
 v50 := Tryz.zeroValue203
 t53 := Tryz.underlying162
 a53 := Tryz.isAgg162
 z53 := Tryz.sizeOf162
 v53 := Tryz.zeroValue162
 t55 := Tryz.underlying257
 a55 := Tryz.isAgg257
 z55 := Tryz.sizeOf257
 v55 := Tryz.zeroValue257
 t66 := Tryz.underlying266
 a66 := Tryz.isAgg266
 z66 := Tryz.sizeOf266
 v66 := Tryz.zeroValue266
 t70 := Tryz.underlying270
 a70 := Tryz.isAgg270
 z70 := Tryz.sizeOf270
 v70 := Tryz.zeroValue270
 t76 := Tryz.underlying274
 a76 := Tryz.isAgg274
 z76 := Tryz.sizeOf274
 v76 := Tryz.zeroValue274
 t77 := Tryz.underlying275
 a77 := Tryz.isAgg275
 z77 := Tryz.sizeOf275
 v77 := Tryz.zeroValue275
def sortZ_ren : Ren where
 f := fun x => match x with
  | 53 => 135
  | 64 => 151
  | 63 => 153
  | 78 => 169
  | 79 => 170
  | 70 => 171
  | 71 => 172
  | 72 => 173
  | 73 => 174
  | 74 => 175
  | 75 => 176
  | 59 => 177
  | 76 => 178
  | 77 => 179
  | 88 => 187
  | 89 => 183
  | 90 => 184
  | 91 => 188
  | 92 => 189
  | 68 => 152
  | 96 => 191
  | n => n
 t := fun x => match x with
  | 22 => 29
  | 23 => 3
  | 3 => 3
  | 51 => 238
  | 0 => 0
  | 67 => 162
  | 69 => 257
  | 4 => 4
  | 61 => 250
  | 60 => 249
  | 44 => 203
  | 5 => 5
  | 9 => 9
  | 75 => 266
  | 79 => 270
  | 83 => 274
  | 84 => 275
  | n => n
 g := fun n => n
set_option maxRecDepth 100000 in
theorem sortZ : SlLaysN.n53 Tryz.prog sortZ_ren where
 mixed := by kernel_rfl
 f53 := Exists.intro "slices.Sort[[]int,int]" ⟨of_decide_eq_true (id (Eq.refl true)), Tryz.func135.trans (congrArg some (by kernel_rfl))⟩
 f59 := Exists.intro "cmp.Less[int]" ⟨of_decide_eq_true (id (Eq.refl true)), Tryz.func177.trans (congrArg some (by kernel_rfl))⟩
 f63 := Exists.intro "slices.pdqsortOrdered[int]" ⟨of_decide_eq_true (id (Eq.refl true)), Tryz.func153.trans (congrArg some (by kernel_rfl))⟩
 f64 := Tryz.func151.trans (congrArg some (by kernel_rfl))
 f68 := Exists.intro "cmp.isNaN[int]" ⟨of_decide_eq_true (id (Eq.refl true)), Tryz.func152.trans (congrArg some (by kernel_rfl))⟩
 f70 := Exists.intro "slices.insertionSortOrdered[int]" ⟨of_decide_eq_true (id (Eq.refl true)), Tryz.func171.trans (congrArg some (by kernel_rfl))⟩
 f71 := Exists.intro "slices.heapSortOrdered[int]" ⟨of_decide_eq_true (id (Eq.refl true)), Tryz.func172.trans (congrArg some (by kernel_rfl))⟩
 f72 := Exists.intro "slices.breakPatternsOrdered[int]" ⟨of_decide_eq_true (id (Eq.refl true)), Tryz.func173.trans (congrArg some (by kernel_rfl))⟩
 f73 := Exists.intro "slices.choosePivotOrdered[int]" ⟨of_decide_eq_true (id (Eq.refl true)), Tryz.func174.trans (congrArg some (by kernel_rfl))⟩
 f74 := Exists.intro "slices.reverseRangeOrdered[int]" ⟨of_decide_eq_true (id (Eq.refl true)), Tryz.func175.trans (congrArg some (by kernel_rfl))⟩
 f75 := Exists.intro "slices.partialInsertionSortOrdered[int]" ⟨of_decide_eq_true (id (Eq.refl true)), Tryz.func176.trans (congrArg some (by kernel_rfl))⟩
 f76 := Exists.intro "slices.partitionEqualOrdered[int]" ⟨of_decide_eq_true (id (Eq.refl true)), Tryz.func178.trans (congrArg some (by kernel_rfl))⟩
 f77 := Exists.intro "slices.partitionOrdered[int]" ⟨of_decide_eq_true (id (Eq.refl true)), Tryz.func179.trans (congrArg some (by kernel_rfl))⟩
 f78 := Tryz.func169.trans (congrArg some (by kernel_rfl))
 f79 := Tryz.func170.trans (congrArg some (by kernel_rfl))
 f88 := Exists.intro "slices.siftDownOrdered[int]" ⟨of_decide_eq_true (id (Eq.refl true)), Tryz.func187.trans (congrArg some (by kernel_rfl))⟩
 f89 := Tryz.func183.trans (congrArg some (by kernel_rfl))
 f90 := Tryz.func184.trans (congrArg some (by kernel_rfl))
 f91 := Exists.intro "slices.medianAdjacentOrdered[int]" ⟨of_decide_eq_true (id (Eq.refl true)), Tryz.func188.trans (congrArg some (by kernel_rfl))⟩
 f92 := Exists.intro "slices.medianOrdered[int]" ⟨of_decide_eq_true (id (Eq.refl true)), Tryz.func189.trans (congrArg some (by kernel_rfl))⟩
 f96 := Exists.intro "slices.order2Ordered[int]" ⟨of_decide_eq_true (id (Eq.refl true)), Tryz.func191.trans (congrArg some (by kernel_rfl))⟩
 t0 := Tryz.underlying0
 a0 := Tryz.isAgg0
 z0 := Tryz.sizeOf0
 v0 := Tryz.zeroValue0
 t3 := Tryz.underlying3
 a3 := Tryz.isAgg3
 z3 := Tryz.sizeOf3
 v3 := Tryz.zeroValue3
 t4 := Tryz.underlying4
 a4 := Tryz.isAgg4
 z4 := Tryz.sizeOf4
 v4 := Tryz.zeroValue4
 t5 := Tryz.underlying5
 a5 := Tryz.isAgg5
 z5 := Tryz.sizeOf5
 v5 := Tryz.zeroValue5
 t9 := Tryz.underlying9
 a9 := Tryz.isAgg9
 z9 := Tryz.sizeOf9
 v9 := Tryz.zeroValue9
 t22 := Tryz.underlying29
 a22 := Tryz.isAgg29
 z22 := Tryz.sizeOf29
 v22 := Tryz.zeroValue29
 t23 := Tryz.underlying3
 a23 := Tryz.isAgg3
 z23 := Tryz.sizeOf3
 v23 := Tryz.zeroValue3
 t44 := Tryz.underlying203
 a44 := Tryz.isAgg203
 z44 := Tryz.sizeOf203
 v44 := Tryz.zeroValue203
 t51 := Tryz.underlying238
 a51 := Tryz.isAgg238
 z51 := Tryz.sizeOf238
 v51 := Tryz.zeroValue238
 t60 := Tryz.underlying249
 a60 := Tryz.isAgg249
 z60 := Tryz.sizeOf249
 v60 := Tryz.zeroValue249
 t61 := Tryz.underlying250
 a61 := Tryz.isAgg250
 z61 := Tryz.sizeOf250
 v61 := Tryz.zeroValue250
 t67 := Tryz.underlying162
 a67 := Tryz.isAgg162
 z67 := Tryz.sizeOf162
 v67 := Tryz.zeroValue162
 t69 := Tryz.underlying257
 a69 := Tryz.isAgg257
 z69 := Tryz.sizeOf257
 v69 := Tryz.zeroValue257
 t75 := Tryz.underlying266
 a75 := Tryz.isAgg266
 z75 := Tryz.sizeOf266
 v75 := Tryz.zeroValue266
 t79 := Tryz.underlying270
 a79 := Tryz.isAgg270
 z79 := Tryz.sizeOf270
 v79 := Tryz.zeroValue270
 t83 := Tryz.underlying274
 a83 := Tryz.isAgg274
 z83 := Tryz.sizeOf274
 v83 := Tryz.zeroValue274
 t84 := Tryz.underlying275
 a84 := Tryz.isAgg275
 z84 := Tryz.sizeOf275
 v84 := Tryz.zeroValue275
def compZ_ren : Ren where
 f := fun x => match x with
  | 43 => 136
  | n => n
 t := fun x => match x with
  | 22 => 29
  | 23 => 3
  | 3 => 3
  | 4 => 4
  | 0 => 0
  | n => n
 g := fun n => n
set_option maxRecDepth 100000 in
theorem compZ : SlLaysN.n43 Tryz.prog compZ_ren where
 mixed := by kernel_rfl
 f43 := Exists.intro "slices.Compact[[]int,int]" ⟨of_decide_eq_true (id (Eq.refl true)), Tryz.func136.trans (congrArg some (by kernel_rfl))⟩
 t0 := Tryz.underlying0
 a0 := Tryz.isAgg0
 z0 := Tryz.sizeOf0
 v0 := Tryz.zeroValue0
 t3 := Tryz.underlying3
 a3 := Tryz.isAgg3
 z3 := Tryz.sizeOf3
 v3 := Tryz.zeroValue3
 t4 := Tryz.underlying4
 a4 := Tryz.isAgg4
 z4 := Tryz.sizeOf4
 v4 := Tryz.zeroValue4
 t22 := Tryz.underlying29
 a22 := Tryz.isAgg29
 z22 := Tryz.sizeOf29
 v22 := Tryz.zeroValue29
 t23 := Tryz.underlying3
 a23 := Tryz.isAgg3
 z23 := Tryz.sizeOf3
 v23 := Tryz.zeroValue3
 i23 := Eq.refl (some (some (Value.int IntKind.i64 0), 1, 8))
open Go.RowKit
theorem putCells_map {α : Type} [Inhabited α] (enc : α → Value) (off : Nat) (d : Array α) : Sort.putCells enc off d = Sort.putCells id off (d.map enc) := by
 funext c
 unfold Sort.putCells
 apply Array.ext
 ·simp
 ·intro k h1 h2
  simp only [Array.getElem_mapIdx, Array.size_map]
  by_cases h : off ≤ k ∧ k < off + d.size
  ·have hk : k - off < d.size := by omega
   rw [if_pos h, if_pos h]
   simp [hk]
  ·rw [if_neg h, if_neg h]
theorem putRow_map {α : Type} [Inhabited α] (enc : α → Value) (w : World) (blk off : Nat) (d : Array α) : Sort.putRow enc w blk off d = Sort.putRow id w blk off (d.map enc) := by
 unfold Sort.putRow
 rw [putCells_map]
section
variable {w : World} {base : Nat} {e : TypeId} {size g n c : Nat} {xs : List Value}
theorem zUc (h : Own w base e size (some ⟨g, 0, none⟩) n c xs) : xs.length = n * size ∧ base ≤ g ∧ n ≤ c ∧ c ≤ maxLen ∧ ∃ cur, w.heap[g]? = some (.cells cur e (0, 0)) ∧ cur.size = c * size ∧ cur.toList.take (n * size) = xs := by
 refine ⟨h.1, ?_⟩
 rcases h.2 with ⟨h1, _⟩ | ⟨g', cap, cur, hv, hb, hh, h1, h2, h3, h4⟩
 ·cases h1
 ·injection hv with hv1 _ hv3
  injection hv1 with hv1
  injection hv1 with hv1
  subst hv1 hv3
  exact ⟨hb, h1, h2, cur, hh, h3, h4⟩
theorem zkc (h : Own w base e size (some ⟨g, 0, none⟩) n c xs) : Sort.Holds id w g 0 xs.toArray := by
 obtain ⟨h1, h2, h3, h4, cur, hh, hs, ht⟩ := zUc h
 intro j hj
 have hj : j < xs.length := by simpa using hj
 have hb : Blk w g e cur := hh
 refine ⟨?_, by rw [Nat.zero_add]; exact hb.frozen j⟩
 rw [Nat.zero_add, hb.cell j]
 have h5 : cur.toList[j]? = some xs[j] := by
  have h6 : xs[j]? = some xs[j] := List.getElem?_eq_getElem hj
  conv at h6 => lhs; rw [← ht]
  rw [List.getElem?_take, if_pos (by omega)] at h6
  exact h6
 rw [← Array.getElem?_toList, h5]
 simp [hj]
theorem own_put (h : Own w base e size (some ⟨g, 0, none⟩) n c xs) (q : Nat) (os : Array Obj) (ys : List Value) (hy : ys.length = n * size) (m : Nat) (hm : m ≤ n) :
  Own (Sort.grow (Sort.putRow id (Sort.ahead w q) g 0 ys.toArray) os) base e size (some ⟨g, 0, none⟩) m c (ys.take (m * size)) ∧ w.grownBy (Sort.grow (Sort.putRow id (Sort.ahead w q) g 0 ys.toArray) os) (some g) := by
 obtain ⟨h1, h2, h3, h4, cur, hh, hs, ht⟩ := zUc h
 have hg : g < w.heap.size := (Array.getElem?_eq_some_iff.1 hh).1
 have hmn : m * size ≤ n * size := Nat.mul_le_mul_right _ hm
 have hnc : n * size ≤ c * size := Nat.mul_le_mul_right _ h3
 have key : (Sort.grow (Sort.putRow id (Sort.ahead w q) g 0 ys.toArray) os).heap[g]? = some (.cells (Sort.putCells id 0 ys.toArray cur) e (0, 0)) := by
  unfold Sort.grow Sort.putRow Sort.mapBlock Sort.ahead
  simp only
  rw [Array.getElem?_append_left (by simpa using hg), Array.getElem?_modify, if_pos rfl, hh]
  rfl
 refine ⟨⟨by rw [List.length_take, hy]; omega, .inr ⟨g, c, _, rfl, h2, key, by omega, h4, by simp [Sort.putCells, hs], ?_⟩⟩, rfl, rfl, rfl, ?_, ?_⟩
 ·apply List.ext_getElem?
  intro j
  rw [List.getElem?_take, List.getElem?_take]
  by_cases hj : j < m * size
  ·rw [if_pos hj, if_pos hj, Array.getElem?_toList]
   have hjc : j < cur.size := by omega
   have hjy : j < ys.length := by omega
   simp [Sort.putCells, hjc, hjy]
  ·rw [if_neg hj, if_neg hj]
 ·simp [Sort.grow, Sort.putRow, Sort.mapBlock, Sort.ahead]
 ·intro k hk hne
  unfold Sort.grow Sort.putRow Sort.mapBlock Sort.ahead
  simp only
  rw [Array.getElem?_append_left (by simpa using hk), Array.getElem?_modify, if_neg (fun e => hne (by rw [e]))]
end
theorem flat_int (l : List Int) : l.flatMap intE = l.map (Value.int .i64) := ztf l _
theorem holds_int {w : World} {g : Nat} {l : List Int} (h : Sort.Holds id w g 0 (l.flatMap intE).toArray) : Sort.Holds (Value.int .i64) w g 0 l.toArray := by
 rw [flat_int] at h
 intro j hj
 have hj : j < l.length := by simpa using hj
 have := h j (by simpa using hj)
 simpa [hj] using this
theorem zSe (b : Nat) (A : Option Addr) (c : Nat) (l : List Int) (w : World) (h : OwnZ w b A c l) (hl : l.length ≤ 1000000) :
  Calls Tryz.prog 135 #[.slice A l.length c] w fun e w' => e = .returned (.tuple #[]) ∧ (∃ l', l'.Perm l ∧ OwnZ w' b A c l') ∧ w.grownBy w' (ownB A) := by
 rcases A with _ | ⟨g, off, spot⟩
 ·have h0 : l = [] := by
   rcases h.2 with ⟨_, h2⟩ | ⟨g, cap, cur, hv, _⟩
   ·exact List.eq_nil_of_length_eq_zero h2
   ·cases hv
  subst h0
  have hcon := AnyG.slices_Sort_int_none sortZ none c w
  change Calls Tryz.prog 135 _ _ _ at hcon
  refine hcon.mono ?_
  rintro e w' ⟨rfl, rfl⟩
  exact ⟨rfl, ⟨[], List.Perm.refl _, h⟩, zpb _ _⟩
 ·obtain ⟨rfl, rfl⟩ : off = 0 ∧ spot = none := by
   rcases h.2 with ⟨h1, _⟩ | ⟨g', cap, cur, hv, _⟩
   ·cases h1
   ·injection hv with hv; injection hv with hv; injection hv with _ h2 h3; exact ⟨h2, h3⟩
  have hh := zkc h
  have hop := zUc h
  have hg : g < w.heap.size := by obtain ⟨_, _, _, _, cur, hc, _⟩ := hop; exact (Array.getElem?_eq_some_iff.1 hc).1
  have hcon := AnyG.slices_Sort_int sortZ g 0 c l w (holds_int hh) hg (by omega)
  change Calls Tryz.prog 135 _ _ _ at hcon
  refine hcon.mono ?_
  rintro e w' ⟨rfl, n, os, rfl⟩
  have hperm : (l.mergeSort fun x y => decide (x ≤ y)).Perm l := List.mergeSort_perm _ _
  have := own_put h n os ((l.mergeSort fun x y => decide (x ≤ y)).flatMap intE) (by rw [zyb zna, hperm.length_eq]) l.length (Nat.le_refl _)
  rw [putRow_map, List.map_toArray, ← flat_int]
  refine ⟨rfl, ⟨_, hperm, ?_⟩, this.2⟩
  have h9 := this.1
  rw [List.take_of_length_le (by rw [zyb zna, hperm.length_eq]; exact Nat.le_refl _)] at h9
  unfold OwnZ
  rw [hperm.length_eq]
  exact h9
theorem mem_compact {α : Type} [Inhabited α] [DecidableEq α] (d : Array α) : ∀ (m : Nat), m ≤ d.size → ∀ x, x ∈ Lib.compactUpTo d m ↔ ∃ j, j < m ∧ d[j]! = x := by
 intro m
 induction m with
 | zero => intro _ x; simp [Lib.compactUpTo]
 | succ m ih =>
  intro hm x
  rw [Lib.compactUpTo_succ, List.mem_append, ih (by omega)]
  constructor
  ·rintro (⟨j, hj, rfl⟩ | h)
   ·exact ⟨j, by omega, rfl⟩
   ·split at h
    ·obtain rfl : x = d[m]! := by simpa using h
     exact ⟨m, by omega, rfl⟩
    ·cases h
  ·rintro ⟨j, hj, rfl⟩
   by_cases hjm : j = m
   ·subst hjm
    by_cases hk : Lib.keeps d j = true
    ·right; rw [if_pos hk]; simp
    ·left
     unfold Lib.keeps at hk
     have hk2 : ¬ (j = 0 ∨ d[j]! ≠ d[j - 1]!) := fun h => hk (decide_eq_true h)
     exact ⟨j - 1, by omega, (Classical.not_not.1 (fun h => hk2 (.inr h))).symm⟩
   ·exact .inl ⟨j, by omega, rfl⟩
theorem compact_len {α : Type} [Inhabited α] [DecidableEq α] (d : Array α) (m : Nat) : (Lib.compactUpTo d m).length ≤ m := by
 unfold Lib.compactUpTo
 rw [List.length_map]
 have := List.length_filter_le (Lib.keeps d) (List.range m)
 simpa using this
theorem same_compact {α : Type} [Inhabited α] [DecidableEq α] (l : List α) : zga (Lib.compactUpTo l.toArray l.length) l := fun x => by
 rw [mem_compact _ _ (by simp)]
 constructor
 ·rintro ⟨j, hj, rfl⟩
  have : l.toArray[j]! = l[j] := by simp [hj]
  rw [this]
  exact List.getElem_mem hj
 ·intro hx
  obtain ⟨j, hj, rfl⟩ := List.mem_iff_getElem.1 hx
  exact ⟨j, hj, by simp [hj]⟩
theorem zPe (b : Nat) (A : Option Addr) (c : Nat) (l : List Int) (w : World) (h : OwnZ w b A c l) (hl : l.length ≤ 1000000) :
  Calls Tryz.prog 136 #[.slice A l.length c] w fun e w' => (∃ l', zga l' l ∧ l'.length ≤ l.length ∧ e = .returned (.slice A l'.length c) ∧ OwnZ w' b A c l') ∧ w.grownBy w' (ownB A) := by
 rcases A with _ | ⟨g, off, spot⟩
 ·have h0 : l = [] := by
   rcases h.2 with ⟨_, h2⟩ | ⟨g, cap, cur, hv, _⟩
   ·exact List.eq_nil_of_length_eq_zero h2
   ·cases hv
  subst h0
  have hcon := AnyG.slices_Compact_int_empty compZ none c w
  change Calls Tryz.prog 136 _ _ _ at hcon
  refine hcon.mono ?_
  rintro e w' ⟨rfl, rfl⟩
  exact ⟨⟨[], zga.refl _, Nat.le_refl _, rfl, h⟩, zpb _ _⟩
 ·obtain ⟨rfl, rfl⟩ : off = 0 ∧ spot = none := by
   rcases h.2 with ⟨h1, _⟩ | ⟨g', cap, cur, hv, _⟩
   ·cases h1
   ·injection hv with hv; injection hv with hv; injection hv with _ h2 h3; exact ⟨h2, h3⟩
  have hh := zkc h
  obtain ⟨_, _, hcap, hmax, _⟩ := zUc h
  have hcon := AnyG.slices_Compact_int compZ g 0 c l w (holds_int hh) (by omega) hcap
  change Calls Tryz.prog 136 _ _ _ at hcon
  refine hcon.mono ?_
  rintro e w' ⟨rfl, n, rfl⟩
  have hle := compact_len l.toArray l.length
  have hsm := same_compact l
  change (Lib.compact l).length ≤ l.length at hle
  change zga (Lib.compact l) l at hsm
  rw [putRow_map, List.map_toArray, ← flat_int]
  clear hcon hh
  generalize Lib.compact l = z at hle hsm
  have hfl : ((z ++ List.replicate (l.length - z.length) 0).flatMap intE).length = l.length * 1 := by
   rw [zyb zna, List.length_append, List.length_replicate]
   omega
  have := own_put h n #[] _ hfl z.length hle
  rw [Sort.grow_empty] at this
  have h9 := this.1
  rw [List.flatMap_append, List.take_left' (by rw [zyb zna])] at h9
  refine ⟨⟨z, hsm, hle, rfl, ?_⟩, ?_⟩
  ·unfold OwnZ
   rw [List.flatMap_append]
   exact h9
  ·rw [List.flatMap_append] at this ⊢
   exact this.2
open Go.RowKit
def cmpZ (x y : Int) : Int := if x < y then -1 else if y < x then 1 else 0
def cmpF (x y : Int × Int) : Int := if cmpZ x.1 y.1 ≠ 0 then cmpZ x.1 y.1 else cmpZ x.2 y.2
theorem cmpZ_any (x y : Int) (w : World) : Calls Tryz.prog 133 #[.int .i64 x, .int .i64 y] w fun e w' => e = .returned (.int .i64 (cmpZ x y)) ∧ w' = w := by
 have h1 : (x != x) = false := by simp
 have h2 : (y != y) = false := by simp
 by_cases c1 : x < y
 ·have HV := Hd (show cmpZ x y = -1 by unfold cmpZ; rw [if_pos c1])
  go_enter Tryz.func133, Tryz.ntmps133
  go_wp2
  go_returns
  exact ⟨by rw [HV.out]; try rfl, rfl⟩
 ·have c1' : decide (x < y) = false := decide_eq_false c1
  by_cases c2 : y < x
  ·have HV := Hd (show cmpZ x y = 1 by unfold cmpZ; rw [if_neg c1, if_pos c2])
   go_enter Tryz.func133, Tryz.ntmps133
   go_wp2
   go_returns
   exact ⟨by rw [HV.out]; try rfl, rfl⟩
  ·have c2' : decide (y < x) = false := decide_eq_false c2
   have HV := Hd (show cmpZ x y = 0 by unfold cmpZ; rw [if_neg c1, if_neg c2])
   go_enter Tryz.func133, Tryz.ntmps133
   go_wp2
   go_returns
   exact ⟨by rw [HV.out]; try rfl, rfl⟩
theorem orZ_any (a b : Int) (g : Nat) (w : World) (hg : Blk w g 3 #[.int .i64 a, .int .i64 b]) : Calls Tryz.prog 132 #[.slice (some ⟨g, 0, none⟩) 2 2] w fun e w' => e = .returned (.int .i64 (if a ≠ 0 then a else b)) ∧ w = w' := by
 have g0 : w.cell? ⟨g, 0, none⟩ = some (.int .i64 a) := hg.cell 0
 have g1 : w.cell? ⟨g, 1, none⟩ = some (.int .i64 b) := hg.cell 1
 clear hg
 obtain ⟨z, hz⟩ : ∃ z, (if a ≠ 0 then a else b) = z := ⟨_, rfl⟩
 have HZ := Hd hz
 rw [hz]
 clear hz
 go_enter Tryz.func132, Tryz.ntmps132
 go_wp2_with fail
 go_loop [8] (fun i => ∃ k : Nat, k ≤ 2 ∧ i = .int .i64 k ∧ (0 < k → a = 0) ∧ (1 < k → b = 0)) (fun i => 2 - (intOf i).toNat)
 case atStart => exact ⟨0, by omega, rfl, fun h => absurd h (by omega), fun h => absurd h (by omega)⟩
 case round =>
  obtain ⟨k, hk, rfl, h0, h1⟩ := hrel
  have H0 := Hd h0
  have H1 := Hd h1
  clear h0 h1
  rcases (show k = 0 ∨ k = 1 ∨ k = 2 by omega) with rfl | rfl | rfl
  ·by_cases ca : a = 0
   ·have HA := Hd ca
    have ca' : (a != 0) = false := by simp [ca]
    clear ca
    go_wp2_with fail
    go_round
    case rel => exact ⟨1, by omega, rfl, fun _ => HA.out, fun h => absurd h (by omega)⟩
    case measure => simp [intOf]
   ·have ca' : (a != 0) = true := by simp [ca]
    have HV := Hd (show z = a by rw [← HZ.out, if_pos ca])
    clear ca
    go_wp2_with fail
    go_returns
    exact ⟨by rw [HV.out]; try rfl, rfl⟩
  ·by_cases cb : b = 0
   ·have HB := Hd cb
    have HA := Hd (H0.out (by omega))
    have cb' : (b != 0) = false := by simp [cb]
    clear cb
    go_wp2_with fail
    go_round
    case rel => exact ⟨2, by omega, rfl, fun _ => HA.out, fun _ => HB.out⟩
    case measure => simp [intOf]
   ·have cb' : (b != 0) = true := by simp [cb]
    have HV := Hd (show z = b by rw [← HZ.out, if_neg (by simp [H0.out (by omega)])])
    clear cb
    go_wp2_with fail
    go_returns
    exact ⟨by rw [HV.out]; try rfl, rfl⟩
  ·have HV := Hd (show z = 0 by rw [← HZ.out, if_neg (by simp [H0.out (by omega)])]; exact H1.out (by omega))
   go_wp2_with fail
   go_returns
   exact ⟨by rw [HV.out]; try rfl, rfl⟩
def Grew (w u : World) : Prop := ∃ q os, u = Sort.grow (w.drewN q) os
theorem Grew.below {w u : World} (h : Grew w u) : Below w.heap.size w u := by
 obtain ⟨q, os, rfl⟩ := h
 refine ⟨rfl, rfl, rfl, by simp [Sort.grow], fun k hk => ?_⟩
 show (w.heap ++ os)[k]? = _
 rw [Array.getElem?_append_left hk]
theorem Grew.refl (w : World) : Grew w w := ⟨0, #[], by simp [Sort.grow, World.drewN]⟩
theorem Grew.drew {w u : World} (h : Grew w u) : Grew w u.drew := by
 obtain ⟨q, os, rfl⟩ := h
 exact ⟨q + 1, os, rfl⟩
theorem Grew.alloc {w u : World} (h : Grew w u) (o : Obj) : Grew w (u.alloc o) := by
 obtain ⟨q, os, rfl⟩ := h
 exact ⟨q, os ++ #[o], by rw [Sort.alloc_eq_grow, Sort.grow_grow]⟩
theorem Grew.trans {w u v : World} (h : Grew w u) (h2 : Grew u v) : Grew w v := by
 obtain ⟨q, os, rfl⟩ := h
 obtain ⟨q2, os2, rfl⟩ := h2
 exact ⟨q + q2, os ++ os2, by simp [Sort.grow, World.drewN, Nat.add_assoc]⟩
set_option maxRecDepth 100000 in
set_option maxHeartbeats 2000000 in
theorem sortedC_any (x y : Int × Int) (w : World) : Calls Tryz.prog 154 #[.agg #[.int .i64 x.1, .int .i64 x.2], .agg #[.int .i64 y.1, .int .i64 y.2]] w fun e w' => e = .returned (.int .i64 (cmpF x y)) ∧ Grew w w' := by
 obtain ⟨x1, x2⟩ := x
 obtain ⟨y1, y2⟩ := y
 obtain ⟨N, hN⟩ : ∃ N, w.heap.size = N := ⟨_, rfl⟩
 have F0 := Fr.start w
 rw [hN] at F0
 have HF0 := Hd F0
 have HG0 := Hd (Grew.refl w)
 obtain ⟨a, ha⟩ : ∃ z, cmpZ x1 y1 = z := ⟨_, rfl⟩
 obtain ⟨b, hb⟩ : ∃ z, cmpZ x2 y2 = z := ⟨_, rfl⟩
 have HA := Hd ha
 have HB := Hd hb
 have HV := Hd (show cmpF (x1, x2) (y1, y2) = if a ≠ 0 then a else b by unfold cmpF; simp only [ha, hb])
 rw [HV.out]
 obtain ⟨z, hz⟩ : ∃ z, (if a ≠ 0 then a else b) = z := ⟨_, rfl⟩
 have HZ := Hd hz
 rw [hz]
 clear F0 ha hb hz
 dsimp only
 go_enter Tryz.func154, Tryz.ntmps154
 go_wp2_with fail
 refine zfa ?_
 intro W hW
 have F1 := ((HF0.out.alloc _ _).alloc _ _).of_eq hW
 have G1 : Grew w W := by rw [hW]; exact ((HG0.out.alloc _).alloc _)
 simp only [World.size_alloc, hN] at F1 ⊢
 have HF1 := Hd F1
 have HG1 := Hd G1
 clear F1 G1 hW
 obtain ⟨g0, l0, f0⟩ := HF1.out.at_mem (.head _)
 obtain ⟨g1, l1, f1⟩ := HF1.out.at_mem (.tail _ (.head _))
 dsimp only at g0 l0 f0 g1 l1 f1
 have hstab : zba ([leq (.pointer (some ⟨N, 0, none⟩)), leq (.int .i64 x1), leq (.pointer (some ⟨N + 1, 0, none⟩)), leq (.int .i64 y1), leq (.int .i64 a), leq (.pointer (some ⟨N, 1, none⟩)), leq (.int .i64 x2), leq (.pointer (some ⟨N + 1, 1, none⟩)), leq (.int .i64 y2), leq (.int .i64 b), lat 0 (pLit N 3 2 #[.int .i64 a, .int .i64 b]), leq (.int .i64 z), leq (.int .i64 z)]) := zba.cons_ (zea _) (zba.cons_ (zea _) (zba.cons_ (zea _) (zba.cons_ (zea _) (zba.cons_ (zea _) (zba.cons_ (zea _) (zba.cons_ (zea _) (zba.cons_ (zea _) (zba.cons_ (zea _) (zba.cons_ (zea _) (zba.cons_ (zic zYd) (zba.cons_ (zea _) (zba.cons_ (zea _) (zba.nil_)))))))))))))
 have Hq9 := Hd (show ∀ i j, List.contains (Chain.effs ⟨[], [(0, 0), (0, 0), (0, 0), (0, 0), (0, 0), (0, 0), (0, 0), (0, 0), (0, 0), (0, 0), (0, 0), (0, 0), (0, 0)]⟩) i = false → Chain.next ⟨[], [(0, 0), (0, 0), (0, 0), (0, 0), (0, 0), (0, 0), (0, 0), (0, 0), (0, 0), (0, 0), (0, 0), (0, 0), (0, 0)]⟩ i j = j from fun i j h => zya h)
 refine zja ⟨[], [(0, 0), (0, 0), (0, 0), (0, 0), (0, 0), (0, 0), (0, 0), (0, 0), (0, 0), (0, 0), (0, 0), (0, 0), (0, 0)]⟩ (fun _ u => Grew W u) ([leq (.pointer (some ⟨N, 0, none⟩)), leq (.int .i64 x1), leq (.pointer (some ⟨N + 1, 0, none⟩)), leq (.int .i64 y1), leq (.int .i64 a), leq (.pointer (some ⟨N, 1, none⟩)), leq (.int .i64 x2), leq (.pointer (some ⟨N + 1, 1, none⟩)), leq (.int .i64 y2), leq (.int .i64 b), lat 0 (pLit N 3 2 #[.int .i64 a, .int .i64 b]), leq (.int .i64 z), leq (.int .i64 z)]) (by kernel_rfl) (by kernel_rfl) (by kernel_rfl) (by kernel_rfl) ?_ ?_ ?_
 ·exact (Grew.refl _).drew
 ·show zQb _ _ _ _ _ _ 0 _
  refine ⟨?_, ?_, ?_, ?_, ?_, ?_, ?_, ?_, ?_, ?_, ?_, ?_, ?_, trivial⟩
  ·intro j hj ρ y u hS hc hf hg hfree hdep
   obtain rfl := jz hj rfl
   rw [Hq9.out _ 0 rfl]
   have e2 : ρ (.tmp 2) = .pointer (some ⟨N, 0, none⟩) := hfree 2 rfl
   refine ⟨fun _ => ?_, zaa rfl⟩
   clear hdep hfree hj
   go_simp
   exact ⟨rfl, hS, KL hstab⟩
  ·intro j hj ρ y u hS hc hf hg hfree hdep
   obtain rfl := jz hj rfl
   rw [Hq9.out _ 0 rfl]
   have e5 : ρ (.tmp 5) = _ := (hdep 0 _ 5 rfl rfl rfl).1
   refine ⟨fun _ => ?_, zaa rfl⟩
   clear hdep hfree hj
   have c0 : u.cell? ⟨N, 0, none⟩ = some (.int .i64 x1) := (hS.below.cell (p := ⟨N, 0, none⟩) l1).trans (g1 0)
   go_simp
   exact ⟨rfl, hS, KL hstab⟩
  ·intro j hj ρ y u hS hc hf hg hfree hdep
   obtain rfl := jz hj rfl
   rw [Hq9.out _ 0 rfl]
   have e3 : ρ (.tmp 3) = .pointer (some ⟨N + 1, 0, none⟩) := hfree 3 rfl
   refine ⟨fun _ => ?_, zaa rfl⟩
   clear hdep hfree hj
   go_simp
   exact ⟨rfl, hS, KL hstab⟩
  ·intro j hj ρ y u hS hc hf hg hfree hdep
   obtain rfl := jz hj rfl
   rw [Hq9.out _ 0 rfl]
   have e7 : ρ (.tmp 7) = _ := (hdep 2 _ 7 rfl rfl rfl).1
   refine ⟨fun _ => ?_, zaa rfl⟩
   clear hdep hfree hj
   have c0 : u.cell? ⟨N + 1, 0, none⟩ = some (.int .i64 y1) := (hS.below.cell (p := ⟨N + 1, 0, none⟩) l0).trans (g0 0)
   go_simp
   exact ⟨rfl, hS, KL hstab⟩
  ·intro j hj ρ y u hS hc hf hg hfree hdep
   obtain rfl := jz hj rfl
   rw [Hq9.out _ 0 rfl]
   have e6 : ρ (.tmp 6) = _ := (hdep 1 _ 6 rfl rfl rfl).1
   have e8 : ρ (.tmp 8) = _ := (hdep 3 _ 8 rfl rfl rfl).1
   refine ⟨fun _ => ?_, zaa rfl⟩
   clear hdep hfree hj
   go_simp
   refine zha (cmpZ_any x1 y1 u) ?_
   rintro e w' ⟨rfl, rfl⟩
   exact ⟨_, rfl, by rw [HA.out]; rfl, hS, KL hstab⟩
  ·intro j hj ρ y u hS hc hf hg hfree hdep
   obtain rfl := jz hj rfl
   rw [Hq9.out _ 0 rfl]
   have e2 : ρ (.tmp 2) = .pointer (some ⟨N, 0, none⟩) := hfree 2 rfl
   refine ⟨fun _ => ?_, zaa rfl⟩
   clear hdep hfree hj
   go_simp
   exact ⟨rfl, hS, KL hstab⟩
  ·intro j hj ρ y u hS hc hf hg hfree hdep
   obtain rfl := jz hj rfl
   rw [Hq9.out _ 0 rfl]
   have e10 : ρ (.tmp 10) = _ := (hdep 5 _ 10 rfl rfl rfl).1
   refine ⟨fun _ => ?_, zaa rfl⟩
   clear hdep hfree hj
   have c0 : u.cell? ⟨N, 1, none⟩ = some (.int .i64 x2) := (hS.below.cell (p := ⟨N, 1, none⟩) l1).trans (g1 1)
   go_simp
   exact ⟨rfl, hS, KL hstab⟩
  ·intro j hj ρ y u hS hc hf hg hfree hdep
   obtain rfl := jz hj rfl
   rw [Hq9.out _ 0 rfl]
   have e3 : ρ (.tmp 3) = .pointer (some ⟨N + 1, 0, none⟩) := hfree 3 rfl
   refine ⟨fun _ => ?_, zaa rfl⟩
   clear hdep hfree hj
   go_simp
   exact ⟨rfl, hS, KL hstab⟩
  ·intro j hj ρ y u hS hc hf hg hfree hdep
   obtain rfl := jz hj rfl
   rw [Hq9.out _ 0 rfl]
   have e12 : ρ (.tmp 12) = _ := (hdep 7 _ 12 rfl rfl rfl).1
   refine ⟨fun _ => ?_, zaa rfl⟩
   clear hdep hfree hj
   have c0 : u.cell? ⟨N + 1, 1, none⟩ = some (.int .i64 y2) := (hS.below.cell (p := ⟨N + 1, 1, none⟩) l0).trans (g0 1)
   go_simp
   exact ⟨rfl, hS, KL hstab⟩
  ·intro j hj ρ y u hS hc hf hg hfree hdep
   obtain rfl := jz hj rfl
   rw [Hq9.out _ 0 rfl]
   have e11 : ρ (.tmp 11) = _ := (hdep 6 _ 11 rfl rfl rfl).1
   have e13 : ρ (.tmp 13) = _ := (hdep 8 _ 13 rfl rfl rfl).1
   refine ⟨fun _ => ?_, zaa rfl⟩
   clear hdep hfree hj
   go_simp
   refine zha (cmpZ_any x2 y2 u) ?_
   rintro e w' ⟨rfl, rfl⟩
   exact ⟨_, rfl, by rw [HB.out]; rfl, hS, KL hstab⟩
  ·intro j hj ρ y u hS hc hf hg hfree hdep
   obtain rfl := jz hj rfl
   rw [Hq9.out _ 0 rfl]
   have e9 : ρ (.tmp 9) = _ := (hdep 4 _ 9 rfl rfl rfl).1
   have e14 : ρ (.tmp 14) = _ := (hdep 9 _ 14 rfl rfl rfl).1
   refine ⟨fun _ => ?_, zaa rfl⟩
   clear hdep hfree hj
   go_simp
   exact ⟨(fun _ => ⟨u.heap.size, rfl, by have := hS.below.size; omega, Blk.new _ _ _⟩), hS.alloc _, KeepL.below ((Below.refl _ _).alloc (Nat.le_refl _) _) _ _ 0 hstab⟩
  ·intro j hj ρ y u hS hc hf hg hfree hdep
   obtain rfl := jz hj rfl
   rw [Hq9.out _ 0 rfl]
   have r15 := (hdep 10 _ 15 rfl rfl rfl).1
   refine ⟨fun _ => ?_, zaa rfl⟩
   clear hdep hfree hj
   obtain ⟨g, e15, _, hB15⟩ := r15 rfl
   go_simp
   refine zha (orZ_any a b g u hB15) ?_
   rintro e w' ⟨rfl, rfl⟩
   exact ⟨_, rfl, by rw [HZ.out]; rfl, hS, KL hstab⟩
  ·intro j hj ρ y u hS hc hf hg hfree hdep
   obtain rfl := jz hj rfl
   rw [Hq9.out _ 0 rfl]
   have e16 : ρ (.tmp 16) = _ := (hdep 11 _ 16 rfl rfl rfl).1
   refine ⟨fun _ => ?_, zaa rfl⟩
   clear hdep hfree hj
   go_simp
   exact ⟨rfl, hS, KL hstab⟩
 intro u hS
 rintro _ rfl _ rfl _ rfl _ rfl _ rfl _ rfl _ rfl _ rfl _ rfl _ rfl _ r_15 _ rfl _ rfl
 simp only [zxb, Act.put, List.setIfInBounds_toArray, List.set_cons_zero, List.set_cons_succ]
 go_wp2_with fail
 go_returns
 exact ⟨rfl, HG1.out.trans hS⟩
set_option maxRecDepth 100000 in
set_option maxHeartbeats 2000000 in
theorem fieldsC_any (x y : Int × Int) (w : World) : Calls Tryz.prog 131 #[.agg #[.int .i64 x.1, .int .i64 x.2], .agg #[.int .i64 y.1, .int .i64 y.2]] w fun e w' => e = .returned (.int .i64 (cmpF x y)) ∧ Grew w w' := by
 obtain ⟨x1, x2⟩ := x
 obtain ⟨y1, y2⟩ := y
 obtain ⟨N, hN⟩ : ∃ N, w.heap.size = N := ⟨_, rfl⟩
 have F0 := Fr.start w
 rw [hN] at F0
 have HF0 := Hd F0
 have HG0 := Hd (Grew.refl w)
 obtain ⟨a, ha⟩ : ∃ z, cmpZ x1 y1 = z := ⟨_, rfl⟩
 obtain ⟨b, hb⟩ : ∃ z, cmpZ x2 y2 = z := ⟨_, rfl⟩
 have HA := Hd ha
 have HB := Hd hb
 have HV := Hd (show cmpF (x1, x2) (y1, y2) = if a ≠ 0 then a else b by unfold cmpF; simp only [ha, hb])
 rw [HV.out]
 obtain ⟨z, hz⟩ : ∃ z, (if a ≠ 0 then a else b) = z := ⟨_, rfl⟩
 have HZ := Hd hz
 rw [hz]
 clear F0 ha hb hz
 dsimp only
 go_enter Tryz.func131, Tryz.ntmps131
 go_wp2_with fail
 refine zfa ?_
 intro W hW
 have F1 := ((HF0.out.alloc _ _).alloc _ _).of_eq hW
 have G1 : Grew w W := by rw [hW]; exact ((HG0.out.alloc _).alloc _)
 simp only [World.size_alloc, hN] at F1 ⊢
 have HF1 := Hd F1
 have HG1 := Hd G1
 clear F1 G1 hW
 obtain ⟨g0, l0, f0⟩ := HF1.out.at_mem (.head _)
 obtain ⟨g1, l1, f1⟩ := HF1.out.at_mem (.tail _ (.head _))
 dsimp only at g0 l0 f0 g1 l1 f1
 have hstab : zba ([leq (.pointer (some ⟨N, 0, none⟩)), leq (.int .i64 x1), leq (.pointer (some ⟨N + 1, 0, none⟩)), leq (.int .i64 y1), leq (.int .i64 a), leq (.pointer (some ⟨N, 1, none⟩)), leq (.int .i64 x2), leq (.pointer (some ⟨N + 1, 1, none⟩)), leq (.int .i64 y2), leq (.int .i64 b), lat 0 (pLit N 3 2 #[.int .i64 a, .int .i64 b]), leq (.int .i64 z), leq (.int .i64 z)]) := zba.cons_ (zea _) (zba.cons_ (zea _) (zba.cons_ (zea _) (zba.cons_ (zea _) (zba.cons_ (zea _) (zba.cons_ (zea _) (zba.cons_ (zea _) (zba.cons_ (zea _) (zba.cons_ (zea _) (zba.cons_ (zea _) (zba.cons_ (zic zYd) (zba.cons_ (zea _) (zba.cons_ (zea _) (zba.nil_)))))))))))))
 have Hq9 := Hd (show ∀ i j, List.contains (Chain.effs ⟨[], [(0, 0), (0, 0), (0, 0), (0, 0), (0, 0), (0, 0), (0, 0), (0, 0), (0, 0), (0, 0), (0, 0), (0, 0), (0, 0)]⟩) i = false → Chain.next ⟨[], [(0, 0), (0, 0), (0, 0), (0, 0), (0, 0), (0, 0), (0, 0), (0, 0), (0, 0), (0, 0), (0, 0), (0, 0), (0, 0)]⟩ i j = j from fun i j h => zya h)
 refine zja ⟨[], [(0, 0), (0, 0), (0, 0), (0, 0), (0, 0), (0, 0), (0, 0), (0, 0), (0, 0), (0, 0), (0, 0), (0, 0), (0, 0)]⟩ (fun _ u => Grew W u) ([leq (.pointer (some ⟨N, 0, none⟩)), leq (.int .i64 x1), leq (.pointer (some ⟨N + 1, 0, none⟩)), leq (.int .i64 y1), leq (.int .i64 a), leq (.pointer (some ⟨N, 1, none⟩)), leq (.int .i64 x2), leq (.pointer (some ⟨N + 1, 1, none⟩)), leq (.int .i64 y2), leq (.int .i64 b), lat 0 (pLit N 3 2 #[.int .i64 a, .int .i64 b]), leq (.int .i64 z), leq (.int .i64 z)]) (by kernel_rfl) (by kernel_rfl) (by kernel_rfl) (by kernel_rfl) ?_ ?_ ?_
 ·exact (Grew.refl _).drew
 ·show zQb _ _ _ _ _ _ 0 _
  refine ⟨?_, ?_, ?_, ?_, ?_, ?_, ?_, ?_, ?_, ?_, ?_, ?_, ?_, trivial⟩
  ·intro j hj ρ y u hS hc hf hg hfree hdep
   obtain rfl := jz hj rfl
   rw [Hq9.out _ 0 rfl]
   have e2 : ρ (.tmp 2) = .pointer (some ⟨N, 0, none⟩) := hfree 2 rfl
   refine ⟨fun _ => ?_, zaa rfl⟩
   clear hdep hfree hj
   go_simp
   exact ⟨rfl, hS, KL hstab⟩
  ·intro j hj ρ y u hS hc hf hg hfree hdep
   obtain rfl := jz hj rfl
   rw [Hq9.out _ 0 rfl]
   have e5 : ρ (.tmp 5) = _ := (hdep 0 _ 5 rfl rfl rfl).1
   refine ⟨fun _ => ?_, zaa rfl⟩
   clear hdep hfree hj
   have c0 : u.cell? ⟨N, 0, none⟩ = some (.int .i64 x1) := (hS.below.cell (p := ⟨N, 0, none⟩) l1).trans (g1 0)
   go_simp
   exact ⟨rfl, hS, KL hstab⟩
  ·intro j hj ρ y u hS hc hf hg hfree hdep
   obtain rfl := jz hj rfl
   rw [Hq9.out _ 0 rfl]
   have e3 : ρ (.tmp 3) = .pointer (some ⟨N + 1, 0, none⟩) := hfree 3 rfl
   refine ⟨fun _ => ?_, zaa rfl⟩
   clear hdep hfree hj
   go_simp
   exact ⟨rfl, hS, KL hstab⟩
  ·intro j hj ρ y u hS hc hf hg hfree hdep
   obtain rfl := jz hj rfl
   rw [Hq9.out _ 0 rfl]
   have e7 : ρ (.tmp 7) = _ := (hdep 2 _ 7 rfl rfl rfl).1
   refine ⟨fun _ => ?_, zaa rfl⟩
   clear hdep hfree hj
   have c0 : u.cell? ⟨N + 1, 0, none⟩ = some (.int .i64 y1) := (hS.below.cell (p := ⟨N + 1, 0, none⟩) l0).trans (g0 0)
   go_simp
   exact ⟨rfl, hS, KL hstab⟩
  ·intro j hj ρ y u hS hc hf hg hfree hdep
   obtain rfl := jz hj rfl
   rw [Hq9.out _ 0 rfl]
   have e6 : ρ (.tmp 6) = _ := (hdep 1 _ 6 rfl rfl rfl).1
   have e8 : ρ (.tmp 8) = _ := (hdep 3 _ 8 rfl rfl rfl).1
   refine ⟨fun _ => ?_, zaa rfl⟩
   clear hdep hfree hj
   go_simp
   refine zha (cmpZ_any x1 y1 u) ?_
   rintro e w' ⟨rfl, rfl⟩
   exact ⟨_, rfl, by rw [HA.out]; rfl, hS, KL hstab⟩
  ·intro j hj ρ y u hS hc hf hg hfree hdep
   obtain rfl := jz hj rfl
   rw [Hq9.out _ 0 rfl]
   have e2 : ρ (.tmp 2) = .pointer (some ⟨N, 0, none⟩) := hfree 2 rfl
   refine ⟨fun _ => ?_, zaa rfl⟩
   clear hdep hfree hj
   go_simp
   exact ⟨rfl, hS, KL hstab⟩
  ·intro j hj ρ y u hS hc hf hg hfree hdep
   obtain rfl := jz hj rfl
   rw [Hq9.out _ 0 rfl]
   have e10 : ρ (.tmp 10) = _ := (hdep 5 _ 10 rfl rfl rfl).1
   refine ⟨fun _ => ?_, zaa rfl⟩
   clear hdep hfree hj
   have c0 : u.cell? ⟨N, 1, none⟩ = some (.int .i64 x2) := (hS.below.cell (p := ⟨N, 1, none⟩) l1).trans (g1 1)
   go_simp
   exact ⟨rfl, hS, KL hstab⟩
  ·intro j hj ρ y u hS hc hf hg hfree hdep
   obtain rfl := jz hj rfl
   rw [Hq9.out _ 0 rfl]
   have e3 : ρ (.tmp 3) = .pointer (some ⟨N + 1, 0, none⟩) := hfree 3 rfl
   refine ⟨fun _ => ?_, zaa rfl⟩
   clear hdep hfree hj
   go_simp
   exact ⟨rfl, hS, KL hstab⟩
  ·intro j hj ρ y u hS hc hf hg hfree hdep
   obtain rfl := jz hj rfl
   rw [Hq9.out _ 0 rfl]
   have e12 : ρ (.tmp 12) = _ := (hdep 7 _ 12 rfl rfl rfl).1
   refine ⟨fun _ => ?_, zaa rfl⟩
   clear hdep hfree hj
   have c0 : u.cell? ⟨N + 1, 1, none⟩ = some (.int .i64 y2) := (hS.below.cell (p := ⟨N + 1, 1, none⟩) l0).trans (g0 1)
   go_simp
   exact ⟨rfl, hS, KL hstab⟩
  ·intro j hj ρ y u hS hc hf hg hfree hdep
   obtain rfl := jz hj rfl
   rw [Hq9.out _ 0 rfl]
   have e11 : ρ (.tmp 11) = _ := (hdep 6 _ 11 rfl rfl rfl).1
   have e13 : ρ (.tmp 13) = _ := (hdep 8 _ 13 rfl rfl rfl).1
   refine ⟨fun _ => ?_, zaa rfl⟩
   clear hdep hfree hj
   go_simp
   refine zha (cmpZ_any x2 y2 u) ?_
   rintro e w' ⟨rfl, rfl⟩
   exact ⟨_, rfl, by rw [HB.out]; rfl, hS, KL hstab⟩
  ·intro j hj ρ y u hS hc hf hg hfree hdep
   obtain rfl := jz hj rfl
   rw [Hq9.out _ 0 rfl]
   have e9 : ρ (.tmp 9) = _ := (hdep 4 _ 9 rfl rfl rfl).1
   have e14 : ρ (.tmp 14) = _ := (hdep 9 _ 14 rfl rfl rfl).1
   refine ⟨fun _ => ?_, zaa rfl⟩
   clear hdep hfree hj
   go_simp
   exact ⟨(fun _ => ⟨u.heap.size, rfl, by have := hS.below.size; omega, Blk.new _ _ _⟩), hS.alloc _, KeepL.below ((Below.refl _ _).alloc (Nat.le_refl _) _) _ _ 0 hstab⟩
  ·intro j hj ρ y u hS hc hf hg hfree hdep
   obtain rfl := jz hj rfl
   rw [Hq9.out _ 0 rfl]
   have r15 := (hdep 10 _ 15 rfl rfl rfl).1
   refine ⟨fun _ => ?_, zaa rfl⟩
   clear hdep hfree hj
   obtain ⟨g, e15, _, hB15⟩ := r15 rfl
   go_simp
   refine zha (orZ_any a b g u hB15) ?_
   rintro e w' ⟨rfl, rfl⟩
   exact ⟨_, rfl, by rw [HZ.out]; rfl, hS, KL hstab⟩
  ·intro j hj ρ y u hS hc hf hg hfree hdep
   obtain rfl := jz hj rfl
   rw [Hq9.out _ 0 rfl]
   have e16 : ρ (.tmp 16) = _ := (hdep 11 _ 16 rfl rfl rfl).1
   refine ⟨fun _ => ?_, zaa rfl⟩
   clear hdep hfree hj
   go_simp
   exact ⟨rfl, hS, KL hstab⟩
 intro u hS
 rintro _ rfl _ rfl _ rfl _ rfl _ rfl _ rfl _ rfl _ rfl _ rfl _ rfl _ r_15 _ rfl _ rfl
 simp only [zxb, Act.put, List.setIfInBounds_toArray, List.set_cons_zero, List.set_cons_succ]
 go_wp2_with fail
 go_returns
 exact ⟨rfl, HG1.out.trans hS⟩
theorem ltF (x y : Int × Int) : ltOf cmpF x y = decide (x.1 < y.1 ∨ (x.1 = y.1 ∧ x.2 < y.2)) := by
 unfold ltOf cmpF cmpZ
 by_cases h1 : x.1 < y.1
 ·simp [h1]
 ·by_cases h2 : y.1 < x.1
  ·simp [h1, h2]; omega
  ·have h3 : x.1 = y.1 := by omega
   by_cases h4 : x.2 < y.2
   ·simp [h3, h4]
   ·by_cases h5 : y.2 < x.2 <;> simp [h3, h4, h5]
theorem swoF : Sort.SWO (ltOf cmpF) where
 irrefl x := by rw [ltF]; simp
 trans x y z h1 h2 := by rw [ltF] at *; simp at *; omega
 ntrans x y z h1 h2 := by rw [ltF] at *; simp at *; omega
theorem zTd {α : Type} [Inhabited α] (enc : α → List Value) (k : Nat) (hk : ∀ x, (enc x).length = k) (l : List α) : Sort.flatK enc k l.toArray = (l.flatMap enc).toArray := by
 rcases Nat.eq_zero_or_pos k with rfl | hpos
 ·apply Array.ext
  ·simp [Sort.flatK, zyb hk]
  ·intro i h1 h2
   simp [Sort.flatK] at h1
 ·apply Array.ext
  ·simp [Sort.flatK, zyb hk]
  ·intro i h1 h2
   have hi : i < l.length * k := by simpa [Sort.flatK] using h1
   have hq : i / k < l.length := Nat.div_lt_of_lt_mul (by rw [Nat.mul_comm]; exact hi)
   have hr : i % k < k := Nat.mod_lt _ hpos
   have hx : l[i / k]? = some l[i / k] := List.getElem?_eq_getElem hq
   have hv : (enc l[i / k])[i % k]? = some ((enc l[i / k])[i % k]'(by rw [hk]; exact hr)) := List.getElem?_eq_getElem _
   have h3 := zsf hk hx hv
   have h4 : i / k * k + i % k = i := by rw [Nat.mul_comm]; exact Nat.div_add_mod i k
   rw [h4] at h3
   have h5 : (l.flatMap enc).toArray[i] = (enc l[i / k])[i % k]'(by rw [hk]; exact hr) := by
    have h6 : (l.flatMap enc).toArray[i]? = some ((enc l[i / k])[i % k]'(by rw [hk]; exact hr)) := by rw [List.getElem?_toArray]; exact h3
    rw [Array.getElem?_eq_getElem h2] at h6
    exact Option.some.inj h6
   rw [h5]
   simp [Sort.flatK, hq, hk, hr]
theorem zmg {α : Type} [Inhabited α] {l : List α} {d : Array α} (h : Sort.PermIn 0 l.toArray.size l.toArray d) : d.toList.Perm l := by
 obtain ⟨h1, _, h3⟩ := h
 have e1 : (l.toArray.extract 0 l.toArray.size).toList = l := by simp
 have e2 : (d.extract 0 l.toArray.size).toList = d.toList := by rw [← h1]; simp
 rw [e1, e2] at h3
 exact h3
theorem sortedF_any (b : Nat) (A : Option Addr) (c : Nat) (l : List (Int × Int)) (w : World) (h : OwnFR w b A c l) (hl : l.length ≤ 1000000) :
  Calls Tryz.prog 130 #[.slice A l.length c, .func (.func 154) #[] #[]] w fun e w' => e = .returned (.tuple #[]) ∧ (∃ l', l'.Perm l ∧ OwnFR w' b A c l') ∧ w.grownBy w' (ownB A) := by
 rcases A with _ | ⟨g, off, spot⟩
 ·have h0 : l = [] := by
   rcases h.2 with ⟨_, h2⟩ | ⟨g, cap, cur, hv, _⟩
   ·exact List.eq_nil_of_length_eq_zero h2
   ·cases hv
  subst h0
  have hcon := AnyF.slices_SortFunc_none sortFR none c (.func (.func 154) #[] #[]) w
  change Calls Tryz.prog 130 _ _ _ at hcon
  refine hcon.mono ?_
  rintro e w' ⟨rfl, rfl⟩
  exact ⟨rfl, ⟨[], List.Perm.refl _, h⟩, zpb _ _⟩
 ·obtain ⟨rfl, rfl⟩ : off = 0 ∧ spot = none := by
   rcases h.2 with ⟨h1, _⟩ | ⟨g', cap, cur, hv, _⟩
   ·cases h1
   ·injection hv with hv; injection hv with hv; injection hv with _ h2 h3; exact ⟨h2, h3⟩
  have hh := zkc h
  have hop := zUc h
  have hg : g < w.heap.size := by obtain ⟨_, _, _, _, cur, hc, _⟩ := hop; exact (Array.getElem?_eq_some_iff.1 hc).1
  have eg : ∀ args w, (callFunc 154 args).run Tryz.prog w = .ok (.enter 154 args) w := enters_of Tryz.func154 (by kernel_rfl) rfl
  have hcmp : CmpLays Tryz.prog 154 #[] frE 2 cmpF g 0 l.toArray.size w := fun m os dk _ x y => by
   have := sortedC_any x y (sortWorldK frE 2 w g 0 m dk os)
   exact this
  have hH : Sort.HoldsK frE 2 w g 0 l.toArray := by
   unfold Sort.HoldsK
   rw [zTd frE 2 zab]
   exact hh
  have hcon := AnyQ.slices_SortFunc sortFR 2 Tryz.isAgg82 Tryz.sizeOf82 frE zab (fun x v hv => by simp [frE] at hv; rcases hv with rfl | rfl <;> rfl) cmpF swoF 154 #[] g 0 c l.toArray w eg hcmp hH hg (by simp; omega)
  change Calls Tryz.prog 130 _ _ _ at hcon
  have e0 : l.toArray.size = l.length := by simp
  rw [e0] at hcon
  refine hcon.mono ?_
  rintro e w' ⟨rfl, d', n, os, hp, _, rfl⟩
  rw [← e0] at hp
  have hperm := zmg hp
  have hfl : (d'.toList.flatMap frE).length = l.length * 2 := by rw [zyb zab, hperm.length_eq]
  have := own_put h n os (d'.toList.flatMap frE) hfl l.length (Nat.le_refl _)
  unfold sortWorldK Sort.putRowK
  rw [show d' = d'.toList.toArray by simp, zTd frE 2 zab]
  refine ⟨rfl, ⟨_, hperm, ?_⟩, by show w.grownBy _ (some g); simpa using this.2⟩
  have h9 := this.1
  rw [List.take_of_length_le (by rw [hfl]; exact Nat.le_refl _)] at h9
  unfold OwnFR
  rw [hperm.length_eq]
  simpa using h9
theorem fieldsF_any (b : Nat) (A : Option Addr) (c : Nat) (l : List (Int × Int)) (w : World) (h : OwnFR w b A c l) (hl : l.length ≤ 1000000) :
  Calls Tryz.prog 130 #[.slice A l.length c, .func (.func 131) #[] #[]] w fun e w' => e = .returned (.tuple #[]) ∧ (∃ l', l'.Perm l ∧ OwnFR w' b A c l') ∧ w.grownBy w' (ownB A) := by
 rcases A with _ | ⟨g, off, spot⟩
 ·have h0 : l = [] := by
   rcases h.2 with ⟨_, h2⟩ | ⟨g, cap, cur, hv, _⟩
   ·exact List.eq_nil_of_length_eq_zero h2
   ·cases hv
  subst h0
  have hcon := AnyF.slices_SortFunc_none sortFR none c (.func (.func 131) #[] #[]) w
  change Calls Tryz.prog 130 _ _ _ at hcon
  refine hcon.mono ?_
  rintro e w' ⟨rfl, rfl⟩
  exact ⟨rfl, ⟨[], List.Perm.refl _, h⟩, zpb _ _⟩
 ·obtain ⟨rfl, rfl⟩ : off = 0 ∧ spot = none := by
   rcases h.2 with ⟨h1, _⟩ | ⟨g', cap, cur, hv, _⟩
   ·cases h1
   ·injection hv with hv; injection hv with hv; injection hv with _ h2 h3; exact ⟨h2, h3⟩
  have hh := zkc h
  have hop := zUc h
  have hg : g < w.heap.size := by obtain ⟨_, _, _, _, cur, hc, _⟩ := hop; exact (Array.getElem?_eq_some_iff.1 hc).1
  have eg : ∀ args w, (callFunc 131 args).run Tryz.prog w = .ok (.enter 131 args) w := enters_of Tryz.func131 (by kernel_rfl) rfl
  have hcmp : CmpLays Tryz.prog 131 #[] frE 2 cmpF g 0 l.toArray.size w := fun m os dk _ x y => by
   have := fieldsC_any x y (sortWorldK frE 2 w g 0 m dk os)
   exact this
  have hH : Sort.HoldsK frE 2 w g 0 l.toArray := by
   unfold Sort.HoldsK
   rw [zTd frE 2 zab]
   exact hh
  have hcon := AnyQ.slices_SortFunc sortFR 2 Tryz.isAgg82 Tryz.sizeOf82 frE zab (fun x v hv => by simp [frE] at hv; rcases hv with rfl | rfl <;> rfl) cmpF swoF 131 #[] g 0 c l.toArray w eg hcmp hH hg (by simp; omega)
  change Calls Tryz.prog 130 _ _ _ at hcon
  have e0 : l.toArray.size = l.length := by simp
  rw [e0] at hcon
  refine hcon.mono ?_
  rintro e w' ⟨rfl, d', n, os, hp, _, rfl⟩
  rw [← e0] at hp
  have hperm := zmg hp
  have hfl : (d'.toList.flatMap frE).length = l.length * 2 := by rw [zyb zab, hperm.length_eq]
  have := own_put h n os (d'.toList.flatMap frE) hfl l.length (Nat.le_refl _)
  unfold sortWorldK Sort.putRowK
  rw [show d' = d'.toList.toArray by simp, zTd frE 2 zab]
  refine ⟨rfl, ⟨_, hperm, ?_⟩, by show w.grownBy _ (some g); simpa using this.2⟩
  have h9 := this.1
  rw [List.take_of_length_le (by rw [hfl]; exact Nat.le_refl _)] at h9
  unfold OwnFR
  rw [hperm.length_eq]
  simpa using h9
open Go.RowKit
section
variable {w : World} {base : Nat} {e : TypeId} {size g n c : Nat} {xs : List Value}
theorem take_set' {α : Type} (l : List α) (i m : Nat) (v : α) : (l.set i v).take m = (l.take m).set i v := by
 apply List.ext_getElem?
 intro j
 simp only [List.getElem?_take, List.getElem?_set]
 by_cases h1 : j < m
 ·simp [h1]
  by_cases h2 : i = j
  ·subst h2; by_cases h3 : i < l.length <;> simp [h3, h1, Nat.lt_min]
  ·simp [h2]
 ·simp [h1]
  intro h; omega
theorem own_set (h : Own w base e size (some ⟨g, 0, none⟩) n c xs) (i : Nat) (v : Value) : Own (w.setCell ⟨g, i, none⟩ v) base e size (some ⟨g, 0, none⟩) n c (xs.set i v) := by
 obtain ⟨h1, h2, h3, h4, cur, hh, hs, ht⟩ := zUc h
 have hb : Blk w g e cur := hh
 refine ⟨by simpa using h1, .inr ⟨g, c, _, rfl, h2, hb.set_ i v, h3, h4, by simp [hs], ?_⟩⟩
 rw [Array.toList_setIfInBounds, take_set', ht]
theorem own_cut (h : Own w base e size (some ⟨g, 0, none⟩) n c xs) {m : Nat} (hm : m ≤ n) : Own w base e size (some ⟨g, 0, none⟩) m c (xs.take (m * size)) := by
 obtain ⟨h1, h2, h3, h4, cur, hh, hs, ht⟩ := zUc h
 have := Nat.mul_le_mul_right size hm
 refine ⟨by rw [List.length_take, h1]; omega, .inr ⟨g, c, cur, rfl, h2, hh, by omega, h4, hs, ?_⟩⟩
 rw [← ht, List.take_take, Nat.min_eq_left this]
theorem zDf : ∀ (L : List Value) (o : Nat) (w : World) (xs : List Value), Own w base e size (some ⟨g, 0, none⟩) n c xs → n * size ≤ o →
  Own (w.setCells g o L) base e size (some ⟨g, 0, none⟩) n c xs ∧ w.grownBy (w.setCells g o L) (some g)
 | [], o, w, xs, h, _ => ⟨h, zpb _ _⟩
 | v :: L, o, w, xs, h, ho => by
  have h1 := own_set h o v
  have hl := h.1
  rw [List.set_eq_of_length_le (by omega)] at h1
  have h2 := zDf L (o + 1) (w.setCell ⟨g, o, none⟩ v) xs h1 (by omega)
  exact ⟨h2.1, (zHa (zpb w (some g)) o v).trans h2.2⟩
end
theorem frEq (x1 x2 y1 y2 : Int) (w : World) : (binOp .eql 82 (.agg #[.int .i64 x1, .int .i64 x2]) (.agg #[.int .i64 y1, .int .i64 y2])).run Tryz.prog w = .ok (.bool (decide (x1 = y1 ∧ x2 = y2))) w := by
 have u3 := Tryz.underlying3
 have a3 := Tryz.isAgg3
 have z3 := Tryz.sizeOf3
 have hS : Tryz.prog.underlying 82 = some (.struct (Tryz.prog.fieldsOf 82)) := by kernel_rfl
 have hp : Tryz.prog.stoodInHeld 82 = false := by kernel_rfl
 rw [run_eql_struct, show (10000 : Nat) = 9999 + 1 from rfl, run_equalIn_agg w 9999 82 _ _ hS hp]
 simp only [Program.fieldsOf, Tryz.underlying82]
 go_simp
 by_cases h1 : x1 = y1 <;> by_cases h2 : x2 = y2 <;> simp [h1, h2]
theorem frNe (x1 x2 y1 y2 : Int) (w : World) : (binOp .neq 82 (.agg #[.int .i64 x1, .int .i64 x2]) (.agg #[.int .i64 y1, .int .i64 y2])).run Tryz.prog w = .ok (.bool (!decide (x1 = y1 ∧ x2 = y2))) w := by
 have u3 := Tryz.underlying3
 have a3 := Tryz.isAgg3
 have z3 := Tryz.sizeOf3
 have hS : Tryz.prog.underlying 82 = some (.struct (Tryz.prog.fieldsOf 82)) := by kernel_rfl
 have hp : Tryz.prog.stoodInHeld 82 = false := by kernel_rfl
 rw [run_neq_struct, show (10000 : Nat) = 9999 + 1 from rfl, run_equalIn_agg w 9999 82 _ _ hS hp]
 simp only [Program.fieldsOf, Tryz.underlying82]
 go_simp
 by_cases h1 : x1 = y1 <;> by_cases h2 : x2 = y2 <;> simp [h1, h2]
theorem frGd (op : BinOp) (a b : Operand) (x y : Array Value) (w : World) : (eqGuard op 82 a b (.agg x) (.agg y)).run Tryz.prog w = .ok () w := run_eqGuard_agg w op 82 a b x y (by kernel_rfl)
theorem frClear (w : World) (ty : TypeId) (b o n c : Nat) (hn : 0 < n) (hc : ∀ j, j < n * 2 → (w.cell? ⟨b, o + j, none⟩).isSome = true) (hf : ∀ j, j < n * 2 → w.frozen? ⟨b, o + j, none⟩ = false) :
  (Builtin.clear_ #[183] ty #[.slice (some ⟨b, o, none⟩) n c]).run Tryz.prog w = .ok (.tuple #[]) (w.setCells b o (List.replicate (n * 2) (.int .i64 0))) := by
 have hz : (Builtin.zeroCells #[.int .i64 0, .int .i64 0] n).toList = List.replicate (n * 2) (.int .i64 0) := by
  apply List.ext_getElem
  ·simp [Builtin.zeroCells]
  ·intro i h1 h2
   have : i % 2 = 0 ∨ i % 2 = 1 := by omega
   simp only [Builtin.zeroCells, Array.getElem_toList, Array.getElem_map, List.getElem_replicate]
   simp
   rcases this with h | h <;> simp [h]
 have hst := run_storeCells_cells (P := Tryz.prog) b o (List.replicate (n * 2) (Value.int .i64 0)) 0 w (by simpa using hc) (by simpa using hf) (by intro v hv'; rw [List.eq_of_mem_replicate hv']; rfl)
 simp only [Nat.add_zero] at hst
 obtain ⟨m, rfl⟩ : ∃ m, n = m + 1 := ⟨n - 1, by omega⟩
 have hzv := Tryz.zeroValue82
 simp [Builtin.clear_, run_underlying Tryz.underlying183, hzv, Value.cells, hz, hst]
structure CInv (l : List (Int × Int)) (m k : Nat) (dk : List (Int × Int)) : Prop where
 size : dk.length = l.length
 lt : k < m
 high : ∀ j, k ≤ j → dk[j]? = l[j]?
 mem : ∀ x, x ∈ dk.take k ↔ x ∈ l.take m
theorem CInv.keep {l dk : List (Int × Int)} {m k : Nat} (h : CInv l m k dk) {x : Int × Int} (hx : l[m]? = some x) : CInv l (m + 1) (k + 1) (dk.set k x) := by
 have hm := (List.getElem?_eq_some_iff.1 hx).1
 have h1 := h.size; have h2 := h.lt
 refine ⟨by simp [h1], by omega, fun j hj => by rw [List.getElem?_set_ne (by omega)]; exact h.high j (by omega), fun y => ?_⟩
 have e1 : (dk.set k x).take (k + 1) = dk.take k ++ [x] := by
  rw [List.take_add_one, List.getElem?_set_self (by omega), take_set', List.set_eq_of_length_le (by rw [List.length_take]; omega)]
  rfl
 have e2 : l.take (m + 1) = l.take m ++ [x] := by rw [List.take_add_one, hx]; rfl
 rw [e1, e2, List.mem_append, List.mem_append, h.mem]
theorem CInv.skip {l dk : List (Int × Int)} {m k : Nat} (h : CInv l m k dk) {x : Int × Int} (hx : l[m]? = some x) (hy : l[m - 1]? = some x) : CInv l (m + 1) k dk := by
 have h2 := h.lt
 refine ⟨h.size, by omega, h.high, fun y => ?_⟩
 have e2 : l.take (m + 1) = l.take m ++ [x] := by rw [List.take_add_one, hx]; rfl
 rw [e2, List.mem_append, h.mem]
 constructor
 ·exact .inl
 ·rintro (hz | hz)
  ·exact hz
  ·obtain rfl : y = x := by simpa using hz
   refine List.mem_of_getElem? (i := m - 1) ?_
   rw [List.getElem?_take, if_pos (by omega)]
   exact hy
theorem zXd {w : World} {b g n c k : Nat} {l : List (Int × Int)} {x : Int × Int} (h : Own w b 82 2 (some ⟨g, 0, none⟩) n c (l.flatMap frE)) (hx : l[k]? = some x) :
  w.cell? ⟨g, k * 2, none⟩ = some (.int .i64 x.1) ∧ w.cell? ⟨g, k * 2 + 1, none⟩ = some (.int .i64 x.2) := by
 have hh := zkc h
 have h0 := zsf zab hx (show (frE x)[0]? = some _ from rfl)
 have h1 := zsf zab hx (show (frE x)[1]? = some _ from rfl)
 have key : ∀ j v, (l.flatMap frE)[j]? = some v → w.cell? ⟨g, j, none⟩ = some v := fun j v hv => by
  have hj := (List.getElem?_eq_some_iff.1 hv).1
  have := (hh j (by simpa using hj)).1
  rw [Nat.zero_add] at this
  rw [this]
  simp only [id]
  rw [getElem!_pos _ _ (by simpa using hj)]
  rw [List.getElem?_eq_getElem hj] at hv
  simpa using hv
 exact ⟨key _ _ h0, key _ _ h1⟩
theorem flat_set (l : List (Int × Int)) (k : Nat) (x : Int × Int) : (l.set k x).flatMap frE = ((l.flatMap frE).set (k * 2) (.int .i64 x.1)).set (k * 2 + 1) (.int .i64 x.2) := by
 induction l generalizing k with
 | nil => rfl
 | cons y l ih =>
  cases k with
  | zero => rfl
  | succ k =>
   rw [List.set_cons_succ, List.flatMap_cons, ih, show (k + 1) * 2 = k * 2 + 2 by omega, show k * 2 + 2 + 1 = (k * 2 + 1) + 2 by omega]
   rfl
set_option maxRecDepth 100000 in
set_option maxHeartbeats 4000000 in
theorem compF_any (b : Nat) (A : Option Addr) (c : Nat) (l : List (Int × Int)) (w : World) (h : OwnFR w b A c l) (hl : l.length ≤ 1000000) :
  Calls Tryz.prog 134 #[.slice A l.length c] w fun e w' => (∃ l', zga l' l ∧ l'.length ≤ l.length ∧ e = .returned (.slice A l'.length c) ∧ OwnFR w' b A c l') ∧ w.grownBy w' (ownB A) := by
 by_cases hs : l.length < 2
 ·have hs1 : (l.length : Int) < 2 := by omega
  have HO := Hd h
  clear h
  go_enter Tryz.func134, Tryz.ntmps134
  go_wp2_with fail
  go_returns
  exact ⟨⟨l, zga.refl _, Nat.le_refl _, rfl, HO.out⟩, zpb _ _⟩
 ·have hs1 : ¬ (l.length : Int) < 2 := by omega
  have hs1' : decide ((l.length : Int) < 2) = false := decide_eq_false hs1
  rcases A with _ | ⟨g, off, spot⟩
  ·rcases h.2 with ⟨_, h2⟩ | ⟨g, cap, cur, hv, _⟩
   ·omega
   ·cases hv
  obtain ⟨rfl, rfl⟩ : off = 0 ∧ spot = none := by
   rcases h.2 with ⟨h1, _⟩ | ⟨g', cap, cur, hv, _⟩
   ·cases h1
   ·injection hv with hv; injection hv with hv; injection hv with _ h2 h3; exact ⟨h2, h3⟩
  obtain ⟨_, _, hcap, hmax, _⟩ := zUc h
  have hmax' : c ≤ 9223372036854775807 := by unfold maxLen at hmax; omega
  have heq' := frEq
  have hne' := frNe
  have hgd' := frGd
  have HO := Hd h
  clear h hmax
  go_enter Tryz.func134, Tryz.ntmps134
  go_wp2_with fail
  go_loopw [3] (fun i wr => ∃ k q : Nat, 1 ≤ k ∧ k ≤ l.length ∧ i = .int .i64 k ∧ wr = w.drewN q) (fun i _ => l.length - (intOf i).toNat)
  case atStart => exact ⟨1, 0, Nat.le_refl _, by omega, rfl, rfl⟩
  case round =>
   obtain ⟨k, q, hk1, hk, rfl, hwr⟩ := hrel
   have HW := Hd hwr
   have HOr := Hd (show OwnFR wr b (some ⟨g, 0, none⟩) c l by rw [hwr]; exact HO.out)
   clear hwr
   by_cases hlt : k < l.length
   ·obtain ⟨⟨x1, x2⟩, hx⟩ : ∃ x, l[k]? = some x := ⟨_, List.getElem?_eq_getElem hlt⟩
    obtain ⟨⟨y1, y2⟩, hy⟩ : ∃ x, l[k - 1]? = some x := ⟨_, List.getElem?_eq_getElem (by omega)⟩
    obtain ⟨c0, c1⟩ := zXd HOr.out hx
    obtain ⟨d0, d1⟩ := zXd HOr.out hy
    have HX := Hd hx
    have HY := Hd hy
    have hk2 : (k : Int) < l.length := by omega
    have hk3 : ((k - 1 : Nat) : Int) = (k : Int) - 1 := by omega
    clear hx hy
    by_cases hdup : x1 = y1 ∧ x2 = y2
    ·obtain ⟨rfl, rfl⟩ := hdup
     have hkc : (k : Int) ≤ c := by omega
     have hkc' : k ≤ c := by omega
     go_wp2_with fail
     go_quiet (fail)
     go_wp2_with fail
     have HOs := Hd (show OwnFR (wr.drewN nq) b (some ⟨g, 0, none⟩) c l from HOr.out)
     have HGs := Hd (show w.grownBy (wr.drewN nq) (some g) by rw [HW.out]; exact ⟨rfl, rfl, rfl, Nat.le_refl _, fun _ _ _ => rfl⟩)
     refine zfa ?_
     intro W hW
     have HOs2 := Hd (show OwnFR W b (some ⟨g, 0, none⟩) c l by rw [hW]; exact HOs.out)
     have HGs2 := Hd (show w.grownBy W (some g) by rw [hW]; exact HGs.out)
     clear hW HOs HGs c0 c1 d0 d1
     go_loopw [3, 5] (fun s3 s5 wr2 => ∃ (kk k2 : Nat) (dk : List (Int × Int)), s3 = .int .i64 kk ∧ s5 = .int .i64 k2 ∧ 1 ≤ k2 ∧ k + k2 ≤ l.length ∧ CInv l (k + k2) kk dk ∧ OwnFR wr2 b (some ⟨g, 0, none⟩) c dk ∧ w.grownBy wr2 (some g)) (fun _ j _ => l.length - k - (intOf j).toNat)
     case atStart => exact ⟨k, 1, l, rfl, rfl, Nat.le_refl _, by omega, ⟨rfl, by omega, fun _ _ => rfl, fun x => by
      have e2 : l.take (k + 1) = l.take k ++ [(x1, x2)] := by rw [List.take_add_one, HX.out]; rfl
      rw [e2, List.mem_append]
      constructor
      ·exact .inl
      ·rintro (hz | hz)
       ·exact hz
       ·obtain rfl : x = (x1, x2) := by simpa using hz
        refine List.mem_of_getElem? (i := k - 1) ?_
        rw [List.getElem?_take, if_pos (by omega)]
        exact HY.out⟩, HOs2.out, HGs2.out⟩
     case round =>
      obtain ⟨kk, k2, dk, rfl, rfl, hk21, hk22, hci, hown, hgr⟩ := hrel
      have hkk := hci.lt
      have hds := hci.size
      have HCI := Hd hci
      have HOw := Hd hown
      have HGr := Hd hgr
      clear hown hgr HOs2 HGs2
      by_cases hlt2 : k + k2 < l.length
      ·obtain ⟨⟨u1, u2⟩, hu⟩ : ∃ x, l[k + k2]? = some x := ⟨_, List.getElem?_eq_getElem hlt2⟩
       obtain ⟨⟨v1, v2⟩, hv⟩ : ∃ x, l[k + k2 - 1]? = some x := ⟨_, List.getElem?_eq_getElem (by omega)⟩
       have hu' : dk[k + k2]? = some (u1, u2) := by rw [hci.high _ (by omega)]; exact hu
       have hv' : dk[k + k2 - 1]? = some (v1, v2) := by rw [hci.high _ (by omega)]; exact hv
       obtain ⟨c0, c1⟩ := zXd HOw.out hu'
       obtain ⟨d0, d1⟩ := zXd HOw.out hv'
       obtain ⟨⟨o1, o2⟩, ho⟩ : ∃ x, dk[kk]? = some x := ⟨_, List.getElem?_eq_getElem (by omega)⟩
       obtain ⟨e0, e1⟩ := zXd HOw.out ho
       have HU := Hd hu
       have HV := Hd hv
       rw [show (k + k2) * 2 = k * 2 + k2 * 2 by omega] at c0 c1
       rw [show (k + k2 - 1) * 2 = k * 2 + (k2 - 1) * 2 by omega] at d0 d1
       have hk4 : ((k2 - 1 : Nat) : Int) = (k2 : Int) - 1 := by omega
       have hk5 : (k2 : Int) < ((l.length - k : Nat) : Int) := by omega
       have hk6 : (kk : Int) < l.length := by omega
       clear hu hv hu' hv' ho hci
       by_cases huv : u1 = v1 ∧ u2 = v2
       ·obtain ⟨rfl, rfl⟩ := huv
        go_wp2_with fail
        go_quiet (fail)
        go_wp2_with fail
        go_roundw
        case rel => exact ⟨kk, k2 + 1, dk, rfl, by go_num, by omega, by omega, by have := HCI.out.skip HU.out HV.out; rwa [Nat.add_assoc] at this, HOw.out, ⟨HGr.out.os, HGr.out.tape, HGr.out.output, HGr.out.size, HGr.out.block⟩⟩
        case measure => simp [intOf]; omega
       ·have hb : (decide (u1 = v1) && decide (u2 = v2)) = false := by
         by_cases h1 : u1 = v1 <;> by_cases h2 : u2 = v2 <;> simp_all
        have f0 : wr.frozen? ⟨g, kk * 2, none⟩ = false := by have := (zkc HOw.out (kk * 2) (by simp [zyb zab]; omega)).2; rwa [Nat.zero_add] at this
        have f1 : wr.frozen? ⟨g, kk * 2 + 1, none⟩ = false := by have := (zkc HOw.out (kk * 2 + 1) (by simp [zyb zab]; omega)).2; rwa [Nat.zero_add] at this
        go_wp2_with fail
        go_quiet (fail)
        go_wp2_with fail
        go_roundw
        case rel =>
         refine ⟨kk + 1, k2 + 1, dk.set kk (u1, u2), by go_num, by go_num, by omega, by omega, by have := HCI.out.keep HU.out; rwa [Nat.add_assoc] at this, ?_, ?_⟩
         ·have := own_set (own_set HOw.out (kk * 2) (.int .i64 u1)) (kk * 2 + 1) (.int .i64 u2)
          unfold OwnFR
          rw [flat_set, List.length_set]
          exact this
         ·have hgd : w.grownBy (wr.drewN nq) (some g) := ⟨HGr.out.os, HGr.out.tape, HGr.out.output, HGr.out.size, HGr.out.block⟩
          exact zHa (zHa hgd _ _) _ _
        case measure => simp [intOf]; omega
      ·have hend : k + k2 = l.length := by omega
       have hk5 : ¬ (k2 : Int) < ((l.length - k : Nat) : Int) := by omega
       have hkl : kk ≤ l.length := by omega
       have hkl' : (kk : Int) ≤ l.length := by omega
       have hkl2 : (kk : Int) ≤ c := by omega
       have hkc2 : kk ≤ c := by omega
       have hcl : ∀ ty, (Builtin.clear_ #[183] ty #[.slice (some ⟨g, kk * 2, none⟩) (l.length - kk) (c - kk)]).run Tryz.prog wr = .ok (.tuple #[]) (wr.setCells g (kk * 2) (List.replicate ((l.length - kk) * 2) (.int .i64 0))) := fun ty =>
        frClear wr ty g (kk * 2) _ _ (by omega) (fun j hj => by
         have := (zkc HOw.out (kk * 2 + j) (by simp [zyb zab]; omega)).1
         rw [Nat.zero_add] at this
         rw [this]; rfl) (fun j hj => by
         have := (zkc HOw.out (kk * 2 + j) (by simp [zyb zab]; omega)).2
         rwa [Nat.zero_add] at this)
       clear hci hlt2
       go_wp2_with fail
       go_returns
       have hci := HCI.out
       have hcut := own_cut HOw.out (m := kk) (by have := hci.size; omega)
       have hset := zDf (List.replicate ((l.length - kk) * 2) (.int .i64 0)) (kk * 2) wr _ hcut (Nat.le_refl _)
       have hlen : (dk.take kk).length = kk := by rw [List.length_take, hci.size]; omega
       refine ⟨⟨dk.take kk, fun x => by rw [hci.mem x, hend, List.take_length], by rw [hlen]; omega, by rw [hlen]; try rfl, ?_⟩, HGr.out.trans hset.2⟩
       have h9 := hset.1
       unfold OwnFR
       rw [hlen]
       have e : (dk.take kk).flatMap frE = (dk.flatMap frE).take (kk * 2) := by
        conv => rhs; rw [← List.take_append_drop kk dk, List.flatMap_append]
        rw [List.take_left' (by rw [zyb zab, hlen])]
       rw [e]
       exact h9
    ·have hb : (decide (x1 = y1) && decide (x2 = y2)) = false := by
      by_cases h1 : x1 = y1 <;> by_cases h2 : x2 = y2 <;> simp_all
     go_wp2_with fail
     go_quiet (fail)
     go_wp2_with fail
     go_roundw
     case rel => exact ⟨k + 1, q + nq, by omega, by omega, by go_num, by rw [HW.out]; simp [World.drewN, Nat.add_assoc]⟩
     case measure => simp [intOf]; omega
   ·obtain rfl : k = l.length := by omega
    clear hlt
    go_wp2_with fail
    go_returns
    exact ⟨⟨l, zga.refl _, Nat.le_refl _, rfl, HOr.out⟩, by rw [HW.out]; exact ⟨rfl, rfl, rfl, Nat.le_refl _, fun _ _ _ => rfl⟩⟩
open Go.RowKit
theorem fieldsOf_take {l : List ExD} {k : Nat} {x : ExD} (h : l[k]? = some x) : fieldsOf (l.take (k + 1)) = fieldsOf (l.take k) ++ (if x.op = 2 then [(x.n, x.w)] else []) := by
 rw [List.take_add_one, h]
 unfold fieldsOf
 rw [List.filterMap_append]
 congr 1
 by_cases hx : x.op = 2 <;> simp [hx]
theorem headersOf_take {l : List ExD} {k : Nat} {x : ExD} (h : l[k]? = some x) : zCa (l.take (k + 1)) = zCa (l.take k) ++ (if x.op = 4 then [x.n] else []) := by
 rw [List.take_add_one, h]
 unfold zCa
 rw [List.filterMap_append]
 congr 1
 by_cases hx : x.op = 4 <;> simp [hx]
theorem fieldsOf_len (l : List ExD) : (fieldsOf l).length ≤ l.length := List.length_filterMap_le _ _
theorem headersOf_len (l : List ExD) : (zCa l).length ≤ l.length := List.length_filterMap_le _ _
theorem zCd {α : Type} {a b : List α} (h : a.Perm b) : zga a b := fun x => h.mem_iff
set_option maxRecDepth 100000 in
set_option maxHeartbeats 4000000 in
theorem zrf {ok : ExD → Prop} (s : SL ExD) (w : World) (hS : SLR w w.heap.size 3 ExD.enc ok s) (hl : s.l.length ≤ 1000) :
  Calls Tryz.prog 95 #[.slice s.a s.l.length s.c] w fun e w' => (∃ A c l', zga l' (fieldsOf s.l) ∧ l'.length ≤ s.l.length ∧ e = .returned (.slice A l'.length c) ∧ OwnFR w' w.heap.size A c l') ∧ Below w.heap.size w w' := by
 obtain ⟨N, hN⟩ : ∃ N, w.heap.size = N := ⟨_, rfl⟩
 rw [hN] at hS ⊢
 have hNw : N ≤ w.heap.size := by omega
 obtain ⟨sa, sc, sl⟩ := s
 simp only at hl ⊢
 have HS := Hd hS
 have HB0 := Hd (Below.refl N w)
 clear hS
 go_enter Tryz.func95, Tryz.ntmps95
 go_wp2_with fail
 go_loopw [3, 8] (fun s3 i wr => ∃ (k : Nat) (A : Option Addr) (c : Nat), k ≤ sl.length ∧ i = .int .i64 k ∧ s3 = .slice A (fieldsOf (sl.take k)).length c ∧ OwnFR wr N A c (fieldsOf (sl.take k)) ∧ Below N w wr) (fun _ i _ => sl.length - (intOf i).toNat)
 case atStart => exact ⟨0, none, 0, Nat.zero_le _, rfl, rfl, Own.none_ _ _ _ _, HB0.out⟩
 case round =>
  obtain ⟨k, A, c, hk, rfl, rfl, ho, hb⟩ := hrel
  have HO := Hd ho
  have HB := Hd hb
  have hNr : N ≤ wr.heap.size := Nat.le_trans hNw hb.size
  have hfl := fieldsOf_len (sl.take k)
  rw [List.length_take] at hfl
  obtain ⟨L, hL⟩ : ∃ z, fieldsOf (sl.take k) = z := ⟨_, rfl⟩
  have HL := Hd hL
  rw [hL] at HO hfl ⊢
  clear ho hb hL
  by_cases hlt : k < sl.length
  ·obtain ⟨b2, off2, x, hA2, hb2, hx, _, hc2⟩ := (HS.out.below HB.out).at_ (fun _ => rfl) (by omega) hlt
   have p0 := hc2 0 _ rfl
   have p1 := hc2 1 _ rfl
   have p2 := hc2 2 _ rfl
   simp only [Nat.add_zero] at p0
   simp only at hA2
   have HX := Hd (fieldsOf_take hx)
   have hk1 : (k : Int) < sl.length := by omega
   have HO1 := Hd (Own.alloc HO.out (.cells #[.int .i64 x.op, .int .i64 x.n, .int .i64 x.w] 90))
   have HB1 := Hd (HB.out.alloc hNr (.cells #[.int .i64 x.op, .int .i64 x.n, .int .i64 x.w] 90))
   subst hA2
   clear hc2 hx
   by_cases c1 : x.op = 2
   ·have HR := Hd (show fieldsOf (sl.take (k + 1)) = L ++ [(x.n, x.w)] by rw [HX.out, if_pos c1, HL.out])
    have HO2 := Hd (Own.alloc HO1.out (.cells #[.int .i64 x.n, .int .i64 x.w] 82))
    have HB2 := Hd (HB1.out.alloc (by simp; omega) (.cells #[.int .i64 x.n, .int .i64 x.w] 82))
    rw [c1] at p0 HO1 HB1 HO2 HB2
    have HRd := Hd (rd_lit (enc := frE) (wr.alloc (.cells #[.int .i64 2, .int .i64 x.n, .int .i64 x.w] 90)) 82 #[.int .i64 x.n, .int .i64 x.w] (wr.heap.size + 1) (by simp) [(x.n, x.w)] rfl zab (by simp [maxLen]))
    go_wp2_with (at_builtin; (refine zcb rfl _ _ rfl N A L.length c L rfl rfl HO2.out _ _ 1 _ [(x.n, x.w)] rfl rfl HRd.out (by omega) (by simp; omega) ?_; intro A2 c2 w8 hO2 hG2 hA2; have HO3 := Hd hO2; have HB3 := Hd (HB2.out.grown hG2 (by simp; omega) (fun k hk => (Own.lt HO2.out k hk).1)); clear hO2 hG2 hA2))
    go_roundw
    case rel => exact ⟨k + 1, A2, c2, by omega, by go_num, by rw [HR.out, List.length_append]; rfl, by rw [HR.out]; exact HO3.out, HB3.out⟩
    case measure => simp [intOf]; omega
   ·have c1' : (x.op == 2) = false := by simp [c1]
    have HR := Hd (show fieldsOf (sl.take (k + 1)) = L by rw [HX.out, if_neg c1, HL.out, List.append_nil])
    go_wp2_with fail
    go_roundw
    case rel => exact ⟨k + 1, A, c, by omega, by go_num, by rw [HR.out], by rw [HR.out]; exact HO1.out, HB1.out⟩
    case measure => simp [intOf]; omega
  ·obtain rfl : k = sl.length := by omega
   have HF := Hd (show fieldsOf sl = L by have := HL.out; rwa [List.take_length] at this)
   clear hlt
   go_wp2_with fail
   with_reducible refine (fieldsF_any N A c L wr HO.out (by omega)).mono ?_
   rintro e w2 ⟨rfl, ⟨L2, hp2, hO2⟩, hg2⟩
   have HO2 := Hd hO2
   have HP2 := Hd hp2
   have HB2 := Hd (HB.out.grown hg2 hNr (fun k hk => (Own.lt HO.out k hk).1))
   have hl2 := hp2.length_eq
   have hcon := compF_any N A c L2 w2 HO2.out (by omega)
   rw [hl2] at hcon
   have HCon := Hd hcon
   clear hO2 hg2 hp2 hcon
   go_wp2_with fail
   with_reducible refine HCon.out.mono ?_
   rintro e w3 ⟨⟨L3, hs3, hl3, rfl, hO3⟩, hg3⟩
   have HO3 := Hd hO3
   have HB3 := Hd (HB2.out.grown hg3 (Nat.le_trans hNw HB2.out.size) (fun k hk => (Own.lt HO2.out k hk).1))
   have HS3 := Hd (hs3.trans (zCd HP2.out))
   clear hO3 hg3 hs3
   go_wp2_with fail
   go_returns
   exact ⟨⟨A, c, L3, by rw [HF.out]; exact HS3.out, by omega, rfl, HO3.out⟩, HB3.out⟩
set_option maxRecDepth 100000 in
set_option maxHeartbeats 4000000 in
theorem zze {ok : ExD → Prop} (s : SL ExD) (w : World) (hS : SLR w w.heap.size 3 ExD.enc ok s) (hl : s.l.length ≤ 1000) :
  Calls Tryz.prog 96 #[.slice s.a s.l.length s.c] w fun e w' => (∃ A c l', zga l' (zCa s.l) ∧ l'.length ≤ s.l.length ∧ e = .returned (.slice A l'.length c) ∧ OwnZ w' w.heap.size A c l') ∧ Below w.heap.size w w' := by
 obtain ⟨N, hN⟩ : ∃ N, w.heap.size = N := ⟨_, rfl⟩
 rw [hN] at hS ⊢
 have hNw : N ≤ w.heap.size := by omega
 obtain ⟨sa, sc, sl⟩ := s
 simp only at hl ⊢
 have HS := Hd hS
 have HB0 := Hd (Below.refl N w)
 clear hS
 go_enter Tryz.func96, Tryz.ntmps96
 go_wp2_with fail
 go_loopw [3, 8] (fun s3 i wr => ∃ (k : Nat) (A : Option Addr) (c : Nat), k ≤ sl.length ∧ i = .int .i64 k ∧ s3 = .slice A (zCa (sl.take k)).length c ∧ OwnZ wr N A c (zCa (sl.take k)) ∧ Below N w wr) (fun _ i _ => sl.length - (intOf i).toNat)
 case atStart => exact ⟨0, none, 0, Nat.zero_le _, rfl, rfl, Own.none_ _ _ _ _, HB0.out⟩
 case round =>
  obtain ⟨k, A, c, hk, rfl, rfl, ho, hb⟩ := hrel
  have HO := Hd ho
  have HB := Hd hb
  have hNr : N ≤ wr.heap.size := Nat.le_trans hNw hb.size
  have hfl := headersOf_len (sl.take k)
  rw [List.length_take] at hfl
  obtain ⟨L, hL⟩ : ∃ z, zCa (sl.take k) = z := ⟨_, rfl⟩
  have HL := Hd hL
  rw [hL] at HO hfl ⊢
  clear ho hb hL
  by_cases hlt : k < sl.length
  ·obtain ⟨b2, off2, x, hA2, hb2, hx, _, hc2⟩ := (HS.out.below HB.out).at_ (fun _ => rfl) (by omega) hlt
   have p0 := hc2 0 _ rfl
   have p1 := hc2 1 _ rfl
   have p2 := hc2 2 _ rfl
   simp only [Nat.add_zero] at p0
   simp only at hA2
   have HX := Hd (headersOf_take hx)
   have hk1 : (k : Int) < sl.length := by omega
   have HO1 := Hd (Own.alloc HO.out (.cells #[.int .i64 x.op, .int .i64 x.n, .int .i64 x.w] 90))
   have HB1 := Hd (HB.out.alloc hNr (.cells #[.int .i64 x.op, .int .i64 x.n, .int .i64 x.w] 90))
   subst hA2
   clear hc2 hx
   by_cases c1 : x.op = 4
   ·have HR := Hd (show zCa (sl.take (k + 1)) = L ++ [x.n] by rw [HX.out, if_pos c1, HL.out])
    have HO2 := Hd (Own.alloc HO1.out (.cells #[.int .i64 x.n] 3))
    have HB2 := Hd (HB1.out.alloc (by simp; omega) (.cells #[.int .i64 x.n] 3))
    rw [c1] at p0 HO1 HB1 HO2 HB2
    have HRd := Hd (rd_lit (enc := intE) (wr.alloc (.cells #[.int .i64 4, .int .i64 x.n, .int .i64 x.w] 90)) 3 #[.int .i64 x.n] (wr.heap.size + 1) (by simp) [x.n] rfl zna (by simp [maxLen]))
    go_wp2_with (at_builtin; (refine zma rfl _ _ rfl N A L.length c L rfl rfl HO2.out _ _ 1 _ [x.n] rfl rfl HRd.out (by omega) (by simp; omega) ?_; intro A2 c2 w8 hO2 hG2 hA2; have HO3 := Hd hO2; have HB3 := Hd (HB2.out.grown hG2 (by simp; omega) (fun k hk => (Own.lt HO2.out k hk).1)); clear hO2 hG2 hA2))
    go_roundw
    case rel => exact ⟨k + 1, A2, c2, by omega, by go_num, by rw [HR.out, List.length_append]; rfl, by rw [HR.out]; exact HO3.out, HB3.out⟩
    case measure => simp [intOf]; omega
   ·have c1' : (x.op == 4) = false := by simp [c1]
    have HR := Hd (show zCa (sl.take (k + 1)) = L by rw [HX.out, if_neg c1, HL.out, List.append_nil])
    go_wp2_with fail
    go_roundw
    case rel => exact ⟨k + 1, A, c, by omega, by go_num, by rw [HR.out], by rw [HR.out]; exact HO1.out, HB1.out⟩
    case measure => simp [intOf]; omega
  ·obtain rfl : k = sl.length := by omega
   have HF := Hd (show zCa sl = L by have := HL.out; rwa [List.take_length] at this)
   clear hlt
   go_wp2_with fail
   with_reducible refine (zSe N A c L wr HO.out (by omega)).mono ?_
   rintro e w2 ⟨rfl, ⟨L2, hp2, hO2⟩, hg2⟩
   have HO2 := Hd hO2
   have HP2 := Hd hp2
   have HB2 := Hd (HB.out.grown hg2 hNr (fun k hk => (Own.lt HO.out k hk).1))
   have hl2 := hp2.length_eq
   have hcon := zPe N A c L2 w2 HO2.out (by omega)
   rw [hl2] at hcon
   have HCon := Hd hcon
   clear hO2 hg2 hp2 hcon
   go_wp2_with fail
   with_reducible refine HCon.out.mono ?_
   rintro e w3 ⟨⟨L3, hs3, hl3, rfl, hO3⟩, hg3⟩
   have HO3 := Hd hO3
   have HB3 := Hd (HB2.out.grown hg3 (Nat.le_trans hNw HB2.out.size) (fun k hk => (Own.lt HO2.out k hk).1))
   have HS3 := Hd (hs3.trans (zCd HP2.out))
   clear hO3 hg3 hs3
   go_wp2_with fail
   go_returns
   exact ⟨⟨A, c, L3, by rw [HF.out]; exact HS3.out, by omega, rfl, HO3.out⟩, HB3.out⟩
end Go.Proofs.YtakgiamhdpgoeaaGreat
