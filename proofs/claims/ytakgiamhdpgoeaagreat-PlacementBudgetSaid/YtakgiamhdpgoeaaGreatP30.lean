/- Lemmas. -/
import Derived.Test.YtakgiamhdpgoeaaGreatP25
import Derived.Test.YtakgiamhdpgoeaaGreatP28
import Derived.Test.YtakgiamhdpgoeaaGreatP29
set_option linter.unusedSimpArgs false
namespace Go.Proofs.YtakgiamhdpgoeaaGreat
open Go.RowKit
set_option linter.unusedVariables false
theorem zOf {J : JobM} (s : Int) : ∀ (l : List Int) (i : Nat) (u : Use) (n : Int), u.tZ ≤ n → u.gates ≤ n → (J.useFrom s i l u).tZ ≤ n + l.length ∧ (J.useFrom s i l u).gates ≤ n + l.length
 | [], i, u, n, h1, h2 => by simpa [JobM.useFrom] using ⟨h1, h2⟩
 | x :: l, i, u, n, h1, h2 => by
  simp only [JobM.useFrom, List.length_cons]
  split
  ·have h3 : (J.add u i).tZ ≤ n + 1 := by
    show (if J.gate.getD i false then u.tZ else u.tZ + 1) ≤ n + 1
    split <;> omega
   have h4 : (J.add u i).gates ≤ n + 1 := by
    show (if J.gate.getD i false then u.gates + 1 else u.gates) ≤ n + 1
    split <;> omega
   have := zOf (J := J) s l (i + 1) (J.add u i) (n + 1) h3 h4
   omega
  ·have := zOf (J := J) s l (i + 1) u n h1 h2
   omega
theorem use_le {J : JobM} (pre : List Int) (s : Int) : (J.use pre s).tZ ≤ pre.length ∧ (J.use pre s).gates ≤ pre.length := by
 have := zOf (J := J) s pre 0 Use.zero 0 (Int.le_refl _) (Int.le_refl _)
 unfold JobM.use
 omega
abbrev useC (u : Use) : Array Value := #[.int .i64 u.tZ, .int .i64 u.gates, .int .i64 u.sram, .int .i64 u.tcam]
theorem use_step {J : JobM} {st : List Int} {k : Nat} {x s : Int} (h : st[k]? = some x) : J.use (st.take (k + 1)) s = if x = s then J.add (J.use (st.take k) s) k else J.use (st.take k) s := by
 have hk := (List.getElem?_eq_some_iff.1 h).1
 rw [List.take_add_one, h]
 show J.use (st.take k ++ [x]) s = _
 rw [JobM.use_snoc, List.length_take, Nat.min_eq_left (by omega)]
set_option maxRecDepth 100000 in
set_option maxHeartbeats 4000000 in
theorem zyf (J : JobD) (g : Nat) (st : SL Int) (s : Int) (w : World) (hJ : JobR w w.heap.size g J) (hT : SLR w w.heap.size 1 intE (fun _ => True) st) (hl : st.l.length ≤ J.us.l.length) (hn : J.us.l.length ≤ 1000) (hc : ∀ x ∈ J.cs.l, I64 x.1 ∧ I64 x.2) :
  Calls Tryz.prog 22 #[.pointer (some ⟨g, 0, none⟩), .slice st.a st.l.length st.c, .int .i64 s] w fun e w' => e = .returned (useV (J.m.use st.l s)) ∧ Below w.heap.size w w' := by
 obtain ⟨N, hN⟩ : ∃ N, w.heap.size = N := ⟨_, rfl⟩
 rw [hN] at hJ hT ⊢
 have F0 := Fr.start w
 rw [hN] at F0
 have HF0 := Hd F0
 have HJ := Hd hJ
 have HT := Hd hT
 have HC := Hd hc
 have htl := hT.len
 obtain ⟨ta, tc, tl⟩ := st
 simp only at hl htl ⊢
 clear hJ hT F0 hc
 go_enter Tryz.func22, Tryz.ntmps22
 go_wp2_with fail
 refine zfa ?_
 intro W hW
 have F1 := ((HF0.out.alloc _ _).alloc _ _).of_eq hW
 simp only [World.size_alloc, hN] at F1 ⊢
 have HF1 := Hd F1
 clear F1 hW
 go_loopw [12] (fun i wr => ∃ k : Nat, k ≤ tl.length ∧ i = .int .i64 k ∧ Fr N w wr [(N + 1, 71, useC (J.m.use (tl.take k) s)), (N, 71, #[.int .i64 0, .int .i64 0, .int .i64 0, .int .i64 0])]) (fun i _ => tl.length - (intOf i).toNat)
 case atStart => exact ⟨0, Nat.zero_le _, rfl, HF1.out⟩
 case round =>
  obtain ⟨k, hk, rfl, F⟩ := hrel
  have hok := JobM.use_ok (J := J.m) (tl.take k) s
  have hle := use_le (J := J.m) (tl.take k) s
  have hlk : (tl.take k).length ≤ 1000 := by rw [List.length_take]; omega
  obtain ⟨u, hu⟩ : ∃ u, J.m.use (tl.take k) s = u := ⟨_, rfl⟩
  have HU := Hd hu
  rw [hu] at F hok hle
  have HF := Hd F
  have hu1 := hok.t
  have hu2 := hok.g
  have hu3 := hok.s
  have hu4 := hok.m
  clear F hu hok
  obtain ⟨g0, l0, f0⟩ := HF.out.at_mem (.head _)
  obtain ⟨g1, l1, f1⟩ := HF.out.at_mem (.tail _ (.head _))
  dsimp only at g0 l0 f0 g1 l1 f1
  by_cases hlt : k < tl.length
  ·obtain ⟨b2, off2, x, hA2, hb2, hx, _, hc2⟩ := HF.out.at_ HT.out zna (by omega) hlt
   have p0 := hc2 0 _ rfl
   simp only [Nat.add_zero, Nat.mul_one] at p0
   simp only at hA2
   have hk1 : (k : Int) < tl.length := by omega
   have hr := use_step (J := J.m) (s := s) hx
   rw [HU.out] at hr
   subst hA2
   clear hc2 hx
   by_cases c1 : x = s
   ·subst c1
    rw [if_pos rfl] at hr
    have HR := Hd hr
    clear hr
    go_wp2_with fail
    refine Calls.named ?_
    intro W4 hW4
    have HF4 := Hd (HF.out.of_eq hW4)
    clear hW4 g0 l0 f0 g1 l1 f1 p0
    have hU : (0 ≤ u.tZ ∧ u.tZ ≤ 1000000) ∧ (0 ≤ u.gates ∧ u.gates ≤ 1000000) ∧ I64 u.sram ∧ I64 u.tcam := ⟨⟨hu1, by omega⟩, ⟨hu2, by omega⟩, ⟨by omega, hu3.2⟩, by omega, hu4.2⟩
    with_reducible refine (zxf J g u k W4 (HF4.out.job HJ.out) (by omega) hU HC.out).mono ?_
    rintro e w5 ⟨rfl, hb⟩
    have HF5 := Hd (HF4.out.call hb)
    clear hb
    obtain ⟨v, hv⟩ : ∃ v, J.m.add u k = v := ⟨_, rfl⟩
    have HRv := Hd (HR.out.trans hv)
    rw [hv]
    clear hv
    obtain ⟨a1, a2, a3, a4, a5, a6, a7⟩ := set4 (HF5.out.blk _ (.head _)).2 (.int .i64 v.tZ) (.int .i64 v.gates) (.int .i64 v.sram) (.int .i64 v.tcam)
    obtain ⟨g0, l0, f0⟩ := HF5.out.at_mem (.head _)
    dsimp only at g0 l0 f0
    have hne : ∀ x ∈ [(N, 71, (#[.int .i64 0, .int .i64 0, .int .i64 0, .int .i64 0] : Array Value))], x.1 ≠ N + 1 := by
     intro x hx
     simp at hx
     rw [hx]
     show N ≠ N + 1
     omega
    have HF9 := Hd ((((HF5.out.set0 hne 0 (.int .i64 v.tZ)).set0 hne 1 (.int .i64 v.gates)).set0 hne 2 (.int .i64 v.sram)).set0 hne 3 (.int .i64 v.tcam))
    clear hne
    go_wp2_with fail
    go_roundw
    case rel => exact ⟨k + 1, by omega, by go_num, by rw [HRv.out]; exact HF9.out⟩
    case measure => simp [intOf]; omega
   ·have c1' : (x == s) = false := by simp [c1]
    rw [if_neg c1] at hr
    have HR := Hd hr
    clear hr
    go_wp2_with fail
    go_roundw
    case rel => exact ⟨k + 1, by omega, by go_num, by rw [HR.out]; exact HF.out⟩
    case measure => simp [intOf]; omega
  ·obtain rfl : k = tl.length := by omega
   have HV := Hd (show J.m.use tl s = u by have := HU.out; rwa [List.take_length] at this)
   obtain ⟨a1, a2, a3, a4, a5, a6, a7⟩ := set4 (HF.out.blk _ (.tail _ (.head _))).2 (.int .i64 u.tZ) (.int .i64 u.gates) (.int .i64 u.sram) (.int .i64 u.tcam)
   have HB9 := Hd ((((HF.out.below.setCell (p := ⟨N, 0, none⟩) (Nat.le_refl _) (.int .i64 u.tZ)).setCell (p := ⟨N, 1, none⟩) (Nat.le_refl _) (.int .i64 u.gates)).setCell (p := ⟨N, 2, none⟩) (Nat.le_refl _) (.int .i64 u.sram)).setCell (p := ⟨N, 3, none⟩) (Nat.le_refl _) (.int .i64 u.tcam))
   clear hlt
   go_wp2_with fail
   refine bodyPost_ret (v := useV u) (by simp [results, Tryz.results22, go_sem, a7]) rfl ⟨by rw [HV.out]; try rfl, HB9.out⟩
open Go.RowKit
structure RowS (W : World) (F : Nat → Prop) (m n h : Nat) (R : Nat → SL Int) : Prop where
 head : Blk W h 29 (rowF n fun k => if k < m then .slice (R k).a (R k).l.length (R k).c else .slice none 0 0)
 rows : ∀ k, k < m → SLP W F 1 intE (R k)
section
variable {W W' : World} {F F' : Nat → Prop} {m n h : Nat} {R : Nat → SL Int}
theorem RowS.below (x : RowS W F m n h R) (hb : Below W.heap.size W W') : RowS W' F m n h R := ⟨x.head.below hb x.head.lt, fun k hk => (x.rows k hk).below hb⟩
theorem RowS.other (x : RowS W F m n h R) {g : Nat} (hg : h ≠ g) (hF : F g) (i : Nat) (v : Value) : RowS (W.setCell ⟨g, i, none⟩ v) F m n h R :=
 ⟨zka x.head hg i v, fun k hk => (x.rows k hk).kept ((KeptF.refl _ _).set hF i v) (Sub.refl _ _)⟩
theorem RowS.row (x : RowS W F m n h R) (hF : F h) (s : SL Int) (hs : SLP W F 1 intE s) :
  RowS (W.setCell ⟨h, m, none⟩ (.slice s.a s.l.length s.c)) F (m + 1) n h (fun k => if k = m then s else R k) := by
 refine ⟨?_, fun k hk => ?_⟩
 ·have := x.head.set_ m (.slice s.a s.l.length s.c)
  rw [zXc] at this
  rw [show (rowF n fun k => if k < m + 1 then Value.slice (if k = m then s else R k).a (if k = m then s else R k).l.length (if k = m then s else R k).c else .slice none 0 0) = rowF n (fun k => if k = m then Value.slice s.a s.l.length s.c else if k < m then .slice (R k).a (R k).l.length (R k).c else .slice none 0 0) from zDa fun k _ => by
   by_cases h1 : k = m
   ·subst h1; simp
   ·by_cases h2 : k < m
    ·simp [h1, h2, show k < m + 1 by omega]
    ·simp [h1, h2, show ¬ k < m + 1 by omega]]
  exact this
 ·have hk2 : KeptF F W (W.setCell ⟨h, m, none⟩ (.slice s.a s.l.length s.c)) := (KeptF.refl _ _).set hF m _
  by_cases h1 : k = m
  ·simp only [h1, if_true]; exact hs.kept hk2 (Sub.refl _ _)
  ·simp only [h1, if_false]; exact (x.rows k (by omega)).kept hk2 (Sub.refl _ _)
theorem RowS.cell (x : RowS W F m n h R) {k : Nat} (hk : k < m) (hn : k < n) : W.cell? ⟨h, k, none⟩ = some (.slice (R k).a (R k).l.length (R k).c) := by
 rw [x.head.cell k, zbb hn, if_pos hk]
theorem RowS.wider (x : RowS W F m n h R) (hF : ∀ k, F' k → F k ∨ W.heap.size ≤ k) : RowS W F' m n h R :=
 ⟨x.head, fun k hk => (x.rows k hk).kept (KeptF.refl _ _) hF⟩
end
def DF (gr gw gd : Nat) (gs : Nat → Nat) (m : Nat) (x : Nat) : Prop := x = gr ∨ x = gw ∨ x = gd ∨ ∃ j, j < m ∧ gs j = x
structure Dep1 (N : Nat) (w : World) (d : PrgD) (ul : List UnitD) (gr gw gd a b c : Nat) (R Wt : Nat → SL Int) (gs : Nat → Nat) (W : World) : Prop where
 rr : RowS W (DF gr gw gd gs c) a ul.length gr R
 rw_ : RowS W (DF gr gw gd gs c) b ul.length gw Wt
 dd : Blk W gd 29 (headF ul.length c ul.length gs)
 mm : Mat W (gd + 1) c ul.length 3 gs (fun _ _ => .int .i64 0)
 ss : ∀ j u, j < a → ul[j]? = some u → zga (R j).l (zhb d u.m)
 st : ∀ j u, j < b → ul[j]? = some u → zga (Wt j).l (zKa d u.m)
 ff : Fr N w W [(N, 31, d.vs)]
 n1 : N < gr
 n2 : gr ≠ gw
 n3 : gr < gd
 n4 : gw < gd
 n5 : N < gw
theorem Fr.other {N : Nat} {w W : World} {L : List (Nat × TypeId × Array Value)} (F : Fr N w W L) {g : Nat} (hN : N ≤ g) (hne : ∀ x ∈ L, x.1 ≠ g) (i : Nat) (v : Value) : Fr N w (W.setCell ⟨g, i, none⟩ v) L :=
 ⟨F.base, F.below.setCell (p := ⟨g, i, none⟩) hN v, fun x hx => ⟨(F.blk x hx).1, zka (F.blk x hx).2 (hne x hx) i v⟩⟩
section
variable {N : Nat} {w W W' : World} {d : PrgD} {ul : List UnitD} {gr gw gd a b c : Nat} {R Wt : Nat → SL Int} {gs : Nat → Nat}
theorem RowS.zero {F : Nat → Prop} {m n h : Nat} (x : RowS W F m n h R) (hm : m < n) : W.cell? ⟨h, m, none⟩ = some (.slice none 0 0) := by
 rw [x.head.cell m, zbb hm, if_neg (by omega)]
theorem Dep1.below (D : Dep1 N w d ul gr gw gd a b c R Wt gs W) (hb : Below W.heap.size W W') : Dep1 N w d ul gr gw gd a b c R Wt gs W' :=
 ⟨D.rr.below hb, D.rw_.below hb, D.dd.below hb D.dd.lt, D.mm.below hb, D.ss, D.st, D.ff.call hb, D.n1, D.n2, D.n3, D.n4, D.n5⟩
theorem Dep1.foot (D : Dep1 N w d ul gr gw gd a b c R Wt gs W) {k : Nat} (h : DF gr gw gd gs c k) : N < k ∧ k < W.heap.size := by
 have h1 := D.n1; have h2 := D.n3; have h3 := D.n4; have h5 := D.n5
 rcases h with rfl | rfl | rfl | ⟨j, hj, rfl⟩
 ·exact ⟨h1, D.rr.head.lt⟩
 ·exact ⟨h5, D.rw_.head.lt⟩
 ·exact ⟨by omega, D.dd.lt⟩
 ·have := D.mm.lo j hj
  exact ⟨by omega, D.mm.lt hj⟩
theorem Dep1.prog_ne {g : Nat} (hg : N < g) : ∀ x ∈ [(N, 31, d.vs)], x.1 ≠ g := by
 intro x hx
 simp at hx
 subst hx
 show N ≠ g
 omega
theorem Dep1.slp (D : Dep1 N w d ul gr gw gd a b c R Wt gs W) {B : Nat} {A : Option Addr} {cc : Nat} {l : List Int} (h : OwnZ W B A cc l) (hB : ∀ k, DF gr gw gd gs c k → k < B) : SLP W (DF gr gw gd gs c) 1 intE ⟨A, cc, l⟩ :=
 SLP.of_own h rfl fun k hk he => by have h1 := hB k hk; have h2 := (Own.lt h k he).1; omega
theorem Dep1.reads (D : Dep1 N w d ul gr gw gd a b c R Wt gs W) {s : SL Int} {u : UnitD} (hs : SLP W (DF gr gw gd gs c) 1 intE s) (hu : ul[a]? = some u) (hm : zga s.l (zhb d u.m)) :
  Dep1 N w d ul gr gw gd (a + 1) b c (fun k => if k = a then s else R k) Wt gs (W.setCell ⟨gr, a, none⟩ (.slice s.a s.l.length s.c)) := by
 have h1 := D.n1; have h2 := D.n3; have h3 := D.n4
 refine ⟨D.rr.row (.inl rfl) s hs, D.rw_.other (Ne.symm D.n2) (.inl rfl) _ _, zka D.dd (by omega) _ _, D.mm.other (fun k hk => by have := D.mm.lo k hk; omega) _ _, fun j x hj hx => ?_, D.st, D.ff.other (by omega) (Dep1.prog_ne h1) _ _, h1, D.n2, h2, h3, D.n5⟩
 by_cases hja : j = a
 ·subst hja
  rw [hu] at hx
  injection hx with hx
  subst hx
  simpa using hm
 ·simp only [if_neg hja]
  exact D.ss j x (by omega) hx
theorem Dep1.writes (D : Dep1 N w d ul gr gw gd a b c R Wt gs W) {s : SL Int} {u : UnitD} (hs : SLP W (DF gr gw gd gs c) 1 intE s) (hu : ul[b]? = some u) (hm : zga s.l (zKa d u.m)) :
  Dep1 N w d ul gr gw gd a (b + 1) c R (fun k => if k = b then s else Wt k) gs (W.setCell ⟨gw, b, none⟩ (.slice s.a s.l.length s.c)) := by
 have h1 := D.n1; have h2 := D.n3; have h3 := D.n4; have h5 := D.n5
 refine ⟨D.rr.other D.n2 (.inr (.inl rfl)) _ _, D.rw_.row (.inr (.inl rfl)) s hs, zka D.dd (by omega) _ _, D.mm.other (fun k hk => by have := D.mm.lo k hk; omega) _ _, D.ss, fun j x hj hx => ?_, D.ff.other (by omega) (Dep1.prog_ne h5) _ _, h1, D.n2, h2, h3, h5⟩
 by_cases hja : j = b
 ·subst hja
  rw [hu] at hx
  injection hx with hx
  subst hx
  simpa using hm
 ·simp only [if_neg hja]
  exact D.st j x (by omega) hx
theorem Dep1.zeros (D : Dep1 N w d ul gr gw gd a b c R Wt gs W) {g : Nat} (hg : W.heap.size = g) :
  Dep1 N w d ul gr gw gd a b (c + 1) R Wt (fun k => if k = c then g else gs k) ((W.alloc (.cells (rowZ ul.length fun _ => 0) 3)).setCell ⟨gd, c, none⟩ (.slice (some ⟨g, 0, none⟩) ul.length ul.length)) := by
 have h1 := D.n1; have h2 := D.n3; have h3 := D.n4; have h5 := D.n5
 have hb : Below W.heap.size W (W.alloc (.cells (rowZ ul.length fun _ => 0) 3)) := (Below.refl _ _).alloc (Nat.le_refl _) _
 have D2 := D.below hb
 have hnew : Blk (W.alloc (.cells (rowZ ul.length fun _ => 0) 3)) g 3 (rowZ ul.length fun _ => 0) := by rw [← hg]; exact Blk.new _ _ _
 have hsub : ∀ k, DF gr gw gd (fun k => if k = c then g else gs k) (c + 1) k → DF gr gw gd gs c k ∨ W.heap.size ≤ k := by
  rintro k (h | h | h | ⟨j, hj, h⟩)
  ·exact .inl (.inl h)
  ·exact .inl (.inr (.inl h))
  ·exact .inl (.inr (.inr (.inl h)))
  ·by_cases hjc : j = c
   ·simp only [if_pos hjc] at h
    exact .inr (by omega)
   ·simp only [if_neg hjc] at h
    exact .inl (.inr (.inr (.inr ⟨j, by omega, h⟩)))
 have hdg : gd < g := by rw [← hg]; exact D.dd.lt
 have hgs : ∀ k, k < c → gs k ≠ g := fun k hk => by have := D.mm.lt hk; omega
 have hw : ∀ {h' : Nat} {a' : Nat} {R' : Nat → SL Int}, RowS W (DF gr gw gd gs c) a' ul.length h' R' → RowS (W.alloc (.cells (rowZ ul.length fun _ => 0) 3)) (DF gr gw gd (fun k => if k = c then g else gs k) (c + 1)) a' ul.length h' R' := fun x => (x.wider hsub).below hb
 refine ⟨(hw D.rr).other (by omega) (.inr (.inr (.inl rfl))) _ _, (hw D.rw_).other (by omega) (.inr (.inr (.inl rfl))) _ _, ?_, ?_, D.ss, D.st, D2.ff.other (by omega) (Dep1.prog_ne (by omega)) _ _, h1, D.n2, h2, h3, h5⟩
 ·have := D2.dd.set_ c (.slice (some ⟨g, 0, none⟩) ul.length ul.length)
  unfold headF at this ⊢
  rw [zXc] at this
  refine Eq.mp (congrArg (Blk _ _ _) (zDa fun k _ => ?_)) this
  dsimp only
  by_cases hk : k = c
  ·subst hk; simp
  ·by_cases hk2 : k < c
   ·simp [hk, hk2, show k < c + 1 by omega]
   ·simp [hk, hk2, show ¬ k < c + 1 by omega]
 ·exact (D2.mm.row (by omega) hgs hnew).other (fun k hk => by
   by_cases hkc : k = c
   ·rw [if_pos hkc]; omega
   ·rw [if_neg hkc]; have := D.mm.lo k (by omega); omega) _ _
end
structure Dep2 (N : Nat) (w : World) (d : PrgD) (n gr gw gd : Nat) (R Wt : Nat → SL Int) (gs : Nat → Nat) (M : Nat → Nat → Int) (W : World) : Prop where
 rr : RowS W (DF gr gw gd gs n) n n gr R
 rw_ : RowS W (DF gr gw gd gs n) n n gw Wt
 dd : Blk W gd 29 (headF n n n gs)
 mm : Mat W (gd + 1) n n 3 gs (fun a b => .int .i64 (M a b))
 ff : Fr N w W [(N, 31, d.vs)]
 n1 : N < gr
 n3 : gr < gd
 n4 : gw < gd
section
variable {N : Nat} {w W W' : World} {d : PrgD} {ul : List UnitD} {n gr gw gd : Nat} {R Wt : Nat → SL Int} {gs : Nat → Nat} {M M' : Nat → Nat → Int}
theorem Dep1.two (D : Dep1 N w d ul gr gw gd ul.length ul.length ul.length R Wt gs W) : Dep2 N w d ul.length gr gw gd R Wt gs (fun _ _ => 0) W := ⟨D.rr, D.rw_, D.dd, D.mm, D.ff, D.n1, D.n3, D.n4⟩
theorem Dep2.below (D : Dep2 N w d n gr gw gd R Wt gs M W) (hb : Below W.heap.size W W') : Dep2 N w d n gr gw gd R Wt gs M W' :=
 ⟨D.rr.below hb, D.rw_.below hb, D.dd.below hb D.dd.lt, D.mm.below hb, D.ff.call hb, D.n1, D.n3, D.n4⟩
theorem Dep2.congr (D : Dep2 N w d n gr gw gd R Wt gs M W) (h : ∀ a b, a < n → b < n → M a b = M' a b) : Dep2 N w d n gr gw gd R Wt gs M' W :=
 ⟨D.rr, D.rw_, D.dd, D.mm.congr fun a b ha hb => by rw [h a b ha hb], D.ff, D.n1, D.n3, D.n4⟩
theorem Dep2.lo (D : Dep2 N w d n gr gw gd R Wt gs M W) {i : Nat} (hi : i < n) : gd < gs i := by have := D.mm.lo i hi; omega
theorem Dep2.set_ (D : Dep2 N w d n gr gw gd R Wt gs M W) {i : Nat} (hi : i < n) (j : Nat) (v : Int) :
  Dep2 N w d n gr gw gd R Wt gs (fun a b => if a = i ∧ b = j then v else M a b) (W.setCell ⟨gs i, j, none⟩ (.int .i64 v)) := by
 have h1 := D.n1; have h2 := D.n3; have h3 := D.n4; have h0 := D.lo hi
 have hF : DF gr gw gd gs n (gs i) := .inr (.inr (.inr ⟨i, hi, rfl⟩))
 refine ⟨D.rr.other (by omega) hF _ _, D.rw_.other (by omega) hF _ _, zka D.dd (by omega) _ _, (D.mm.set_ hi j _).congr fun a b _ _ => ?_, D.ff.other (by omega) (Dep1.prog_ne (by omega)) _ _, h1, h2, h3⟩
 by_cases hab : a = i ∧ b = j
 ·simp [hab]
 ·simp [hab]
theorem Dep2.head (D : Dep2 N w d n gr gw gd R Wt gs M W) {i : Nat} (hi : i < n) : W.cell? ⟨gd, i, none⟩ = some (.slice (some ⟨gs i, 0, none⟩) n n) := by
 rw [D.dd.cell i]; unfold headF; rw [zbb hi, if_pos hi]
end
def depSt (P : Nat → Nat → Int) (i j a b : Nat) : Int := if a < i ∨ (a = i ∧ b < j) then P a b else 0
theorem znd {P : Nat → Nat → Int} {i j a b : Nat} : depSt P i (j + 1) a b = if a = i ∧ b = j then P i j else depSt P i j a b := by
 unfold depSt
 by_cases h : a = i ∧ b = j
 ·rw [if_pos h, if_pos (by omega), h.1, h.2]
 ·rw [if_neg h]
  by_cases h2 : a < i ∨ (a = i ∧ b < j)
  ·rw [if_pos h2, if_pos (by omega)]
  ·rw [if_neg h2, if_neg (by omega)]
theorem zqf {P : Nat → Nat → Int} {i j a b : Nat} (h : P i j = 0) : depSt P i (j + 1) a b = depSt P i j a b := by
 rw [znd]
 by_cases h2 : a = i ∧ b = j
 ·rw [if_pos h2, h]
  unfold depSt
  rw [if_neg (by omega)]
 ·rw [if_neg h2]
theorem zRc {P : Nat → Nat → Int} {n i a b : Nat} (hb : b < n) : depSt P i n a b = depSt P (i + 1) 0 a b := by
 unfold depSt
 by_cases h : a < i ∨ (a = i ∧ b < n)
 ·rw [if_pos h, if_pos (by omega)]
 ·rw [if_neg h, if_neg (by omega)]
theorem depOf_in {d : PrgD} {l : List UnitD} {i j : Nat} {u v : UnitD} (hu : l[i]? = some u) (hv : l[j]? = some v) :
  depOf d (l.map UnitD.m) i j = if j ≤ i then 0 else if exclB (l.map UnitD.m) i j then 0 else if guardsB v.m i || zcc (zhb d v.m) (zKa d u.m) || zcc (zKa d v.m) (zKa d u.m) then 2 else if zcc (zKa d v.m) (zhb d u.m) then 1 else 0 := by
 unfold depOf
 simp only [List.getElem?_map, hu, hv, Option.map_some]
theorem infoRow : (Tryz.prog.info? 29).map (fun i => (i.zero, i.size, i.bytes)) = some (some (.slice none 0 0), 1, 24) := by kernel_rfl
theorem made_rows (n : Nat) : madeCells (Value.slice none 0 0).cells (n * 1) = rowF n fun _ => Value.slice none 0 0 := by
 apply Array.ext
 ·simp [madeCells, rowF]
 ·intro k h1 h2
  simp [madeCells, rowF, Value.cells, Nat.mod_one]
theorem make_rows (n : Nat) (hn : n ≤ 1000000) (w : World) : (Instr.makeSlice 65 (.int .i64 n) (.int .i64 n)).run Tryz.prog w = .ok (.slice (some ⟨w.heap.size, 0, none⟩) n n) (w.alloc (.cells (rowF n fun _ => Value.slice none 0 0) 29)) := by
 obtain ⟨i0, hi, hz0, hz1, hz2⟩ := info_parts infoRow
 have := run_makeSlice (P := Tryz.prog) w 65 29 i0 _ Tryz.underlying65 hi hz0 .i64 .i64 n n (by omega) (Int.le_refl _) (by rw [hz1]; simp; omega) (by rw [hz2]; omega) (by omega)
 rw [hz1, Int.toNat_natCast, made_rows] at this
 exact this
theorem RowS.new {W : World} {F : Nat → Prop} {n h : Nat} {R : Nat → SL Int} (hb : Blk W h 29 (rowF n fun _ => Value.slice none 0 0)) : RowS W F 0 n h R :=
 ⟨by
  rw [show (rowF n fun k => if k < 0 then Value.slice (R k).a (R k).l.length (R k).c else .slice none 0 0) = rowF n (fun _ => Value.slice none 0 0) from zDa fun k _ => if_neg (by omega)]
  exact hb, fun k hk => absurd hk (by omega)⟩
theorem two_rows {N : Nat} {w : World} (hN : w.heap.size = N) (cs R : Array Value) (t t2 : TypeId) :
  Blk (((w.alloc (.cells cs t)).alloc (.cells R t2)).alloc (.cells R t2)).drew (N + 1) t2 R ∧ Blk (((w.alloc (.cells cs t)).alloc (.cells R t2)).alloc (.cells R t2)).drew (N + 1 + 1) t2 R ∧ Fr N w (((w.alloc (.cells cs t)).alloc (.cells R t2)).alloc (.cells R t2)).drew [(N, t, cs)] := by
 subst hN
 have F := ((((Fr.start w).alloc cs t).alloc R t2).alloc R t2).drew
 simp only [World.size_alloc] at F
 exact ⟨(F.blk (_, t2, R) (.tail _ (.head _))).2, (F.blk (_, t2, R) (.head _)).2, F.skip.skip⟩
open Go.RowKit
def reB (D : List (List Int)) (i j : Nat) : Bool := (zLc D i D.length).getD j false
theorem zGf {D : List (List Int)} {i k : Nat} : ∀ (n j : Nat), j ≤ n → k < j → (zLc D i j).getD k false = (zLc D i n).getD k false := by
 intro n
 induction n with
 | zero => intro j h1 h2; omega
 | succ n ih =>
  intro j h1 h2
  by_cases h : j = n + 1
  ·rw [h]
  ·rw [ih j (by omega) h2, zLc, zke (by rw [zMc]; omega)]
theorem outTo_at {D : List (List Int)} {i k : Nat} : ∀ (n j : Nat), j ≤ n → k < j → (outTo D i j).getD k false = (outTo D i n).getD k false := by
 intro n
 induction n with
 | zero => intro j h1 h2; omega
 | succ n ih =>
  intro j h1 h2
  by_cases h : j = n + 1
  ·rw [h]
  ·rw [ih j (by omega) h2, outTo, zke (by rw [zBd]; omega)]
theorem zEd {f g : Nat → Bool} : ∀ (n : Nat), (∀ k, k < n → f k = g k) → (List.range n).any f = (List.range n).any g := by
 intro n
 induction n with
 | zero => intro _; rfl
 | succ n ih =>
  intro h
  rw [List.range_succ, List.any_append, List.any_append, ih (fun k hk => h k (by omega))]
  simp [h n (by omega)]
def rP (D : List (List Int)) (i j k : Nat) : Bool := decide (j = i) || (List.range k).any fun q => decide (kindM D q j ≠ 0) && reB D i q
def oP (D : List (List Int)) (i j k : Nat) : Bool := (List.range k).any fun q => (decide (kindM D q j = 2) && reB D i q) || (decide (kindM D q j = 1) && zCb D i q)
theorem rP_zero {D : List (List Int)} {i j : Nat} : rP D i j 0 = decide (j = i) := by unfold rP; simp
theorem oP_zero {D : List (List Int)} {i j : Nat} : oP D i j 0 = false := by unfold oP; simp
theorem rP_succ {D : List (List Int)} {i j k : Nat} : rP D i j (k + 1) = (rP D i j k || (decide (kindM D k j ≠ 0) && reB D i k)) := by
 unfold rP
 rw [List.range_succ, List.any_append]
 simp [Bool.or_assoc]
theorem oP_succ {D : List (List Int)} {i j k : Nat} : oP D i j (k + 1) = (oP D i j k || ((decide (kindM D k j = 2) && reB D i k) || (decide (kindM D k j = 1) && zCb D i k))) := by
 unfold oP
 rw [List.range_succ, List.any_append]
 simp
theorem rP_end {D : List (List Int)} {i j : Nat} (h : j < D.length) : rP D i j j = reB D i j := by
 unfold reB
 rw [← zGf (D := D) (i := i) (k := j) D.length (j + 1) (by omega) (by omega), zLc, zzd (by rw [zMc])]
 unfold rP
 congr 1
 refine zEd j fun k hk => ?_
 rw [zGf D.length j (by omega) hk]
 rfl
theorem oP_end {D : List (List Int)} {i j : Nat} (h : j < D.length) : oP D i j j = zCb D i j := by
 unfold zCb
 rw [← outTo_at (D := D) (i := i) (k := j) D.length (j + 1) (by omega) (by omega), outTo, zzd (by rw [zBd])]
 unfold oP
 refine zEd j fun k hk => ?_
 rw [zGf D.length j (by omega) hk, outTo_at D.length j (by omega) hk]
 rfl
def rSt (D : List (List Int)) (i j k a b : Nat) : Bool := if a < i ∨ b < j then reB D a b else if b = j then rP D a j k else decide (b = a)
def oSt (D : List (List Int)) (i j k a b : Nat) : Bool := if a < i ∨ b < j then zCb D a b else if b = j then oP D a j k else false
theorem rSt_next {D : List (List Int)} {i j a b : Nat} (h : j < D.length) : rSt D i j j a b = rSt D i (j + 1) 0 a b := by
 unfold rSt
 by_cases h1 : a < i ∨ b < j
 ·rw [if_pos h1, if_pos (by omega)]
 ·rw [if_neg h1]
  by_cases h2 : b = j
  ·rw [if_pos h2, if_pos (by omega), rP_end h, h2]
  ·rw [if_neg h2, if_neg (by omega)]
   by_cases h3 : b = j + 1
   ·rw [if_pos h3, rP_zero, h3]
   ·rw [if_neg h3]
theorem oSt_next {D : List (List Int)} {i j a b : Nat} (h : j < D.length) : oSt D i j j a b = oSt D i (j + 1) 0 a b := by
 unfold oSt
 by_cases h1 : a < i ∨ b < j
 ·rw [if_pos h1, if_pos (by omega)]
 ·rw [if_neg h1]
  by_cases h2 : b = j
  ·rw [if_pos h2, if_pos (by omega), oP_end h, h2]
  ·rw [if_neg h2, if_neg (by omega)]
   by_cases h3 : b = j + 1
   ·rw [if_pos h3, oP_zero]
   ·rw [if_neg h3]
theorem zFf {D : List (List Int)} {i j k a b : Nat} (ha : a ≤ i) {v : Bool} (hv : rP D i j (k + 1) = v) : (if a = i ∧ b = j then v else rSt D i j k a b) = rSt D i j (k + 1) a b := by
 unfold rSt
 by_cases h0 : a = i ∧ b = j
 ·obtain ⟨rfl, rfl⟩ := h0
  rw [if_pos ⟨rfl, rfl⟩, if_neg (by omega), if_pos rfl, hv]
 ·rw [if_neg h0]
  by_cases h1 : a < i ∨ b < j
  ·rw [if_pos h1, if_pos h1]
  ·rw [if_neg h1, if_neg h1, if_neg (by omega), if_neg (by omega)]
theorem zTc {D : List (List Int)} {i j k a b : Nat} (ha : a ≤ i) {v : Bool} (hv : oP D i j (k + 1) = v) : (if a = i ∧ b = j then v else oSt D i j k a b) = oSt D i j (k + 1) a b := by
 unfold oSt
 by_cases h0 : a = i ∧ b = j
 ·obtain ⟨rfl, rfl⟩ := h0
  rw [if_pos ⟨rfl, rfl⟩, if_neg (by omega), if_pos rfl, hv]
 ·rw [if_neg h0]
  by_cases h1 : a < i ∨ b < j
  ·rw [if_pos h1, if_pos h1]
  ·rw [if_neg h1, if_neg h1, if_neg (by omega), if_neg (by omega)]
theorem rSt_same {D : List (List Int)} {i j k a b : Nat} (ha : a ≤ i) (hv : rP D i j (k + 1) = rP D i j k) : rSt D i j k a b = rSt D i j (k + 1) a b := by
 rw [← zFf ha hv]
 unfold rSt
 by_cases h0 : a = i ∧ b = j
 ·obtain ⟨rfl, rfl⟩ := h0
  rw [if_neg (by omega), if_pos rfl, if_pos ⟨rfl, rfl⟩]
 ·rw [if_neg h0]
theorem oSt_same {D : List (List Int)} {i j k a b : Nat} (ha : a ≤ i) (hv : oP D i j (k + 1) = oP D i j k) : oSt D i j k a b = oSt D i j (k + 1) a b := by
 rw [← zTc ha hv]
 unfold oSt
 by_cases h0 : a = i ∧ b = j
 ·obtain ⟨rfl, rfl⟩ := h0
  rw [if_neg (by omega), if_pos rfl, if_pos ⟨rfl, rfl⟩]
 ·rw [if_neg h0]
structure Fol (N : Nat) (w : World) (n gr go lo m : Nat) (g1 g2 : Nat → Nat) (R O : Nat → Nat → Bool) (W : World) : Prop where
 h1 : Blk W gr 158 (headF n m n g1)
 h2 : Blk W go 158 (headF n m n g2)
 m1 : Mat W lo m n 4 g1 (fun a b => .bool (R a b))
 m2 : Mat W lo m n 4 g2 (fun a b => .bool (O a b))
 ne : ∀ a b, a < m → b < m → g1 a ≠ g2 b
 ff : Fr N w W []
 nr : N ≤ gr
 no : N ≤ go
 lr : gr < lo
 ll : go < lo
 ro : gr ≠ go
section
variable {N : Nat} {w W W' : World} {n gr go lo m : Nat} {g1 g2 : Nat → Nat} {R O R' O' : Nat → Nat → Bool}
theorem Fol.below (h : Fol N w n gr go lo m g1 g2 R O W) (hb : Below W.heap.size W W') : Fol N w n gr go lo m g1 g2 R O W' :=
 ⟨h.h1.below hb h.h1.lt, h.h2.below hb h.h2.lt, h.m1.below hb, h.m2.below hb, h.ne, h.ff.call hb, h.nr, h.no, h.lr, h.ll, h.ro⟩
theorem Fol.congr (h : Fol N w n gr go lo m g1 g2 R O W) (hr : ∀ a b, a < m → b < n → R a b = R' a b) (ho : ∀ a b, a < m → b < n → O a b = O' a b) : Fol N w n gr go lo m g1 g2 R' O' W :=
 ⟨h.h1, h.h2, h.m1.congr fun a b ha hb => by rw [hr a b ha hb], h.m2.congr fun a b ha hb => by rw [ho a b ha hb], h.ne, h.ff, h.nr, h.no, h.lr, h.ll, h.ro⟩
theorem Fol.setR (h : Fol N w n gr go lo m g1 g2 R O W) {i : Nat} (hi : i < m) (j : Nat) (v : Bool) :
  Fol N w n gr go lo m g1 g2 (fun a b => if a = i ∧ b = j then v else R a b) O (W.setCell ⟨g1 i, j, none⟩ (.bool v)) := by
 have hl := h.m1.lo i hi
 have := h.lr; have := h.ll; have := h.nr
 refine ⟨zka h.h1 (by omega) _ _, zka h.h2 (by omega) _ _, (h.m1.set_ hi j _).congr fun a b _ _ => ?_, h.m2.other (fun k hk => Ne.symm (h.ne i k hi hk)) _ _, h.ne, h.ff.other (by omega) (fun x hx => absurd hx (by simp)) _ _, h.nr, h.no, h.lr, h.ll, h.ro⟩
 by_cases hab : a = i ∧ b = j
 ·simp [hab]
 ·simp [hab]
theorem Fol.setO (h : Fol N w n gr go lo m g1 g2 R O W) {i : Nat} (hi : i < m) (j : Nat) (v : Bool) :
  Fol N w n gr go lo m g1 g2 R (fun a b => if a = i ∧ b = j then v else O a b) (W.setCell ⟨g2 i, j, none⟩ (.bool v)) := by
 have hl := h.m2.lo i hi
 have := h.lr; have := h.ll; have := h.nr
 refine ⟨zka h.h1 (by omega) _ _, zka h.h2 (by omega) _ _, h.m1.other (fun k hk => h.ne k i hk hi) _ _, (h.m2.set_ hi j _).congr fun a b _ _ => ?_, h.ne, h.ff.other (by omega) (fun x hx => absurd hx (by simp)) _ _, h.nr, h.no, h.lr, h.ll, h.ro⟩
 by_cases hab : a = i ∧ b = j
 ·simp [hab]
 ·simp [hab]
theorem Fol.hr (h : Fol N w n gr go lo m g1 g2 R O W) {i : Nat} (hi : i < m) (hn : i < n) : W.cell? ⟨gr, i, none⟩ = some (.slice (some ⟨g1 i, 0, none⟩) n n) := by
 rw [h.h1.cell i]; unfold headF; rw [zbb hn, if_pos hi]
theorem Fol.ho (h : Fol N w n gr go lo m g1 g2 R O W) {i : Nat} (hi : i < m) (hn : i < n) : W.cell? ⟨go, i, none⟩ = some (.slice (some ⟨g2 i, 0, none⟩) n n) := by
 rw [h.h2.cell i]; unfold headF; rw [zbb hn, if_pos hi]
theorem Fol.zr (h : Fol N w n gr go lo m g1 g2 R O W) (hn : m < n) : W.cell? ⟨gr, m, none⟩ = some (.slice none 0 0) := by
 rw [h.h1.cell m]; unfold headF; rw [zbb hn, if_neg (by omega)]
theorem Fol.zo (h : Fol N w n gr go lo m g1 g2 R O W) (hn : m < n) : W.cell? ⟨go, m, none⟩ = some (.slice none 0 0) := by
 rw [h.h2.cell m]; unfold headF; rw [zbb hn, if_neg (by omega)]
end
theorem headF_row {W : World} {g n m x : Nat} {t : TypeId} {gs : Nat → Nat} (h : Blk W g t (headF n m n gs)) : Blk (W.setCell ⟨g, m, none⟩ (.slice (some ⟨x, 0, none⟩) n n)) g t (headF n (m + 1) n (fun k => if k = m then x else gs k)) := by
 have := h.set_ m (.slice (some ⟨x, 0, none⟩) n n)
 unfold headF at this ⊢
 rw [zXc] at this
 refine Eq.mp (congrArg (Blk _ _ _) (zDa fun k _ => ?_)) this
 dsimp only
 by_cases hk : k = m
 ·subst hk; simp
 ·by_cases hk2 : k < m
  ·simp [hk, hk2, show k < m + 1 by omega]
  ·simp [hk, hk2, show ¬ k < m + 1 by omega]
theorem infoRowB : (Tryz.prog.info? 158).map (fun i => (i.zero, i.size, i.bytes)) = some (some (.slice none 0 0), 1, 24) := by kernel_rfl
theorem make_rowsB (n : Nat) (hn : n ≤ 1000000) (w : World) : (Instr.makeSlice 156 (.int .i64 n) (.int .i64 n)).run Tryz.prog w = .ok (.slice (some ⟨w.heap.size, 0, none⟩) n n) (w.alloc (.cells (rowF n fun _ => Value.slice none 0 0) 158)) := by
 obtain ⟨i0, hi, hz0, hz1, hz2⟩ := info_parts infoRowB
 have := run_makeSlice (P := Tryz.prog) w 156 158 i0 _ Tryz.underlying156 hi hz0 .i64 .i64 n n (by omega) (Int.le_refl _) (by rw [hz1]; simp; omega) (by rw [hz2]; omega) (by omega)
 rw [hz1, Int.toNat_natCast, made_rows] at this
 exact this
abbrev rowB (n : Nat) (f : Nat → Bool) : Array Value := rowF n fun k => .bool (f k)
theorem made_bools (n : Nat) : madeCells (Value.bool false).cells (n * 1) = rowB n (fun _ => false) := by
 apply Array.ext
 ·simp [madeCells, rowF]
 ·intro k h1 h2
  simp [madeCells, rowF, Value.cells, Nat.mod_one]
theorem infoBool : (Tryz.prog.info? 4).map (fun i => (i.zero, i.size, i.bytes)) = some (some (.bool false), 1, 1) := by kernel_rfl
theorem make_bools (n : Nat) (hn : n ≤ 1000000) (w : World) : (Instr.makeSlice 158 (.int .i64 n) (.int .i64 n)).run Tryz.prog w = .ok (.slice (some ⟨w.heap.size, 0, none⟩) n n) (w.alloc (.cells (rowB n fun _ => false) 4)) := by
 obtain ⟨i0, hi, hz0, hz1, hz2⟩ := info_parts infoBool
 have := run_makeSlice (P := Tryz.prog) w 158 4 i0 _ Tryz.underlying158 hi hz0 .i64 .i64 n n (by omega) (Int.le_refl _) (by rw [hz1]; simp; omega) (by rw [hz2]; omega) (by omega)
 rw [hz1, Int.toNat_natCast, made_bools] at this
 exact this
theorem two_heads {N : Nat} {w : World} (hN : w.heap.size = N) (n : Nat) (t2 : TypeId) : ∃ W, W = (((w.alloc (.cells (rowF n fun _ => Value.slice none 0 0) t2)).alloc (.cells (rowF n fun _ => Value.slice none 0 0) t2))).drew ∧
  Blk W N t2 (headF n 0 n fun _ => 0) ∧ Blk W (N + 1) t2 (headF n 0 n fun _ => 0) ∧ Fr N w W [] ∧ N + 2 ≤ W.heap.size := by
 subst hN
 refine ⟨_, rfl, ?_⟩
 have F := (((Fr.start w).alloc (rowF n fun _ => Value.slice none 0 0) t2).alloc (rowF n fun _ => Value.slice none 0 0) t2).drew
 simp only [World.size_alloc] at F
 have e : (headF n 0 n fun _ => 0) = rowF n fun _ => Value.slice none 0 0 := zDa fun k _ => if_neg (by omega)
 rw [e]
 have h1 := (F.blk (_, t2, _) (.head _)).2
 exact ⟨(F.blk (_, t2, _) (.tail _ (.head _))).2, h1, F.skip.skip, h1.lt⟩
theorem Fol.rows {N : Nat} {w W : World} {n gr go lo m : Nat} {g1 g2 : Nat → Nat} {R O : Nat → Nat → Bool} (h : Fol N w n gr go lo m g1 g2 R O W) {x y : Nat} (hx : W.heap.size ≤ x) (hy : W.heap.size ≤ y) (hxy : x ≠ y) {W' : World}
  (hb : Below W.heap.size ((W.setCell ⟨gr, m, none⟩ (.slice (some ⟨x, 0, none⟩) n n)).setCell ⟨go, m, none⟩ (.slice (some ⟨y, 0, none⟩) n n)) W') (bx : Blk W' x 4 (rowB n fun _ => false)) (by_ : Blk W' y 4 (rowB n fun _ => false)) (hlo : lo ≤ W.heap.size) :
  Fol N w n gr go lo (m + 1) (fun k => if k = m then x else g1 k) (fun k => if k = m then y else g2 k) (fun a b => if a = m then false else R a b) (fun a b => if a = m then false else O a b) W' ∧ lo ≤ W'.heap.size := by
 have lr := h.lr; have ll := h.ll; have nr := h.nr; have no := h.no; have ro := h.ro
 have b1 : ∀ k, k < m → g1 k < W.heap.size := fun k hk => h.m1.lt hk
 have b2 : ∀ k, k < m → g2 k < W.heap.size := fun k hk => h.m2.lt hk
 have l1 := h.m1.lo
 have l2 := h.m2.lo
 obtain ⟨W1, hW1⟩ : ∃ z, (W.setCell ⟨gr, m, none⟩ (.slice (some ⟨x, 0, none⟩) n n)).setCell ⟨go, m, none⟩ (.slice (some ⟨y, 0, none⟩) n n) = z := ⟨_, rfl⟩
 have hsz : W1.heap.size = W.heap.size := by rw [← hW1]; simp [World.setCell]
 rw [hW1] at hb
 have k1 : Blk W1 gr 158 (headF n (m + 1) n (fun k => if k = m then x else g1 k)) := by rw [← hW1]; exact zka (headF_row h.h1) ro _ _
 have k2 : Blk W1 go 158 (headF n (m + 1) n (fun k => if k = m then y else g2 k)) := by rw [← hW1]; exact headF_row (zka h.h2 (Ne.symm ro) _ _)
 have q1 : Mat W1 lo m n 4 g1 (fun a b => .bool (R a b)) := by rw [← hW1]; exact (h.m1.other (fun k hk => by have := l1 k hk; omega) _ _).other (fun k hk => by have := l1 k hk; omega) _ _
 have q2 : Mat W1 lo m n 4 g2 (fun a b => .bool (O a b)) := by rw [← hW1]; exact (h.m2.other (fun k hk => by have := l2 k hk; omega) _ _).other (fun k hk => by have := l2 k hk; omega) _ _
 have hff : Fr N w W1 [] := by rw [← hW1]; exact (h.ff.other (by omega) (fun x hx => absurd hx (by simp)) _ _).other (by omega) (fun x hx => absurd hx (by simp)) _ _
 have hb' : Below W1.heap.size W1 W' := by rw [hsz]; exact hb
 refine ⟨⟨k1.below hb' k1.lt, k2.below hb' k2.lt, ?_, ?_, ?_, hff.call hb', nr, no, lr, ll, ro⟩, by have := hb'.size; omega⟩
 ·exact ((q1.below hb').congr (M' := fun a b => .bool (if a = m then false else R a b)) fun a b ha _ => by rw [if_neg (by omega)]).row (by omega) (fun k hk => by have := b1 k hk; omega) (show Blk W' x 4 (rowF n ((fun a b => Value.bool (if a = m then false else R a b)) m)) by simpa using bx)
 ·exact ((q2.below hb').congr (M' := fun a b => .bool (if a = m then false else O a b)) fun a b ha _ => by rw [if_neg (by omega)]).row (by omega) (fun k hk => by have := b2 k hk; omega) (show Blk W' y 4 (rowF n ((fun a b => Value.bool (if a = m then false else O a b)) m)) by simpa using by_)
 ·intro a b ha hb2
  by_cases h1 : a = m <;> by_cases h2 : b = m
  ·simp only [h1, h2, if_true]; exact hxy
  ·simp only [h1, h2, if_true, if_false]; have := b2 b (by omega); omega
  ·simp only [h1, h2, if_true, if_false]; have := b1 a (by omega); omega
  ·simp only [h1, h2, if_false]; exact h.ne a b (by omega) (by omega)
theorem two_news (W : World) (R : Array Value) (t : TypeId) {M : Nat} (hM : W.heap.size = M) : ∃ W', W' = ((W.alloc (.cells R t)).alloc (.cells R t)).drew ∧ Below M W W' ∧ Blk W' M t R ∧ Blk W' (M + 1) t R := by
 subst hM
 have hb1 : Below W.heap.size W (W.alloc (.cells R t)) := (Below.refl _ _).alloc (Nat.le_refl _) _
 have hb2 : Below (W.alloc (.cells R t)).heap.size (W.alloc (.cells R t)) ((W.alloc (.cells R t)).alloc (.cells R t)).drew := ((Below.refl _ _).alloc (Nat.le_refl _) _).drew
 have n1 := Blk.new W t R
 have n2 := Blk.new (W.alloc (.cells R t)) t R
 rw [World.size_alloc] at n2
 exact ⟨_, rfl, hb1.trans (hb2.mono (by simp [World.size_alloc])), n1.below hb2 n1.lt, n2⟩
end Go.Proofs.YtakgiamhdpgoeaaGreat
