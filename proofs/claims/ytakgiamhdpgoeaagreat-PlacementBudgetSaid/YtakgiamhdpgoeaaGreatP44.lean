/- Lemmas. -/
import Derived.Test.YtakgiamhdpgoeaaGreatP34
import Derived.Test.YtakgiamhdpgoeaaGreatP43
import Derived.Test.YtakgiamhdpgoeaaGreatP42
set_option linter.unusedSimpArgs false
namespace Go.Proofs.YtakgiamhdpgoeaaGreat
open Go.RowKit
set_option linter.unusedVariables false
theorem unitsOf_length {d : PrgD} (hC : PrgC d) : (zed d).length = (zda d.cZ.l).length := by
 unfold zed
 rw [if_pos hC.cc]
 exact zrb _ _ _
theorem nodsU_cond : ∀ (n : Nat) (l : List NodD) (gs : List (Int × Bool)) (i : Nat), (zda l).length < n → ∀ u ∈ nodsU l gs i, u.cond = [] ∨ ∃ x ∈ zda l, x.kind = 2 ∧ u.cond = x.cond.l := by
 intro n
 induction n with
 | zero => intro l gs i h; omega
 | succ n ih =>
  intro l gs i h u hu
  cases l with
  | nil => rw [nodsU] at hu; cases hu
  | cons x l =>
   have h0 : zda (x :: l) = x :: (zda x.thn.l ++ zda x.els.l) ++ zda l := by rw [zda, zjc]
   rw [h0] at h ⊢
   simp only [List.length_append, List.length_cons] at h
   rw [nodsU, nodU_eq] at hu
   simp only [List.mem_append, List.mem_cons] at hu ⊢
   rcases hu with (hu | hu | hu) | hu
   ·subst hu
    by_cases hk : x.kind = 2
    ·exact .inr ⟨x, .inl (.inl rfl), hk, by simp only [if_pos hk]⟩
    ·exact .inl (by simp only [if_neg hk])
   ·rcases ih _ _ _ (by omega) u hu with h1 | ⟨y, hy, h1⟩
    ·exact .inl h1
    ·exact .inr ⟨y, .inl (.inr (.inl hy)), h1⟩
   ·rcases ih _ _ _ (by omega) u hu with h1 | ⟨y, hy, h1⟩
    ·exact .inl h1
    ·exact .inr ⟨y, .inl (.inr (.inr hy)), h1⟩
   ·rcases ih _ _ _ (by omega) u hu with h1 | ⟨y, hy, h1⟩
    ·exact .inl h1
    ·exact .inr ⟨y, .inr hy, h1⟩
theorem unitsOf_cond {d : PrgD} (hB : PrgB d) {u : UnitM} (hu : u ∈ zed d) : u.cond.length ≤ 1000 := by
 unfold zed at hu
 split at hu
 ·rcases nodsU_cond _ _ _ _ (Nat.lt_succ_self _) u hu with h | ⟨x, hx, hk, h⟩
  ·rw [h]; simp
  ·rw [h]; exact hB.c x hx hk
 ·cases hu
theorem zje {n k : Int} (h0 : 0 ≤ n) (h1 : n ≤ 1000000000) (hk : 1 ≤ k ∧ k ≤ 4096) : 0 ≤ zIb n k ∧ zIb n k ≤ 1000004096 := by
 unfold zIb
 refine ⟨Int.ediv_nonneg (by omega) (by omega), ?_⟩
 have := Int.ediv_le_self (a := n + k - 1) k (by omega)
 omega
theorem tblCost_bd {d : PrgD} (h0 : (zUa d).1 = 0) (i : Int) : (0 ≤ (zPb d i).1 ∧ (zPb d i).1 ≤ 1000004096) ∧ 0 ≤ (zPb d i).2 ∧ (zPb d i).2 ≤ 1000004096 := by
 have hC := prgC_of h0
 unfold zPb
 rw [if_pos h0]
 cases ht : tblOf d i with
 | none => simp
 | some t =>
  simp only
  obtain ⟨hsz0, hsz1⟩ := tblOf_size hC ht
  obtain ⟨hbb0, hbb1⟩ := tblBits_bd hC ht
  obtain ⟨hab0, hab1⟩ := zaf (zte hC) t.aZ.l 0 (by omega)
  rw [← zZe d t] at hab0 hab1
  generalize zce d i = tb at *
  generalize zYe d t = ab at *
  generalize t.size = sz at *
  have hm1 : 0 ≤ sz * (tb + (8 + ab)) ∧ sz * (tb + (8 + ab)) ≤ 256 * 1006008 := ⟨Int.mul_nonneg (by omega) (by omega), Int.mul_le_mul hsz1 (by omega) (by omega) (by omega)⟩
  have hm2 : 0 ≤ sz * (8 + ab) ∧ sz * (8 + ab) ≤ 256 * 1000008 := ⟨Int.mul_nonneg (by omega) (by omega), Int.mul_le_mul hsz1 (by omega) (by omega) (by omega)⟩
  have hm3 : 0 ≤ sz * tb ∧ sz * tb ≤ 256 * 6000 := ⟨Int.mul_nonneg (by omega) (by omega), Int.mul_le_mul hsz1 (by omega) (by omega) (by omega)⟩
  split
  ·simp
  ·split
   ·exact ⟨zje hm1.1 (by omega) (by omega), by simp⟩
   ·exact ⟨zje hm2.1 (by omega) (by omega), zje hm3.1 (by omega) (by omega)⟩
theorem unitCost_bd {d : PrgD} (h0 : (zUa d).1 = 0) (u : UnitM) : (0 ≤ (ztb d u).1 ∧ (ztb d u).1 ≤ 1000004096) ∧ 0 ≤ (ztb d u).2 ∧ (ztb d u).2 ≤ 1000004096 := by
 unfold ztb
 split
 ·simp
 ·exact tblCost_bd h0 _
theorem unitCost_I64 {d : PrgD} (h0 : (zUa d).1 = 0) (u : UnitM) : I64 (ztb d u).1 ∧ I64 (ztb d u).2 := by
 have := unitCost_bd h0 u
 unfold I64
 omega
def UsR (d : PrgD) (u : World) (B : Nat) (us : SL UnitD) : Prop := SLR u B 3 UnitD.enc (UnitD.ok u B) us ∧ us.l.map UnitD.m = zed d
theorem UsR.below {d : PrgD} {u u' : World} {B : Nat} {us : SL UnitD} (h : UsR d u B us) (hb : Below B u u') : UsR d u' B us := ⟨(SLR.below h.1 hb).imp fun x hx => hx.below hb, h.2⟩
theorem UsR.more {d : PrgD} {u : World} {B B' : Nat} {us : SL UnitD} (h : UsR d u B us) (hB : B ≤ B') : UsR d u B' us := ⟨(SLR.more h.1 hB).imp fun x hx => hx.more hB, h.2⟩
def lal (p : Value → World → Prop) : LFact := fun _ v u => p v u
theorem zKd {p : Value → World → Prop} (h : zkb p) : ∀ (j : Nat) (v : Value) (u u' : World), Below u.heap.size u u' → lal p j v u → lal p j v u' := fun _ v u u' hb hp => h v u u' hb hp
def pUnits (d : PrgD) (v : Value) (u : World) : Prop := ∃ us : SL UnitD, v = .slice us.a us.l.length us.c ∧ UsR d u u.heap.size us
theorem pUnits_st {d : PrgD} : zkb (pUnits d) := fun v u u' hb ⟨us, e, h⟩ => ⟨us, e, (h.below hb).more hb.size⟩
abbrev jobCells (c : ChipD) (us : SL UnitD) (cv dv : Value) : Array Value := #[.int .i64 c.stages, .int .i64 c.tZ, .int .i64 c.gates, .int .i64 c.sram, .int .i64 c.tcam, .int .i64 c.c8, .int .i64 c.c16, .int .i64 c.c32, .slice us.a us.l.length us.c, cv, dv]
def pJobV (d : PrgD) (c : ChipD) (v : Value) (u : World) : Prop := ∃ us : SL UnitD, v = .agg (jobCells c us (.slice none 0 0) (.slice none 0 0)) ∧ UsR d u u.heap.size us
theorem pJobV_st {d : PrgD} {c : ChipD} : zkb (pJobV d c) := fun v u u' hb ⟨us, e, h⟩ => ⟨us, e, (h.below hb).more hb.size⟩
def pJobP (d : PrgD) (c : ChipD) (M : Nat) (v : Value) (u : World) : Prop := ∃ (g : Nat) (us : SL UnitD), v = .pointer (some ⟨g, 0, none⟩) ∧ M ≤ g ∧ Blk u g 67 (jobCells c us (.slice none 0 0) (.slice none 0 0)) ∧ UsR d u g us
theorem pJobP_st {d : PrgD} {c : ChipD} {M : Nat} : zkb (pJobP d c M) := fun v u u' hb ⟨g, us, e, hM, hB, h⟩ => ⟨g, us, e, hM, hB.below hb hB.lt, h.below (hb.mono (Nat.le_of_lt hB.lt))⟩
structure JobS (N : Nat) (w : World) (d : PrgD) (c : ChipD) (us : SL UnitD) (g gd : Nat) (gs : Nat → Nat) (Mc : Nat) (cv : Value) (u : World) : Prop where
 blk : Blk u g 67 (jobCells c us cv (.slice (some ⟨gd, 0, none⟩) us.l.length us.l.length))
 uu : UsR d u g us
 dd : Blk u gd 29 (headF us.l.length us.l.length us.l.length gs)
 mm : Mat u (gd + 1) us.l.length us.l.length 3 gs (fun a b => .int .i64 (depOf d (us.l.map UnitD.m) a b))
 ff : Fr N w u [(N + 1, 33, #[.int .i64 c.stages, .int .i64 c.tZ, .int .i64 c.gates, .int .i64 c.sram, .int .i64 c.tcam, .int .i64 c.c8, .int .i64 c.c16, .int .i64 c.c32]), (N, 31, d.vs)]
 n1 : N + 1 < g
 n2 : g < gd
 n3 : gd < Mc
 n4 : ∀ k, k < us.l.length → gs k < Mc
section
variable {N : Nat} {w u u' : World} {d : PrgD} {c : ChipD} {us : SL UnitD} {g gd Mc : Nat} {gs : Nat → Nat} {cv cv' : Value}
theorem JobS.kept {F : Nat → Prop} (h : JobS N w d c us g gd gs Mc cv u) (hk : KeptF F u u') (hF : ∀ k, F k → Mc ≤ k) : JobS N w d c us g gd gs Mc cv u' := by
 have h1 := h.n1; have h2 := h.n2; have h3 := h.n3
 have hbl : ∀ {x : Nat} {t : TypeId} {cs : Array Value}, Blk u x t cs → x < Mc → Blk u' x t cs := fun hx hlt => hk.blk hx fun hf => by have := hF _ hf; omega
 have hb : ∀ B, B ≤ Mc → B ≤ u.heap.size → Below B u u' := fun B hB hB2 => hk.below (fun k hf => Nat.le_trans hB (hF k hf)) hB2
 refine ⟨hbl h.blk (by omega), h.uu.below (hb g (by omega) (Nat.le_of_lt h.blk.lt)), hbl h.dd h3, ⟨h.mm.lo, fun k hk' => hbl (h.mm.blk k hk') (h.n4 k hk'), h.mm.inj⟩, ?_, h1, h2, h3, h.n4⟩
 refine ⟨h.ff.base, h.ff.below.trans (hb N (by omega) (by have := h.blk.lt; omega)), fun x hx => ⟨(h.ff.blk x hx).1, hbl (h.ff.blk x hx).2 ?_⟩⟩
 simp only [List.mem_cons, List.not_mem_nil, or_false] at hx
 rcases hx with rfl | rfl
 ·show N + 1 < Mc; omega
 ·show N < Mc; omega
theorem JobS.below (h : JobS N w d c us g gd gs Mc cv u) (hb : Below u.heap.size u u') : JobS N w d c us g gd gs Mc cv u' := h.kept (F := fun _ => False) (KeptF.of_below hb) (fun _ hf => hf.elim)
theorem JobS.set9 (h : JobS N w d c us g gd gs Mc cv u) (cv' : Value) : JobS N w d c us g gd gs Mc cv' (u.setCell ⟨g, 9, none⟩ cv') := by
 have h1 := h.n1; have h2 := h.n2; have h3 := h.n3
 refine ⟨h.blk.set_ 9 cv', h.uu.below ((Below.refl _ _).setCell (p := ⟨g, 9, none⟩) (Nat.le_refl _) _), zka h.dd (by omega) _ _, h.mm.other (fun k hk => by have := h.mm.lo k hk; omega) _ _, h.ff.other (by omega) ?_ _ _, h1, h2, h3, h.n4⟩
 intro x hx
 simp only [List.mem_cons, List.not_mem_nil, or_false] at hx
 rcases hx with rfl | rfl
 ·show N + 1 ≠ g; omega
 ·show N ≠ g; omega
end
def pDeps (d : PrgD) (us : SL UnitD) (M : Nat) (v : Value) (u : World) : Prop := ∃ (gd : Nat) (gs : Nat → Nat), v = .slice (some ⟨gd, 0, none⟩) us.l.length us.l.length ∧ M ≤ gd ∧ Blk u gd 29 (headF us.l.length us.l.length us.l.length gs) ∧ Mat u (gd + 1) us.l.length us.l.length 3 gs (fun a b => .int .i64 (depOf d (us.l.map UnitD.m) a b))
theorem pDeps_st {d : PrgD} {us : SL UnitD} {M : Nat} : zkb (pDeps d us M) := fun v u u' hb ⟨gd, gs, e, hM, hB, h⟩ => ⟨gd, gs, e, hM, hB.below hb hB.lt, h.below hb⟩
def pRowR (Mc : Nat) (old : Option Nat) (M : Nat) (L : List (Int × Int)) (v : Value) (u : World) : Prop := ∃ A c, v = .slice A L.length c ∧ OwnR u Mc A c L ∧ (ownB A = old ∨ ∀ k, ownB A = some k → M ≤ k)
theorem pRowR_st {Mc : Nat} {old : Option Nat} {M : Nat} {L : List (Int × Int)} : zkb (pRowR Mc old M L) := fun v u u' hb ⟨A, c, e, ho, h3⟩ => ⟨A, c, e, Own.below ho hb, h3⟩
def JobT (N : Nat) (w : World) (d : PrgD) (c : ChipD) (us : SL UnitD) (g gd : Nat) (gs : Nat → Nat) (Mc : Nat) (L : List (Int × Int)) (u : World) : Prop := ∃ A2 c2, JobS N w d c us g gd gs Mc (.slice A2 L.length c2) u ∧ OwnR u Mc A2 c2 L ∧ Mc ≤ u.heap.size
set_option maxRecDepth 100000 in
set_option maxHeartbeats 8000000 in
theorem newJob_any (d : PrgD) (c : ChipD) (w : World) (hR : PrgR w w.heap.size d) (h0 : (zUa d).1 = 0) (hz : zra d = zUa d) :
  Calls Tryz.prog 18 #[PrgD.v d, chipV c] w fun e w' => (∃ (g : Nat) (J : JobD), e = .returned (.pointer (some ⟨g, 0, none⟩)) ∧ JobR w' w'.heap.size g J ∧ J.m = jobOf d c ∧ J.us.l.length ≤ 1000 ∧ (∀ x ∈ J.cs.l, I64 x.1 ∧ I64 x.2)) ∧ Below w.heap.size w w' := by
 have hC := prgC_of h0
 have hB := prgB_of hC
 obtain ⟨N, hN⟩ : ∃ N, w.heap.size = N := ⟨_, rfl⟩
 rw [hN] at hR ⊢
 have F0 := Fr.start w
 rw [hN] at F0
 have HF0 := Hd F0
 have HR := Hd hR
 have HC := Hd hC
 have HB := Hd hB
 have H0 := Hd h0
 have HZ := Hd hz
 clear hR F0 hC hB h0 hz
 unfold PrgD.v PrgD.vs chipV
 go_enter Tryz.func18, Tryz.ntmps18
 go_upto_region 1 with (fail)
 refine zfa ?_
 intro W1 hW1
 have F1 := ((HF0.out.alloc _ _).alloc _ _).of_eq hW1
 simp only [World.size_alloc, hN] at F1 ⊢
 have HF1 := Hd (show Fr N w W1 [(N + 1, 33, #[.int .i64 c.stages, .int .i64 c.tZ, .int .i64 c.gates, .int .i64 c.sram, .int .i64 c.tcam, .int .i64 c.c8, .int .i64 c.c16, .int .i64 c.c32]), (N, 31, d.vs)] from F1)
 obtain ⟨M, hM⟩ : ∃ z, W1.heap.size = z := ⟨_, rfl⟩
 have hNM : N + 1 < M := by rw [← hM]; exact HF1.out.lt (.head _)
 have g0 : ∀ i, W1.cell? ⟨N, i, none⟩ = _ := fun i => HF1.out.cell (.tail _ (.head _)) i
 have g1 : ∀ i, W1.cell? ⟨N + 1, i, none⟩ = _ := fun i => HF1.out.cell (.head _) i
 have HP := Hd (show ∀ v, Below M W1 v → PrgR v v.heap.size d from fun v hb => (HF1.out.prg HR.out |>.below (by rw [hM]; exact hb)).more (by have := hb.size; omega))
 clear F1 hW1
 have hstab : zba ([leq (.agg #[.int .i64 c.stages, .int .i64 c.tZ, .int .i64 c.gates, .int .i64 c.sram, .int .i64 c.tcam, .int .i64 c.c8, .int .i64 c.c16, .int .i64 c.c32]), leq (.agg #[.string d.name, .slice d.hZ.a d.hZ.l.length d.hZ.c, .slice d.mZ.a d.mZ.l.length d.mZ.c, .slice d.rZ.a d.rZ.l.length d.rZ.c, .slice d.aZ.a d.aZ.l.length d.aZ.c, .slice d.tZ.a d.tZ.l.length d.tZ.c, .slice d.sZ.a d.sZ.l.length d.sZ.c, .slice d.cZ.a d.cZ.l.length d.cZ.c, .slice d.dep.a d.dep.l.length d.dep.c]), lal (pUnits d), lal (pJobV d c), lal (pJobP d c M), lal (pJobP d c M)]) := zba.cons_ (zea _) (zba.cons_ (zea _) (zba.cons_ (zKd pUnits_st) (zba.cons_ (zKd pJobV_st) (zba.cons_ (zKd pJobP_st) (zba.cons_ (zKd pJobP_st) (zba.nil_))))))
 have Hq9 := Hd (show ∀ i j, List.contains (Chain.effs ⟨[], [(0, 0), (0, 0), (0, 0), (0, 0), (0, 0), (0, 0)]⟩) i = false → Chain.next ⟨[], [(0, 0), (0, 0), (0, 0), (0, 0), (0, 0), (0, 0)]⟩ i j = j from fun i j h => zya h)
 refine zja ⟨[], [(0, 0), (0, 0), (0, 0), (0, 0), (0, 0), (0, 0)]⟩ (fun (_ : Nat) u => Below M W1 u) ([leq (.agg #[.int .i64 c.stages, .int .i64 c.tZ, .int .i64 c.gates, .int .i64 c.sram, .int .i64 c.tcam, .int .i64 c.c8, .int .i64 c.c16, .int .i64 c.c32]), leq (.agg #[.string d.name, .slice d.hZ.a d.hZ.l.length d.hZ.c, .slice d.mZ.a d.mZ.l.length d.mZ.c, .slice d.rZ.a d.rZ.l.length d.rZ.c, .slice d.aZ.a d.aZ.l.length d.aZ.c, .slice d.tZ.a d.tZ.l.length d.tZ.c, .slice d.sZ.a d.sZ.l.length d.sZ.c, .slice d.cZ.a d.cZ.l.length d.cZ.c, .slice d.dep.a d.dep.l.length d.dep.c]), lal (pUnits d), lal (pJobV d c), lal (pJobP d c M), lal (pJobP d c M)]) (by kernel_rfl) (by kernel_rfl) (by kernel_rfl) (by kernel_rfl) ?_ ?_ ?_
 ·exact (by rw [← hM]; exact (Below.refl _ _).drew)
 ·show zQb _ _ _ _ _ _ 0 _
  refine ⟨?_, ?_, ?_, ?_, ?_, ?_, trivial⟩
  ·intro j hj ρ y u hS hc hf hg hfree hdep
   obtain rfl := jz hj rfl
   rw [Hq9.out _ 0 rfl]
   have e3 : ρ (.tmp 3) = .pointer (some ⟨N + 1, 0, none⟩) := hfree 3 rfl
   refine ⟨fun _ => ?_, zaa rfl⟩
   clear hdep hfree hj
   have d0 : ∀ i, u.cell? ⟨N + 1, i, none⟩ = _ := fun i => (hS.cell (p := ⟨N + 1, i, none⟩) hNM).trans (g1 i)
   go_simp
   exact ⟨rfl, hS, KL hstab⟩
  ·intro j hj ρ y u hS hc hf hg hfree hdep
   obtain rfl := jz hj rfl
   rw [Hq9.out _ 0 rfl]
   have e2 : ρ (.tmp 2) = .pointer (some ⟨N, 0, none⟩) := hfree 2 rfl
   refine ⟨fun _ => ?_, zaa rfl⟩
   clear hdep hfree hj
   have d0 : ∀ i, u.cell? ⟨N, i, none⟩ = _ := fun i => (hS.cell (p := ⟨N, i, none⟩) (by show N < M; omega)).trans (g0 i)
   go_simp
   exact ⟨rfl, hS, KL hstab⟩
  ·intro j hj ρ y u hS hc hf hg hfree hdep
   obtain rfl := jz hj rfl
   rw [Hq9.out _ 0 rfl]
   have e9 : ρ (.tmp 9) = _ := (hdep 1 _ 9 rfl rfl rfl).1
   refine ⟨fun _ => ?_, zaa rfl⟩
   clear hdep hfree hj
   have hS0 : Below M W1 u := hS
   have hMu : M ≤ u.heap.size := by have := hS0.size; omega
   have hcon := build_any d u (HP.out u hS0) HC.out
   unfold PrgD.v PrgD.vs at hcon
   go_simp
   refine zha hcon ?_
   rintro e w' ⟨⟨us, rfl, h1, h2⟩, hb3⟩
   exact ⟨_, rfl, ⟨us, rfl, h1, h2⟩, hS0.trans (hb3.mono hMu), KeepL.below hb3 _ _ 0 hstab⟩
  ·intro j hj ρ y u hS hc hf hg hfree hdep
   obtain rfl := jz hj rfl
   rw [Hq9.out _ 0 rfl]
   have e8 : ρ (.tmp 8) = _ := (hdep 0 _ 8 rfl rfl rfl).1
   have r10 := (hdep 2 _ 10 rfl rfl rfl).1
   refine ⟨fun _ => ?_, zaa rfl⟩
   clear hdep hfree hj
   obtain ⟨us, e10, h1⟩ := r10
   go_simp
   exact ⟨⟨us, rfl, h1⟩, hS, KL hstab⟩
  ·intro j hj ρ y u hS hc hf hg hfree hdep
   obtain rfl := jz hj rfl
   rw [Hq9.out _ 0 rfl]
   have r11 := (hdep 3 _ 11 rfl rfl rfl).1
   refine ⟨fun _ => ?_, zaa rfl⟩
   clear hdep hfree hj
   have hS0 : Below M W1 u := hS
   have hMu : M ≤ u.heap.size := by have := hS0.size; omega
   obtain ⟨us, e11, h1⟩ := r11
   unfold jobCells at e11
   go_simp
   exact ⟨⟨u.heap.size, us, rfl, hMu, Blk.new _ _ _, h1.below ((Below.refl _ _).alloc (Nat.le_refl _) _)⟩, hS0.alloc hMu _, KeepL.below ((Below.refl _ _).alloc (Nat.le_refl _) _) _ _ 0 hstab⟩
  ·intro j hj ρ y u hS hc hf hg hfree hdep
   obtain rfl := jz hj rfl
   rw [Hq9.out _ 0 rfl]
   have r12 := (hdep 4 _ 12 rfl rfl rfl).1
   refine ⟨fun _ => ?_, zaa rfl⟩
   clear hdep hfree hj
   go_simp
   exact ⟨r12, hS, KL hstab⟩
 intro u hS
 rintro _ rfl _ rfl _ r_10 _ r_11 _ r_12 _ r_5
 simp only [zxb, Act.put, List.setIfInBounds_toArray, List.set_cons_zero, List.set_cons_succ]
 clear r_10 r_11 r_12 hstab
 obtain ⟨g, us, rfl, hgM, hbk, hus⟩ := r_5
 obtain ⟨W2, hW2⟩ : ∃ z, u = z := ⟨_, rfl⟩
 have hS2 : Below M W1 u := hS
 rw [hW2] at hS2 hbk hus ⊢
 have HF2 := Hd (HF1.out.call (by rw [hM]; exact hS2))
 have HBk := Hd hbk
 have HUs := Hd hus
 obtain ⟨M2, hM2⟩ : ∃ z, W2.heap.size = z := ⟨_, rfl⟩
 have hgM2 : g < M2 := by rw [← hM2]; exact hbk.lt
 have b0 : ∀ i, W2.cell? ⟨g, i, none⟩ = _ := fun i => HBk.out.cell i
 have g2 : ∀ i, W2.cell? ⟨N, i, none⟩ = _ := fun i => HF2.out.cell (.tail _ (.head _)) i
 have hul : us.l.length ≤ 1000 := by
  have := congrArg List.length HUs.out.2
  rw [List.length_map, unitsOf_length HC.out] at this
  have := HB.out.n
  omega
 have HP2 := Hd (show ∀ v, Below M2 W2 v → PrgR v v.heap.size d from fun v hb => (HF2.out.prg HR.out |>.below (by rw [hM2]; exact hb)).more (by have := hb.size; omega))
 clear HP g0 g1 hS hS2 hW2 hbk hus
 go_upto_region 2 with (fail)
 have hstab : zba ([leq (.pointer (some ⟨g, 0, none⟩)), leq (.agg #[.string d.name, .slice d.hZ.a d.hZ.l.length d.hZ.c, .slice d.mZ.a d.mZ.l.length d.mZ.c, .slice d.rZ.a d.rZ.l.length d.rZ.c, .slice d.aZ.a d.aZ.l.length d.aZ.c, .slice d.tZ.a d.tZ.l.length d.tZ.c, .slice d.sZ.a d.sZ.l.length d.sZ.c, .slice d.cZ.a d.cZ.l.length d.cZ.c, .slice d.dep.a d.dep.l.length d.dep.c]), leq (.pointer (some ⟨g, 0, none⟩)), leq (.pointer (some ⟨g, 0, none⟩)), leq (.pointer (some ⟨g, 8, none⟩)), leq (.slice us.a us.l.length us.c), lat 0 (pDeps d us M2), leq (.pointer (some ⟨g, 0, none⟩)), leq (.pointer (some ⟨g, 10, none⟩)), lany]) := zba.cons_ (zea _) (zba.cons_ (zea _) (zba.cons_ (zea _) (zba.cons_ (zea _) (zba.cons_ (zea _) (zba.cons_ (zea _) (zba.cons_ (zic pDeps_st) (zba.cons_ (zea _) (zba.cons_ (zea _) (zba.cons_ zfc (zba.nil_))))))))))
 have Hq9 := Hd (show ∀ i j, List.contains (Chain.effs ⟨[9], [(0, 0), (0, 0), (0, 0), (0, 0), (0, 0), (0, 0), (0, 0), (0, 0), (0, 0), (0, 0)]⟩) i = false → Chain.next ⟨[9], [(0, 0), (0, 0), (0, 0), (0, 0), (0, 0), (0, 0), (0, 0), (0, 0), (0, 0), (0, 0)]⟩ i j = j from fun i j h => zya h)
 refine zja ⟨[9], [(0, 0), (0, 0), (0, 0), (0, 0), (0, 0), (0, 0), (0, 0), (0, 0), (0, 0), (0, 0)]⟩ (sj (fun u => Below M2 W2 u) (fun u => ∃ gd gs, JobS N w d c us g gd gs u.heap.size (.slice none 0 0) u)) ([leq (.pointer (some ⟨g, 0, none⟩)), leq (.agg #[.string d.name, .slice d.hZ.a d.hZ.l.length d.hZ.c, .slice d.mZ.a d.mZ.l.length d.mZ.c, .slice d.rZ.a d.rZ.l.length d.rZ.c, .slice d.aZ.a d.aZ.l.length d.aZ.c, .slice d.tZ.a d.tZ.l.length d.tZ.c, .slice d.sZ.a d.sZ.l.length d.sZ.c, .slice d.cZ.a d.cZ.l.length d.cZ.c, .slice d.dep.a d.dep.l.length d.dep.c]), leq (.pointer (some ⟨g, 0, none⟩)), leq (.pointer (some ⟨g, 0, none⟩)), leq (.pointer (some ⟨g, 8, none⟩)), leq (.slice us.a us.l.length us.c), lat 0 (pDeps d us M2), leq (.pointer (some ⟨g, 0, none⟩)), leq (.pointer (some ⟨g, 10, none⟩)), lany]) (by kernel_rfl) (by kernel_rfl) (by kernel_rfl) (by kernel_rfl) ?_ ?_ ?_
 ·exact sj0 (by rw [← hM2]; exact (Below.refl _ _).drew)
 ·show zQb _ _ _ _ _ _ 0 _
  refine ⟨?_, ?_, ?_, ?_, ?_, ?_, ?_, ?_, ?_, ?_, trivial⟩
  ·intro j hj ρ y u hS hc hf hg hfree hdep
   obtain rfl := jz hj rfl
   rw [Hq9.out _ 0 rfl]
   have e5 : ρ (.tmp 5) = .pointer (some ⟨g, 0, none⟩) := hfree 5 rfl
   refine ⟨fun _ => ?_, zaa rfl⟩
   clear hdep hfree hj
   go_simp
   exact ⟨rfl, hS, KL hstab⟩
  ·intro j hj ρ y u hS hc hf hg hfree hdep
   obtain rfl := jz hj rfl
   rw [Hq9.out _ 0 rfl]
   have e2 : ρ (.tmp 2) = .pointer (some ⟨N, 0, none⟩) := hfree 2 rfl
   refine ⟨fun _ => ?_, zaa rfl⟩
   clear hdep hfree hj
   have d0 : ∀ i, u.cell? ⟨N, i, none⟩ = _ := fun i => ((hS.1 rfl).cell (p := ⟨N, i, none⟩) (by show N < M2; omega)).trans (g2 i)
   go_simp
   exact ⟨rfl, hS, KL hstab⟩
  ·intro j hj ρ y u hS hc hf hg hfree hdep
   obtain rfl := jz hj rfl
   rw [Hq9.out _ 0 rfl]
   have e5 : ρ (.tmp 5) = .pointer (some ⟨g, 0, none⟩) := hfree 5 rfl
   refine ⟨fun _ => ?_, zaa rfl⟩
   clear hdep hfree hj
   go_simp
   exact ⟨rfl, hS, KL hstab⟩
  ·intro j hj ρ y u hS hc hf hg hfree hdep
   obtain rfl := jz hj rfl
   rw [Hq9.out _ 0 rfl]
   have e15 : ρ (.tmp 15) = _ := (hdep 2 _ 15 rfl rfl rfl).1
   refine ⟨fun _ => ?_, zaa rfl⟩
   clear hdep hfree hj
   go_simp
   exact ⟨rfl, hS, KL hstab⟩
  ·intro j hj ρ y u hS hc hf hg hfree hdep
   obtain rfl := jz hj rfl
   rw [Hq9.out _ 0 rfl]
   have e16 : ρ (.tmp 16) = _ := (hdep 3 _ 16 rfl rfl rfl).1
   refine ⟨fun _ => ?_, zaa rfl⟩
   clear hdep hfree hj
   go_simp
   exact ⟨rfl, hS, KL hstab⟩
  ·intro j hj ρ y u hS hc hf hg hfree hdep
   obtain rfl := jz hj rfl
   rw [Hq9.out _ 0 rfl]
   have e17 : ρ (.tmp 17) = _ := (hdep 4 _ 17 rfl rfl rfl).1
   refine ⟨fun _ => ?_, zaa rfl⟩
   clear hdep hfree hj
   have d0 : ∀ i, u.cell? ⟨g, i, none⟩ = _ := fun i => ((hS.1 rfl).cell (p := ⟨g, i, none⟩) hgM2).trans (b0 i)
   go_simp
   exact ⟨rfl, hS, KL hstab⟩
  ·intro j hj ρ y u hS hc hf hg hfree hdep
   obtain rfl := jz hj rfl
   rw [Hq9.out _ 0 rfl]
   have e14 : ρ (.tmp 14) = _ := (hdep 1 _ 14 rfl rfl rfl).1
   have e18 : ρ (.tmp 18) = _ := (hdep 5 _ 18 rfl rfl rfl).1
   refine ⟨fun _ => ?_, zaa rfl⟩
   clear hdep hfree hj
   have hS0 := hS.1 rfl
   have hMu : M2 ≤ u.heap.size := by have := hS0.size; omega
   have hcon := depsBuild_any d us u (HP2.out u hS0) ((HUs.out.below (hS0.mono (by omega))).more (by omega)).1 hul (fun x hx => unitsOf_cond HB.out (u := x.m) (by rw [← HUs.out.2]; exact List.mem_map_of_mem hx)) HB.out HC.out
   unfold PrgD.v PrgD.vs at hcon
   go_simp
   refine zha hcon ?_
   rintro e w' ⟨⟨gd, gs, rfl, h1, h2, h3⟩, hb3⟩
   exact ⟨_, rfl, (fun _ => ⟨gd, gs, rfl, by omega, h2, h3⟩), sj0 (hS0.trans (hb3.mono hMu)), KeepL.below hb3 _ _ 0 hstab⟩
  ·intro j hj ρ y u hS hc hf hg hfree hdep
   obtain rfl := jz hj rfl
   rw [Hq9.out _ 0 rfl]
   have e13 : ρ (.tmp 13) = _ := (hdep 0 _ 13 rfl rfl rfl).1
   refine ⟨fun _ => ?_, zaa rfl⟩
   clear hdep hfree hj
   go_simp
   exact ⟨rfl, hS, KL hstab⟩
  ·intro j hj ρ y u hS hc hf hg hfree hdep
   obtain rfl := jz hj rfl
   rw [Hq9.out _ 0 rfl]
   have e20 : ρ (.tmp 20) = _ := (hdep 7 _ 20 rfl rfl rfl).1
   refine ⟨fun _ => ?_, zaa rfl⟩
   clear hdep hfree hj
   go_simp
   exact ⟨rfl, hS, KL hstab⟩
  ·intro j hj ρ y u hS hc hf hg hfree hdep
   obtain rfl := jz hj rfl
   rw [show Chain.next ⟨[9], [(0, 0), (0, 0), (0, 0), (0, 0), (0, 0), (0, 0), (0, 0), (0, 0), (0, 0), (0, 0)]⟩ 9 0 = 1 from rfl]
   have r19 := (hdep 6 _ 19 rfl rfl rfl).1
   have e21 : ρ (.tmp 21) = _ := (hdep 8 _ 21 rfl rfl rfl).1
   refine ⟨fun _ => ?_, zaa rfl⟩
   clear hdep hfree hj
   have hS0 := hS.1 rfl
   obtain ⟨gd, gs, e19', h1, h2, h3⟩ := r19 rfl
   have hbx := HBk.out.below hS0 hgM2
   have d0 : ∀ i, u.cell? ⟨g, i, none⟩ = _ := fun i => hbx.cell i
   have d1 : ∀ i, u.frozen? ⟨g, i, none⟩ = false := fun i => hbx.frozen i
   have d2 := hbx.lt
   have hgg : g < gd := by omega
   have hJ : JobS N w d c us g gd gs (u.setCell ⟨g, 10, none⟩ (.slice (some ⟨gd, 0, none⟩) us.l.length us.l.length)).heap.size (.slice none 0 0) (u.setCell ⟨g, 10, none⟩ (.slice (some ⟨gd, 0, none⟩) us.l.length us.l.length)) := by
    have hF := HF2.out.call (by rw [hM2]; exact hS0)
    have hsz : (u.setCell ⟨g, 10, none⟩ (.slice (some ⟨gd, 0, none⟩) us.l.length us.l.length)).heap.size = u.heap.size := by simp [World.setCell]
    refine ⟨hbx.set_ 10 _, (HUs.out.below (hS0.mono (by omega))).below ((Below.refl _ _).setCell (p := ⟨g, 10, none⟩) (Nat.le_refl _) _), zka h2 (by omega) _ _, h3.other (fun k hk => by have := h3.lo k hk; omega) _ _, hF.other (by omega) ?_ _ _, by omega, hgg, by rw [hsz]; exact h2.lt, fun k hk => by rw [hsz]; exact h3.lt hk⟩
    intro x hx
    simp only [List.mem_cons, List.not_mem_nil, or_false] at hx
    rcases hx with rfl | rfl
    ·show N + 1 ≠ g; omega
    ·show N ≠ g; omega
   go_simp
   exact ⟨trivial, sj1 ⟨gd, gs, hJ⟩, ⟨.inr (.inr (fun h => h)), .inr (.inr (fun h => h)), .inr (.inr (fun h => h)), .inr (.inr (fun h => h)), .inr (.inr (fun h => h)), .inr (.inr (fun h => h)), .inr (.inr (fun _ => zbc (by omega))), .inr (.inr (fun h => h)), .inr (.inr (fun h => h)), trivial, trivial⟩⟩
 intro u hS
 rintro _ rfl _ rfl _ rfl _ rfl _ rfl _ rfl _ r_19 _ rfl _ rfl
 simp only [zxb, Act.put, List.setIfInBounds_toArray, List.set_cons_zero, List.set_cons_succ]
 obtain ⟨gd, gs, hJ⟩ := hS.2 rfl
 obtain ⟨W3, hW3⟩ : ∃ z, u = z := ⟨_, rfl⟩
 rw [hW3] at hJ ⊢
 obtain ⟨Mc, hMc⟩ : ∃ z, W3.heap.size = z := ⟨_, rfl⟩
 rw [hMc] at hJ
 have HJ0 := Hd hJ
 have b3 : ∀ i, W3.cell? ⟨g, i, none⟩ = _ := fun i => HJ0.out.blk.cell i
 have HOw := Hd (show OwnR W3 Mc none 0 [] from Own.none_ _ _ _ _)
 clear hS hW3 hJ hstab r_19 b0 g2 HBk HP2 HUs HF2 HF1
 obtain ⟨ua, uc, ul⟩ := us
 simp only at hul HJ0 b3 ⊢
 go_wp2_with fail
 go_loopw [27] (fun i wr => ∃ (k : Nat) (A : Option Addr) (cc : Nat) (cl : List (Int × Int)), k ≤ ul.length ∧ i = .int .i64 k ∧ cl = (ul.take k).map (fun x => ztb d x.m) ∧ JobS N w d c ⟨ua, uc, ul⟩ g gd gs Mc (.slice A cl.length cc) wr ∧ OwnR wr Mc A cc cl ∧ Mc ≤ wr.heap.size) (fun i _ => ul.length - (intOf i).toNat)
 case atStart => exact ⟨0, none, 0, [], Nat.zero_le _, rfl, rfl, HJ0.out, HOw.out, by omega⟩
 case round =>
  obtain ⟨k, A, cc, cl, hk, rfl, hcl, hJ, hO, hMw⟩ := hrel
  have HJ := Hd hJ
  have HO := Hd hO
  have HCl := Hd hcl
  have HCll := Hd (show cl.length = k by rw [hcl, List.length_map, List.length_take]; omega)
  have hcl9 : cl.length ≤ 1000 := by have := HCll.out; omega
  clear hJ hO hcl
  by_cases hlt : k < ul.length
  ·obtain ⟨b2, off2, x, hA2, hb2, hx, hxok, hc2⟩ := HJ.out.uu.1.at_ ztd (by omega) hlt
   have p0 := hc2 0 _ rfl
   have p1 := hc2 1 _ rfl
   have p2 := hc2 2 _ rfl
   simp only [Nat.add_zero] at p0
   simp only at hA2
   have hk1 : (k : Int) < ul.length := by omega
   have HX := Hd hx
   subst hA2
   clear hc2 hx hxok
   go_upto_region 6 with (fail)
   refine zfa ?_
   intro W4 hW4
   obtain ⟨M0, hM0⟩ : ∃ z, wr.heap.size = z := ⟨_, rfl⟩
   have hbW : Below wr.heap.size wr W4 := by rw [hW4]; exact (Below.refl _ _).alloc (Nat.le_refl _) _
   have HJ4 := Hd (HJ.out.below hbW)
   have HO4 := Hd (Own.below HO.out hbW)
   have HBx := Hd (show Blk W4 M0 109 #[.int .i64 x.table, .slice x.cond.a x.cond.l.length x.cond.c, .slice x.guards.a x.guards.l.length x.guards.c] by rw [hW4, ← hM0]; exact Blk.new _ _ _)
   simp only [hM0] at hMw ⊢
   obtain ⟨M4, hM4⟩ : ∃ z, W4.heap.size = z := ⟨_, rfl⟩
   have hM04 : M0 < M4 := by rw [← hM4]; exact HBx.out.lt
   have hgMc : g < Mc := by have := HJ4.out.n2; have := HJ4.out.n3; omega
   have hNg : N + 1 < g := HJ4.out.n1
   have q0 : ∀ i, W4.cell? ⟨N, i, none⟩ = _ := fun i => HJ4.out.ff.cell (.tail _ (.head _)) i
   have q1 : ∀ i, W4.cell? ⟨M0, i, none⟩ = _ := fun i => HBx.out.cell i
   have q2 : ∀ i, W4.cell? ⟨g, i, none⟩ = _ := fun i => HJ4.out.blk.cell i
   have HP4 := Hd (show ∀ v, Below M4 W4 v → PrgR v v.heap.size d from fun v hb => (HJ4.out.ff.prg HR.out |>.below (by rw [hM4]; exact hb)).more (by have := hb.size; omega))
   obtain ⟨⟨ca, cb⟩, hcab⟩ : ∃ z, ztb d x.m = z := ⟨_, rfl⟩
   have HCab := Hd hcab
   clear hW4 hbW p0 p1 p2 hM0 b3 hcab
   have hstab : zba ([leq (.pointer (some ⟨g, 0, none⟩)), leq (.pointer (some ⟨g, 0, none⟩)), leq (.pointer (some ⟨g, 0, none⟩)), leq (.pointer (some ⟨g, 9, none⟩)), leq (.slice A cl.length cc), leq (.agg #[.string d.name, .slice d.hZ.a d.hZ.l.length d.hZ.c, .slice d.mZ.a d.mZ.l.length d.mZ.c, .slice d.rZ.a d.rZ.l.length d.rZ.c, .slice d.aZ.a d.aZ.l.length d.aZ.c, .slice d.tZ.a d.tZ.l.length d.tZ.c, .slice d.sZ.a d.sZ.l.length d.sZ.c, .slice d.cZ.a d.cZ.l.length d.cZ.c, .slice d.dep.a d.dep.l.length d.dep.c]), leq (.agg #[.int .i64 x.table, .slice x.cond.a x.cond.l.length x.cond.c, .slice x.guards.a x.guards.l.length x.guards.c]), leq (.agg #[.int .i64 ca, .int .i64 cb]), lat 0 (pLit M4 69 1 #[.int .i64 ca, .int .i64 cb]), lat 1 (pRowR Mc (ownB A) M4 (cl ++ [(ca, cb)])), leq (.pointer (some ⟨g, 0, none⟩)), leq (.pointer (some ⟨g, 9, none⟩)), lany]) := zba.cons_ (zea _) (zba.cons_ (zea _) (zba.cons_ (zea _) (zba.cons_ (zea _) (zba.cons_ (zea _) (zba.cons_ (zea _) (zba.cons_ (zea _) (zba.cons_ (zea _) (zba.cons_ (zic zYd) (zba.cons_ (zic pRowR_st) (zba.cons_ (zea _) (zba.cons_ (zea _) (zba.cons_ zfc (zba.nil_)))))))))))))
   have Hq9 := Hd (show ∀ i j, List.contains (Chain.effs ⟨[9, 12], [(0, 1), (0, 0), (0, 0), (0, 0), (0, 0), (0, 0), (0, 0), (0, 0), (0, 0), (0, 0), (1, 1), (1, 1), (1, 1)]⟩) i = false → Chain.next ⟨[9, 12], [(0, 1), (0, 0), (0, 0), (0, 0), (0, 0), (0, 0), (0, 0), (0, 0), (0, 0), (0, 0), (1, 1), (1, 1), (1, 1)]⟩ i j = j from fun i j h => zya h)
   refine zja ⟨[9, 12], [(0, 1), (0, 0), (0, 0), (0, 0), (0, 0), (0, 0), (0, 0), (0, 0), (0, 0), (0, 0), (1, 1), (1, 1), (1, 1)]⟩ (sj3 (fun u => Below M4 W4 u) (fun u => KeptF (fun k => ownB A = some k) W4 u) (fun u => JobT N w d c ⟨some ⟨b2, off2, none⟩, uc, ul⟩ g gd gs Mc (cl ++ [(ca, cb)]) u)) ([leq (.pointer (some ⟨g, 0, none⟩)), leq (.pointer (some ⟨g, 0, none⟩)), leq (.pointer (some ⟨g, 0, none⟩)), leq (.pointer (some ⟨g, 9, none⟩)), leq (.slice A cl.length cc), leq (.agg #[.string d.name, .slice d.hZ.a d.hZ.l.length d.hZ.c, .slice d.mZ.a d.mZ.l.length d.mZ.c, .slice d.rZ.a d.rZ.l.length d.rZ.c, .slice d.aZ.a d.aZ.l.length d.aZ.c, .slice d.tZ.a d.tZ.l.length d.tZ.c, .slice d.sZ.a d.sZ.l.length d.sZ.c, .slice d.cZ.a d.cZ.l.length d.cZ.c, .slice d.dep.a d.dep.l.length d.dep.c]), leq (.agg #[.int .i64 x.table, .slice x.cond.a x.cond.l.length x.cond.c, .slice x.guards.a x.guards.l.length x.guards.c]), leq (.agg #[.int .i64 ca, .int .i64 cb]), lat 0 (pLit M4 69 1 #[.int .i64 ca, .int .i64 cb]), lat 1 (pRowR Mc (ownB A) M4 (cl ++ [(ca, cb)])), leq (.pointer (some ⟨g, 0, none⟩)), leq (.pointer (some ⟨g, 9, none⟩)), lany]) (by kernel_rfl) (by kernel_rfl) (by kernel_rfl) (by kernel_rfl) ?_ ?_ ?_
   ·exact sj3_0 (by rw [← hM4]; exact (Below.refl _ _).drew)
   ·show zQb _ _ _ _ _ _ 0 _
    refine ⟨?_, ?_, ?_, ?_, ?_, ?_, ?_, ?_, ?_, ?_, ?_, ?_, ?_, trivial⟩
    ·intro j hj ρ y u hS hc hf hg hfree hdep
     obtain ⟨hj0, hj1⟩ := hj _ rfl
     dsimp only at hj0 hj1
     rw [Hq9.out _ j rfl]
     have e5 : ρ (.tmp 5) = .pointer (some ⟨g, 0, none⟩) := hfree 5 rfl
     refine ⟨fun _ => ?_, zaa rfl⟩
     clear hdep hfree hj
     go_simp
     exact ⟨rfl, hS, KL hstab⟩
    ·intro j hj ρ y u hS hc hf hg hfree hdep
     obtain rfl := jz hj rfl
     rw [Hq9.out _ 0 rfl]
     have e5 : ρ (.tmp 5) = .pointer (some ⟨g, 0, none⟩) := hfree 5 rfl
     refine ⟨fun _ => ?_, zaa rfl⟩
     clear hdep hfree hj
     go_simp
     exact ⟨rfl, hS, KL hstab⟩
    ·intro j hj ρ y u hS hc hf hg hfree hdep
     obtain rfl := jz hj rfl
     rw [Hq9.out _ 0 rfl]
     have e32 : ρ (.tmp 32) = _ := (hdep 1 _ 32 rfl rfl rfl).1
     refine ⟨fun _ => ?_, zaa rfl⟩
     clear hdep hfree hj
     go_simp
     exact ⟨rfl, hS, KL hstab⟩
    ·intro j hj ρ y u hS hc hf hg hfree hdep
     obtain rfl := jz hj rfl
     rw [Hq9.out _ 0 rfl]
     have e33 : ρ (.tmp 33) = _ := (hdep 2 _ 33 rfl rfl rfl).1
     refine ⟨fun _ => ?_, zaa rfl⟩
     clear hdep hfree hj
     go_simp
     exact ⟨rfl, hS, KL hstab⟩
    ·intro j hj ρ y u hS hc hf hg hfree hdep
     obtain rfl := jz hj rfl
     rw [Hq9.out _ 0 rfl]
     have e34 : ρ (.tmp 34) = _ := (hdep 3 _ 34 rfl rfl rfl).1
     refine ⟨fun _ => ?_, zaa rfl⟩
     clear hdep hfree hj
     have d0 : ∀ i, u.cell? ⟨g, i, none⟩ = _ := fun i => ((hS.1 rfl).cell (p := ⟨g, i, none⟩) (by show g < M4; omega)).trans (q2 i)
     go_simp
     exact ⟨rfl, hS, KL hstab⟩
    ·intro j hj ρ y u hS hc hf hg hfree hdep
     obtain rfl := jz hj rfl
     rw [Hq9.out _ 0 rfl]
     have e2 : ρ (.tmp 2) = .pointer (some ⟨N, 0, none⟩) := hfree 2 rfl
     refine ⟨fun _ => ?_, zaa rfl⟩
     clear hdep hfree hj
     have d0 : ∀ i, u.cell? ⟨N, i, none⟩ = _ := fun i => ((hS.1 rfl).cell (p := ⟨N, i, none⟩) (by show N < M4; omega)).trans (q0 i)
     go_simp
     exact ⟨rfl, hS, KL hstab⟩
    ·intro j hj ρ y u hS hc hf hg hfree hdep
     obtain rfl := jz hj rfl
     rw [Hq9.out _ 0 rfl]
     have e7 : ρ (.tmp 7) = .pointer (some ⟨M0, 0, none⟩) := hfree 7 rfl
     refine ⟨fun _ => ?_, zaa rfl⟩
     clear hdep hfree hj
     have d0 : ∀ i, u.cell? ⟨M0, i, none⟩ = _ := fun i => ((hS.1 rfl).cell (p := ⟨M0, i, none⟩) hM04).trans (q1 i)
     go_simp
     exact ⟨rfl, hS, KL hstab⟩
    ·intro j hj ρ y u hS hc hf hg hfree hdep
     obtain rfl := jz hj rfl
     rw [Hq9.out _ 0 rfl]
     have e36 : ρ (.tmp 36) = _ := (hdep 5 _ 36 rfl rfl rfl).1
     have e37 : ρ (.tmp 37) = _ := (hdep 6 _ 37 rfl rfl rfl).1
     refine ⟨fun _ => ?_, zaa rfl⟩
     clear hdep hfree hj
     have hS0 := hS.1 rfl
     have hMu : M4 ≤ u.heap.size := by have := hS0.size; omega
     have hcon := unitCost_any d x u (HP4.out u hS0) H0.out HZ.out
     rw [HCab.out] at hcon
     unfold PrgD.v PrgD.vs unitV at hcon
     go_simp
     refine zha hcon ?_
     rintro e w' ⟨rfl, hb3⟩
     exact ⟨_, rfl, rfl, sj3_0 (hS0.trans (hb3.mono hMu)), KeepL.below hb3 _ _ 0 hstab⟩
    ·intro j hj ρ y u hS hc hf hg hfree hdep
     obtain rfl := jz hj rfl
     rw [Hq9.out _ 0 rfl]
     have e38 : ρ (.tmp 38) = _ := (hdep 7 _ 38 rfl rfl rfl).1
     refine ⟨fun _ => ?_, zaa rfl⟩
     clear hdep hfree hj
     have hS0 := hS.1 rfl
     have hMu : M4 ≤ u.heap.size := by have := hS0.size; omega
     go_simp
     exact ⟨(fun _ => ⟨u.heap.size, rfl, hMu, Blk.new _ _ _⟩), sj3_0 (hS0.alloc hMu _), KeepL.below ((Below.refl _ _).alloc (Nat.le_refl _) _) _ _ 0 hstab⟩
    ·intro j hj ρ y u hS hc hf hg hfree hdep
     obtain rfl := jz hj rfl
     rw [show Chain.next ⟨[9, 12], [(0, 1), (0, 0), (0, 0), (0, 0), (0, 0), (0, 0), (0, 0), (0, 0), (0, 0), (0, 0), (1, 1), (1, 1), (1, 1)]⟩ 9 0 = 1 from rfl]
     have e35 : ρ (.tmp 35) = _ := (hdep 4 _ 35 rfl rfl rfl).1
     have r39 := (hdep 8 _ 39 rfl rfl rfl).1
     refine ⟨fun _ => ?_, zaa rfl⟩
     clear hdep hfree hj
     have hS0 := hS.1 rfl
     have hMu : M4 ≤ u.heap.size := by have := hS0.size; omega
     have hSx : Below W4.heap.size W4 u := by rw [hM4]; exact hS0
     obtain ⟨gl, e39', hgl, hBl⟩ := r39 rfl
     have hsr : SLR u u.heap.size 2 frE (fun _ => True) ⟨some ⟨gl, 0, none⟩, 1, [(ca, cb)]⟩ := zoa hBl hBl.lt [(ca, cb)] rfl zab (by simp [maxLen]) (fun _ _ => trivial)
     refine zwd (.tmp 35) (.tmp 39) rfl Mc A cl.length cc cl rfl e35 (Own.below HO4.out hSx) _ _ 1 1 [(ca, cb)] rfl e39' hsr.rd (by omega) (by omega) ?_
     intro A2 c2 w2 hO2 hG2 hA2
     have hbA : ownB A2 = ownB A ∨ ∀ k, ownB A2 = some k → M4 ≤ k := hA2.imp id fun h k hk => by rw [h] at hk; injection hk with hk; omega
     refine ⟨fun _ => ⟨A2, c2, by rw [List.length_append]; rfl, hO2, hbA⟩, sj3_1 ((KeptF.of_below hSx).step_grown hG2 fun k hk => hk), ⟨.inr (.inr (fun h => h)), .inr (.inr (fun h => h)), .inr (.inr (fun h => h)), .inr (.inr (fun h => h)), .inr (.inr (fun h => h)), .inr (.inr (fun h => h)), .inr (.inr (fun h => h)), .inr (.inr (fun h => h)), .inr (.inr (fun _ => zbc (by omega))), .inl rfl, .inr (.inl (by kernel_rfl)), .inr (.inl (by kernel_rfl)), trivial, trivial⟩⟩
    ·intro j hj ρ y u hS hc hf hg hfree hdep
     obtain rfl := jz hj rfl
     rw [Hq9.out _ 1 rfl]
     have e31 : ρ (.tmp 31) = _ := (hdep 0 _ 31 rfl rfl rfl).1
     refine ⟨fun _ => ?_, zaa rfl⟩
     clear hdep hfree hj
     go_simp
     exact ⟨rfl, hS, KL hstab⟩
    ·intro j hj ρ y u hS hc hf hg hfree hdep
     obtain rfl := jz hj rfl
     rw [Hq9.out _ 1 rfl]
     have e41 : ρ (.tmp 41) = _ := (hdep 10 _ 41 rfl rfl rfl).1
     refine ⟨fun _ => ?_, zaa rfl⟩
     clear hdep hfree hj
     go_simp
     exact ⟨rfl, hS, KL hstab⟩
    ·intro j hj ρ y u hS hc hf hg hfree hdep
     obtain rfl := jz hj rfl
     rw [show Chain.next ⟨[9, 12], [(0, 1), (0, 0), (0, 0), (0, 0), (0, 0), (0, 0), (0, 0), (0, 0), (0, 0), (0, 0), (1, 1), (1, 1), (1, 1)]⟩ 12 1 = 2 from rfl]
     have r40 := (hdep 9 _ 40 rfl rfl rfl).1
     have e42 : ρ (.tmp 42) = _ := (hdep 11 _ 42 rfl rfl rfl).1
     refine ⟨fun _ => ?_, zaa rfl⟩
     clear hdep hfree hj
     have hS1 := hS.2.1 rfl
     obtain ⟨A2, c2, e40', hO2, hb2⟩ := r40 rfl
     have hJ1 := HJ4.out.kept hS1 (fun k hk => (Own.lt HO4.out k hk).1)
     have hJ2 := hJ1.set9 (.slice A2 (cl ++ [(ca, cb)]).length c2)
     have hO3 : OwnR (u.setCell ⟨g, 9, none⟩ (.slice A2 (cl ++ [(ca, cb)]).length c2)) Mc A2 c2 (cl ++ [(ca, cb)]) := Own.grown hO2 (zHa (zpb _ _) _ _) (by
      cases hA : ownB A2 with
      | none => exact .inl rfl
      | some q => exact .inr fun e => by injection e with e; have := (Own.lt hO2 q hA).1; omega)
     have hsz : Mc ≤ (u.setCell ⟨g, 9, none⟩ (.slice A2 (cl ++ [(ca, cb)]).length c2)).heap.size := by have := hS1.size; simp [World.setCell]; omega
     obtain ⟨nl, hnl⟩ : ∃ z, (cl ++ [(ca, cb)]).length = z := ⟨_, rfl⟩
     have HNl := Hd hnl
     rw [hnl] at hJ2 hO3 hsz e40'
     clear hnl
     obtain ⟨d0, d1⟩ : (∀ i, u.cell? ⟨g, i, none⟩ = _) ∧ (∀ i, u.frozen? ⟨g, i, none⟩ = false) := ⟨fun i => hJ1.blk.cell i, fun i => hJ1.blk.frozen i⟩
     have d2 := hJ1.blk.lt
     go_simp
     exact ⟨trivial, sj3_2 ⟨A2, c2, by rw [HNl.out]; exact hJ2, hO3, hsz⟩, ⟨.inr (.inr (fun h => h)), .inr (.inr (fun h => h)), .inr (.inr (fun h => h)), .inr (.inr (fun h => h)), .inr (.inr (fun h => h)), .inr (.inr (fun h => h)), .inr (.inr (fun h => h)), .inr (.inr (fun h => h)), .inr (.inr (fun _ => zbc (by omega))), .inr (.inr (fun _ => zbc (by omega))), .inr (.inr (fun h => h)), .inr (.inr (fun h => h)), trivial, trivial⟩⟩
   intro u hS
   rintro _ rfl _ rfl _ rfl _ rfl _ rfl _ rfl _ rfl _ rfl _ r_39 _ r_40 _ rfl _ rfl
   simp only [zxb, Act.put, List.setIfInBounds_toArray, List.set_cons_zero, List.set_cons_succ]
   obtain ⟨A2, c2, hJ5, hO5, hM5⟩ := hS.2.2 rfl
   have HJ5 := Hd hJ5
   have HO5 := Hd hO5
   have HC5 := Hd (show cl ++ [(ca, cb)] = (ul.take (k + 1)).map (fun x => ztb d x.m) by rw [List.take_add_one, HX.out, List.map_append, ← HCl.out]; simp [HCab.out])
   clear hS hJ5 hO5 hstab r_39 r_40 q0 q1 q2
   go_wp2_with fail
   go_roundw
   case rel => exact ⟨k + 1, A2, c2, _, by omega, by go_num, HC5.out, HJ5.out, HO5.out, hM5⟩
   case measure => simp [intOf]; omega
  ·obtain rfl : k = ul.length := by omega
   clear hlt
   go_wp2_with fail
   go_returns
   refine ⟨⟨g, ⟨c, ⟨ua, uc, ul⟩, ⟨A, cc, cl⟩, ⟨some ⟨gd, 0, none⟩, ul.length, (List.range ul.length).map fun k => ⟨some ⟨gs k, 0, none⟩, ul.length, (List.range ul.length).map (depOf d (ul.map UnitD.m) k)⟩⟩⟩, rfl, ?_, ?_, hul, ?_⟩, HJ.out.ff.below⟩
   ·have hmx : ul.length ≤ maxLen := by unfold maxLen; omega
    refine ⟨HJ.out.blk.lt, ?_, (HJ.out.uu.more (Nat.le_of_lt HJ.out.blk.lt)).1, OwnR_slr HO.out, HJ.out.mm.ints HJ.out.dd hmx hmx, HCll.out, by simp, fun r hr => ?_⟩
    ·have := HJ.out.blk
     simpa [JobD.cells] using this
    ·obtain ⟨q, _, rfl⟩ := List.mem_map.1 hr
     simp
   ·have hum := HJ.out.uu.2
    simp only at hum
    unfold JobD.m jobOf
    simp only [JobM.mk.injEq, true_and]
    refine ⟨?_, ?_, ?_⟩
    ·rw [← hum, List.map_map]; rfl
    ·rw [HCl.out, List.take_length, ← hum, List.map_map]; rfl
    ·unfold depsOf SL.rows
     rw [← hum, List.map_map, List.length_map]
     rfl
   ·intro y hy
    have hy2 : y ∈ (ul.take ul.length).map (fun x => ztb d x.m) := by rw [← HCl.out]; exact hy
    obtain ⟨z, _, rfl⟩ := List.mem_map.1 hy2
    exact unitCost_I64 H0.out _
end Go.Proofs.YtakgiamhdpgoeaaGreat
