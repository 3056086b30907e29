/- Lemmas. -/
import Derived.Test.YtakgiamhdpgoeaaGreatP23
set_option linter.unusedSimpArgs false
namespace Go.Proofs.YtakgiamhdpgoeaaGreat
open Go.RowKit
set_option linter.unusedVariables false
theorem tblWidths_bd (d : PrgD) (i : Int) (hk : ∀ t ∈ d.tZ.l, t.keys.l.length ≤ 1000) : (zNb d i).length ≤ 1000 ∧ ∀ x ∈ zNb d i, 0 ≤ x ∧ x ≤ 32 := by
 unfold zNb
 split
 ·split
  ·exact ⟨by simp, fun x hx => absurd hx (by simp)⟩
  ·rename_i t ht
   have hm : t ∈ d.tZ.l := by
    split at ht
    ·cases ht
    ·exact List.mem_of_getElem? ht
   refine ⟨by rw [List.length_map]; exact hk t hm, fun x hx => ?_⟩
   obtain ⟨k, _, rfl⟩ := List.mem_map.1 hx
   exact zvd d k.h k.f
 ·exact ⟨by simp, fun x hx => absurd hx (by simp)⟩
set_option maxRecDepth 100000 in
set_option maxHeartbeats 1000000 in
theorem tblBits_any (d : PrgD) (i : Int) (w : World) (hR : PrgR w w.heap.size d) (hk1000 : ∀ t ∈ d.tZ.l, t.keys.l.length ≤ 1000) :
  Calls Tryz.prog 104 #[PrgD.v d, .int .i64 i] w fun e w' => e = .returned (.int .i64 (zce d i)) ∧ Below w.heap.size w w' := by
 have F0 := Fr.start w
 have HR := Hd hR
 have HF0 := Hd F0
 have HK := Hd hk1000
 obtain ⟨hwl, hwb⟩ := tblWidths_bd d i hk1000
 have HV := Hd (show zce d i = isum (zNb d i) from rfl)
 have HT := Hd fun W (h : PrgR W W.heap.size d) => tblWidths_any d i W h hk1000
 obtain ⟨l, hl⟩ : ∃ l, zNb d i = l := ⟨_, rfl⟩
 rw [hl] at hwl hwb HV HT
 have HWb := Hd hwb
 clear hR F0 hk1000 hl hwb
 unfold PrgD.v PrgD.vs at *
 go_enter Tryz.func104, Tryz.ntmps104
 go_wp2_with fail
 refine Calls.named ?_
 intro W hW
 have HF1 := Hd ((HF0.out.alloc _ _).of_eq hW)
 clear hW
 refine (HT.out W (HF1.out.prg HR.out)).mono ?_
 rintro e w2 ⟨⟨A, c, rfl, hO⟩, hb2⟩
 have HF2 := Hd (HF1.out.call hb2)
 have HS := Hd (hO.slr (ok := fun x => 0 ≤ x ∧ x ≤ 32) HWb.out)
 clear hb2 hO
 go_wp2_with fail
 go_loop [5, 12] (fun n i => ∃ k : Nat, k ≤ l.length ∧ i = .int .i64 k ∧ n = .int .i64 (isum (l.take k))) (fun _ i => l.length - (intOf i).toNat)
 case atStart => exact ⟨0, Nat.zero_le _, rfl, rfl⟩
 case round =>
  obtain ⟨k, hk, rfl, rfl⟩ := hrel
  have hbd := isum_bd (l := l.take k) (b := 32) (fun x hx => HWb.out x (List.mem_of_mem_take hx))
  have hlt' : (l.take k).length ≤ 1000 := by rw [List.length_take]; omega
  obtain ⟨b0, b1⟩ := hbd
  have b2 : isum (l.take k) ≤ 100000 := by omega
  by_cases hlt : k < l.length
  ·obtain ⟨b, off, x, hA, _, hx, ⟨x0, x1⟩, hc⟩ := HS.out.at_ zna (by omega) hlt
   have hc0 : w2.cell? ⟨b, off + k, none⟩ = some (.int .i64 x) := by have := hc 0 _ rfl; simpa using this
   simp only at hA hx
   subst hA
   have HSt := Hd (isum_take hx)
   have hkl : (k : Int) < l.length := by omega
   obtain ⟨s, hs⟩ : ∃ s, isum (l.take k) = s := ⟨_, rfl⟩
   rw [hs] at b0 b2 HSt ⊢
   clear hc hx b1 hlt' hs
   go_wp2_with fail
   go_round
   case rel => exact ⟨k + 1, by omega, by go_num, by rw [HSt.out]⟩
   case measure => simp [intOf]; omega
  ·obtain rfl : k = l.length := by omega
   rw [List.take_length] at *
   go_wp2_with fail
   go_returns
   exact ⟨by rw [HV.out]; try rfl, HF2.out.below⟩
mutual
def blkN (wr : Int → Int) : NodD → Nat → Int
 | .mk _ _ c _ _ tl _ _ el, dep => wr (wr ((if 60 < tl.length ∨ 20 < dep then 61 else blkL wr tl (dep + 1) tl.length) + (if 60 < el.length ∨ 20 < dep then 61 else blkL wr el (dep + 1) el.length)) + ((c.l.length / 20 : Nat) : Int))
def blkL (wr : Int → Int) : List NodD → Nat → Int → Int
 | [], _, n => n
 | x :: l, dep, n => if 60 < n then n else blkL wr l dep (wr (n + blkN wr x dep))
end
def zHb (wr : Int → Int) (l : List NodD) (dep : Nat) : Int := if 60 < l.length ∨ 20 < dep then 61 else blkL wr l (dep + 1) l.length
theorem blkN_eq (wr : Int → Int) (x : NodD) (dep : Nat) : blkN wr x dep = wr (wr (zHb wr x.thn.l dep + zHb wr x.els.l dep) + ((x.cond.l.length / 20 : Nat) : Int)) := by
 obtain ⟨k, t, c, ta, tc, tl, ea, ec, el⟩ := x
 unfold blkN
 rfl
def appsN (l : List NodD) : Nat := ((zda l).filter zqa).length
theorem appsN_cons (x : NodD) (l : List NodD) : appsN (x :: l) = (if zqa x then 1 else 0) + appsN x.thn.l + appsN x.els.l + appsN l := by
 unfold appsN
 rw [zda, zjc, List.filter_append, List.length_append, List.filter_cons]
 split <;> simp [List.filter_append] <;> omega
def cst : Nat → Int
 | 0 => 61
 | k + 1 => 62 + 2 * cst k
def zve (l : List NodD) : Prop := ∀ x ∈ zda l, (zqa x = false → x.cond.l.length ≤ 24) ∧ x.cond.l.length ≤ 9223372036854775807
theorem zve.cons {x : NodD} {l : List NodD} (h : zve (x :: l)) : ((zqa x = false → x.cond.l.length ≤ 24) ∧ x.cond.l.length ≤ 9223372036854775807) ∧ zve x.thn.l ∧ zve x.els.l ∧ zve l := by
 unfold zve at h
 rw [zda, zjc] at h
 refine ⟨h x (by simp), fun y hy => h y ?_, fun y hy => h y ?_, fun y hy => h y ?_⟩
 ·simp [hy]
 ·simp [hy]
 ·simp [hy]
theorem blk_bd {wr : Int → Int} (hw : ∀ x, 0 ≤ x → x ≤ 9223372036854775807 → wr x = x) : ∀ (k dep : Nat), 21 ≤ dep + k → ∀ l : List NodD, zve l → (appsN l : Int) * 461168601842738790 + cst k ≤ 9223372036854775807 →
  0 ≤ zHb wr l dep ∧ zHb wr l dep ≤ (appsN l : Int) * 461168601842738790 + cst k ∧ (zHb wr l dep ≤ 60 → ((zda l).length : Int) ≤ zHb wr l dep) := by
 intro k
 induction k with
 | zero =>
  intro dep hd l _ _
  unfold zHb
  rw [if_pos (by omega)]
  unfold cst
  refine ⟨by omega, ?_, fun h => by omega⟩
  have : 0 ≤ (appsN l : Int) * 461168601842738790 := Int.mul_nonneg (by omega) (by omega)
  omega
 | succ k ih =>
  intro dep hd l hc hb
  have hc0 : 0 ≤ cst k := by
   clear ih hb hd
   induction k with
   | zero => unfold cst; omega
   | succ k ih => unfold cst; omega
  have hcs : cst (k + 1) = 62 + 2 * cst k := rfl
  unfold zHb
  by_cases h1 : 60 < l.length ∨ 20 < dep
  ·rw [if_pos h1]
   refine ⟨by omega, ?_, fun h => by omega⟩
   have : 0 ≤ (appsN l : Int) * 461168601842738790 := Int.mul_nonneg (by omega) (by omega)
   omega
  ·rw [if_neg h1]
   have key : ∀ (m : List NodD) (n : Int), zve m → 0 ≤ n → n ≤ 60 ∨ n ≤ (appsN l : Int) * 461168601842738790 + cst (k + 1) → appsN m ≤ appsN l →
     0 ≤ blkL wr m (dep + 1) n ∧ (blkL wr m (dep + 1) n ≤ 60 ∨ blkL wr m (dep + 1) n ≤ (appsN l : Int) * 461168601842738790 + cst (k + 1)) ∧ (blkL wr m (dep + 1) n ≤ 60 → ((zda m).length : Int) + n ≤ blkL wr m (dep + 1) n + m.length) := by
    intro m
    induction m with
    | nil => intro n _ h0 hn _; rw [blkL]; exact ⟨h0, hn, fun _ => by simp [zda]⟩
    | cons x m ihm =>
     intro n hcm h0 hn ha
     obtain ⟨hx, hct, hce, hcm'⟩ := hcm.cons
     have happ := appsN_cons x m
     rw [blkL]
     by_cases h2 : 60 < n
     ·rw [if_pos h2]
      exact ⟨h0, hn, fun h => by omega⟩
     ·rw [if_neg h2]
      have q1 : (appsN x.thn.l : Int) ≤ appsN l := by omega
      have m1 : ∀ a b : Nat, a + b ≤ appsN l → (a : Int) * 461168601842738790 + (b : Int) * 461168601842738790 ≤ (appsN l : Int) * 461168601842738790 := fun a b h => by
       rw [← Int.add_mul]
       exact Int.mul_le_mul_of_nonneg_right (by omega) (by omega)
      have t1 := ih (dep + 1) (by omega) x.thn.l hct (by have := m1 (appsN x.thn.l) 0 (by omega); omega)
      have t2 := ih (dep + 1) (by omega) x.els.l hce (by have := m1 (appsN x.els.l) 0 (by omega); omega)
      have hcd : ((x.cond.l.length / 20 : Nat) : Int) ≤ (if zqa x then 461168601842738790 else 1) := by
       split
       ·have := hx.2; omega
       ·rename_i hq
        have := hx.1 (by simpa using hq)
        omega
      have hsum : zHb wr x.thn.l (dep + 1) + zHb wr x.els.l (dep + 1) + ((x.cond.l.length / 20 : Nat) : Int) ≤ (appsN l : Int) * 461168601842738790 + 2 * cst k + 1 := by
       by_cases hq : zqa x = true
       ·rw [if_pos hq] at hcd happ
        have e1 := m1 (appsN x.thn.l + appsN x.els.l) 1 (by omega)
        have e2 : ((appsN x.thn.l + appsN x.els.l : Nat) : Int) * 461168601842738790 = (appsN x.thn.l : Int) * 461168601842738790 + (appsN x.els.l : Int) * 461168601842738790 := by rw [Int.natCast_add, Int.add_mul]
        omega
       ·rw [if_neg hq] at hcd happ
        have e1 := m1 (appsN x.thn.l) (appsN x.els.l) (by omega)
        omega
      have e0 : wr (n + blkN wr x (dep + 1)) = n + (zHb wr x.thn.l (dep + 1) + zHb wr x.els.l (dep + 1) + ((x.cond.l.length / 20 : Nat) : Int)) := by
       rw [blkN_eq, hw (zHb wr x.thn.l (dep + 1) + zHb wr x.els.l (dep + 1)) (by omega) (by omega), hw (zHb wr x.thn.l (dep + 1) + zHb wr x.els.l (dep + 1) + ((x.cond.l.length / 20 : Nat) : Int)) (by omega) (by omega), hw _ (by omega) (by omega)]
      rw [e0]
      obtain ⟨g1, g2, g3⟩ := ihm (n + (zHb wr x.thn.l (dep + 1) + zHb wr x.els.l (dep + 1) + ((x.cond.l.length / 20 : Nat) : Int))) hcm' (by omega) (by omega) (by omega)
      refine ⟨g1, g2, fun h => ?_⟩
      have g4 := g3 h
      rw [zda, zjc]
      simp only [List.length_append, List.length_cons]
      have hle : zHb wr x.thn.l (dep + 1) + zHb wr x.els.l (dep + 1) + ((x.cond.l.length / 20 : Nat) : Int) ≤ 60 := by
       have hnn : (0 : Int) ≤ (zda m).length := by omega
       have := nods_len m
       omega
      have u1 := t1.2.2 (by omega)
      have u2 := t2.2.2 (by omega)
      omega
   obtain ⟨g1, g2, g3⟩ := key l l.length hc (by omega) (.inl (by omega)) (Nat.le_refl _)
   refine ⟨g1, ?_, fun h => by have := g3 h; omega⟩
   have : 0 ≤ (appsN l : Int) * 461168601842738790 := Int.mul_nonneg (by omega) (by omega)
   omega
theorem nods_small' {l : List NodD} {B : Nat} (h : (zda l).length ≤ B) : ∀ x ∈ zda l, x.thn.l.length + x.els.l.length ≤ B := by
 have key : ∀ (n : Nat) (l : List NodD), (zda l).length < n → ∀ x ∈ zda l, x.thn.l.length + x.els.l.length ≤ (zda l).length := by
  intro n
  induction n with
  | zero => intro l h; omega
  | succ n ih =>
   intro l hn x hx
   cases l with
   | nil => rw [zda] at hx; cases hx
   | cons y l =>
    rw [zda, zjc] at hx hn ⊢
    simp only [List.length_append, List.length_cons] at hn ⊢
    rcases List.mem_append.1 hx with hx | hx
    ·rcases List.mem_cons.1 hx with rfl | hx
     ·have h1 := nods_len x.thn.l
      have h2 := nods_len x.els.l
      omega
     ·rcases List.mem_append.1 hx with hx | hx
      ·have := ih _ (by omega) x hx; omega
      ·have := ih _ (by omega) x hx; omega
    ·have := ih l (by omega) x hx; omega
 exact fun x hx => Nat.le_trans (key _ l (Nat.lt_succ_self _) x hx) h
mutual
theorem zig : ∀ (x : NodD), (nodPre x).length ≤ 1000000 → zMd x = (zBe x : Int)
 | .mk k t c ta tc tl ea ec el, h => by
  rw [nodPre] at h
  simp only [List.length_cons, List.length_append] at h
  have h1 := zNd tl (by omega)
  have h2 := zNd el (by omega)
  rw [zMd, zBe, h1, h2]
  simp only [Nat.max_def]
  split <;> omega
theorem zBf : ∀ (l : List NodD), (zda l).length ≤ 1000000 → zPa l = (zFc l : Int)
 | [], _ => by rw [zPa, zFc]; rfl
 | x :: l, h => by
  rw [zda] at h
  simp only [List.length_append] at h
  have h1 := zig x (by omega)
  have h2 := zBf l (by omega)
  rw [zPa, zFc, h1, h2]
  simp only [Nat.max_def]
  split <;> omega
theorem zNd : ∀ (l : List NodD), (zda l).length ≤ 1000000 → zOa l = (zqc l : Int)
 | [], _ => by rw [zOa, zqc]; rfl
 | x :: l, h => by
  have hd := zme (x :: l)
  rw [zda] at h
  simp only [List.length_append] at h
  have h1 := zig x (by omega)
  have h2 := zBf l (by omega)
  rw [zqc, zda] at hd
  simp only [List.length_append] at hd
  rw [zOa, zqc, h1, h2]
  rw [show (max (zBe x : Int) (zFc l : Int)) = ((Nat.max (zBe x) (zFc l) : Nat) : Int) by simp only [Nat.max_def]; split <;> omega]
  rw [wr_id (by omega) (by omega)]
  omega
end
theorem nodCheckW_eq {d : PrgD} {x : NodD} (u : List Int) (h : x.thn.l.length + x.els.l.length ≤ 1000000) : zXa d x u = zle d x u := by
 unfold zXa zle
 rw [wr_id (by omega) (by omega)]
 by_cases h0 : 0 < x.thn.l.length + x.els.l.length
 ·have h1 : 0 < (x.thn.l.length : Int) + x.els.l.length := by omega
  simp only [h0, h1]
 ·have h1 : ¬ 0 < (x.thn.l.length : Int) + x.els.l.length := by omega
  simp only [h0, h1]
theorem ctlGoW_eq (d : PrgD) : ∀ (l : List NodD) (u : List Int) (n : Nat), (∀ x ∈ l, x.thn.l.length + x.els.l.length ≤ 1000000) → zSd d l u n = ctlGo d l u n
 | [], _, _, _ => rfl
 | x :: l, u, n, h => by
  rw [zSd, ctlGo, nodCheckW_eq u (h x (List.mem_cons_self ..)), ctlGoW_eq d l _ _ fun y hy => h y (List.mem_cons_of_mem _ hy)]
theorem ctlGo_le (d : PrgD) : ∀ (l : List NodD) (u : List Int) (n : Nat), (ctlGo d l u n).1 ≤ n + l.length
 | [], _, n => by simp [ctlGo]
 | x :: l, u, n => by
  rw [ctlGo]
  split
  ·simp
  ·have := ctlGo_le d l (if zqa x then u ++ [x.table] else u) (n + 1)
   simp only [List.length_cons]
   omega
theorem zmf {d : PrgD} (h : (zda d.cZ.l).length ≤ 1000000) : zWa d = zEc d := by
 have h1 := ctlGoW_eq d (zda d.cZ.l) [] 0 (nods_small' h)
 have h2 := ctlGo_le d (zda d.cZ.l) [] 0
 have h3 := zNd d.cZ.l h
 unfold zWa zEc
 rw [h1, h3, wr_id (x := ((zda d.cZ.l).length : Int)) (by omega) (by omega), wr_id (x := ((ctlGo d (zda d.cZ.l) [] 0).1 : Int)) (by omega) (by omega)]
 by_cases c1 : 24 < (zda d.cZ.l).length
 ·rw [if_pos c1, if_pos (by omega)]
 ·rw [if_neg c1, if_neg (by omega)]
  by_cases c2 : 6 < zqc d.cZ.l
  ·rw [if_pos c2, if_pos (by omega)]
  ·rw [if_neg c2, if_neg (by omega)]
theorem prgCheckW_eq {d : PrgD} (h : (zda d.cZ.l).length ≤ 1000000) : zra d = zUa d := by
 unfold zra zUa zVc zng
 rw [zmf h]
theorem ctlGoW_ok (d : PrgD) : ∀ (l : List NodD) (u : List Int) (n : Nat), (zSd d l u n).2 = 0 →
  (∀ x ∈ l, zqa x = false → x.cond.l.length ≤ 24) ∧ (∀ x ∈ l, zqa x = true → 0 ≤ x.table ∧ x.table < d.tZ.l.length ∧ x.table ∉ u) ∧ ((l.filter zqa).map (·.table)).Nodup
 | [], _, _, _ => ⟨fun x hx => (by cases hx), fun x hx => (by cases hx), List.nodup_nil⟩
 | x :: l, u, n, h => by
  rw [zSd] at h
  split at h
  ·rename_i h1; exact absurd h h1
  ·rename_i h1
   have h1 : zXa d x u = 0 := by omega
   obtain ⟨g1, g2, g3⟩ := ctlGoW_ok d l _ _ h
   by_cases ha : zqa x = true
   ·have hk : x.kind = 1 ∨ x.kind = 3 := by unfold zqa at ha; simpa using ha
    rw [if_pos ha] at g2
    have hx : 0 ≤ x.table ∧ x.table < d.tZ.l.length ∧ x.table ∉ u := by
     unfold zXa at h1
     rw [if_pos hk] at h1
     split at h1
     ·cases h1
     ·split at h1
      ·cases h1
      ·rename_i q1 q2
       refine ⟨by omega, by omega, fun hm => q2 (by simpa using hm)⟩
    refine ⟨fun y hy hf => ?_, fun y hy ht => ?_, ?_⟩
    ·rcases List.mem_cons.1 hy with rfl | hy
     ·rw [ha] at hf; cases hf
     ·exact g1 y hy hf
    ·rcases List.mem_cons.1 hy with rfl | hy
     ·exact hx
     ·have := g2 y hy ht
      exact ⟨this.1, this.2.1, fun hm => this.2.2 (List.mem_append_left _ hm)⟩
    ·rw [List.filter_cons, if_pos ha, List.map_cons, List.nodup_cons]
     refine ⟨fun hm => ?_, g3⟩
     obtain ⟨y, hy, hyt⟩ := List.mem_map.1 hm
     have hy2 := List.mem_filter.1 hy
     have := (g2 y hy2.1 hy2.2).2.2
     rw [hyt] at this
     exact this (by simp)
   ·have hk : ¬ (x.kind = 1 ∨ x.kind = 3) := fun hk => ha (by unfold zqa; simpa using hk)
    rw [if_neg ha] at g2
    have hc : x.cond.l.length ≤ 24 := by
     unfold zXa at h1
     rw [if_neg hk] at h1
     split at h1
     ·split at h1
      ·rename_i q1; exact absurd h1 q1
      ·rename_i q1
       exact zJc (d := d) (ps := []) (by omega)
     ·cases h1
    refine ⟨fun y hy hf => ?_, fun y hy ht => ?_, ?_⟩
    ·rcases List.mem_cons.1 hy with rfl | hy
     ·exact hc
     ·exact g1 y hy hf
    ·rcases List.mem_cons.1 hy with rfl | hy
     ·exact absurd ht ha
     ·exact g2 y hy ht
    ·rw [List.filter_cons, if_neg ha]
     exact g3
theorem few_nodes {d : PrgD} (h : (zra d).1 = 0) (hb : zHb wr d.cZ.l 0 ≤ 60) (hc : ∀ x ∈ zda d.cZ.l, x.cond.l.length ≤ 9223372036854775807) : (zda d.cZ.l).length ≤ 60 := by
 have h0 : firstD [zmb d, scan d.hZ.l.length (zgd d), zUb d, zdd d, zVc d] = none := by
  cases he : firstD [zmb d, scan d.hZ.l.length (zgd d), zUb d, zdd d, zVc d] with
  | none => rfl
  | some e =>
   unfold zra at h
   rw [he] at h
   refine absurd h (NZ.firstD (fun x hx => ?_) e he)
   simp only [List.mem_cons, List.not_mem_nil, or_false] at hx
   rcases hx with rfl | rfl | rfl | rfl | rfl
   ·exact NZ.firstD fun x hx => by simp only [List.mem_cons, List.not_mem_nil, or_false] at hx; rcases hx with rfl | rfl | rfl | rfl | rfl <;> exact NZ.req _ _ _ _
   ·exact NZ.scan (NZ.hdr d)
   ·exact NZ.firstD fun x hx => by
     simp only [List.mem_cons, List.not_mem_nil, or_false] at hx
     rcases hx with rfl | rfl | rfl | rfl | rfl
     ·exact NZ.req _ _ _ _
     ·exact NZ.scan (NZ.met d)
     all_goals exact NZ.req _ _ _ _
   ·exact NZ.firstD fun x hx => by
     simp only [List.mem_cons, List.not_mem_nil, or_false] at hx
     rcases hx with rfl | rfl | rfl
     ·exact NZ.scan (NZ.reg d)
     ·exact NZ.scan fun i => NZ.firstD fun x hx => by simp only [List.mem_cons, List.not_mem_nil, or_false] at hx; rcases hx with rfl | rfl <;> exact NZ.req _ _ _ _
     ·exact NZ.scan fun i => NZ.firstD fun x hx => by simp only [List.mem_cons, List.not_mem_nil, or_false] at hx; rcases hx with rfl | rfl <;> exact NZ.req _ _ _ _
   ·exact NZ.firstD fun x hx => by simp only [List.mem_cons, List.not_mem_nil, or_false] at hx; rcases hx with rfl | rfl | rfl <;> exact NZ.req _ _ _ _
 have hall := zZa h0
 have h1 := zZa (show firstD _ = none from hall (zmb d) (by simp))
 have h5 := zZa (show firstD _ = none from hall (zVc d) (by simp))
 have ht : d.tZ.l.length ≤ 12 := by
  have := zhg (by decide) (zsc (h1 (req (if 12 < d.tZ.l.length then 12 else 0) 0 5 0) (by simp)))
  omega
 have hcc : (zWa d).2 = 0 := zsc (h5 (req (zWa d).2 7 (zWa d).1 0) (by simp))
 have hgo : (zSd d (zda d.cZ.l) [] 0).2 = 0 := by
  unfold zWa at hcc
  split at hcc
  ·cases hcc
  ·split at hcc
   ·cases hcc
   ·split at hcc
    ·rename_i q; exact absurd hcc q
    ·omega
 obtain ⟨g1, g2, g3⟩ := ctlGoW_ok d _ _ _ hgo
 have happ : appsN d.cZ.l ≤ 12 := by
  have := zkg d.tZ.l.length _ g3 (fun x hx => by
   obtain ⟨y, hy, rfl⟩ := List.mem_map.1 hx
   have hy2 := List.mem_filter.1 hy
   have := g2 y hy2.1 hy2.2
   omega)
  unfold appsN
  rw [List.length_map] at this
  omega
 have hcs : cst 21 ≤ 300000000 := by decide
 have := (blk_bd (wr := wr) (fun x h0 h1 => wr_id (by omega) h1) 21 0 (by omega) d.cZ.l (fun x hx => ⟨g1 x hx, hc x hx⟩) (by omega)).2.2 hb
 omega
open Go.RowKit
theorem zya {C : Chain} {i j : Nat} (h : C.effs.contains i = false) : C.next i j = j := by
 unfold Chain.next
 rw [if_neg]
 intro he
 have : C.effs.contains i = true := by rw [List.contains_iff_mem]; exact List.mem_of_getElem? he
 rw [h] at this; cases this
abbrev LFact := Nat → Value → World → Prop
def lfact (l : List LFact) (i j : Nat) (v : Value) (w : World) : Prop := match l[i]? with | some f => f j v w | none => True
def leq (X : Value) : LFact := fun _ v _ => v = X
def lany : LFact := fun _ _ _ => True
def KeepL (ops : Array Oper) (ρ : Operand → Value) (i j j' : Nat) (u u' : World) : Nat → List Oper → List LFact → Prop
 | _, [], _ => True
 | _, _ :: _, [] => True
 | k, o :: l, f :: fs => (match o.dst with | none => True | some d => k = i ∨ zTf ops 6 k i = true ∨ (f j (ρ (.tmp d)) u → f j' (ρ (.tmp d)) u')) ∧ KeepL ops ρ i j j' u u' (k + 1) l fs
theorem KeepL.at_ {ops : Array Oper} {ρ : Operand → Value} {i j j' : Nat} {u u' : World} : ∀ (l : List Oper) (fs : List LFact) (k0 : Nat), KeepL ops ρ i j j' u u' k0 l fs →
  ∀ (k : Nat) (o : Oper) (d : Nat), l[k]? = some o → o.dst = some d → k0 + k ≠ i → zTf ops 6 (k0 + k) i = false → lfact fs k j (ρ (.tmp d)) u → lfact fs k j' (ρ (.tmp d)) u' := by
 intro l
 induction l with
 | nil => intro fs k0 _ k o d h; simp at h
 | cons x l ih =>
  intro fs k0 h k o d ho hd hne hnd hf
  cases fs with
  | nil => simp [lfact]
  | cons f fs =>
   cases k with
   | zero =>
    obtain rfl : x = o := by simpa using ho
    have h1 := h.1
    rw [hd] at h1
    rcases h1 with h1 | h1 | h1
    ·exact absurd h1 hne
    ·rw [Nat.add_zero] at hnd; rw [hnd] at h1; cases h1
    ·exact h1 hf
   | succ k => exact ih fs (k0 + 1) h.2 k o d (by simpa using ho) hd (by omega) (by rwa [show k0 + 1 + k = k0 + (k + 1) by omega]) hf
def zba (fs : List LFact) : Prop := ∀ f ∈ fs, ∀ (j : Nat) (v : Value) (u u' : World), Below u.heap.size u u' → f j v u → f j v u'
theorem KeepL.below {ops : Array Oper} {ρ : Operand → Value} {i j : Nat} {u u' : World} (hb : Below u.heap.size u u') : ∀ (l : List Oper) (fs : List LFact) (k0 : Nat), zba fs → KeepL ops ρ i j j u u' k0 l fs := by
 intro l
 induction l with
 | nil => intro fs k0 _; trivial
 | cons o l ih =>
  intro fs k0 hs
  cases fs with
  | nil => trivial
  | cons f fs =>
   refine ⟨?_, ih fs (k0 + 1) fun f' hf' => hs f' (List.mem_cons_of_mem _ hf')⟩
   cases o.dst with
   | none => trivial
   | some d => exact .inr (.inr (hs f (List.mem_cons_self ..) j _ u u' hb))
section
variable {P : Program} {ops : Array Oper} {Q : Exit → Act → World → Prop}
structure zUe (P : Program) (ops : Array Oper) (C : Chain) (S : Nat → World → Prop) (fs : List LFact) (a : Act) (listed : Array Bool) (j : Nat) (b : Act) (u : World) : Prop where
 base : RelInv P ops C (fun _ => 0) (fun _ _ => True) (fun _ _ _ => True) a listed j b u
 good : S j u
 new : ∀ (i : Nat) (o : Oper) (d : Nat), ops[i]? = some o → listed.getD i false = true → o.dst = some d → lfact fs i j (b.eval (.tmp d)) u
def OpLookL (P : Program) (l : List Oper) (C : Chain) (S : Nat → World → Prop) (fs : List LFact) (a : Act) (i : Nat) (o : Oper) : Prop :=
 ∀ (j : Nat), (∀ r, C.rng[i]? = some r → r.1 ≤ j ∧ j ≤ r.2) → ∀ (ρ : Operand → Value) (y : Nat → Option Bool) (u : World), S j u →
  (∀ c, ρ (.const c) = c) → (∀ f, ρ (.func f) = .func (.func f) #[] #[]) → (∀ g, ρ (.global g) = .pointer (some ⟨g, 0, none⟩)) →
  (∀ t, freeB l.toArray t = true → ρ (.tmp t) = a.eval (.tmp t)) →
  (∀ (k : Nat) (o' : Oper) (d : Nat), depB o k = true → l.toArray[k]? = some o' → o'.dst = some d → lfact fs k j (ρ (.tmp d)) u ∧ y k = (match ρ (.tmp d) with | .bool x => some x | _ => none)) →
  (Region.wanted o y = true → OpGood P (lfact fs i (C.next i j)) (S (C.next i j)) (fun _ u' => KeepL l.toArray ρ i j (C.next i j) u u' 0 l fs) u ((execOp ρ o).run P u)) ∧ (Region.wanted o y = false → lfact fs i (C.next i j) undef u ∧ S (C.next i j) u ∧ KeepL l.toArray ρ i j (C.next i j) u u 0 l fs)
def zQb (P : Program) (l : List Oper) (C : Chain) (S : Nat → World → Prop) (fs : List LFact) (a : Act) : Nat → List Oper → Prop
 | _, [] => True
 | k, o :: r => OpLookL P l C S fs a k o ∧ zQb P l C S fs a (k + 1) r
theorem zQb.at_ {l0 : List Oper} {C : Chain} {S : Nat → World → Prop} {fs : List LFact} {a : Act} : ∀ (l : List Oper) (k : Nat), zQb P l0 C S fs a k l → ∀ i o, l[i]? = some o → OpLookL P l0 C S fs a (k + i) o := by
 intro l
 induction l with
 | nil => intro k h i o ho; simp at ho
 | cons x l ih =>
  intro k h i o ho
  cases i with
  | zero => simp at ho; subst ho; exact h.1
  | succ i => have := ih (k + 1) h.2 i o (by simpa using ho); rwa [show k + 1 + i = k + (i + 1) by omega] at this
theorem zIc {b : Act} {v : Value} {o : Oper} {d : Nat} (h : o.dst ≠ some d) : (b.put o.dst v).eval (.tmp d) = b.eval (.tmp d) := by
 cases hd : o.dst with
 | none => rfl
 | some d0 =>
  rw [hd] at h
  simp only [Act.put, Act.eval, Array.getD_eq_getD_getElem?]
  rw [Array.getElem?_setIfInBounds_ne (fun e => h (by rw [e]))]
theorem zUe.step {l : List Oper} {C : Chain} {S : Nat → World → Prop} {fs : List LFact} {a b : Act} {listed : Array Bool} {j : Nat} {u u' : World} {i : Nat} {o : Oper} {v : Value}
  (hok : relOk l.toArray a.tmps.size = true) (hC : zFd l.toArray C = true) (hfr : frOk C (fun _ => 0) l.toArray.size = true)
  (h : zUe P l.toArray C S fs a listed j b u) (ho : l.toArray[i]? = some o) (hi : listed.getD i true = false) (hdep : ∀ e ∈ o.after, Region.binds .any e = true → listed.getD e.on false = true)
  (hv : lfact fs i (C.next i j) v u') (hS : S (C.next i j) u') (hs : KeepL l.toArray b.eval i j (C.next i j) u u' 0 l fs) : zUe P l.toArray C S fs a (listed.setIfInBounds i true) (C.next i j) (b.put o.dst v) u' := by
 refine ⟨h.base.step (St := fun _ _ _ => True) (fun _ _ _ _ _ _ _ _ _ => trivial) hok hC hfr ho hi hdep trivial trivial trivial, hS, ?_⟩
 obtain ⟨hlt, hif⟩ := zod hi
 intro k o' d ho' hl hd
 by_cases hk : k = i
 ·subst hk
  obtain rfl : o = o' := Option.some.inj (ho.symm.trans ho')
  have hdn := (zrd hok ho).2 d hd
  have : (b.put o.dst v).eval (.tmp d) = v := by
   rw [hd]
   simp only [Act.put, Act.eval, Array.getD_eq_getD_getElem?]
   rw [Array.getElem?_setIfInBounds_self_of_lt (by rw [h.base.tmps]; exact hdn)]
   rfl
  rw [this]
  exact hv
 ·rw [zpc hk] at hl
  rw [zIc (fun e => zDd hok ho ho' (Ne.symm hk) e hd)]
  have hnd : zTf l.toArray 6 (0 + k) i = false := by
   cases hb : zTf l.toArray 6 (0 + k) i with
   | false => rfl
   | true =>
    rw [Nat.zero_add] at hb
    have := zwc h.base 6 k i hb fun o1 ho1 e he hb1 => h.base.down k o1 ho1 hl e he hb1
    rw [hif] at this
    cases this
  exact hs.at_ l fs 0 k o' d (by simpa using ho') hd (by omega) hnd (h.new k o' d ho' hl hd)
theorem wpAny_relL {l : List Oper} {C : Chain} {S : Nat → World → Prop} {fs : List LFact} {a : Act} (hok : relOk l.toArray a.tmps.size = true) (hC : zFd l.toArray C = true) (hfr : frOk C (fun _ => 0) l.toArray.size = true)
  (hops : zQb P l C S fs a 0 l) (hend : ∀ u, S C.effs.length u → zxb (Q .normal) (fun i => lfact fs i C.effs.length) u 0 l a) :
  ∀ (fuel : Nat) (listed : Array Bool) (j : Nat) (b : Act) (u : World), listed.toList.count false ≤ fuel → zUe P l.toArray C S fs a listed j b u → wpAny P .any l.toArray Q fuel listed b u := by
 have hfin : ∀ (listed : Array Bool) (j : Nat) (b : Act) (u : World), zUe P l.toArray C S fs a listed j b u → Region.ready .any l.toArray listed = [] → Q .normal b u := fun listed j b u h hr => by
  have hall := h.base.done hok hr
  have hj : j = C.effs.length := by
   rcases Nat.lt_or_ge j C.effs.length with hlt | hge
   ·have h0 := (h.base.effs j _ (List.getElem?_eq_getElem hlt))
    have hin : C.effs[j] < l.toArray.size := by
     unfold zFd at hC
     rw [Bool.and_eq_true] at hC
     have h1 := List.all_eq_true.1 hC.1 (C.effs[j], j) (List.mem_zipIdx_iff_getElem?.2 (by simp))
     rw [Bool.and_eq_true] at h1
     exact of_decide_eq_true h1.2
    have := h0.1 (hall _ hin)
    omega
   ·have := h.base.le; omega
  have hg := h.good
  have hn := h.new
  rw [hj] at hg hn
  refine zxb.run l 0 a b (hend u hg) h.base.defers h.base.tmps (fun t ht => h.base.old t fun i o ho hd => absurd hd (ht o (List.mem_of_getElem? (i := i) (by simpa using ho)))) (fun i o d ho hd => ?_)
  have hl := hall i (Array.getElem?_eq_some_iff.1 (show l.toArray[i]? = some o by simpa using ho)).1
  obtain ⟨v, ev, _⟩ := h.base.new i o d (by simpa using ho) hl hd
  have := hn i o d (by simpa using ho) hl hd
  have hev : b.eval (.tmp d) = v := by simp [Act.eval, ev]
  rw [hev] at this
  exact ⟨v, ev, by rw [Nat.zero_add]; exact this⟩
 intro fuel
 induction fuel with
 | zero =>
  intro listed j b u hc h
  have hr : Region.ready .any l.toArray listed = [] := by
   cases hr : Region.ready .any l.toArray listed with
   | nil => rfl
   | cons i r =>
    have hm : i ∈ Region.ready .any l.toArray listed := by rw [hr]; exact List.mem_cons_self
    obtain ⟨hi, o, ho, _⟩ := mem_ready.1 hm
    have hlt : i < listed.size := by rw [h.base.size]; exact (Array.getElem?_eq_some_iff.1 ho).1
    have hmem : false ∈ listed.toList := by
     rw [Array.getD_eq_getD_getElem?, Array.getElem?_eq_getElem hlt] at hi
     have : listed[i] = false := hi
     rw [← this]; simp
    have := List.count_pos_iff.2 hmem
    omega
  exact ⟨hr, hfin listed j b u h hr⟩
 | succ fuel ih =>
  intro listed j b u hc h
  refine ⟨hfin listed j b u h, fun i hi => ?_⟩
  obtain ⟨hi0, o, ho, hdep⟩ := mem_ready.1 hi
  have hlt : i < listed.size := by rw [h.base.size]; exact (Array.getElem?_eq_some_iff.1 ho).1
  have hli : listed[i] = false := by
   rw [Array.getD_eq_getD_getElem?, Array.getElem?_eq_getElem hlt] at hi0
   exact hi0
  have hcnt : (listed.setIfInBounds i true).toList.count false ≤ fuel := by
   rw [Array.toList_setIfInBounds, List.count_set (by simpa using hlt)]
   have hmem : false ∈ listed.toList := by rw [← hli]; simp
   have := List.count_pos_iff.2 hmem
   simp only [Array.getElem_toList, hli, beq_self_eq_true, if_true, Bool.true_beq, Bool.false_eq_true, if_false]
   omega
  have hlk := zQb.at_ l 0 hops i o (by simpa using ho)
  rw [Nat.zero_add] at hlk
  have hlook := hlk j (h.base.range hC ho hi0 hdep).1 b.eval (yielded l.toArray b.tmps) u h.good (fun _ => rfl) (fun _ => rfl) (fun _ => rfl) (fun t ht => by
    have := h.base.old t fun i o ho hd => absurd hd (free_of ht i o ho)
    unfold Act.eval; simp only [Array.getD_eq_getD_getElem?]
    rw [this]) (fun k o' d hj ho' hd' => by
    obtain ⟨e, he, rfl, hb⟩ := dep_of hj
    obtain ⟨v, ev, fv⟩ := h.base.new e.on o' d ho' (hdep e he hb) hd'
    have hev : b.eval (.tmp d) = v := by simp [Act.eval, ev]
    refine ⟨h.new e.on o' d ho' (hdep e he hb) hd', ?_⟩
    unfold yielded
    rw [ho']
    simp only [Option.bind_some, hd', ev, hev]
    cases v <;> rfl)
  unfold wpOp
  rw [ho]
  show if Region.wanted o (yielded l.toArray b.tmps) = true then _ else _
  split
  ·rename_i hw
   have hg := hlook.1 hw
   refine .inl ?_
   unfold Oper.wp
   generalize (execOp b.eval o).run P u = r at hg ⊢
   cases r with
   | halt x w' => exact hg.elim
   | ok n w' =>
    cases n with
    | value v =>
     obtain ⟨f, s, t⟩ := hg
     exact ih _ _ _ _ hcnt (h.step hok hC hfr ho hi0 hdep f s t)
    | skip =>
     obtain ⟨f, s, t⟩ := hg
     exact ih _ _ _ _ hcnt (h.step hok hC hfr ho hi0 hdep f s t)
    | enter f args =>
     refine Calls.mono (show Calls P f args w' _ from hg) ?_
     rintro e w'' ⟨v, rfl, f, s, t⟩
     exact ih _ _ _ _ hcnt (h.step hok hC hfr ho hi0 hdep f s t)
    | _ => exact hg.elim
  ·rename_i hw
   have hw' : Region.wanted o (yielded l.toArray b.tmps) = false := by simpa using hw
   obtain ⟨f, s, t⟩ := hlook.2 hw'
   exact ih _ _ _ _ hcnt (h.step hok hC hfr ho hi0 hdep f s t)
theorem zja {l : List Oper} {id : Nat} {a : Act} {w : World} (C : Chain) (S : Nat → World → Prop) (fs : List LFact) (hm : P.follows .mixedOrders = true)
  (hok : relOk l.toArray a.tmps.size = true) (hC : zFd l.toArray C = true) (hfr : frOk C (fun _ => 0) l.toArray.size = true) (hS : S 0 w.drew)
  (hops : zQb P l C S fs a 0 l) (hend : ∀ u, S C.effs.length u → zxb (Q .normal) (fun i => lfact fs i C.effs.length) u 0 l a) :
  (Code.region id l.toArray true).wp P Q a w := by
 refine wp_region_any hm ?_
 have hno : ∀ i, (Array.replicate l.toArray.size false).getD i false = false := fun i => by
  rw [Array.getD_eq_getD_getElem?]
  rcases Nat.lt_or_ge i l.toArray.size with h | h
  ·rw [Array.getElem?_eq_getElem (by simpa using h)]; simp
  ·rw [Array.getElem?_eq_none (by simpa using h)]; rfl
 refine wpAny_relL hok hC hfr hops hend _ _ 0 _ _ ?_ ⟨⟨trivial, by simp, rfl, rfl, Nat.zero_le _, (fun m e _ => (by rw [hno]; simp)), (fun i o _ hl => (by rw [hno] at hl; cases hl)), (fun _ _ => rfl), (fun i o d _ hl => (by rw [hno] at hl; cases hl)), (fun i o _ hl => (by rw [hno] at hl; cases hl))⟩, hS, (fun i o d _ hl => (by rw [hno] at hl; cases hl))⟩
 simp
end
theorem zba.nil_ : zba [] := fun f hf => absurd hf (by simp)
theorem zba.cons_ {f : LFact} {fs : List LFact} (h : ∀ (j : Nat) (v : Value) (u u' : World), Below u.heap.size u u' → f j v u → f j v u') (hs : zba fs) : zba (f :: fs) := fun g hg => by
 rcases List.mem_cons.1 hg with rfl | hg
 ·exact h
 ·exact hs g hg
theorem zea (X : Value) : ∀ (j : Nat) (v : Value) (u u' : World), Below u.heap.size u u' → leq X j v u → leq X j v u' := fun _ _ _ _ _ h => h
theorem zfc : ∀ (j : Nat) (v : Value) (u u' : World), Below u.heap.size u u' → lany j v u → lany j v u' := fun _ _ _ _ _ h => h
def lat (m : Nat) (p : Value → World → Prop) : LFact := fun j v u => j = m → p v u
def zkb (p : Value → World → Prop) : Prop := ∀ (v : Value) (u u' : World), Below u.heap.size u u' → p v u → p v u'
theorem zic {m : Nat} {p : Value → World → Prop} (h : zkb p) : ∀ (j : Nat) (v : Value) (u u' : World), Below u.heap.size u u' → lat m p j v u → lat m p j v u' := fun _ v u u' hb hp hj => h v u u' hb (hp hj)
theorem zbc {m j : Nat} {p : Value → World → Prop} {v : Value} {u : World} (h : j ≠ m) : lat m p j v u := fun e => absurd e h
def pOwn (own : World → Option Addr → Nat → Prop) (n : Nat) (v : Value) (u : World) : Prop := ∃ A c, v = .slice A n c ∧ own u A c
theorem zDe {own : World → Option Addr → Nat → Prop} {n : Nat} (h : ∀ u u' A c, Below u.heap.size u u' → own u A c → own u' A c) : zkb (pOwn own n) := fun v u u' hb ⟨A, c, e, ho⟩ => ⟨A, c, e, h u u' A c hb ho⟩
def pBlk (lo : Nat) (t : TypeId) (cs : Array Value) (v : Value) (u : World) : Prop := ∃ g, v = .pointer (some ⟨g, 0, none⟩) ∧ lo ≤ g ∧ Blk u g t cs
theorem pBlk_st {lo : Nat} {t : TypeId} {cs : Array Value} : zkb (pBlk lo t cs) := fun v u u' hb ⟨g, e, hg, ho⟩ => ⟨g, e, hg, ho.below hb ho.lt⟩
def pLit (lo : Nat) (t : TypeId) (n : Nat) (cs : Array Value) (v : Value) (u : World) : Prop := ∃ g, v = .slice (some ⟨g, 0, none⟩) n n ∧ lo ≤ g ∧ Blk u g t cs
theorem zYd {lo : Nat} {t : TypeId} {n : Nat} {cs : Array Value} : zkb (pLit lo t n cs) := fun v u u' hb ⟨g, e, hg, ho⟩ => ⟨g, e, hg, ho.below hb ho.lt⟩
theorem zAd {P : Program} {u : World} {o : Oper} {ρ : Operand → Value} {F : Value → World → Prop} {S : World → Prop} {St : World → World → Prop} (s x : Operand) (t : TypeId)
  (ho : o.op = .call { callee := .builtin .append, args := #[s, x], argTypes := #[t, t] })
  (base : Nat) (e : TypeId) (i : TypeInfo) (z : Value) (size bytes : Nat) (ht : P.underlying t = some (.slice e)) (hi : P.info? e = some i) (hz : i.zero = some z)
  (hsize : i.size = size) (hby : i.bytes = bytes) (hzs : z.cells.size = size) (hsz : 0 < size)
  (A0 : Option Addr) (n c0 : Nat) (xs : List Value) (hs : ρ s = .slice A0 n c0) (hown : Own u base e size A0 n c0 xs)
  (B : Nat) (A : Option Addr) (m c : Nat) (news : List Value) (hx : ρ x = .slice A m c) (hr : Reads u B size A m news) (h1 : ∀ v ∈ news, v.oneCell' = true)
  (h63 : n + m ≤ maxLen) (hbytes : (n + m) * bytes ≤ 140737488355328) (hbase : base ≤ u.heap.size)
  (h : ∀ A' c' w', Own w' base e size A' (n + m) c' (xs ++ news) → u.grownBy w' (ownB A0) → (ownB A' = ownB A0 ∨ ownB A' = some u.heap.size) → F (.slice A' (n + m) c') w' ∧ S w' ∧ St u w') : OpGood P F S St u ((execOp ρ o).run P u) := by
 obtain ⟨A', c', w', hrun, h2, h3, h4⟩ := zZd (P := P) u base t o.type e i z size bytes ht hi hz hsize hby hzs hsz A0 n c0 xs hown B A m c news hr h1 h63 hbytes hbase
 unfold execOp
 simp only [ho, resolve, invoke, builtin, Sem.run_bind, Sem.run_pure, Result.andThen_ok, List.map_toArray, List.map_cons, List.map_nil, hs, hx, hrun]
 exact h A' c' w' h2 h3 h4
theorem zha {P : Program} {u : World} {F : Value → World → Prop} {S : World → Prop} {St : World → World → Prop} {f : FuncId} {args : Array Value} {Q : Ending → World → Prop} (h : Calls P f args u Q)
  (hq : ∀ e w', Q e w' → ∃ v, e = .returned v ∧ F v w' ∧ S w' ∧ St u w') : OpGood P F S St u (.ok (.enter f args) u) := h.mono hq
def sj (a b : World → Prop) (j : Nat) (u : World) : Prop := (j = 0 → a u) ∧ (j = 1 → b u)
theorem sj0 {a b : World → Prop} {u : World} (h : a u) : sj a b 0 u := ⟨fun _ => h, fun h => absurd h (by omega)⟩
theorem sj1 {a b : World → Prop} {u : World} (h : b u) : sj a b 1 u := ⟨fun h => absurd h (by omega), fun _ => h⟩
theorem jz {R : List (Nat × Nat)} {i lo j : Nat} (hj : ∀ r, R[i]? = some r → r.1 ≤ j ∧ j ≤ r.2) (h : R[i]? = some (lo, lo)) : j = lo := by
 have := hj _ h
 dsimp only at this
 omega
theorem KL {ops : Array Oper} {ρ : Operand → Value} {i j : Nat} {u : World} {l : List Oper} {fs : List LFact} (h : zba fs) : KeepL ops ρ i j j u u 0 l fs := KeepL.below (Below.refl _ _) l fs 0 h
open Go.RowKit
def OwnG (w : World) (base : Nat) (A : Option Addr) (c : Nat) (l : List zxa) : Prop := Own w base 148 2 A l.length c (l.flatMap zxa.enc)
theorem infoGuard : (Tryz.prog.info? 148).map (fun i => (i.zero, i.size, i.bytes)) = some (some (.agg #[.int .i64 0, .bool false]), 2, 16) := by kernel_rfl
theorem OwnG_one (l : List zxa) : ∀ u ∈ l.flatMap zxa.enc, u.oneCell' = true := by
 intro u hu
 obtain ⟨x, _, hx⟩ := List.mem_flatMap.1 hu
 simp [zxa.enc] at hx
 rcases hx with rfl | hx
 ·rfl
 ·first
  | (rcases hx with rfl | rfl <;> rfl)
  | (subst hx; rfl)
theorem zfe {w : World} {ops : Array Oper} {rest : List Oper} {o : Oper} {a : Act} {Q : Exit → Act → World → Prop} (hgd : o.guard = none) (s x : Operand)
  (ho : o.op = .call { callee := .builtin .append, args := #[s, x], argTypes := #[107, 107] })
  (base : Nat) (A0 : Option Addr) (n0 c0 : Nat) (S0 : List zxa) (hn0 : S0.length = n0) (hs : a.eval s = .slice A0 n0 c0) (hown : OwnG w base A0 c0 S0)
  (B : Nat) (A : Option Addr) (m c : Nat) (S : List zxa) (hm : S.length = m) (hx : a.eval x = .slice A m c) (hr : Reads w B 2 A m (S.flatMap zxa.enc)) (hsz : n0 + m ≤ 10000000) (hbase : base ≤ w.heap.size)
  (h : ∀ A' c' w', OwnG w' base A' c' (S0 ++ S) → w.grownBy w' (ownB A0) → (ownB A' = ownB A0 ∨ ownB A' = some w.heap.size) → wpList Tryz.prog ops Q rest (a.put o.dst (.slice A' (n0 + m) c')) w') : wpList Tryz.prog ops Q (o :: rest) a w := by
 obtain ⟨i0, hi, hz0, hz1, hz2⟩ := info_parts infoGuard
 subst hn0 hm
 refine zNa w hgd s x 107 ho base 148 i0 _ 2 16 Tryz.underlying107 hi hz0 hz1 hz2 rfl (by decide) A0 S0.length c0 _ hs hown B A S.length c _ hx hr (OwnG_one S) (by unfold maxLen; omega) (by omega) hbase ?_
 intro A' c' w' h1 h2 h3
 exact h A' c' w' (by unfold OwnG; rw [List.flatMap_append, List.length_append]; exact h1) h2 h3
theorem zZc {u : World} {o : Oper} {ρ : Operand → Value} {F : Value → World → Prop} {S1 : World → Prop} {St : World → World → Prop} (s x : Operand)
  (ho : o.op = .call { callee := .builtin .append, args := #[s, x], argTypes := #[107, 107] })
  (base : Nat) (A0 : Option Addr) (n0 c0 : Nat) (S0 : List zxa) (hn0 : S0.length = n0) (hs : ρ s = .slice A0 n0 c0) (hown : OwnG u base A0 c0 S0)
  (B : Nat) (A : Option Addr) (m c : Nat) (S : List zxa) (hm : S.length = m) (hx : ρ x = .slice A m c) (hr : Reads u B 2 A m (S.flatMap zxa.enc)) (hsz : n0 + m ≤ 10000000) (hbase : base ≤ u.heap.size)
  (h : ∀ A' c' w', OwnG w' base A' c' (S0 ++ S) → u.grownBy w' (ownB A0) → (ownB A' = ownB A0 ∨ ownB A' = some u.heap.size) → F (.slice A' (n0 + m) c') w' ∧ S1 w' ∧ St u w') : OpGood Tryz.prog F S1 St u ((execOp ρ o).run Tryz.prog u) := by
 obtain ⟨i0, hi, hz0, hz1, hz2⟩ := info_parts infoGuard
 subst hn0 hm
 refine zAd s x 107 ho base 148 i0 _ 2 16 Tryz.underlying107 hi hz0 hz1 hz2 rfl (by decide) A0 S0.length c0 _ hs hown B A S.length c _ hx hr (OwnG_one S) (by unfold maxLen; omega) (by omega) hbase ?_
 intro A' c' w' h1 h2 h3
 exact h A' c' w' (by unfold OwnG; rw [List.flatMap_append, List.length_append]; exact h1) h2 h3
def OwnU (w : World) (base : Nat) (A : Option Addr) (c : Nat) (l : List UnitD) : Prop := Own w base 109 3 A l.length c (l.flatMap UnitD.enc)
theorem infoUnit : (Tryz.prog.info? 109).map (fun i => (i.zero, i.size, i.bytes)) = some (some (.agg #[.int .i64 0, .slice none 0 0, .slice none 0 0]), 3, 56) := by kernel_rfl
theorem OwnU_one (l : List UnitD) : ∀ u ∈ l.flatMap UnitD.enc, u.oneCell' = true := by
 intro u hu
 obtain ⟨x, _, hx⟩ := List.mem_flatMap.1 hu
 simp [UnitD.enc] at hx
 rcases hx with rfl | hx
 ·rfl
 ·first
  | (rcases hx with rfl | rfl <;> rfl)
  | (subst hx; rfl)
theorem OwnU_le {w : World} {base c : Nat} {A : Option Addr} {l : List UnitD} (h : OwnU w base A c l) : l.length ≤ c ∧ c ≤ maxLen := by
 rcases h.2 with ⟨h1, h2⟩ | ⟨g, cap, cur, hv, _, _, h1, h2, _⟩
 ·injection h1 with _ _ h1; subst h1; rw [h2]; exact ⟨Nat.le_refl _, Nat.zero_le _⟩
 ·injection hv with _ _ hv; subst hv; exact ⟨h1, h2⟩
theorem OwnU_slr {w : World} {base c : Nat} {A : Option Addr} {l : List UnitD} (h : OwnU w base A c l) : SLR w w.heap.size 3 UnitD.enc (fun _ => True) ⟨A, c, l⟩ := ⟨(OwnU_le h).1, (OwnU_le h).2, Own.reads h, fun _ _ => trivial⟩
theorem zOc {w : World} {ops : Array Oper} {rest : List Oper} {o : Oper} {a : Act} {Q : Exit → Act → World → Prop} (hgd : o.guard = none) (s x : Operand)
  (ho : o.op = .call { callee := .builtin .append, args := #[s, x], argTypes := #[63, 63] })
  (base : Nat) (A0 : Option Addr) (n0 c0 : Nat) (S0 : List UnitD) (hn0 : S0.length = n0) (hs : a.eval s = .slice A0 n0 c0) (hown : OwnU w base A0 c0 S0)
  (B : Nat) (A : Option Addr) (m c : Nat) (S : List UnitD) (hm : S.length = m) (hx : a.eval x = .slice A m c) (hr : Reads w B 3 A m (S.flatMap UnitD.enc)) (hsz : n0 + m ≤ 10000000) (hbase : base ≤ w.heap.size)
  (h : ∀ A' c' w', OwnU w' base A' c' (S0 ++ S) → w.grownBy w' (ownB A0) → (ownB A' = ownB A0 ∨ ownB A' = some w.heap.size) → wpList Tryz.prog ops Q rest (a.put o.dst (.slice A' (n0 + m) c')) w') : wpList Tryz.prog ops Q (o :: rest) a w := by
 obtain ⟨i0, hi, hz0, hz1, hz2⟩ := info_parts infoUnit
 subst hn0 hm
 refine zNa w hgd s x 63 ho base 109 i0 _ 3 56 Tryz.underlying63 hi hz0 hz1 hz2 rfl (by decide) A0 S0.length c0 _ hs hown B A S.length c _ hx hr (OwnU_one S) (by unfold maxLen; omega) (by omega) hbase ?_
 intro A' c' w' h1 h2 h3
 exact h A' c' w' (by unfold OwnU; rw [List.flatMap_append, List.length_append]; exact h1) h2 h3
def OwnFR (w : World) (base : Nat) (A : Option Addr) (c : Nat) (l : List (Int × Int)) : Prop := Own w base 82 2 A l.length c (l.flatMap frE)
theorem infoFref : (Tryz.prog.info? 82).map (fun i => (i.zero, i.size, i.bytes)) = some (some (.agg #[.int .i64 0, .int .i64 0]), 2, 16) := by kernel_rfl
theorem OwnFR_one (l : List (Int × Int)) : ∀ u ∈ l.flatMap frE, u.oneCell' = true := by
 intro u hu
 obtain ⟨x, _, hx⟩ := List.mem_flatMap.1 hu
 simp [frE] at hx
 rcases hx with rfl | hx
 ·rfl
 ·first
  | (rcases hx with rfl | rfl <;> rfl)
  | (subst hx; rfl)
theorem OwnFR_le {w : World} {base c : Nat} {A : Option Addr} {l : List (Int × Int)} (h : OwnFR w base A c l) : l.length ≤ c ∧ c ≤ maxLen := by
 rcases h.2 with ⟨h1, h2⟩ | ⟨g, cap, cur, hv, _, _, h1, h2, _⟩
 ·injection h1 with _ _ h1; subst h1; rw [h2]; exact ⟨Nat.le_refl _, Nat.zero_le _⟩
 ·injection hv with _ _ hv; subst hv; exact ⟨h1, h2⟩
theorem OwnFR_slr {w : World} {base c : Nat} {A : Option Addr} {l : List (Int × Int)} (h : OwnFR w base A c l) : SLR w w.heap.size 2 frE (fun _ => True) ⟨A, c, l⟩ := ⟨(OwnFR_le h).1, (OwnFR_le h).2, Own.reads h, fun _ _ => trivial⟩
theorem zcb {w : World} {ops : Array Oper} {rest : List Oper} {o : Oper} {a : Act} {Q : Exit → Act → World → Prop} (hgd : o.guard = none) (s x : Operand)
  (ho : o.op = .call { callee := .builtin .append, args := #[s, x], argTypes := #[183, 183] })
  (base : Nat) (A0 : Option Addr) (n0 c0 : Nat) (S0 : List (Int × Int)) (hn0 : S0.length = n0) (hs : a.eval s = .slice A0 n0 c0) (hown : OwnFR w base A0 c0 S0)
  (B : Nat) (A : Option Addr) (m c : Nat) (S : List (Int × Int)) (hm : S.length = m) (hx : a.eval x = .slice A m c) (hr : Reads w B 2 A m (S.flatMap frE)) (hsz : n0 + m ≤ 10000000) (hbase : base ≤ w.heap.size)
  (h : ∀ A' c' w', OwnFR w' base A' c' (S0 ++ S) → w.grownBy w' (ownB A0) → (ownB A' = ownB A0 ∨ ownB A' = some w.heap.size) → wpList Tryz.prog ops Q rest (a.put o.dst (.slice A' (n0 + m) c')) w') : wpList Tryz.prog ops Q (o :: rest) a w := by
 obtain ⟨i0, hi, hz0, hz1, hz2⟩ := info_parts infoFref
 subst hn0 hm
 refine zNa w hgd s x 183 ho base 82 i0 _ 2 16 Tryz.underlying183 hi hz0 hz1 hz2 rfl (by decide) A0 S0.length c0 _ hs hown B A S.length c _ hx hr (OwnFR_one S) (by unfold maxLen; omega) (by omega) hbase ?_
 intro A' c' w' h1 h2 h3
 exact h A' c' w' (by unfold OwnFR; rw [List.flatMap_append, List.length_append]; exact h1) h2 h3
theorem zhd {u : World} {o : Oper} {ρ : Operand → Value} {F : Value → World → Prop} {S1 : World → Prop} {St : World → World → Prop} (s x : Operand)
  (ho : o.op = .call { callee := .builtin .append, args := #[s, x], argTypes := #[183, 183] })
  (base : Nat) (A0 : Option Addr) (n0 c0 : Nat) (S0 : List (Int × Int)) (hn0 : S0.length = n0) (hs : ρ s = .slice A0 n0 c0) (hown : OwnFR u base A0 c0 S0)
  (B : Nat) (A : Option Addr) (m c : Nat) (S : List (Int × Int)) (hm : S.length = m) (hx : ρ x = .slice A m c) (hr : Reads u B 2 A m (S.flatMap frE)) (hsz : n0 + m ≤ 10000000) (hbase : base ≤ u.heap.size)
  (h : ∀ A' c' w', OwnFR w' base A' c' (S0 ++ S) → u.grownBy w' (ownB A0) → (ownB A' = ownB A0 ∨ ownB A' = some u.heap.size) → F (.slice A' (n0 + m) c') w' ∧ S1 w' ∧ St u w') : OpGood Tryz.prog F S1 St u ((execOp ρ o).run Tryz.prog u) := by
 obtain ⟨i0, hi, hz0, hz1, hz2⟩ := info_parts infoFref
 subst hn0 hm
 refine zAd s x 183 ho base 82 i0 _ 2 16 Tryz.underlying183 hi hz0 hz1 hz2 rfl (by decide) A0 S0.length c0 _ hs hown B A S.length c _ hx hr (OwnFR_one S) (by unfold maxLen; omega) (by omega) hbase ?_
 intro A' c' w' h1 h2 h3
 exact h A' c' w' (by unfold OwnFR; rw [List.flatMap_append, List.length_append]; exact h1) h2 h3
def OwnR (w : World) (base : Nat) (A : Option Addr) (c : Nat) (l : List (Int × Int)) : Prop := Own w base 69 2 A l.length c (l.flatMap frE)
theorem infoRes : (Tryz.prog.info? 69).map (fun i => (i.zero, i.size, i.bytes)) = some (some (.agg #[.int .i64 0, .int .i64 0]), 2, 16) := by kernel_rfl
theorem OwnR_one (l : List (Int × Int)) : ∀ u ∈ l.flatMap frE, u.oneCell' = true := by
 intro u hu
 obtain ⟨x, _, hx⟩ := List.mem_flatMap.1 hu
 simp [frE] at hx
 rcases hx with rfl | hx
 ·rfl
 ·first
  | (rcases hx with rfl | rfl <;> rfl)
  | (subst hx; rfl)
theorem OwnR_le {w : World} {base c : Nat} {A : Option Addr} {l : List (Int × Int)} (h : OwnR w base A c l) : l.length ≤ c ∧ c ≤ maxLen := by
 rcases h.2 with ⟨h1, h2⟩ | ⟨g, cap, cur, hv, _, _, h1, h2, _⟩
 ·injection h1 with _ _ h1; subst h1; rw [h2]; exact ⟨Nat.le_refl _, Nat.zero_le _⟩
 ·injection hv with _ _ hv; subst hv; exact ⟨h1, h2⟩
theorem OwnR_slr {w : World} {base c : Nat} {A : Option Addr} {l : List (Int × Int)} (h : OwnR w base A c l) : SLR w w.heap.size 2 frE (fun _ => True) ⟨A, c, l⟩ := ⟨(OwnR_le h).1, (OwnR_le h).2, Own.reads h, fun _ _ => trivial⟩
theorem zwd {u : World} {o : Oper} {ρ : Operand → Value} {F : Value → World → Prop} {S1 : World → Prop} {St : World → World → Prop} (s x : Operand)
  (ho : o.op = .call { callee := .builtin .append, args := #[s, x], argTypes := #[64, 64] })
  (base : Nat) (A0 : Option Addr) (n0 c0 : Nat) (S0 : List (Int × Int)) (hn0 : S0.length = n0) (hs : ρ s = .slice A0 n0 c0) (hown : OwnR u base A0 c0 S0)
  (B : Nat) (A : Option Addr) (m c : Nat) (S : List (Int × Int)) (hm : S.length = m) (hx : ρ x = .slice A m c) (hr : Reads u B 2 A m (S.flatMap frE)) (hsz : n0 + m ≤ 10000000) (hbase : base ≤ u.heap.size)
  (h : ∀ A' c' w', OwnR w' base A' c' (S0 ++ S) → u.grownBy w' (ownB A0) → (ownB A' = ownB A0 ∨ ownB A' = some u.heap.size) → F (.slice A' (n0 + m) c') w' ∧ S1 w' ∧ St u w') : OpGood Tryz.prog F S1 St u ((execOp ρ o).run Tryz.prog u) := by
 obtain ⟨i0, hi, hz0, hz1, hz2⟩ := info_parts infoRes
 subst hn0 hm
 refine zAd s x 64 ho base 69 i0 _ 2 16 Tryz.underlying64 hi hz0 hz1 hz2 rfl (by decide) A0 S0.length c0 _ hs hown B A S.length c _ hx hr (OwnR_one S) (by unfold maxLen; omega) (by omega) hbase ?_
 intro A' c' w' h1 h2 h3
 exact h A' c' w' (by unfold OwnR; rw [List.flatMap_append, List.length_append]; exact h1) h2 h3
end Go.Proofs.YtakgiamhdpgoeaaGreat
