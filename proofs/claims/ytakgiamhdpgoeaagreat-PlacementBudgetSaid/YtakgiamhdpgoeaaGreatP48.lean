/- Lemmas. -/
import Derived.Test.YtakgiamhdpgoeaaGreatP46
set_option linter.unusedSimpArgs false
namespace Go.Proofs.YtakgiamhdpgoeaaGreat
open Go.RowKit
set_option linter.unusedVariables false
def nilL {α : Type} : SL α := ⟨none, 0, []⟩
def smpD (N : Nat) : PrgD where
 name := ⟨#[112]⟩
 hZ := nilL
 mZ := ⟨some ⟨N + 2, 0, none⟩, 3, [⟨⟨#[105, 110]⟩, 8⟩, ⟨⟨#[111, 117, 116]⟩, 8⟩, ⟨⟨#[100, 114, 111, 112]⟩, 1⟩]⟩
 rZ := nilL
 aZ := ⟨some ⟨N + 5, 0, none⟩, 2, [⟨⟨#[115, 101, 116]⟩, nilL, ⟨some ⟨N + 4, 0, none⟩, 1, [⟨1, -1, 1, 0, 0, nilL, ⟨some ⟨N + 3, 0, none⟩, 1, [⟨1, 1, 8⟩]⟩⟩]⟩⟩, ⟨⟨#[110, 111, 112]⟩, nilL, nilL⟩]⟩
 tZ := ⟨some ⟨N + 10, 0, none⟩, 2, [⟨⟨#[97]⟩, ⟨some ⟨N + 6, 0, none⟩, 1, [⟨-1, 0, 1⟩]⟩, ⟨some ⟨N + 7, 0, none⟩, 1, [0]⟩, 0, nilL, 8⟩, ⟨⟨#[98]⟩, ⟨some ⟨N + 8, 0, none⟩, 1, [⟨-1, 1, 1⟩]⟩, ⟨some ⟨N + 9, 0, none⟩, 1, [1]⟩, 1, nilL, 8⟩]⟩
 sZ := ⟨some ⟨N + 11, 0, none⟩, 1, [⟨⟨#[115]⟩, nilL, false, 0, 0, nilL, -1⟩]⟩
 cZ := ⟨some ⟨N + 12, 0, none⟩, 2, [.mk 1 0 nilL none 0 [] none 0 [], .mk 1 1 nilL none 0 [] none 0 []]⟩
 dep := nilL
theorem zbe (N : Nat) : zUa (smpD N) = (0, (zUa (smpD N)).2) := by kernel_rfl
theorem zNc (N : Nat) : zra (smpD N) = zUa (smpD N) := by kernel_rfl
theorem smp_S (N : Nat) : PrgS (smpD N) := ⟨by simp [smpD, nilL], by simp [smpD, nilL], by simp [smpD, nilL], by simp [smpD, nilL], by simp [smpD, nilL], fun _ => zNc N⟩
theorem smp_obst1 (N : Nat) : (jobOf (smpD N) (zRa 1)).obst (zgc (jobOf (smpD N) (zRa 1)).deps) = (17, [0, 1]) := by kernel_rfl
theorem smp_obst2 (N : Nat) : (jobOf (smpD N) (zRa 2)).obst (zgc (jobOf (smpD N) (zRa 2)).deps) = (0, []) := by kernel_rfl
theorem smp_chip1 : zAa (zRa 1) = 0 := by kernel_rfl
theorem smp_chip2 : zAa (zRa 2) = 0 := by kernel_rfl
theorem smp_valid1 (N : Nat) : zRb 0 (jobOf (smpD N) (zRa 2)) [0, 1] = true := by kernel_rfl
theorem smp_valid2 (N : Nat) : zRb 0 (jobOf (smpD N) (zRa 2)) [1, 0] = false := by kernel_rfl
theorem smp_n (N : Nat) (c : ChipD) : (jobOf (smpD N) c).n = 2 := by kernel_rfl
theorem smp_ok0 (N : Nat) : (jobOf (smpD N) (zRa 2)).ok [] 0 = true := by kernel_rfl
theorem smp_ok1 (N : Nat) : (jobOf (smpD N) (zRa 2)).ok [0] 0 = false := by kernel_rfl
theorem smp_ok2 (N : Nat) : (jobOf (smpD N) (zRa 2)).ok [0] 1 = true := by kernel_rfl
theorem smp_st (N : Nat) : (jobOf (smpD N) (zRa 2)).chip.stages = 2 := by kernel_rfl
theorem smp_place1 {N : Nat} {r : PlcM} (h : zub (zra (smpD N)).1 (jobOf (smpD N) (zRa 1)) (zgc (jobOf (smpD N) (zRa 1)).deps) 9 r) : r = ⟨2, [], 0, 17, [0, 1]⟩ := by
 unfold zub at h
 rw [if_neg (by rw [zNc, zbe]; simp), if_neg (by rw [show (jobOf (smpD N) (zRa 1)).chip = zRa 1 from rfl, smp_chip1]; simp), if_neg (by omega), if_pos (by rw [smp_obst1]; simp), smp_obst1] at h
 exact h
theorem smp_place2 {N : Nat} {r : PlcM} (h : zub (zra (smpD N)).1 (jobOf (smpD N) (zRa 2)) (zgc (jobOf (smpD N) (zRa 2)).deps) 9 r) : r = ⟨1, [0, 1], 3, 0, []⟩ := by
 unfold zub at h
 rw [if_neg (by rw [zNc, zbe]; simp), if_neg (by rw [show (jobOf (smpD N) (zRa 2)).chip = zRa 2 from rfl, smp_chip2]; simp), if_neg (by omega), if_neg (by rw [smp_obst2]; simp)] at h
 obtain ⟨x, hx, rfl⟩ := h
 have h2 := smp_n N (zRa 2)
 have hs := smp_st N
 have hd : Srch (jobOf (smpD N) (zRa 2)) (min 9 1048576 : Int).toNat [] 0 0 (.placed [0, 1] 3) :=
  .yes (by rw [h2]; decide) (by rw [hs]; decide) (by decide) (smp_ok0 N) (.no (by rw [h2]; decide) (by rw [hs]; decide) (by decide) (smp_ok1 N) (.yes (by rw [h2]; decide) (by rw [hs]; decide) (by decide) (smp_ok2 N) (.done (by rw [h2]; rfl))))
 rw [hd.det (Nat.zero_le _) hx]
 rfl
theorem smp_place3 {N : Nat} {r : PlcM} (h : zub (zra (smpD N)).1 (jobOf (smpD N) (zRa 2)) (zgc (jobOf (smpD N) (zRa 2)).deps) 2 r) : r = ⟨3, [], 2, 19, []⟩ := by
 unfold zub at h
 rw [if_neg (by rw [zNc, zbe]; simp), if_neg (by rw [show (jobOf (smpD N) (zRa 2)).chip = zRa 2 from rfl, smp_chip2]; simp), if_neg (by omega), if_neg (by rw [smp_obst2]; simp)] at h
 obtain ⟨x, hx, rfl⟩ := h
 have h2 := smp_n N (zRa 2)
 have hs := smp_st N
 have hd : Srch (jobOf (smpD N) (zRa 2)) (min 2 1048576 : Int).toNat [] 0 0 (.undecided 2) :=
  .yes (by rw [h2]; decide) (by rw [hs]; decide) (by decide) (smp_ok0 N) (.no (by rw [h2]; decide) (by rw [hs]; decide) (by decide) (smp_ok1 N) (.out (by rw [h2]; decide) (by rw [hs]; decide) (by decide)))
 rw [hd.det (Nat.zero_le _) hx]
 rfl
theorem zbd {α : Type} {w : World} {B size : Nat} {enc : α → List Value} {ok : α → Prop} : SLR w B size enc ok nilL := SLR.nil_ ok
theorem smp_R {N : Nat} {w W : World} (F : Fr N w W [(N + 12, 100, #[.int .i64 1, .int .i64 0, .slice none 0 0, .slice none 0 0, .slice none 0 0, .int .i64 1, .int .i64 1, .slice none 0 0, .slice none 0 0, .slice none 0 0]), (N + 11, 85, #[.string ⟨#[115]⟩, .slice none 0 0, .bool false, .int .i64 0, .int .i64 0, .slice none 0 0, .int .i64 (-1)]), (N + 10, 80, #[.string ⟨#[97]⟩, .slice (some ⟨N + 6, 0, none⟩) 1 1, .slice (some ⟨N + 7, 0, none⟩) 1 1, .int .i64 0, .slice none 0 0, .int .i64 8, .string ⟨#[98]⟩, .slice (some ⟨N + 8, 0, none⟩) 1 1, .slice (some ⟨N + 9, 0, none⟩) 1 1, .int .i64 1, .slice none 0 0, .int .i64 8]), (N + 9, 3, #[.int .i64 1]), (N + 8, 98, #[.int .i64 (-1), .int .i64 1, .int .i64 1]), (N + 7, 3, #[.int .i64 0]), (N + 6, 98, #[.int .i64 (-1), .int .i64 0, .int .i64 1]), (N + 5, 96, #[.string ⟨#[115, 101, 116]⟩, .slice none 0 0, .slice (some ⟨N + 4, 0, none⟩) 1 1, .string ⟨#[110, 111, 112]⟩, .slice none 0 0, .slice none 0 0]), (N + 4, 93, #[.int .i64 1, .int .i64 (-1), .int .i64 1, .int .i64 0, .int .i64 0, .slice none 0 0, .slice (some ⟨N + 3, 0, none⟩) 1 1]), (N + 3, 90, #[.int .i64 1, .int .i64 1, .int .i64 8]), (N + 2, 88, #[.string ⟨#[105, 110]⟩, .int .i64 8, .string ⟨#[111, 117, 116]⟩, .int .i64 8, .string ⟨#[100, 114, 111, 112]⟩, .int .i64 1]), (N + 1, 82, #[.int .i64 (-1), .int .i64 1]), (N, 31, #[.string ⟨#[112]⟩, .slice none 0 0, .slice (some ⟨N + 2, 0, none⟩) 3 3, .slice none 0 0, .slice (some ⟨N + 5, 0, none⟩) 2 2, .slice (some ⟨N + 10, 0, none⟩) 2 2, .slice (some ⟨N + 11, 0, none⟩) 1 1, .slice (some ⟨N + 12, 0, none⟩) 2 2, .slice none 0 0])]) : PrgR W W.heap.size (smpD N) := by
 have hm : ∀ n, n ≤ 4 → n ≤ maxLen := fun n h => by unfold maxLen; omega
 have i64 : ∀ x : Int, -1 ≤ x ∧ x ≤ 8 → I64 x := fun x h => by unfold I64; omega
 have b2 : Blk W (N + 2) 88 #[.string ⟨#[105, 110]⟩, .int .i64 8, .string ⟨#[111, 117, 116]⟩, .int .i64 8, .string ⟨#[100, 114, 111, 112]⟩, .int .i64 1] := (F.blk _ (.tail _ (.tail _ (.tail _ (.tail _ (.tail _ (.tail _ (.tail _ (.tail _ (.tail _ (.tail _ (.head _)))))))))))).2
 have b3 : Blk W (N + 3) 90 #[.int .i64 1, .int .i64 1, .int .i64 8] := (F.blk _ (.tail _ (.tail _ (.tail _ (.tail _ (.tail _ (.tail _ (.tail _ (.tail _ (.tail _ (.head _))))))))))).2
 have b4 : Blk W (N + 4) 93 #[.int .i64 1, .int .i64 (-1), .int .i64 1, .int .i64 0, .int .i64 0, .slice none 0 0, .slice (some ⟨N + 3, 0, none⟩) 1 1] := (F.blk _ (.tail _ (.tail _ (.tail _ (.tail _ (.tail _ (.tail _ (.tail _ (.tail _ (.head _)))))))))).2
 have b5 : Blk W (N + 5) 96 #[.string ⟨#[115, 101, 116]⟩, .slice none 0 0, .slice (some ⟨N + 4, 0, none⟩) 1 1, .string ⟨#[110, 111, 112]⟩, .slice none 0 0, .slice none 0 0] := (F.blk _ (.tail _ (.tail _ (.tail _ (.tail _ (.tail _ (.tail _ (.tail _ (.head _))))))))).2
 have b6 : Blk W (N + 6) 98 #[.int .i64 (-1), .int .i64 0, .int .i64 1] := (F.blk _ (.tail _ (.tail _ (.tail _ (.tail _ (.tail _ (.tail _ (.head _)))))))).2
 have b7 : Blk W (N + 7) 3 #[.int .i64 0] := (F.blk _ (.tail _ (.tail _ (.tail _ (.tail _ (.tail _ (.head _))))))).2
 have b8 : Blk W (N + 8) 98 #[.int .i64 (-1), .int .i64 1, .int .i64 1] := (F.blk _ (.tail _ (.tail _ (.tail _ (.tail _ (.head _)))))).2
 have b9 : Blk W (N + 9) 3 #[.int .i64 1] := (F.blk _ (.tail _ (.tail _ (.tail _ (.head _))))).2
 have b10 : Blk W (N + 10) 80 #[.string ⟨#[97]⟩, .slice (some ⟨N + 6, 0, none⟩) 1 1, .slice (some ⟨N + 7, 0, none⟩) 1 1, .int .i64 0, .slice none 0 0, .int .i64 8, .string ⟨#[98]⟩, .slice (some ⟨N + 8, 0, none⟩) 1 1, .slice (some ⟨N + 9, 0, none⟩) 1 1, .int .i64 1, .slice none 0 0, .int .i64 8] := (F.blk _ (.tail _ (.tail _ (.head _)))).2
 have b11 : Blk W (N + 11) 85 #[.string ⟨#[115]⟩, .slice none 0 0, .bool false, .int .i64 0, .int .i64 0, .slice none 0 0, .int .i64 (-1)] := (F.blk _ (.tail _ (.head _))).2
 have b12 : Blk W (N + 12) 100 #[.int .i64 1, .int .i64 0, .slice none 0 0, .slice none 0 0, .slice none 0 0, .int .i64 1, .int .i64 1, .slice none 0 0, .slice none 0 0, .slice none 0 0] := (F.blk _ (.head _)).2
 have ex : SLR W W.heap.size 3 ExD.enc ExD.ok ⟨some ⟨N + 3, 0, none⟩, 1, [⟨1, 1, 8⟩]⟩ := zoa (α := ExD) (size := 3) (enc := ExD.enc) b3 b3.lt [⟨1, 1, 8⟩] rfl (fun _ => rfl) (hm _ (by simp)) (fun x hx => by simp at hx; subst hx; exact ⟨i64 _ (by simp), i64 _ (by simp), i64 _ (by simp)⟩)
 have k6 : SLR W W.heap.size 3 KeyD.enc KeyD.ok ⟨some ⟨N + 6, 0, none⟩, 1, [⟨-1, 0, 1⟩]⟩ := zoa (α := KeyD) (size := 3) (enc := KeyD.enc) b6 b6.lt [⟨-1, 0, 1⟩] rfl (fun _ => rfl) (hm _ (by simp)) (fun x hx => by simp at hx; subst hx; exact ⟨i64 _ (by simp), i64 _ (by simp), i64 _ (by simp)⟩)
 have k8 : SLR W W.heap.size 3 KeyD.enc KeyD.ok ⟨some ⟨N + 8, 0, none⟩, 1, [⟨-1, 1, 1⟩]⟩ := zoa (α := KeyD) (size := 3) (enc := KeyD.enc) b8 b8.lt [⟨-1, 1, 1⟩] rfl (fun _ => rfl) (hm _ (by simp)) (fun x hx => by simp at hx; subst hx; exact ⟨i64 _ (by simp), i64 _ (by simp), i64 _ (by simp)⟩)
 have a7 : SLR W W.heap.size 1 intE I64 ⟨some ⟨N + 7, 0, none⟩, 1, [0]⟩ := zoa (α := Int) (size := 1) (enc := intE) b7 b7.lt [0] rfl (fun _ => rfl) (hm _ (by simp)) (fun x hx => by simp at hx; subst hx; exact i64 _ (by simp))
 have a9 : SLR W W.heap.size 1 intE I64 ⟨some ⟨N + 9, 0, none⟩, 1, [1]⟩ := zoa (α := Int) (size := 1) (enc := intE) b9 b9.lt [1] rfl (fun _ => rfl) (hm _ (by simp)) (fun x hx => by simp at hx; subst hx; exact i64 _ (by simp))
 have st : SLR W W.heap.size 7 StD.enc (StD.ok W W.heap.size) ⟨some ⟨N + 4, 0, none⟩, 1, [⟨1, -1, 1, 0, 0, nilL, ⟨some ⟨N + 3, 0, none⟩, 1, [⟨1, 1, 8⟩]⟩⟩]⟩ := zoa (α := StD) (size := 7) (enc := StD.enc) b4 b4.lt [⟨1, -1, 1, 0, 0, nilL, ⟨some ⟨N + 3, 0, none⟩, 1, [⟨1, 1, 8⟩]⟩⟩] rfl (fun _ => rfl) (hm _ (by simp)) (fun x hx => by
  simp at hx; subst hx
  exact ⟨i64 _ (by simp), i64 _ (by simp), i64 _ (by simp), i64 _ (by simp), i64 _ (by simp), zbd, ex⟩)
 refine ⟨by unfold maxLen; simp [smpD]; decide, zbd, ?_, zbd, ?_, ?_, ?_, ?_, zbd⟩
 ·exact zoa (α := FldD) (size := 2) (enc := FldD.enc) b2 b2.lt [⟨⟨#[105, 110]⟩, 8⟩, ⟨⟨#[111, 117, 116]⟩, 8⟩, ⟨⟨#[100, 114, 111, 112]⟩, 1⟩] rfl (fun _ => rfl) (hm _ (by simp)) (fun x hx => by
   simp at hx
   rcases hx with rfl | rfl | rfl <;> exact ⟨by refine hm _ ?_; show ByteArray.size (ByteArray.mk _) ≤ 4; decide, i64 _ (by simp)⟩)
 ·exact zoa (α := ActD) (size := 3) (enc := ActD.enc) b5 b5.lt [⟨⟨#[115, 101, 116]⟩, nilL, ⟨some ⟨N + 4, 0, none⟩, 1, [⟨1, -1, 1, 0, 0, nilL, ⟨some ⟨N + 3, 0, none⟩, 1, [⟨1, 1, 8⟩]⟩⟩]⟩⟩, ⟨⟨#[110, 111, 112]⟩, nilL, nilL⟩] rfl (fun _ => rfl) (hm _ (by simp)) (fun x hx => by
   simp at hx
   rcases hx with rfl | rfl
   ·exact ⟨by refine hm _ ?_; show ByteArray.size (ByteArray.mk _) ≤ 4; decide, zbd, st⟩
   ·exact ⟨by refine hm _ ?_; show ByteArray.size (ByteArray.mk _) ≤ 4; decide, zbd, zbd⟩)
 ·exact zoa (α := TblD) (size := 6) (enc := TblD.enc) b10 b10.lt [⟨⟨#[97]⟩, ⟨some ⟨N + 6, 0, none⟩, 1, [⟨-1, 0, 1⟩]⟩, ⟨some ⟨N + 7, 0, none⟩, 1, [0]⟩, 0, nilL, 8⟩, ⟨⟨#[98]⟩, ⟨some ⟨N + 8, 0, none⟩, 1, [⟨-1, 1, 1⟩]⟩, ⟨some ⟨N + 9, 0, none⟩, 1, [1]⟩, 1, nilL, 8⟩] rfl (fun _ => rfl) (hm _ (by simp)) (fun x hx => by
   simp at hx
   rcases hx with rfl | rfl
   ·exact ⟨by refine hm _ ?_; show ByteArray.size (ByteArray.mk _) ≤ 4; decide, k6, a7, i64 _ (by simp), zbd, i64 _ (by simp)⟩
   ·exact ⟨by refine hm _ ?_; show ByteArray.size (ByteArray.mk _) ≤ 4; decide, k8, a9, i64 _ (by simp), zbd, i64 _ (by simp)⟩)
 ·exact zoa (α := StaD) (size := 7) (enc := StaD.enc) b11 b11.lt [⟨⟨#[115]⟩, nilL, false, 0, 0, nilL, -1⟩] rfl (fun _ => rfl) (hm _ (by simp)) (fun x hx => by
   simp at hx; subst hx
   exact ⟨by refine hm _ ?_; show ByteArray.size (ByteArray.mk _) ≤ 4; decide, zbd, i64 _ (by simp), i64 _ (by simp), zbd, i64 _ (by simp)⟩)
 ·exact zoa (α := NodD) (size := 5) (enc := NodD.enc) b12 b12.lt [.mk 1 0 nilL none 0 [] none 0 [], .mk 1 1 nilL none 0 [] none 0 []] rfl (fun x => by cases x; rfl) (hm _ (by simp)) (fun x hx => by
   simp at hx
   rcases hx with rfl | rfl <;> (unfold NodD.ok; exact ⟨i64 _ (by simp), i64 _ (by simp), zbd, ⟨by simp, by simp, by simpa using Reads.none_⟩, trivial, ⟨by simp, by simp, by simpa using Reads.none_⟩, trivial⟩))
theorem Fr.alloc_at {N g : Nat} {w W : World} {L : List (Nat × TypeId × Array Value)} {cs : Array Value} {t : TypeId} (h : Fr N w W L) (hg : W.heap.size = g) : Fr N w (W.alloc (.cells cs t)) ((g, t, cs) :: L) := by
 subst hg; exact h.alloc cs t
theorem smp_fin {N : Nat} {w W : World} (F : Fr N w W [(N + 12, 100, #[.int .i64 1, .int .i64 0, .slice none 0 0, .slice none 0 0, .slice none 0 0, .int .i64 1, .int .i64 1, .slice none 0 0, .slice none 0 0, .slice none 0 0]), (N + 11, 85, #[.string ⟨#[115]⟩, .slice none 0 0, .bool false, .int .i64 0, .int .i64 0, .slice none 0 0, .int .i64 (-1)]), (N + 10, 80, #[.string ⟨#[97]⟩, .slice (some ⟨N + 6, 0, none⟩) 1 1, .slice (some ⟨N + 7, 0, none⟩) 1 1, .int .i64 0, .slice none 0 0, .int .i64 8, .string ⟨#[98]⟩, .slice (some ⟨N + 8, 0, none⟩) 1 1, .slice (some ⟨N + 9, 0, none⟩) 1 1, .int .i64 1, .slice none 0 0, .int .i64 8]), (N + 9, 3, #[.int .i64 1]), (N + 8, 98, #[.int .i64 (-1), .int .i64 1, .int .i64 1]), (N + 7, 3, #[.int .i64 0]), (N + 6, 98, #[.int .i64 (-1), .int .i64 0, .int .i64 1]), (N + 5, 96, #[.string ⟨#[115, 101, 116]⟩, .slice none 0 0, .slice (some ⟨N + 4, 0, none⟩) 1 1, .string ⟨#[110, 111, 112]⟩, .slice none 0 0, .slice none 0 0]), (N + 4, 93, #[.int .i64 1, .int .i64 (-1), .int .i64 1, .int .i64 0, .int .i64 0, .slice none 0 0, .slice (some ⟨N + 3, 0, none⟩) 1 1]), (N + 3, 90, #[.int .i64 1, .int .i64 1, .int .i64 8]), (N + 2, 88, #[.string ⟨#[105, 110]⟩, .int .i64 8, .string ⟨#[111, 117, 116]⟩, .int .i64 8, .string ⟨#[100, 114, 111, 112]⟩, .int .i64 1]), (N + 1, 82, #[.int .i64 (-1), .int .i64 1]), (N, 31, #[.string ⟨#[112]⟩, .slice none 0 0, .slice (some ⟨N + 2, 0, none⟩) 3 3, .slice none 0 0, .slice (some ⟨N + 5, 0, none⟩) 2 2, .slice (some ⟨N + 10, 0, none⟩) 2 2, .slice (some ⟨N + 11, 0, none⟩) 1 1, .slice (some ⟨N + 12, 0, none⟩) 2 2, .slice none 0 0])]) : (∃ N', Ending.returned (PrgD.v (smpD N)) = .returned (PrgD.v (smpD N')) ∧ PrgR W W.heap.size (smpD N')) ∧ Below N w W := ⟨⟨N, rfl, smp_R F⟩, F.below⟩
set_option maxRecDepth 100000 in
set_option maxHeartbeats 8000000 in
theorem sample_any (w : World) : Calls Tryz.prog 14 #[] w fun e w' => (∃ N, e = .returned (PrgD.v (smpD N)) ∧ PrgR w' w'.heap.size (smpD N)) ∧ Below w.heap.size w w' := by
 obtain ⟨N, hN⟩ : ∃ N, w.heap.size = N := ⟨_, rfl⟩
 rw [hN]
 have F0 := Fr.start w
 rw [hN] at F0
 have HF0 := Hd F0
 clear F0
 go_enter Tryz.func14, Tryz.ntmps14
 go_wp2_with fail
 refine bodyPost_ret (v := PrgD.v (smpD N)) (by simp [results, Tryz.results14, go_sem, PrgD.v, PrgD.vs, smpD, nilL, hN]) rfl ?_
 refine smp_fin ?_
 iterate 13 (refine Fr.alloc_at ?_ (by simp [World.size_alloc, hN]))
 exact HF0.out
end Go.Proofs.YtakgiamhdpgoeaaGreat
