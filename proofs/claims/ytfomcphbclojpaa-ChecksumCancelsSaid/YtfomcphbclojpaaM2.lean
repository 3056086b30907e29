/- Plain mathematics of the laws of checksums. -/
import Derived.Test.YtfomcphbclojpaaM
namespace Go.Proofs.Ytfomcphbclojpaa
set_option linter.unusedVariables false

/-! the records -/
def frameL (l : List UInt8) : List UInt8 := (be4 l.length ++ l) ++ be4 (fnvFrom 2166136261 (be4 l.length ++ l))
/-- what Unframe answers: the body, the record's length, the code -/
def unf (l : List UInt8) : List UInt8 × Nat × Int :=
  if l.length < 8 then ([], 0, 3)
  else if (l.length : Int) - 8 < num4 l then ([], 0, 3)
  else if fnvFrom 2166136261 (l.take (4 + (num4 l).toNat)) = num4 (l.drop (4 + (num4 l).toNat)) then ((l.drop 4).take (num4 l).toNat, 4 + (num4 l).toNat + 4, 0)
  else ([], 0, 24)
theorem be4_num4 (r : List UInt8) (h : r.length = 4) : be4 (num4 r) = r := by
  match r, h with
  | [a, b, c, d], _ =>
    rw [num4_four [a, b, c, d] a b c d rfl rfl rfl rfl]
    have ha := u8_lt a
    have hb := u8_lt b
    have hc := u8_lt c
    have hd := u8_lt d
    have e : ∀ (x : Int) (c : UInt8), x % 256 = (c.toNat : Int) → byteOf x = c := by
      intro x c hx
      have := byteOf_nat x
      rw [hx] at this
      exact UInt8.toNat_inj.1 (by omega)
    unfold be4
    rw [e _ a (by omega), e _ b (by omega), e _ c (by omega), e _ d (by omega)]
theorem be4_inj (v : Int) (h0 : 0 ≤ v) (h1 : v < 4294967296) (r : List UInt8) (h : r.length = 4) : be4 v = r ↔ v = num4 r := by
  constructor
  · rintro rfl
    have := num4_be4 v h0 h1 []
    rw [List.append_nil] at this
    exact this.symm
  · rintro rfl; exact be4_num4 r h
theorem take_app_len {α : Type} (a b : List α) : (a ++ b).take a.length = a := by simp
theorem frame_len (l : List UInt8) : (frameL l).length = l.length + 8 := by unfold frameL; simp only [List.length_append]; show 4 + l.length + 4 = _; omega
theorem unf_frame (l r : List UInt8) (hl : l.length ≤ 100000) : unf (frameL l ++ r) = (l, l.length + 8, 0) := by
  have hn : num4 (frameL l ++ r) = l.length := by
    unfold frameL
    rw [List.append_assoc, List.append_assoc]
    exact num4_be4 _ (by omega) (by omega) _
  have hb := fnv_bd 2166136261 (by decide) (by decide) (be4 l.length ++ l)
  have h1 : (frameL l ++ r).take (4 + l.length) = be4 l.length ++ l := by
    unfold frameL
    rw [List.append_assoc]
    have : 4 + l.length = (be4 (l.length : Int) ++ l).length := by rw [List.length_append]; rfl
    rw [this]
    exact take_app_len _ _
  have h2 : (frameL l ++ r).drop (4 + l.length) = be4 (fnvFrom 2166136261 (be4 l.length ++ l)) ++ r := by
    unfold frameL
    rw [List.append_assoc]
    have : 4 + l.length = (be4 (l.length : Int) ++ l).length := by rw [List.length_append]; rfl
    rw [this, List.drop_left]
  have h3 : ((frameL l ++ r).drop 4).take l.length = l := by
    unfold frameL
    rw [List.append_assoc, List.append_assoc]
    rw [show (4 : Nat) = (be4 (l.length : Int)).length from rfl, List.drop_left, take_app_len]
  have hlen : (frameL l ++ r).length = l.length + 8 + r.length := by rw [List.length_append, frame_len]
  unfold unf
  rw [if_neg (by rw [hlen]; omega), if_neg (by rw [hlen, hn]; omega), hn]
  simp only [Int.toNat_natCast]
  rw [h1, h2, h3, num4_be4 _ hb.1 hb.2, if_pos rfl]
  rw [show 4 + l.length + 4 = l.length + 8 by omega]
/-- a decoded body frames to its record -/
theorem frame_unf (l b : List UInt8) (k : Nat) (h : unf l = (b, k, 0)) : 8 ≤ k ∧ k ≤ l.length ∧ frameL b = l.take k := by
  unfold unf at h
  split at h
  · simp at h
  · split at h
    · simp at h
    · split at h
      · rename_i h8 hs hf
        obtain ⟨h0, h1⟩ := num4_bd l
        obtain ⟨m, hm⟩ : ∃ m : Nat, num4 l = m := ⟨(num4 l).toNat, by omega⟩
        rw [hm] at h hs hf
        simp only [Int.toNat_natCast] at h hs hf
        simp only [Prod.mk.injEq, and_true] at h
        obtain ⟨rfl, rfl⟩ := h
        refine ⟨by omega, by omega, ?_⟩
        have hlen : ((l.drop 4).take m).length = m := by rw [List.length_take, List.length_drop]; omega
        have hbe : be4 (m : Int) = l.take 4 := by
          rw [← hm, ← num4_take]; exact be4_num4 _ (by rw [List.length_take]; omega)
        have hhead : be4 (m : Int) ++ (l.drop 4).take m = l.take (4 + m) := by rw [hbe, List.take_add]
        unfold frameL
        rw [hlen, hhead, hf, ← num4_take, be4_num4 _ (by rw [List.length_take, List.length_drop]; omega), ← List.take_add]
      · simp at h
theorem unf_bad (l : List UInt8) (h : (unf l).2.2 ≠ 0) : (unf l).1 = [] ∧ (unf l).2.1 = 0 := by
  unfold unf at *
  split
  · exact ⟨rfl, rfl⟩
  · split
    · exact ⟨rfl, rfl⟩
    · split
      · rename_i h1 h2 h3
        rw [if_neg h1, if_neg h2, if_pos h3] at h
        exact absurd rfl h
      · exact ⟨rfl, rfl⟩

/-! one changed byte -/
theorem mul_inj (x y : Int) (hx : 0 ≤ x) (hx1 : x < 4294967296) (hy : 0 ≤ y) (hy1 : y < 4294967296) (h : x * 16777619 % 4294967296 = y * 16777619 % 4294967296) : x = y := by
  have e : ∀ z : Int, 0 ≤ z → z < 4294967296 → z = (z * 16777619 % 4294967296) * 899433627 % 4294967296 := by
    intro z h0 h1; omega
  rw [e x hx hx1, e y hy hy1, h]
theorem nat_xor_left (a b c : Nat) (h : a ^^^ b = a ^^^ c) : b = c := by
  have := congrArg (fun z => a ^^^ z) h
  simpa [← Nat.xor_assoc] using this
theorem fstep_inj (v v' : Int) (c c' : UInt8) (h0 : 0 ≤ v) (h1 : v < 4294967296) (h0' : 0 ≤ v') (h1' : v' < 4294967296) (h : fstep v c = fstep v' c') : bits BinOp.xor IntKind.u32 v (c.toNat : Int) = bits BinOp.xor IntKind.u32 v' (c'.toNat : Int) := by
  have hc := u8_lt c
  have hc' := u8_lt c'
  unfold fstep at h
  have b : ∀ (v : Int) (c : UInt8), 0 ≤ v → v < 4294967296 → 0 ≤ bits BinOp.xor IntKind.u32 v (c.toNat : Int) ∧ bits BinOp.xor IntKind.u32 v (c.toNat : Int) < 4294967296 := by
    intro v c h0 h1
    have hc := u8_lt c
    rw [u32_xor v _ h0 (by omega) (by omega) (by omega)]
    have : v.toNat ^^^ (c.toNat : Int).toNat < 2 ^ 32 := Nat.xor_lt_two_pow (by omega) (by omega)
    omega
  exact mul_inj _ _ (b v c h0 h1).1 (b v c h0 h1).2 (b v' c' h0' h1').1 (b v' c' h0' h1').2 h
theorem fstep_inj_byte (v : Int) (c c' : UInt8) (h0 : 0 ≤ v) (h1 : v < 4294967296) (h : fstep v c = fstep v c') : c = c' := by
  have hc := u8_lt c
  have hc' := u8_lt c'
  have := fstep_inj v v c c' h0 h1 h0 h1 h
  rw [u32_xor v _ h0 (by omega) (by omega) (by omega), u32_xor v _ h0 (by omega) (by omega) (by omega)] at this
  have := nat_xor_left _ _ _ (Int.ofNat.inj this)
  exact UInt8.toNat_inj.1 (by omega)
theorem fstep_inj_val (v v' : Int) (c : UInt8) (h0 : 0 ≤ v) (h1 : v < 4294967296) (h0' : 0 ≤ v') (h1' : v' < 4294967296) (h : fstep v c = fstep v' c) : v = v' := by
  have hc := u8_lt c
  have := fstep_inj v v' c c h0 h1 h0' h1' h
  rw [u32_xor v _ h0 (by omega) (by omega) (by omega), u32_xor v' _ h0' (by omega) (by omega) (by omega)] at this
  have h2 := Int.ofNat.inj this
  rw [Nat.xor_comm, Nat.xor_comm v'.toNat] at h2
  have := nat_xor_left _ _ _ h2
  omega
theorem fnv_val_inj (v v' : Int) (h0 : 0 ≤ v) (h1 : v < 4294967296) (h0' : 0 ≤ v') (h1' : v' < 4294967296) (l : List UInt8) (h : fnvFrom v l = fnvFrom v' l) : v = v' := by
  induction l generalizing v v' with
  | nil => exact h
  | cons c l ih =>
    have := ih (fstep v c) (fstep v' c) (fstep_bd _ _).1 (fstep_bd _ _).2 (fstep_bd _ _).1 (fstep_bd _ _).2 h
    exact fstep_inj_val v v' c h0 h1 h0' h1' this
theorem fnv_set (l : List UInt8) (k : Nat) (c x : UInt8) (v : Int) (h0 : 0 ≤ v) (h1 : v < 4294967296) (hk : l[k]? = some c) (h : fnvFrom v (l.set k x) = fnvFrom v l) : x = c := by
  induction l generalizing k v with
  | nil => simp at hk
  | cons d l ih =>
    cases k with
    | zero =>
      simp at hk
      subst hk
      have := fnv_val_inj (fstep v x) (fstep v d) (fstep_bd _ _).1 (fstep_bd _ _).2 (fstep_bd _ _).1 (fstep_bd _ _).2 l h
      exact fstep_inj_byte v x d h0 h1 this
    | succ k => exact ih k (fstep v d) (fstep_bd _ _).1 (fstep_bd _ _).2 (by simpa using hk) h
theorem num4_prefix (l l' : List UInt8) (h : l'.take 4 = l.take 4) : num4 l' = num4 l := by rw [← num4_take, h, num4_take]
/-- one byte of a record behind its length changed: refused -/
theorem unf_changed (l : List UInt8) (hl : l.length ≤ 100000) (k : Nat) (c x : UInt8) (h4 : 4 ≤ k) (hk : (frameL l)[k]? = some c) (hx : x ≠ c) : unf ((frameL l).set k x) = ([], 0, 24) := by
  have hlen := frame_len l
  obtain ⟨hk1, hkc⟩ := List.getElem?_eq_some_iff.1 hk
  have hf := unf_frame l [] hl
  rw [List.append_nil] at hf
  have hn : num4 (frameL l) = l.length := by
    unfold frameL
    rw [List.append_assoc]
    exact num4_be4 _ (by omega) (by omega) _
  have hn' : num4 ((frameL l).set k x) = l.length := by
    rw [← hn]; apply num4_prefix; rw [List.take_set_of_le h4]
  have hb := fnv_bd 2166136261 (by decide) (by decide) (be4 l.length ++ l)
  have e4 : 4 + l.length = (be4 (l.length : Int) ++ l).length := by rw [List.length_append]; rfl
  have h1 : (frameL l).take (4 + l.length) = be4 l.length ++ l := by unfold frameL; rw [e4]; exact take_app_len _ _
  have h2 : (frameL l).drop (4 + l.length) = be4 (fnvFrom 2166136261 (be4 l.length ++ l)) := by unfold frameL; rw [e4, List.drop_left]
  unfold unf
  rw [List.length_set, if_neg (by omega), if_neg (by rw [hn']; omega), hn']
  simp only [Int.toNat_natCast]
  rw [if_neg]
  intro he
  rcases Nat.lt_or_ge k (4 + l.length) with hlt | hge
  · rw [List.take_set, List.drop_set_of_lt hlt, h1, h2] at he
    have hn4 := num4_be4 _ hb.1 hb.2 []
    rw [List.append_nil] at hn4
    rw [hn4] at he
    have hk' : (be4 (l.length : Int) ++ l)[k]? = some c := by rw [← h1, List.getElem?_take, if_pos hlt]; exact hk
    exact hx (fnv_set _ k c x 2166136261 (by decide) (by decide) hk' he)
  · rw [List.take_set_of_le hge, List.drop_set, if_neg (by omega), h1, h2] at he
    have hq := (be4_inj _ hb.1 hb.2 ((be4 (fnvFrom 2166136261 (be4 l.length ++ l))).set (k - (4 + l.length)) x) (by rw [List.length_set]; rfl)).2 he
    have hg : (be4 (fnvFrom 2166136261 (be4 l.length ++ l)))[k - (4 + l.length)]? = some c := by
      rw [← h2, List.getElem?_drop, show 4 + l.length + (k - (4 + l.length)) = k by omega]; exact hk
    have hq2 := congrArg (fun z : List UInt8 => z[k - (4 + l.length)]?) hq
    simp only [hg] at hq2
    rw [List.getElem?_set_self (by rw [show (be4 (fnvFrom 2166136261 (be4 l.length ++ l))).length = 4 from rfl]; omega)] at hq2
    injection hq2 with hq2
    exact hx hq2.symm

/-! sums -/
theorem inet_cancel (l : List UInt8) (he : l.length % 2 = 0) (hi lo : UInt8) (h : (hi.toNat : Int) * 256 + (lo.toNat : Int) = inet l) : inet (l ++ [hi, lo]) = 0 := by
  have hs : wsum true (l ++ [hi, lo]) = wsum true l + inet l := by
    rw [wsum_app, ← h]; simp [evenAt, he, wsum]
  have hb := wsum_bd true l
  unfold inet at *
  rw [hs]
  unfold fold16
  split <;> split <;> omega
def weight (k : Nat) : Int := if k % 2 = 0 then 256 else 1
theorem wsum_set (l : List UInt8) (k : Nat) (c x : UInt8) (h : l[k]? = some c) : wsum true (l.set k x) = wsum true l + weight k * ((x.toNat : Int) - (c.toNat : Int)) := by
  have g : ∀ (l : List UInt8) (b : Bool) (k : Nat), l[k]? = some c → wsum b (l.set k x) = wsum b l + (if evenAt b k = true then 256 else 1) * ((x.toNat : Int) - (c.toNat : Int)) := by
    intro l
    induction l with
    | nil => intro b k h; simp at h
    | cons d l ih =>
      intro b k h
      cases k with
      | zero =>
        simp at h
        subst h
        cases b <;> simp [wsum, evenAt] <;> omega
      | succ k =>
        have hk : l[k]? = some c := by simpa using h
        have hev : evenAt b (k + 1) = evenAt (!b) k := by
          unfold evenAt
          by_cases hp : k % 2 = 0
          · rw [if_pos hp, if_neg (by omega)]
          · rw [if_neg hp, if_pos (by omega)]; simp
        cases b <;> (simp only [List.set_cons_succ, wsum]; rw [ih _ k hk, hev]; simp only [Bool.not_false, Bool.not_true]; omega)
  have := g l true k h
  rw [this]
  unfold weight evenAt
  by_cases hp : k % 2 = 0 <;> simp [hp]
/-- two words exchanged -/
def swapped (l : List UInt8) (i j : Nat) (a b c d : UInt8) : List UInt8 := (((l.set (2 * i) c).set (2 * i + 1) d).set (2 * j) a).set (2 * j + 1) b
theorem inet_swapped (l : List UInt8) (i j : Nat) (a b c d : UInt8) (ha : l[2 * i]? = some a) (hb : l[2 * i + 1]? = some b) (hc : l[2 * j]? = some c) (hd : l[2 * j + 1]? = some d) : inet (swapped l i j a b c d) = inet l := by
  have w0 : ∀ i, weight (2 * i) = 256 := by intro i; unfold weight; rw [if_pos (by omega)]
  have w1 : ∀ i, weight (2 * i + 1) = 1 := by intro i; unfold weight; rw [if_neg (by omega)]
  have hs : wsum true (swapped l i j a b c d) = wsum true l := by
    unfold swapped
    by_cases hij : i = j
    · subst hij
      obtain rfl : a = c := Option.some.inj (ha.symm.trans hc)
      obtain rfl : b = d := Option.some.inj (hb.symm.trans hd)
      have s1 : l.set (2 * i) a = l := by
        obtain ⟨hh, rfl⟩ := List.getElem?_eq_some_iff.1 ha; exact List.set_getElem_self hh
      have s2 : l.set (2 * i + 1) b = l := by
        obtain ⟨hh, rfl⟩ := List.getElem?_eq_some_iff.1 hb; exact List.set_getElem_self hh
      rw [s1, s2, s1, s2]
    · rw [wsum_set _ (2 * j + 1) d b (by rw [List.getElem?_set_ne (by omega), List.getElem?_set_ne (by omega), List.getElem?_set_ne (by omega)]; exact hd),
        wsum_set _ (2 * j) c a (by rw [List.getElem?_set_ne (by omega), List.getElem?_set_ne (by omega)]; exact hc),
        wsum_set _ (2 * i + 1) b d (by rw [List.getElem?_set_ne (by omega)]; exact hb), wsum_set _ (2 * i) a c ha]
      rw [w0, w0, w1, w1]
      omega
  unfold inet
  rw [hs]
end Go.Proofs.Ytfomcphbclojpaa
