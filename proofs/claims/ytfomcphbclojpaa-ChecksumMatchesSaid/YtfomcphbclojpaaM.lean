/- Plain mathematics of the checksums: no program in sight. -/
import Derived.Laws.BitsAllLaws
namespace Go.Proofs.Ytfomcphbclojpaa

/-- one byte of FNV-1a -/
def fstep (v : Int) (c : UInt8) : Int := bits BinOp.xor IntKind.u32 v (c.toNat : Int) * 16777619 % 4294967296
def fnvFrom (v : Int) (l : List UInt8) : Int := l.foldl fstep v
theorem fstep_bd (v : Int) (c : UInt8) : 0 ≤ fstep v c ∧ fstep v c < 4294967296 := by unfold fstep; omega
theorem fnv_bd (v : Int) (h0 : 0 ≤ v) (h1 : v < 4294967296) (l : List UInt8) : 0 ≤ fnvFrom v l ∧ fnvFrom v l < 4294967296 := by
  unfold fnvFrom
  induction l generalizing v with
  | nil => exact ⟨h0, h1⟩
  | cons c l ih => exact ih _ (fstep_bd v c).1 (fstep_bd v c).2
theorem take_snoc {α : Type} {l : List α} {k : Nat} {c : α} (h : l[k]? = some c) : l.take (k + 1) = l.take k ++ [c] := by
  obtain ⟨hk, rfl⟩ := List.getElem?_eq_some_iff.1 h
  exact List.take_succ_eq_append_getElem hk
theorem fnv_snoc (v : Int) (l : List UInt8) (k : Nat) (c : UInt8) (h : l[k]? = some c) : fnvFrom v (l.take (k + 1)) = fstep (fnvFrom v (l.take k)) c := by
  rw [take_snoc h]; unfold fnvFrom; rw [List.foldl_append]; rfl
theorem u8_lt (c : UInt8) : ((c.toNat : Nat) : Int) < 256 := by have := c.toNat_lt; omega

/-- the reference's step, over 64 bits -/
theorem fstep64 (v : Int) (c : UInt8) (h0 : 0 ≤ v) (h1 : v < 4294967296) :
    bits BinOp.xor IntKind.u64 v (c.toNat : Int) * 16777619 % 4294967296 = fstep v c ∧ 0 ≤ bits BinOp.xor IntKind.u64 v (c.toNat : Int) ∧ bits BinOp.xor IntKind.u64 v (c.toNat : Int) < 4294967296 := by
  have hc := u8_lt c
  have hx : bits BinOp.xor IntKind.u64 v (c.toNat : Int) = bits BinOp.xor IntKind.u32 v (c.toNat : Int) := by
    rw [u64_xor v _ h0 (by omega) (by omega) (by omega), u32_xor v _ h0 (by omega) (by omega) (by omega)]
  refine ⟨by rw [hx]; rfl, ?_⟩
  rw [hx, u32_xor v _ h0 (by omega) (by omega) (by omega)]
  have : v.toNat ^^^ (c.toNat : Int).toNat < 2 ^ 32 := Nat.xor_lt_two_pow (by omega) (by omega)
  omega

/-- the sum of the big-endian words of a list of bytes, begun at an even place or not -/
def wsum : Bool → List UInt8 → Int
  | _, [] => 0
  | true, c :: l => (c.toNat : Int) * 256 + wsum false l
  | false, c :: l => (c.toNat : Int) + wsum true l
def evenAt (b : Bool) (n : Nat) : Bool := if n % 2 = 0 then b else !b
theorem wsum_app (b : Bool) (l r : List UInt8) : wsum b (l ++ r) = wsum b l + wsum (evenAt b l.length) r := by
  induction l generalizing b with
  | nil => cases b <;> simp [wsum, evenAt]
  | cons c l ih =>
    have he : evenAt (!b) l.length = evenAt b (c :: l).length := by
      unfold evenAt
      simp only [List.length_cons]
      by_cases h : l.length % 2 = 0
      · rw [if_pos h, if_neg (by omega)]
      · rw [if_neg h, if_pos (by omega)]; simp
    cases b <;> (simp only [List.cons_append, wsum]; rw [ih]; simp only [Bool.not_false, Bool.not_true] at he; rw [he]; omega)
theorem wsum_bd (b : Bool) (l : List UInt8) : 0 ≤ wsum b l ∧ wsum b l ≤ 65536 * l.length := by
  induction l generalizing b with
  | nil => cases b <;> simp [wsum]
  | cons c l ih => have hc := u8_lt c; cases b <;> (have := ih true; have := ih false; simp only [wsum, List.length_cons]; omega)
theorem wsum_even (l : List UInt8) (k : Nat) (c : UInt8) (h : l[k]? = some c) (hk : k % 2 = 0) : wsum true (l.take (k + 1)) = wsum true (l.take k) + (c.toNat : Int) * 256 := by
  obtain ⟨hl, _⟩ := List.getElem?_eq_some_iff.1 h
  rw [take_snoc h, wsum_app, List.length_take, Nat.min_eq_left (by omega)]
  simp [evenAt, hk, wsum]
theorem wsum_odd (l : List UInt8) (k : Nat) (c : UInt8) (h : l[k]? = some c) (hk : ¬ k % 2 = 0) : wsum true (l.take (k + 1)) = wsum true (l.take k) + (c.toNat : Int) := by
  obtain ⟨hl, _⟩ := List.getElem?_eq_some_iff.1 h
  rw [take_snoc h, wsum_app, List.length_take, Nat.min_eq_left (by omega)]
  simp [evenAt, hk, wsum]
/-- the sum folded to 16 bits -/
def fold16 (z : Int) : Int := if z = 0 then 0 else (z - 1) % 65535 + 1
theorem fold_small (z : Int) (h0 : 0 ≤ z) (h1 : z ≤ 65535) : fold16 z = z := by unfold fold16; split <;> omega
theorem fold_step (z : Int) (h : 65535 < z) : fold16 (z / 65536 + z % 65536) = fold16 z ∧ 0 ≤ z / 65536 + z % 65536 ∧ z / 65536 + z % 65536 < z := by unfold fold16; refine ⟨?_, by omega, by omega⟩; split <;> split <;> omega
theorem fold_bd (z : Int) : 0 ≤ fold16 z ∧ fold16 z ≤ 65535 := by unfold fold16; split <;> omega
/-- the Internet checksum -/
def inet (l : List UInt8) : Int := 65535 - fold16 (wsum true l)
theorem inet_bd (l : List UInt8) : 0 ≤ inet l ∧ inet l ≤ 65535 := by have := fold_bd (wsum true l); unfold inet; omega
theorem and_16 (z : Int) (h0 : 0 ≤ z) (h1 : z < 18446744073709551616) : bits BinOp.and IntKind.u64 z 65535 = z % 65536 := by
  rw [u64_and z 65535 h0 h1 (by omega) (by omega)]
  have : z.toNat &&& 65535 = z.toNat % 65536 := Nat.and_two_pow_sub_one_eq_mod _ 16
  show ((z.toNat &&& 65535 : Nat) : Int) = _
  rw [this]; omega
theorem nat_xor_max (z : Nat) (h : z < 2 ^ 16) : 65535 ^^^ z = 65535 - z := by
  have e : (BitVec.allOnes 16 ^^^ BitVec.ofNat 16 z).toNat = (~~~ (BitVec.ofNat 16 z)).toNat := by rw [BitVec.allOnes_xor]
  rw [BitVec.toNat_xor, BitVec.toNat_not, BitVec.toNat_ofNat, Nat.mod_eq_of_lt h, BitVec.toNat_allOnes] at e
  exact e
theorem xor_max16 (z : Int) (h0 : 0 ≤ z) (h1 : z ≤ 65535) : bits BinOp.xor IntKind.u16 IntKind.u16.max z = 65535 - z := by
  show bits BinOp.xor IntKind.u16 65535 z = _
  rw [u16_xor 65535 z (by omega) (by omega) h0 (by omega)]
  show ((65535 ^^^ z.toNat : Nat) : Int) = _
  rw [nat_xor_max _ (by omega)]; omega

/-- a byte out of a number -/
def byteOf (x : Int) : UInt8 := UInt8.ofNat (x % 256).toNat
theorem byteOf_nat (x : Int) : ((byteOf x).toNat : Int) = x % 256 := by
  unfold byteOf
  rw [UInt8.toNat_ofNat']
  omega
def be4 (v : Int) : List UInt8 := [byteOf (v / 16777216), byteOf (v / 65536), byteOf (v / 256), byteOf v]
def num4 (l : List UInt8) : Int := (l.take 4).foldl (fun v c => v * 256 + (c.toNat : Int)) 0
theorem or_8 (v : Int) (c : UInt8) (h0 : 0 ≤ v) (h1 : v < 16777216) : bits BinOp.or IntKind.u32 (v * 256) (c.toNat : Int) = v * 256 + (c.toNat : Int) := by
  have hc := u8_lt c
  rw [u32_or _ _ (by omega) (by omega) (by omega) (by omega), nat_join 8 _ _ (by omega) (by omega)]
  omega
theorem num4_take (l : List UInt8) : num4 (l.take 4) = num4 l := by unfold num4; rw [List.take_take, Nat.min_self]
theorem num_fold_bd (l : List UInt8) : 0 ≤ l.foldl (fun v c => v * 256 + (c.toNat : Int)) 0 ∧ l.foldl (fun v c => v * 256 + (c.toNat : Int)) 0 < 256 ^ l.length := by
  suffices H : ∀ (l : List UInt8) (v m : Int), 0 ≤ v → v < m → 0 ≤ l.foldl (fun v c => v * 256 + (c.toNat : Int)) v ∧ l.foldl (fun v c => v * 256 + (c.toNat : Int)) v < m * 256 ^ l.length from by
    have := H l 0 1 (by omega) (by omega)
    simpa using this
  intro l
  induction l with
  | nil => intro v m h0 h1; simp; omega
  | cons c l ih =>
    intro v m h0 h1
    have hc := u8_lt c
    have := ih (v * 256 + (c.toNat : Int)) (m * 256) (by omega) (by omega)
    simp only [List.foldl_cons, List.length_cons]
    rw [Int.pow_succ, Int.mul_comm (256 ^ l.length) 256, ← Int.mul_assoc]
    exact this
theorem num4_bd (l : List UInt8) : 0 ≤ num4 l ∧ num4 l < 4294967296 := by
  have h := num_fold_bd (l.take 4)
  have hl : (l.take 4).length ≤ 4 := List.length_take_le _ _
  refine ⟨h.1, ?_⟩
  unfold num4
  have : (256 : Int) ^ (l.take 4).length ≤ 4294967296 := by
    have e : ∀ n : Nat, n ≤ 4 → (256 : Int) ^ n ≤ 4294967296 := by decide
    exact e _ hl
  omega
theorem num4_step (l : List UInt8) (k : Nat) (c : UInt8) (hk : k < 4) (h : l[k]? = some c) :
    0 ≤ num4 (l.take k) ∧ num4 (l.take k) < 16777216 ∧ num4 (l.take (k + 1)) = num4 (l.take k) * 256 + (c.toNat : Int) := by
  obtain ⟨hl, _⟩ := List.getElem?_eq_some_iff.1 h
  have e1 : (l.take k).take 4 = l.take k := by rw [List.take_take, Nat.min_eq_right (by omega)]
  have e2 : (l.take (k + 1)).take 4 = l.take (k + 1) := by rw [List.take_take, Nat.min_eq_right (by omega)]
  unfold num4
  rw [e1, e2, take_snoc h, List.foldl_append]
  have hb := num_fold_bd (l.take k)
  have hn : (l.take k).length ≤ 3 := by rw [List.length_take]; omega
  have : (256 : Int) ^ (l.take k).length ≤ 16777216 := by
    have e : ∀ n : Nat, n ≤ 3 → (256 : Int) ^ n ≤ 16777216 := by decide
    exact e _ hn
  exact ⟨hb.1, by omega, rfl⟩
theorem num4_four (l : List UInt8) (c0 c1 c2 c3 : UInt8) (h0 : l[0]? = some c0) (h1 : l[1]? = some c1) (h2 : l[2]? = some c2) (h3 : l[3]? = some c3) :
    num4 l = 16777216 * (c0.toNat : Int) + 65536 * (c1.toNat : Int) + 256 * (c2.toNat : Int) + (c3.toNat : Int) := by
  have e : l.take 4 = [c0, c1, c2, c3] := by
    rw [take_snoc h3, take_snoc h2, take_snoc h1, take_snoc h0]; rfl
  unfold num4
  rw [e]
  simp only [List.foldl_cons, List.foldl_nil]
  omega
def bv (c : UInt8) : Value := .int .u8 (c.toNat : Int)
theorem bv_byteOf (x : Int) : bv (byteOf x) = .int .u8 (x % 256) := by unfold bv; rw [byteOf_nat]
theorem be4_cells (v : Int) (h0 : 0 ≤ v) (h1 : v < 4294967296) :
    ((be4 v).map bv).toArray = #[Value.int IntKind.u8 (v / 16777216), Value.int IntKind.u8 (v / 65536 % 256), Value.int IntKind.u8 (v / 256 % 256), Value.int IntKind.u8 (v % 256)] := by
  unfold be4
  simp only [List.map_cons, List.map_nil, bv_byteOf]
  rw [show v / 16777216 % 256 = v / 16777216 by omega]
theorem num4_be4 (v : Int) (h0 : 0 ≤ v) (h1 : v < 4294967296) (r : List UInt8) : num4 (be4 v ++ r) = v := by
  rw [num4_four (be4 v ++ r) _ _ _ _ rfl rfl rfl rfl]
  simp only [byteOf_nat]
  omega
end Go.Proofs.Ytfomcphbclojpaa
