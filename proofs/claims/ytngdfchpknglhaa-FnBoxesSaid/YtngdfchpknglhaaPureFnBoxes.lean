/- The law FnBoxes answers true: the substitution box is a permutation with its known values; no condition. -/
import Derived.Test.YtngdfchpknglhaaMFnBoxesx2
namespace Go.Proofs.Ytngdfchpknglhaa.Pure
open Go.RowKit Go.Proofs.Ytngdfchpknglhaa.PFnBoxes Go.Proofs.YtngdfchpknglhaaW.PrintWords Go.Proofs.YtngdfchpknglhaaW.PrintLast Go.Proofs.YtngdfchpknglhaaW.PrintMore
set_option linter.unusedVariables false
set_option linter.unusedSimpArgs false

theorem w64 {n : Int} (h0 : -9223372036854775808 ≤ n) (h1 : n ≤ 9223372036854775807) : wrap64 n = n := by
  unfold wrap64; omega
theorem bits_nat3 (k : IntKind) (j : Nat) (hj : j ≤ k.bits) (hk : ∀ n : Int, 0 ≤ n → n < 2 ^ j → k.wrap n = n) (a b : Nat) (ha : a < 2 ^ j) (hb : b < 2 ^ j) :
    Go.bits .and k a b = ((a &&& b : Nat) : Int) ∧ Go.bits .or k a b = ((a ||| b : Nat) : Int) ∧ Go.bits .xor k a b = ((a ^^^ b : Nat) : Int) := by
  have hp : 2 ^ j ≤ 2 ^ k.bits := Nat.pow_le_pow_right (by decide) hj
  have ha' : a % 2 ^ k.bits = a := Nat.mod_eq_of_lt (Nat.lt_of_lt_of_le ha hp)
  have hb' : b % 2 ^ k.bits = b := Nat.mod_eq_of_lt (Nat.lt_of_lt_of_le hb hp)
  have cast : ∀ n : Nat, n < 2 ^ j → ((n : Nat) : Int) < 2 ^ j := fun n h => by exact_mod_cast h
  refine ⟨?_, ?_, ?_⟩
  · simp only [Go.bits, BitVec.ofInt_natCast, BitVec.toNat_and, BitVec.toNat_ofNat, ha', hb']
    exact hk _ (Int.natCast_nonneg _) (cast _ (Nat.and_lt_two_pow _ hb))
  · simp only [Go.bits, BitVec.ofInt_natCast, BitVec.toNat_or, BitVec.toNat_ofNat, ha', hb']
    exact hk _ (Int.natCast_nonneg _) (cast _ (Nat.or_lt_two_pow ha hb))
  · simp only [Go.bits, BitVec.ofInt_natCast, BitVec.toNat_xor, BitVec.toNat_ofNat, ha', hb']
    exact hk _ (Int.natCast_nonneg _) (cast _ (Nat.xor_lt_two_pow ha hb))
theorem wr_i64 (n : Int) (h0 : 0 ≤ n) (h1 : n < 2 ^ 62) : IntKind.i64.wrap n = n := by rw [IntKind.wrap_i64]; omega
theorem wr_u64 (n : Int) (h0 : 0 ≤ n) (h1 : n < 2 ^ 64) : IntKind.u64.wrap n = n := by
  simp [IntKind.wrap, IntKind.bits, IntKind.signed]; omega
theorem or_i64 (a b : Nat) (ha : a < 2 ^ 62) (hb : b < 2 ^ 62) : Go.bits .or .i64 a b = ((a ||| b : Nat) : Int) := (bits_nat3 .i64 62 (by decide) wr_i64 a b ha hb).2.1
theorem xor_i64 (a b : Nat) (ha : a < 2 ^ 62) (hb : b < 2 ^ 62) : Go.bits .xor .i64 a b = ((a ^^^ b : Nat) : Int) := (bits_nat3 .i64 62 (by decide) wr_i64 a b ha hb).2.2
theorem and_i64 (a b : Nat) (ha : a < 2 ^ 62) (hb : b < 2 ^ 62) : Go.bits .and .i64 a b = ((a &&& b : Nat) : Int) := (bits_nat3 .i64 62 (by decide) wr_i64 a b ha hb).1
theorem xor_u8 (a b : Nat) (ha : a < 2 ^ 8) (hb : b < 2 ^ 8) : Go.bits .xor .u8 a b = ((a ^^^ b : Nat) : Int) := (bits_nat3 .u8 8 (by decide) wraps_u8 a b ha hb).2.2
/-- Byte i of s as a natural number. -/
def bn (s : ByteArray) (i : Nat) : Nat := (s.data.toList.getD i 0).toNat
theorem bn_lt (s : ByteArray) (i : Nat) : bn s i < 256 := (s.data.toList.getD i 0).toNat_lt
theorem bt_bn (s : ByteArray) (i : Nat) : bt s (i : Int) = (bn s i : Int) := by
  unfold bt bn
  split
  · rename_i h
    have h' : i < s.data.toList.length := by rw [data_length]; simpa using h
    rw [List.getD_eq_getElem?_getD, List.getElem?_eq_getElem h']; rfl
  · rename_i h
    have h' : s.data.toList.length ≤ i := by rw [data_length]; simpa using h
    rw [List.getD_eq_getElem?_getD, List.getElem?_eq_none h']; rfl
theorem bt_bn' (s : ByteArray) (i : Int) (h : 0 ≤ i) : bt s i = (bn s i.toNat : Int) := by
  obtain ⟨n, rfl⟩ := Int.eq_ofNat_of_zero_le h
  exact bt_bn s n
theorem toList_eq' (s : ByteArray) : s.toList = s.data.toList := ByteArray.toList_eq s
/-- Two strings of one length are one where their bytes are. -/
theorem bytes_ext {s t : ByteArray} (hl : s.size = t.size) (h : ∀ i, i < s.size → bn s i = bn t i) : s.data.toList = t.data.toList := by
  apply List.ext_getElem (by rw [data_length, data_length, hl])
  intro i h1 h2
  have := h i (by rw [← data_length]; exact h1)
  unfold bn at this
  rw [List.getD_eq_getElem?_getD, List.getD_eq_getElem?_getD, List.getElem?_eq_getElem h1, List.getElem?_eq_getElem h2] at this
  exact UInt8.toNat_inj.1 this
theorem strOf_data (xs : List Int) : (strOfNums xs).data.toList = xs.map fun n => UInt8.ofNat n.toNat := by simp [strOfNums]
theorem strOf_toList (xs : List Int) : (strOfNums xs).toList = xs.map fun n => UInt8.ofNat n.toNat := by rw [toList_eq', strOf_data]
theorem strOf_size (xs : List Int) : (strOfNums xs).size = xs.length := by rw [← data_length, strOf_data, List.length_map]
/-- A list of n numbers written cell by cell is the list of what was written. -/
theorem tab_set (f : Nat → Int) (n i : Nat) (rest : List Int) (h : i < n) (hr : rest.length = n - i) :
    (((List.range i).map f) ++ rest).set i (f i) = ((List.range (i + 1)).map f) ++ rest.tail := by
  cases rest with
  | nil => simp at hr; omega
  | cons a rest =>
    rw [List.set_append_right _ _ (by simp)]
    simp [List.range_succ]
theorem xor_zero_iff {a b : Nat} : a ^^^ b = 0 ↔ a = b := by
  constructor
  · intro h
    have := congrArg (· ^^^ b) h
    simpa [Nat.xor_assoc] using this
  · rintro rfl; exact Nat.xor_self a
theorem rounds_of {P : Nat → Prop} (n : Nat) (h : ∀ k, n ≤ k → P k) : ∃ k, P k := ⟨n, h n (Nat.le_refl n)⟩

def dbl (a : Nat) : Nat := if 128 ≤ a then (2 * a) ^^^ 283 else 2 * a
def mul8 : Nat → Nat → Nat → Nat → Nat
  | 0, _, _, acc => acc
  | n + 1, a, b, acc => mul8 n (dbl a) (b / 2) (if b % 2 = 1 then acc ^^^ a else acc)
/-- The product in the field of 256. -/
def gm (a b : Nat) : Nat := mul8 8 a b 0
def allB (n : Nat) (p : Nat → Bool) : Bool := (List.range n).all p
theorem of_all {n : Nat} {p : Nat → Bool} (h : allB n p = true) (a : Nat) (ha : a < n) : p a = true := by
  unfold allB at h
  rw [List.all_eq_true] at h
  exact h a (List.mem_range.2 ha)
theorem dbl_lt0 : allB 256 (fun a => decide (dbl a < 256)) = true := by decide +kernel
theorem dbl_lt {a : Nat} (h : a < 256) : dbl a < 256 := of_decide_eq_true (of_all dbl_lt0 a h)
theorem xlt {a b : Nat} (ha : a < 256) (hb : b < 256) : a ^^^ b < 256 := Nat.xor_lt_two_pow (n := 8) ha hb
theorem mul8_lt (n : Nat) : ∀ a b acc, a < 256 → acc < 256 → mul8 n a b acc < 256 := by
  induction n with
  | zero => intro a b acc _ h; exact h
  | succ n ih =>
    intro a b acc ha h
    simp only [mul8]
    apply ih _ _ _ (dbl_lt ha)
    split
    · exact xlt h ha
    · exact h
theorem gm_lt {a : Nat} (b : Nat) (ha : a < 256) : gm a b < 256 := mul8_lt 8 a b 0 ha (by decide)
theorem mul8_zero (n : Nat) : ∀ a acc, mul8 n a 0 acc = acc := by
  induction n with
  | zero => intro a acc; rfl
  | succ n ih => intro a acc; simp only [mul8, Nat.zero_div]; rw [if_neg (by decide)]; exact ih _ _

/-- The substitution box of a byte whose inverse is b. -/
def trn (b i : Nat) : Nat := (b * 2 ^ i ||| b / 2 ^ (8 - i)) &&& 255
def boxN (b : Nat) : Nat := ((((99 ^^^ trn b 0) ^^^ trn b 1) ^^^ trn b 2) ^^^ trn b 3) ^^^ trn b 4
theorem trn0 : allB 256 (fun b => trn b 0 == b) = true := by decide +kernel
theorem shlN (b i : Nat) (hb : b < 256) (hi : i ≤ 8) (y : Int) (hy : y = i) : shl .i64 (b : Int) y = ((b * 2 ^ i : Nat) : Int) := by
  subst hy
  unfold shl
  rw [show min ((i : Int)).toNat IntKind.i64.bits = i by simp [IntKind.bits]; omega]
  have h : (2 : Nat) ^ i ≤ 2 ^ 8 := Nat.pow_le_pow_right (by decide) hi
  have h2 : b * 2 ^ i ≤ 256 * 2 ^ 8 := Nat.mul_le_mul (by omega) h
  rw [show (b : Int) * 2 ^ i = ((b * 2 ^ i : Nat) : Int) by simp]
  exact wr_i64 _ (Int.natCast_nonneg _) (by omega)
theorem shrN (b i : Nat) (hi : i ≤ 64) (y : Int) (hy : y = i) : shr .i64 (b : Int) y = ((b / 2 ^ i : Nat) : Int) := by
  subst hy
  unfold shr
  rw [show min ((i : Int)).toNat IntKind.i64.bits = i by simp [IntKind.bits]; omega]
  simp
theorem trn_val (b i : Nat) (hb : b < 256) (hi : i ≤ 4) (y z : Int) (hy : y = i) (hz : z = 8 - i) : Go.bits .and .i64 (Go.bits .or .i64 (shl .i64 (b : Int) y) (shr .i64 (b : Int) z)) 255 = ((trn b i : Nat) : Int) := by
  have h : (2 : Nat) ^ i ≤ 2 ^ 4 := Nat.pow_le_pow_right (by decide) hi
  have h2 : b * 2 ^ i ≤ 256 * 2 ^ 4 := Nat.mul_le_mul (by omega) h
  have h3 : b / 2 ^ (8 - i) ≤ b := Nat.div_le_self _ _
  have h4 : (b * 2 ^ i ||| b / 2 ^ (8 - i)) < 2 ^ 13 := Nat.or_lt_two_pow (by omega) (by omega)
  rw [shlN b i hb (by omega) y hy, shrN b (8 - i) (by omega) z (by omega), or_i64 _ _ (by omega) (by omega)]
  exact and_i64 _ 255 (by omega) (by decide)
theorem trn_lt (b i : Nat) : trn b i < 256 := Nat.and_lt_two_pow (n := 8) _ (by decide)
theorem boxN_lt (b : Nat) : boxN b < 256 := xlt (xlt (xlt (xlt (xlt (by decide) (trn_lt _ _)) (trn_lt _ _)) (trn_lt _ _)) (trn_lt _ _)) (trn_lt _ _)

theorem impl_byte (a : Nat) (h : a < 256) : impl_isByte.f (a : Int) = some true := by
  simp only [impl_isByte.f, impl_within.f]
  rw [if_pos (by omega), decide_eq_true (by omega)]; rfl
theorem impl_dbl (a : Nat) (h : a < 256) : impl_FieldDouble.f (a : Int) = some ((dbl a : Nat) : Int) := by
  have e2 : wrap64 (2 * (a : Int)) = ((2 * a : Nat) : Int) := by rw [w64 (by omega) (by omega)]; omega
  simp only [impl_FieldDouble.f, impl_byte a h, Option.bind_some, if_true, e2]
  unfold dbl
  by_cases c : 128 ≤ a
  · rw [if_pos (show (a : Int) ≥ 128 by omega), if_pos c]
    exact congrArg some (xor_i64 (2 * a) 283 (by omega) (by decide))
  · rw [if_neg (show ¬ (a : Int) ≥ 128 by omega), if_neg c]
theorem and_one (b : Nat) (h : b < 2 ^ 62) : Go.bits .and .i64 (b : Int) 1 = ((b % 2 : Nat) : Int) := by
  have e := and_i64 b 1 h (by decide)
  rw [show (1 : Int) = ((1 : Nat) : Int) from rfl, e, Nat.and_one_is_mod]
theorem impl_mul_loop (d : Nat) : ∀ (k a b acc : Nat), a < 256 → acc < 256 → b < 2 ^ d → d ≤ 8 → d < k → impl_FieldMul.l0 k (a : Int) (b : Int) (acc : Int) = some ((mul8 d a b acc : Nat) : Int) := by
  induction d with
  | zero =>
    intro k a b acc ha hc hb _ hk
    obtain ⟨k, rfl⟩ : ∃ q, k = q + 1 := ⟨k - 1, by omega⟩
    have : b = 0 := by simpa using hb
    subst this
    simp only [impl_FieldMul.l0, mul8]; rw [if_neg (by omega)]
  | succ d ih =>
    intro k a b acc ha hc hb h8 hk
    obtain ⟨k, rfl⟩ : ∃ q, k = q + 1 := ⟨k - 1, by omega⟩
    have hp : 2 ^ (d + 1) = 2 * 2 ^ d := by rw [Nat.pow_succ]; omega
    have hp8 : 2 ^ (d + 1) ≤ 2 ^ 8 := Nat.pow_le_pow_right (by decide) h8
    by_cases b0 : b = 0
    · subst b0
      simp only [impl_FieldMul.l0, mul8_zero]; rw [if_neg (by omega)]
    · simp only [impl_FieldMul.l0, mul8]
      rw [if_pos (by omega), and_one b (by omega), impl_dbl a ha, show ((b : Int) / 2) = ((b / 2 : Nat) : Int) by omega, xor_i64 acc a (by omega) (by omega)]
      simp only [Option.bind_some]
      by_cases o : b % 2 = 1
      · rw [if_pos (by omega), if_pos o]
        exact ih k _ _ _ (dbl_lt ha) (xlt hc ha) (by omega) (by omega) (by omega)
      · rw [if_neg (by omega), if_neg o]
        exact ih k _ _ _ (dbl_lt ha) hc (by omega) (by omega) (by omega)
theorem impl_mul (k : Nat) (hk : 10 ≤ k) (a b : Nat) (ha : a < 256) (hb : b < 256) : impl_FieldMul.f k (a : Int) (b : Int) = some ((gm a b : Nat) : Int) := by
  obtain ⟨k, rfl⟩ : ∃ q, k = q + 1 := ⟨k - 1, by omega⟩
  simp only [impl_FieldMul.f, impl_byte a ha, impl_byte b hb, Option.bind_some, if_true, Bool.not_true, impl_FieldMul.j0, Bool.false_eq_true, if_false]
  have e := impl_mul_loop 8 k a b 0 ha (by decide) hb (by decide) (by omega)
  rw [Int.natCast_zero] at e
  exact e

/-- Square and multiply. -/
def powL : Nat → Nat → Nat → Nat → Nat
  | 0, _, _, acc => acc
  | k + 1, x, n, acc => powL k (gm x x) (n / 2) (if n % 2 = 1 then gm acc x else acc)
def pw (a n : Nat) : Nat := powL 10 a n 1
theorem powL_lt (k : Nat) : ∀ x n acc, acc < 256 → powL k x n acc < 256 := by
  induction k with
  | zero => intro x n acc h; exact h
  | succ k ih =>
    intro x n acc h
    simp only [powL]
    apply ih
    split
    · exact gm_lt _ h
    · exact h
theorem pw_lt (a n : Nat) : pw a n < 256 := powL_lt 10 a n 1 (by decide)
theorem powL_zero (k : Nat) : ∀ x acc, powL k x 0 acc = acc := by
  induction k with
  | zero => intro x acc; rfl
  | succ k ih => intro x acc; simp only [powL, Nat.zero_div]; rw [if_neg (by decide)]; exact ih _ _

theorem impl_pow_loop (d : Nat) : ∀ (k x n acc : Nat), x < 256 → acc < 256 → n < 2 ^ d → d ≤ 10 → d + 11 < k → impl_FieldPow.l0 k (x : Int) (n : Int) (acc : Int) = some ((powL d x n acc : Nat) : Int) := by
  induction d with
  | zero =>
    intro k x n acc hx hc hn _ hk
    obtain ⟨k, rfl⟩ : ∃ q, k = q + 1 := ⟨k - 1, by omega⟩
    have : n = 0 := by simpa using hn
    subst this
    simp only [impl_FieldPow.l0, powL]; rw [if_neg (by omega)]
  | succ d ih =>
    intro k x n acc hx hc hn h10 hk
    obtain ⟨k, rfl⟩ : ∃ q, k = q + 1 := ⟨k - 1, by omega⟩
    have hp : 2 ^ (d + 1) = 2 * 2 ^ d := by rw [Nat.pow_succ]; omega
    have hp8 : 2 ^ (d + 1) ≤ 2 ^ 10 := Nat.pow_le_pow_right (by decide) h10
    by_cases n0 : n = 0
    · subst n0
      simp only [impl_FieldPow.l0, powL_zero]; rw [if_neg (by omega)]
    · simp only [impl_FieldPow.l0, powL]
      rw [if_pos (by omega), and_one n (by omega), impl_mul k (by omega) acc x hc hx, impl_mul k (by omega) x x hx hx, show ((n : Int) / 2) = ((n / 2 : Nat) : Int) by omega]
      simp only [Option.bind_some]
      by_cases o : n % 2 = 1
      · rw [if_pos (by omega), if_pos o]
        exact ih k _ _ _ (gm_lt _ hx) (gm_lt _ hc) (by omega) (by omega) (by omega)
      · rw [if_neg (by omega), if_neg o]
        exact ih k _ _ _ (gm_lt _ hx) hc (by omega) (by omega) (by omega)
theorem impl_pow (k : Nat) (hk : 30 ≤ k) (a n : Nat) (ha : a < 256) (hn : n ≤ 1000) : impl_FieldPow.f k (a : Int) (n : Int) = some ((pw a n : Nat) : Int) := by
  obtain ⟨k, rfl⟩ : ∃ q, k = q + 1 := ⟨k - 1, by omega⟩
  have hw : impl_within.f (n : Int) 0 1000 = some true := by
    unfold impl_within.f; rw [if_pos (by omega), decide_eq_true (by omega)]
  have e := impl_pow_loop 10 k a n 1 ha (by decide) (by omega) (by omega) (by omega)
  simp only [impl_FieldPow.f, impl_byte a ha, hw, Option.bind_some, if_true, Bool.not_true, impl_FieldPow.j0, Bool.false_eq_true, if_false]
  exact e

theorem impl_inv (k : Nat) (hk : 30 ≤ k) (a : Nat) (ha : a < 256) : impl_FieldInverse.f k (a : Int) = some ((pw a 254 : Nat) : Int) := by
  have e := impl_pow k hk a 254 ha (by omega)
  unfold impl_FieldInverse.f
  rw [show (254 : Int) = ((254 : Nat) : Int) from rfl, e]; rfl

theorem impl_box_loop (k b : Nat) (hb : b < 256) : impl_BoxOf.l0 (k + 5) (b : Int) (Go.bits .xor .i64 (b : Int) 99) 1 = some ((boxN b : Nat) : Int) := by
  have x0 : Go.bits .xor .i64 (b : Int) 99 = (((99 ^^^ trn b 0) : Nat) : Int) := by
    have e := of_all trn0 b hb
    simp only [beq_iff_eq] at e
    rw [e, Nat.xor_comm]
    exact xor_i64 b 99 (by omega) (by decide)
  have l0 : 99 ^^^ trn b 0 < 256 := xlt (by decide) (trn_lt _ _)
  have l1 := xlt l0 (trn_lt b 1)
  have l2 := xlt l1 (trn_lt b 2)
  have l3 := xlt l2 (trn_lt b 3)
  have t1 := trn_val b 1 hb (by decide) 1 7 rfl rfl
  have t2 := trn_val b 2 hb (by decide) 2 6 rfl rfl
  have t3 := trn_val b 3 hb (by decide) 3 5 rfl rfl
  have t4 := trn_val b 4 hb (by decide) 4 4 rfl rfl
  have q := trn_lt b
  have s1 : impl_BoxOf.l0 (k + 5) (b : Int) (((99 ^^^ trn b 0) : Nat) : Int) 1 = impl_BoxOf.l0 (k + 4) (b : Int) ((((99 ^^^ trn b 0) ^^^ trn b 1 : Nat)) : Int) 2 := by
    rw [impl_BoxOf.l0]
    simp only [(show wrap64 ((8 : Int) - 1) = 7 by unfold wrap64; decide), (show wrap64 ((1 : Int) + 1) = 2 by unfold wrap64; decide), t1]
    rw [if_pos (by decide), if_pos (by decide), if_pos (by decide), xor_i64 _ _ (by omega) (by have := q 1; omega)]
  have s2 : impl_BoxOf.l0 (k + 4) (b : Int) ((((99 ^^^ trn b 0) ^^^ trn b 1 : Nat)) : Int) 2 = impl_BoxOf.l0 (k + 3) (b : Int) (((((99 ^^^ trn b 0) ^^^ trn b 1) ^^^ trn b 2 : Nat)) : Int) 3 := by
    rw [impl_BoxOf.l0]
    simp only [(show wrap64 ((8 : Int) - 2) = 6 by unfold wrap64; decide), (show wrap64 ((2 : Int) + 1) = 3 by unfold wrap64; decide), t2]
    rw [if_pos (by decide), if_pos (by decide), if_pos (by decide), xor_i64 _ _ (by omega) (by have := q 2; omega)]
  have s3 : impl_BoxOf.l0 (k + 3) (b : Int) (((((99 ^^^ trn b 0) ^^^ trn b 1) ^^^ trn b 2 : Nat)) : Int) 3 = impl_BoxOf.l0 (k + 2) (b : Int) ((((((99 ^^^ trn b 0) ^^^ trn b 1) ^^^ trn b 2) ^^^ trn b 3 : Nat)) : Int) 4 := by
    rw [impl_BoxOf.l0]
    simp only [(show wrap64 ((8 : Int) - 3) = 5 by unfold wrap64; decide), (show wrap64 ((3 : Int) + 1) = 4 by unfold wrap64; decide), t3]
    rw [if_pos (by decide), if_pos (by decide), if_pos (by decide), xor_i64 _ _ (by omega) (by have := q 3; omega)]
  have s4 : impl_BoxOf.l0 (k + 2) (b : Int) ((((((99 ^^^ trn b 0) ^^^ trn b 1) ^^^ trn b 2) ^^^ trn b 3 : Nat)) : Int) 4 = impl_BoxOf.l0 (k + 1) (b : Int) ((boxN b : Nat) : Int) 5 := by
    rw [impl_BoxOf.l0]
    simp only [(show wrap64 ((8 : Int) - 4) = 4 by unfold wrap64; decide), (show wrap64 ((4 : Int) + 1) = 5 by unfold wrap64; decide), t4]
    rw [if_pos (by decide), if_pos (by decide), if_pos (by decide), xor_i64 _ _ (by omega) (by have := q 4; omega)]
    rfl
  rw [x0, s1, s2, s3, s4, impl_BoxOf.l0, if_neg (by decide)]
theorem impl_box (k : Nat) (hk : 30 ≤ k) (a : Nat) (ha : a < 256) : impl_BoxOf.f k (a : Int) = some ((boxN (pw a 254) : Nat) : Int) := by
  simp only [impl_BoxOf.f, impl_byte a ha, impl_inv k hk a ha, Option.bind_some, if_true]
  obtain ⟨k, rfl⟩ : ∃ q, k = q + 5 := ⟨k - 5, by omega⟩
  exact impl_box_loop k _ (pw_lt a 254)

/-- The box, as a table. -/
def boxT : List Nat := [99, 124, 119, 123, 242, 107, 111, 197, 48, 1, 103, 43, 254, 215, 171, 118, 202, 130, 201, 125, 250, 89, 71, 240, 173, 212, 162, 175, 156, 164, 114, 192, 183, 253, 147, 38, 54, 63, 247, 204, 52, 165, 229, 241, 113, 216, 49, 21, 4, 199, 35, 195, 24, 150, 5, 154, 7, 18, 128, 226, 235, 39, 178, 117, 9, 131, 44, 26, 27, 110, 90, 160, 82, 59, 214, 179, 41, 227, 47, 132, 83, 209, 0, 237, 32, 252, 177, 91, 106, 203, 190, 57, 74, 76, 88, 207, 208, 239, 170, 251, 67, 77, 51, 133, 69, 249, 2, 127, 80, 60, 159, 168, 81, 163, 64, 143, 146, 157, 56, 245, 188, 182, 218, 33, 16, 255, 243, 210, 205, 12, 19, 236, 95, 151, 68, 23, 196, 167, 126, 61, 100, 93, 25, 115, 96, 129, 79, 220, 34, 42, 144, 136, 70, 238, 184, 20, 222, 94, 11, 219, 224, 50, 58, 10, 73, 6, 36, 92, 194, 211, 172, 98, 145, 149, 228, 121, 231, 200, 55, 109, 141, 213, 78, 169, 108, 86, 244, 234, 101, 122, 174, 8, 186, 120, 37, 46, 28, 166, 180, 198, 232, 221, 116, 31, 75, 189, 139, 138, 112, 62, 181, 102, 72, 3, 246, 14, 97, 53, 87, 185, 134, 193, 29, 158, 225, 248, 152, 17, 105, 217, 142, 148, 155, 30, 135, 233, 206, 85, 40, 223, 140, 161, 137, 13, 191, 230, 66, 104, 65, 153, 45, 15, 176, 84, 187, 22]
def box (a : Nat) : Nat := boxN (pw a 254)
theorem boxT_eq : allB 256 (fun i => box i == boxT.getD i 0) = true := by decide +kernel
theorem boxT_inv : allB 256 (fun i => boxT.idxOf (boxT.getD i 0) == i) = true := by decide +kernel
theorem box_lt (a : Nat) : box a < 256 := boxN_lt _
theorem box_inj {i j : Nat} (hi : i < 256) (hj : j < 256) (h : box i = box j) : i = j := by
  have a1 := of_all boxT_eq i hi
  have a2 := of_all boxT_eq j hj
  have b1 := of_all boxT_inv i hi
  have b2 := of_all boxT_inv j hj
  simp only [beq_iff_eq] at a1 a2 b1 b2
  rw [← b1, ← b2, ← a1, ← a2, h]
theorem boxT_at {i : Nat} (hi : i < 256) : box i = boxT.getD i 0 := by
  have a1 := of_all boxT_eq i hi
  simpa using a1

theorem met_loop (d : Nat) : ∀ (k i : Nat) (met : List Bool), i + d = 256 → met.length = 256 → (∀ v, met.getD v false = true → ∃ j, j < i ∧ box j = v) → d + 40 < k → laws_FnBoxes.l0 k met (i : Int) = some true := by
  induction d with
  | zero =>
    intro k i met hi hl hm hk
    obtain ⟨k, rfl⟩ : ∃ q, k = q + 1 := ⟨k - 1, by omega⟩
    have b0 := impl_box k (by omega) 0 (by decide)
    have b1 := impl_box k (by omega) 1 (by decide)
    have b83 := impl_box k (by omega) 83 (by decide)
    have b255 := impl_box k (by omega) 255 (by decide)
    have v0 : boxN (pw 0 254) = 99 := boxT_at (i := 0) (by decide)
    have v1 : boxN (pw 1 254) = 124 := boxT_at (i := 1) (by decide)
    have v83 : boxN (pw 83 254) = 237 := boxT_at (i := 83) (by decide)
    have v255 : boxN (pw 255 254) = 22 := boxT_at (i := 255) (by decide)
    rw [v0] at b0; rw [v1] at b1; rw [v83] at b83; rw [v255] at b255
    have b256 : impl_BoxOf.f k 256 = some 0 := by
      have e : impl_isByte.f 256 = some false := by unfold impl_isByte.f impl_within.f; rw [if_pos (by decide), decide_eq_false (by decide)]; rfl
      simp only [impl_BoxOf.f, e, Option.bind_some, Bool.false_eq_true, if_false]
    simp only [laws_FnBoxes.l0]
    rw [if_neg (by omega), show impl_BoxOf.f k 0 = _ from b0]
    simp only [Option.bind_some]
    rw [if_pos (by decide), show impl_BoxOf.f k 1 = _ from b1]
    simp only [Option.bind_some]
    rw [if_pos (by decide), show impl_BoxOf.f k 83 = _ from b83]
    simp only [Option.bind_some]
    rw [if_pos (by decide), show impl_BoxOf.f k 255 = _ from b255]
    simp only [Option.bind_some]
    rw [if_pos (by decide), b256]
    rfl
  | succ d ih =>
    intro k i met hi hl hm hk
    obtain ⟨k, rfl⟩ : ∃ q, k = q + 1 := ⟨k - 1, by omega⟩
    have hb := impl_box k (by omega) i (by omega)
    rw [show boxN (pw i 254) = box i from rfl] at hb
    have hlt := box_lt i
    have hno : met.getD (box i) false = false := by
      cases h : met.getD (box i) false
      · rfl
      · obtain ⟨j, hj, e⟩ := hm _ h
        have := box_inj (by omega) (by omega) e
        omega
    have e := ih k (i + 1) (met.set (box i) true) (by omega) (by simpa using hl) (by
      intro v hv
      by_cases h : box i = v
      · exact ⟨i, by omega, h⟩
      · rw [List.getD_eq_getElem?_getD, List.getElem?_set_ne h, ← List.getD_eq_getElem?_getD] at hv
        obtain ⟨j, hj, e⟩ := hm v hv
        exact ⟨j, by omega, e⟩) (by omega)
    simp only [laws_FnBoxes.l0]
    rw [if_pos (by omega), hb]
    simp only [Option.bind_some]
    rw [if_neg (by omega), if_neg (by omega), if_pos (by omega), if_pos (by omega)]
    unfold rdOf
    rw [show ((box i : Nat) : Int).toNat = box i from rfl, hno, if_neg (by decide), w64 (by omega) (by omega), show (i : Int) + 1 = ((i + 1 : Nat) : Int) by omega]
    exact e
theorem FnBoxes : laws_FnBoxes.Pure := by
  intro l h1 h2 _
  refine rounds_of 300 fun k hk => ?_
  unfold laws_FnBoxes.f laws_big.f
  simp only [Option.bind_some]
  by_cases hb : (l.length : Int) > 1048576
  · rw [if_pos (decide_eq_true hb)]
  · rw [if_neg (by simpa using hb), if_pos (by decide)]
    have e := met_loop 256 k 0 (List.replicate 256 false) (by omega) List.length_replicate (by
      intro v hv
      rw [List.getD_eq_getElem?_getD, List.getElem?_replicate] at hv
      split at hv <;> simp at hv) (by omega)
    rw [Int.natCast_zero] at e
    exact e
end Go.Proofs.Ytngdfchpknglhaa.Pure
