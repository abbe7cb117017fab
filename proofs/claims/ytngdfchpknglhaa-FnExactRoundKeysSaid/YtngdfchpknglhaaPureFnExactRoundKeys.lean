/- The law FnExactRoundKeys answers true: at a text of 16 bytes both make the same eleven keys, at any other both answer no key; no condition. -/
import Derived.Test.YtngdfchpknglhaaMFnExactRoundKeysx5
namespace Go.Proofs.Ytngdfchpknglhaa.Pure
open Go.RowKit Go.Proofs.Ytngdfchpknglhaa.PFnExactRoundKeys Go.Proofs.YtngdfchpknglhaaW.PrintWords Go.Proofs.YtngdfchpknglhaaW.PrintLast Go.Proofs.YtngdfchpknglhaaW.PrintMore
set_option linter.unusedVariables false
set_option linter.unusedSimpArgs false

theorem w64 {n : Int} (h0 : -9223372036854775808 ≤ n) (h1 : n ≤ 9223372036854775807) : wrap64 n = n := by
  unfold wrap64; omega
theorem bits_nat3 (k : IntKind) (j : Nat) (hj : j ≤ k.bits) (hk : ∀ n : Int, 0 ≤ n → n < 2 ^ j → k.wrap n = n) (a b : Nat) (ha : a < 2 ^ j) (hb : b < 2 ^ j) :
    Go.bits .and k a b = ((a &&& b : Nat) : Int) ∧ Go.bits .or k a b = ((a ||| b : Nat) : Int) ∧ Go.bits .xor k a b = ((a ^^^ b : Nat) : Int) := by
  have hp : 2 ^ j ≤ 2 ^ k.bits := Nat.pow_le_pow_right (by decide) hj
  have ha' : a % 2 ^ k.bits = a := Nat.mod_eq_of_lt (Nat.lt_of_lt_of_le ha hp)
  have hb' : b % 2 ^ k.bits = b := Nat.mod_eq_of_lt (Nat.lt_of_lt_of_le hb hp)
  have cast : ∀ n : Nat, n < 2 ^ j → ((n : Nat) : Int) < 2 ^ j := fun n h => by exact_mod_cast h
  refine ⟨?_, ?_, ?_⟩
  · simp only [Go.bits, BitVec.ofInt_natCast, BitVec.toNat_and, BitVec.toNat_ofNat, ha', hb']
    exact hk _ (Int.natCast_nonneg _) (cast _ (Nat.and_lt_two_pow _ hb))
  · simp only [Go.bits, BitVec.ofInt_natCast, BitVec.toNat_or, BitVec.toNat_ofNat, ha', hb']
    exact hk _ (Int.natCast_nonneg _) (cast _ (Nat.or_lt_two_pow ha hb))
  · simp only [Go.bits, BitVec.ofInt_natCast, BitVec.toNat_xor, BitVec.toNat_ofNat, ha', hb']
    exact hk _ (Int.natCast_nonneg _) (cast _ (Nat.xor_lt_two_pow ha hb))
theorem wr_i64 (n : Int) (h0 : 0 ≤ n) (h1 : n < 2 ^ 62) : IntKind.i64.wrap n = n := by rw [IntKind.wrap_i64]; omega
theorem wr_u64 (n : Int) (h0 : 0 ≤ n) (h1 : n < 2 ^ 64) : IntKind.u64.wrap n = n := by
  simp [IntKind.wrap, IntKind.bits, IntKind.signed]; omega
theorem or_i64 (a b : Nat) (ha : a < 2 ^ 62) (hb : b < 2 ^ 62) : Go.bits .or .i64 a b = ((a ||| b : Nat) : Int) := (bits_nat3 .i64 62 (by decide) wr_i64 a b ha hb).2.1
theorem xor_i64 (a b : Nat) (ha : a < 2 ^ 62) (hb : b < 2 ^ 62) : Go.bits .xor .i64 a b = ((a ^^^ b : Nat) : Int) := (bits_nat3 .i64 62 (by decide) wr_i64 a b ha hb).2.2
theorem and_i64 (a b : Nat) (ha : a < 2 ^ 62) (hb : b < 2 ^ 62) : Go.bits .and .i64 a b = ((a &&& b : Nat) : Int) := (bits_nat3 .i64 62 (by decide) wr_i64 a b ha hb).1
theorem xor_u8 (a b : Nat) (ha : a < 2 ^ 8) (hb : b < 2 ^ 8) : Go.bits .xor .u8 a b = ((a ^^^ b : Nat) : Int) := (bits_nat3 .u8 8 (by decide) wraps_u8 a b ha hb).2.2
/-- Byte i of s as a natural number. -/
def bn (s : ByteArray) (i : Nat) : Nat := (s.data.toList.getD i 0).toNat
theorem bn_lt (s : ByteArray) (i : Nat) : bn s i < 256 := (s.data.toList.getD i 0).toNat_lt
theorem bt_bn (s : ByteArray) (i : Nat) : bt s (i : Int) = (bn s i : Int) := by
  unfold bt bn
  split
  · rename_i h
    have h' : i < s.data.toList.length := by rw [data_length]; simpa using h
    rw [List.getD_eq_getElem?_getD, List.getElem?_eq_getElem h']; rfl
  · rename_i h
    have h' : s.data.toList.length ≤ i := by rw [data_length]; simpa using h
    rw [List.getD_eq_getElem?_getD, List.getElem?_eq_none h']; rfl
theorem bt_bn' (s : ByteArray) (i : Int) (h : 0 ≤ i) : bt s i = (bn s i.toNat : Int) := by
  obtain ⟨n, rfl⟩ := Int.eq_ofNat_of_zero_le h
  exact bt_bn s n
theorem toList_eq' (s : ByteArray) : s.toList = s.data.toList := ByteArray.toList_eq s
/-- Two strings of one length are one where their bytes are. -/
theorem bytes_ext {s t : ByteArray} (hl : s.size = t.size) (h : ∀ i, i < s.size → bn s i = bn t i) : s.data.toList = t.data.toList := by
  apply List.ext_getElem (by rw [data_length, data_length, hl])
  intro i h1 h2
  have := h i (by rw [← data_length]; exact h1)
  unfold bn at this
  rw [List.getD_eq_getElem?_getD, List.getD_eq_getElem?_getD, List.getElem?_eq_getElem h1, List.getElem?_eq_getElem h2] at this
  exact UInt8.toNat_inj.1 this
theorem strOf_data (xs : List Int) : (strOfNums xs).data.toList = xs.map fun n => UInt8.ofNat n.toNat := by simp [strOfNums]
theorem strOf_toList (xs : List Int) : (strOfNums xs).toList = xs.map fun n => UInt8.ofNat n.toNat := by rw [toList_eq', strOf_data]
theorem strOf_size (xs : List Int) : (strOfNums xs).size = xs.length := by rw [← data_length, strOf_data, List.length_map]
/-- A list of n numbers written cell by cell is the list of what was written. -/
theorem tab_set (f : Nat → Int) (n i : Nat) (rest : List Int) (h : i < n) (hr : rest.length = n - i) :
    (((List.range i).map f) ++ rest).set i (f i) = ((List.range (i + 1)).map f) ++ rest.tail := by
  cases rest with
  | nil => simp at hr; omega
  | cons a rest =>
    rw [List.set_append_right _ _ (by simp)]
    simp [List.range_succ]
theorem xor_zero_iff {a b : Nat} : a ^^^ b = 0 ↔ a = b := by
  constructor
  · intro h
    have := congrArg (· ^^^ b) h
    simpa [Nat.xor_assoc] using this
  · rintro rfl; exact Nat.xor_self a
theorem rounds_of {P : Nat → Prop} (n : Nat) (h : ∀ k, n ≤ k → P k) : ∃ k, P k := ⟨n, h n (Nat.le_refl n)⟩
/-- As Option.bind_some, but not by reduction: the kernel is not led into what follows. -/
theorem ob {α β : Type} (a : α) (f : α → Option β) : (some a).bind f = f a := by
  cases h : f a with
  | none => rw [Option.bind_some, h]
  | some b => rw [Option.bind_some, h]

def dbl (a : Nat) : Nat := if 128 ≤ a then (2 * a) ^^^ 283 else 2 * a
def mul8 : Nat → Nat → Nat → Nat → Nat
  | 0, _, _, acc => acc
  | n + 1, a, b, acc => mul8 n (dbl a) (b / 2) (if b % 2 = 1 then acc ^^^ a else acc)
/-- The product in the field of 256. -/
def gm (a b : Nat) : Nat := mul8 8 a b 0
def allB (n : Nat) (p : Nat → Bool) : Bool := (List.range n).all p
theorem of_all {n : Nat} {p : Nat → Bool} (h : allB n p = true) (a : Nat) (ha : a < n) : p a = true := by
  unfold allB at h
  rw [List.all_eq_true] at h
  exact h a (List.mem_range.2 ha)
theorem dbl_lt0 : allB 256 (fun a => decide (dbl a < 256)) = true := by decide +kernel
theorem dbl_lt {a : Nat} (h : a < 256) : dbl a < 256 := of_decide_eq_true (of_all dbl_lt0 a h)
theorem xlt {a b : Nat} (ha : a < 256) (hb : b < 256) : a ^^^ b < 256 := Nat.xor_lt_two_pow (n := 8) ha hb
theorem mul8_lt (n : Nat) : ∀ a b acc, a < 256 → acc < 256 → mul8 n a b acc < 256 := by
  induction n with
  | zero => intro a b acc _ h; exact h
  | succ n ih =>
    intro a b acc ha h
    simp only [mul8]
    apply ih _ _ _ (dbl_lt ha)
    split
    · exact xlt h ha
    · exact h
theorem gm_lt {a : Nat} (b : Nat) (ha : a < 256) : gm a b < 256 := mul8_lt 8 a b 0 ha (by decide)
theorem mul8_zero (n : Nat) : ∀ a acc, mul8 n a 0 acc = acc := by
  induction n with
  | zero => intro a acc; rfl
  | succ n ih => intro a acc; simp only [mul8, Nat.zero_div]; rw [if_neg (by decide)]; exact ih _ _

/-- The substitution box of a byte whose inverse is b. -/
def trn (b i : Nat) : Nat := (b * 2 ^ i ||| b / 2 ^ (8 - i)) &&& 255
def boxN (b : Nat) : Nat := ((((99 ^^^ trn b 0) ^^^ trn b 1) ^^^ trn b 2) ^^^ trn b 3) ^^^ trn b 4
theorem trn0 : allB 256 (fun b => trn b 0 == b) = true := by decide +kernel
theorem shlN (b i : Nat) (hb : b < 256) (hi : i ≤ 8) (y : Int) (hy : y = i) : shl .i64 (b : Int) y = ((b * 2 ^ i : Nat) : Int) := by
  subst hy
  unfold shl
  rw [show min ((i : Int)).toNat IntKind.i64.bits = i by simp [IntKind.bits]; omega]
  have h : (2 : Nat) ^ i ≤ 2 ^ 8 := Nat.pow_le_pow_right (by decide) hi
  have h2 : b * 2 ^ i ≤ 256 * 2 ^ 8 := Nat.mul_le_mul (by omega) h
  rw [show (b : Int) * 2 ^ i = ((b * 2 ^ i : Nat) : Int) by simp]
  exact wr_i64 _ (Int.natCast_nonneg _) (by omega)
theorem shrN (b i : Nat) (hi : i ≤ 64) (y : Int) (hy : y = i) : shr .i64 (b : Int) y = ((b / 2 ^ i : Nat) : Int) := by
  subst hy
  unfold shr
  rw [show min ((i : Int)).toNat IntKind.i64.bits = i by simp [IntKind.bits]; omega]
  simp
theorem trn_val (b i : Nat) (hb : b < 256) (hi : i ≤ 4) (y z : Int) (hy : y = i) (hz : z = 8 - i) : Go.bits .and .i64 (Go.bits .or .i64 (shl .i64 (b : Int) y) (shr .i64 (b : Int) z)) 255 = ((trn b i : Nat) : Int) := by
  have h : (2 : Nat) ^ i ≤ 2 ^ 4 := Nat.pow_le_pow_right (by decide) hi
  have h2 : b * 2 ^ i ≤ 256 * 2 ^ 4 := Nat.mul_le_mul (by omega) h
  have h3 : b / 2 ^ (8 - i) ≤ b := Nat.div_le_self _ _
  have h4 : (b * 2 ^ i ||| b / 2 ^ (8 - i)) < 2 ^ 13 := Nat.or_lt_two_pow (by omega) (by omega)
  rw [shlN b i hb (by omega) y hy, shrN b (8 - i) (by omega) z (by omega), or_i64 _ _ (by omega) (by omega)]
  exact and_i64 _ 255 (by omega) (by decide)
theorem trn_lt (b i : Nat) : trn b i < 256 := Nat.and_lt_two_pow (n := 8) _ (by decide)
theorem boxN_lt (b : Nat) : boxN b < 256 := xlt (xlt (xlt (xlt (xlt (by decide) (trn_lt _ _)) (trn_lt _ _)) (trn_lt _ _)) (trn_lt _ _)) (trn_lt _ _)

theorem impl_byte (a : Nat) (h : a < 256) : impl_isByte.f (a : Int) = some true := by
  simp only [impl_isByte.f, impl_within.f]
  rw [if_pos (by omega), decide_eq_true (by omega)]; rfl
theorem impl_dbl (a : Nat) (h : a < 256) : impl_FieldDouble.f (a : Int) = some ((dbl a : Nat) : Int) := by
  have e2 : wrap64 (2 * (a : Int)) = ((2 * a : Nat) : Int) := by rw [w64 (by omega) (by omega)]; omega
  simp only [impl_FieldDouble.f, impl_byte a h, Option.bind_some, if_true, e2]
  unfold dbl
  by_cases c : 128 ≤ a
  · rw [if_pos (show (a : Int) ≥ 128 by omega), if_pos c]
    exact congrArg some (xor_i64 (2 * a) 283 (by omega) (by decide))
  · rw [if_neg (show ¬ (a : Int) ≥ 128 by omega), if_neg c]
theorem and_one (b : Nat) (h : b < 2 ^ 62) : Go.bits .and .i64 (b : Int) 1 = ((b % 2 : Nat) : Int) := by
  have e := and_i64 b 1 h (by decide)
  rw [show (1 : Int) = ((1 : Nat) : Int) from rfl, e, Nat.and_one_is_mod]
theorem impl_mul_loop (d : Nat) : ∀ (k a b acc : Nat), a < 256 → acc < 256 → b < 2 ^ d → d ≤ 8 → d < k → impl_FieldMul.l0 k (a : Int) (b : Int) (acc : Int) = some ((mul8 d a b acc : Nat) : Int) := by
  induction d with
  | zero =>
    intro k a b acc ha hc hb _ hk
    obtain ⟨k, rfl⟩ : ∃ q, k = q + 1 := ⟨k - 1, by omega⟩
    have : b = 0 := by simpa using hb
    subst this
    simp only [impl_FieldMul.l0, mul8]; rw [if_neg (by omega)]
  | succ d ih =>
    intro k a b acc ha hc hb h8 hk
    obtain ⟨k, rfl⟩ : ∃ q, k = q + 1 := ⟨k - 1, by omega⟩
    have hp : 2 ^ (d + 1) = 2 * 2 ^ d := by rw [Nat.pow_succ]; omega
    have hp8 : 2 ^ (d + 1) ≤ 2 ^ 8 := Nat.pow_le_pow_right (by decide) h8
    by_cases b0 : b = 0
    · subst b0
      simp only [impl_FieldMul.l0, mul8_zero]; rw [if_neg (by omega)]
    · simp only [impl_FieldMul.l0, mul8]
      rw [if_pos (by omega), and_one b (by omega), impl_dbl a ha, show ((b : Int) / 2) = ((b / 2 : Nat) : Int) by omega, xor_i64 acc a (by omega) (by omega)]
      simp only [Option.bind_some]
      by_cases o : b % 2 = 1
      · rw [if_pos (by omega), if_pos o]
        exact ih k _ _ _ (dbl_lt ha) (xlt hc ha) (by omega) (by omega) (by omega)
      · rw [if_neg (by omega), if_neg o]
        exact ih k _ _ _ (dbl_lt ha) hc (by omega) (by omega) (by omega)
theorem impl_mul (k : Nat) (hk : 10 ≤ k) (a b : Nat) (ha : a < 256) (hb : b < 256) : impl_FieldMul.f k (a : Int) (b : Int) = some ((gm a b : Nat) : Int) := by
  obtain ⟨k, rfl⟩ : ∃ q, k = q + 1 := ⟨k - 1, by omega⟩
  simp only [impl_FieldMul.f, impl_byte a ha, impl_byte b hb, Option.bind_some, if_true, Bool.not_true, impl_FieldMul.j0, Bool.false_eq_true, if_false]
  have e := impl_mul_loop 8 k a b 0 ha (by decide) hb (by decide) (by omega)
  rw [Int.natCast_zero] at e
  exact e

/-- Square and multiply. -/
def powL : Nat → Nat → Nat → Nat → Nat
  | 0, _, _, acc => acc
  | k + 1, x, n, acc => powL k (gm x x) (n / 2) (if n % 2 = 1 then gm acc x else acc)
def pw (a n : Nat) : Nat := powL 10 a n 1
theorem powL_lt (k : Nat) : ∀ x n acc, acc < 256 → powL k x n acc < 256 := by
  induction k with
  | zero => intro x n acc h; exact h
  | succ k ih =>
    intro x n acc h
    simp only [powL]
    apply ih
    split
    · exact gm_lt _ h
    · exact h
theorem pw_lt (a n : Nat) : pw a n < 256 := powL_lt 10 a n 1 (by decide)
theorem powL_zero (k : Nat) : ∀ x acc, powL k x 0 acc = acc := by
  induction k with
  | zero => intro x acc; rfl
  | succ k ih => intro x acc; simp only [powL, Nat.zero_div]; rw [if_neg (by decide)]; exact ih _ _

theorem impl_pow_loop (d : Nat) : ∀ (k x n acc : Nat), x < 256 → acc < 256 → n < 2 ^ d → d ≤ 10 → d + 11 < k → impl_FieldPow.l0 k (x : Int) (n : Int) (acc : Int) = some ((powL d x n acc : Nat) : Int) := by
  induction d with
  | zero =>
    intro k x n acc hx hc hn _ hk
    obtain ⟨k, rfl⟩ : ∃ q, k = q + 1 := ⟨k - 1, by omega⟩
    have : n = 0 := by simpa using hn
    subst this
    simp only [impl_FieldPow.l0, powL]; rw [if_neg (by omega)]
  | succ d ih =>
    intro k x n acc hx hc hn h10 hk
    obtain ⟨k, rfl⟩ : ∃ q, k = q + 1 := ⟨k - 1, by omega⟩
    have hp : 2 ^ (d + 1) = 2 * 2 ^ d := by rw [Nat.pow_succ]; omega
    have hp8 : 2 ^ (d + 1) ≤ 2 ^ 10 := Nat.pow_le_pow_right (by decide) h10
    by_cases n0 : n = 0
    · subst n0
      simp only [impl_FieldPow.l0, powL_zero]; rw [if_neg (by omega)]
    · simp only [impl_FieldPow.l0, powL]
      rw [if_pos (by omega), and_one n (by omega), impl_mul k (by omega) acc x hc hx, impl_mul k (by omega) x x hx hx, show ((n : Int) / 2) = ((n / 2 : Nat) : Int) by omega]
      simp only [Option.bind_some]
      by_cases o : n % 2 = 1
      · rw [if_pos (by omega), if_pos o]
        exact ih k _ _ _ (gm_lt _ hx) (gm_lt _ hc) (by omega) (by omega) (by omega)
      · rw [if_neg (by omega), if_neg o]
        exact ih k _ _ _ (gm_lt _ hx) hc (by omega) (by omega) (by omega)
theorem impl_pow (k : Nat) (hk : 30 ≤ k) (a n : Nat) (ha : a < 256) (hn : n ≤ 1000) : impl_FieldPow.f k (a : Int) (n : Int) = some ((pw a n : Nat) : Int) := by
  obtain ⟨k, rfl⟩ : ∃ q, k = q + 1 := ⟨k - 1, by omega⟩
  have hw : impl_within.f (n : Int) 0 1000 = some true := by
    unfold impl_within.f; rw [if_pos (by omega), decide_eq_true (by omega)]
  have e := impl_pow_loop 10 k a n 1 ha (by decide) (by omega) (by omega) (by omega)
  simp only [impl_FieldPow.f, impl_byte a ha, hw, Option.bind_some, if_true, Bool.not_true, impl_FieldPow.j0, Bool.false_eq_true, if_false]
  exact e

theorem impl_inv (k : Nat) (hk : 30 ≤ k) (a : Nat) (ha : a < 256) : impl_FieldInverse.f k (a : Int) = some ((pw a 254 : Nat) : Int) := by
  have e := impl_pow k hk a 254 ha (by omega)
  unfold impl_FieldInverse.f
  rw [show (254 : Int) = ((254 : Nat) : Int) from rfl, e]; rfl

theorem impl_box_loop (k b : Nat) (hb : b < 256) : impl_BoxOf.l0 (k + 5) (b : Int) (Go.bits .xor .i64 (b : Int) 99) 1 = some ((boxN b : Nat) : Int) := by
  have x0 : Go.bits .xor .i64 (b : Int) 99 = (((99 ^^^ trn b 0) : Nat) : Int) := by
    have e := of_all trn0 b hb
    simp only [beq_iff_eq] at e
    rw [e, Nat.xor_comm]
    exact xor_i64 b 99 (by omega) (by decide)
  have l0 : 99 ^^^ trn b 0 < 256 := xlt (by decide) (trn_lt _ _)
  have l1 := xlt l0 (trn_lt b 1)
  have l2 := xlt l1 (trn_lt b 2)
  have l3 := xlt l2 (trn_lt b 3)
  have t1 := trn_val b 1 hb (by decide) 1 7 rfl rfl
  have t2 := trn_val b 2 hb (by decide) 2 6 rfl rfl
  have t3 := trn_val b 3 hb (by decide) 3 5 rfl rfl
  have t4 := trn_val b 4 hb (by decide) 4 4 rfl rfl
  have q := trn_lt b
  have s1 : impl_BoxOf.l0 (k + 5) (b : Int) (((99 ^^^ trn b 0) : Nat) : Int) 1 = impl_BoxOf.l0 (k + 4) (b : Int) ((((99 ^^^ trn b 0) ^^^ trn b 1 : Nat)) : Int) 2 := by
    rw [impl_BoxOf.l0]
    simp only [(show wrap64 ((8 : Int) - 1) = 7 by unfold wrap64; decide), (show wrap64 ((1 : Int) + 1) = 2 by unfold wrap64; decide), t1]
    rw [if_pos (by decide), if_pos (by decide), if_pos (by decide), xor_i64 _ _ (by omega) (by have := q 1; omega)]
  have s2 : impl_BoxOf.l0 (k + 4) (b : Int) ((((99 ^^^ trn b 0) ^^^ trn b 1 : Nat)) : Int) 2 = impl_BoxOf.l0 (k + 3) (b : Int) (((((99 ^^^ trn b 0) ^^^ trn b 1) ^^^ trn b 2 : Nat)) : Int) 3 := by
    rw [impl_BoxOf.l0]
    simp only [(show wrap64 ((8 : Int) - 2) = 6 by unfold wrap64; decide), (show wrap64 ((2 : Int) + 1) = 3 by unfold wrap64; decide), t2]
    rw [if_pos (by decide), if_pos (by decide), if_pos (by decide), xor_i64 _ _ (by omega) (by have := q 2; omega)]
  have s3 : impl_BoxOf.l0 (k + 3) (b : Int) (((((99 ^^^ trn b 0) ^^^ trn b 1) ^^^ trn b 2 : Nat)) : Int) 3 = impl_BoxOf.l0 (k + 2) (b : Int) ((((((99 ^^^ trn b 0) ^^^ trn b 1) ^^^ trn b 2) ^^^ trn b 3 : Nat)) : Int) 4 := by
    rw [impl_BoxOf.l0]
    simp only [(show wrap64 ((8 : Int) - 3) = 5 by unfold wrap64; decide), (show wrap64 ((3 : Int) + 1) = 4 by unfold wrap64; decide), t3]
    rw [if_pos (by decide), if_pos (by decide), if_pos (by decide), xor_i64 _ _ (by omega) (by have := q 3; omega)]
  have s4 : impl_BoxOf.l0 (k + 2) (b : Int) ((((((99 ^^^ trn b 0) ^^^ trn b 1) ^^^ trn b 2) ^^^ trn b 3 : Nat)) : Int) 4 = impl_BoxOf.l0 (k + 1) (b : Int) ((boxN b : Nat) : Int) 5 := by
    rw [impl_BoxOf.l0]
    simp only [(show wrap64 ((8 : Int) - 4) = 4 by unfold wrap64; decide), (show wrap64 ((4 : Int) + 1) = 5 by unfold wrap64; decide), t4]
    rw [if_pos (by decide), if_pos (by decide), if_pos (by decide), xor_i64 _ _ (by omega) (by have := q 4; omega)]
    rfl
  rw [x0, s1, s2, s3, s4, impl_BoxOf.l0, if_neg (by decide)]
theorem impl_box (k : Nat) (hk : 30 ≤ k) (a : Nat) (ha : a < 256) : impl_BoxOf.f k (a : Int) = some ((boxN (pw a 254) : Nat) : Int) := by
  simp only [impl_BoxOf.f, impl_byte a ha, impl_inv k hk a ha, Option.bind_some, if_true]
  obtain ⟨k, rfl⟩ : ∃ q, k = q + 5 := ⟨k - 5, by omega⟩
  exact impl_box_loop k _ (pw_lt a 254)

/-- The box, as a table. -/
def boxT : List Nat := [99, 124, 119, 123, 242, 107, 111, 197, 48, 1, 103, 43, 254, 215, 171, 118, 202, 130, 201, 125, 250, 89, 71, 240, 173, 212, 162, 175, 156, 164, 114, 192, 183, 253, 147, 38, 54, 63, 247, 204, 52, 165, 229, 241, 113, 216, 49, 21, 4, 199, 35, 195, 24, 150, 5, 154, 7, 18, 128, 226, 235, 39, 178, 117, 9, 131, 44, 26, 27, 110, 90, 160, 82, 59, 214, 179, 41, 227, 47, 132, 83, 209, 0, 237, 32, 252, 177, 91, 106, 203, 190, 57, 74, 76, 88, 207, 208, 239, 170, 251, 67, 77, 51, 133, 69, 249, 2, 127, 80, 60, 159, 168, 81, 163, 64, 143, 146, 157, 56, 245, 188, 182, 218, 33, 16, 255, 243, 210, 205, 12, 19, 236, 95, 151, 68, 23, 196, 167, 126, 61, 100, 93, 25, 115, 96, 129, 79, 220, 34, 42, 144, 136, 70, 238, 184, 20, 222, 94, 11, 219, 224, 50, 58, 10, 73, 6, 36, 92, 194, 211, 172, 98, 145, 149, 228, 121, 231, 200, 55, 109, 141, 213, 78, 169, 108, 86, 244, 234, 101, 122, 174, 8, 186, 120, 37, 46, 28, 166, 180, 198, 232, 221, 116, 31, 75, 189, 139, 138, 112, 62, 181, 102, 72, 3, 246, 14, 97, 53, 87, 185, 134, 193, 29, 158, 225, 248, 152, 17, 105, 217, 142, 148, 155, 30, 135, 233, 206, 85, 40, 223, 140, 161, 137, 13, 191, 230, 66, 104, 65, 153, 45, 15, 176, 84, 187, 22]
def box (a : Nat) : Nat := boxN (pw a 254)
theorem boxT_eq : allB 256 (fun i => box i == boxT.getD i 0) = true := by decide +kernel
theorem boxT_inv : allB 256 (fun i => boxT.idxOf (boxT.getD i 0) == i) = true := by decide +kernel
theorem box_lt (a : Nat) : box a < 256 := boxN_lt _
theorem box_inj {i j : Nat} (hi : i < 256) (hj : j < 256) (h : box i = box j) : i = j := by
  have a1 := of_all boxT_eq i hi
  have a2 := of_all boxT_eq j hj
  have b1 := of_all boxT_inv i hi
  have b2 := of_all boxT_inv j hj
  simp only [beq_iff_eq] at a1 a2 b1 b2
  rw [← b1, ← b2, ← a1, ← a2, h]
theorem boxT_at {i : Nat} (hi : i < 256) : box i = boxT.getD i 0 := by
  have a1 := of_all boxT_eq i hi
  simpa using a1

theorem boxText_some (k : Nat) (hk : 30 ≤ k) (a : ByteArray) (ha : a.size ≤ 281474976710656) : impl_BoxText.f k a = some (strOfNums ((List.range a.size).map fun i => ((box (bn a i) : Nat) : Int))) := by
  unfold impl_BoxText.f
  rw [if_pos ha, optL_of a.size (g := fun i => ((box (bn a i) : Nat) : Int)) (fun i _ => by
    rw [bt_bn, impl_box k hk _ (bn_lt _ _), ob]
    have := box_lt (bn a i)
    show some (((box (bn a i) : Nat) : Int) % 256) = _
    congr 1
    omega), ob]

theorem u64n (n : Nat) (h : n < 100) : IntKind.u64.wrap (n : Int) = n := wr_u64 _ (by omega) (by omega)
theorem spec_turn (k : Nat) (hk : 6 ≤ k) (b : Nat) (hb : b < 256) : spec_l05Turned.f k (b : Int) = some ((boxN b : Nat) : Int) := by
  obtain ⟨k, rfl⟩ : ∃ q, k = q + 6 := ⟨k - 6, by omega⟩
  have q := trn_lt b
  have l0 : 99 ^^^ trn b 0 < 256 := xlt (by decide) (trn_lt _ _)
  have l1 := xlt l0 (trn_lt b 1)
  have l2 := xlt l1 (trn_lt b 2)
  have l3 := xlt l2 (trn_lt b 3)
  have st : ∀ (m i acc : Nat), i ≤ 4 → acc < 256 → spec_l05Turned.l0 (m + 1) (b : Int) (acc : Int) (i : Int) = spec_l05Turned.l0 m (b : Int) (((acc ^^^ trn b i : Nat)) : Int) ((i + 1 : Nat) : Int) := by
    intro m i acc hi hacc
    have e1 : IntKind.u64.wrap (i : Int) = i := u64n i (by omega)
    have e2 : wrap64 ((8 : Int) - i) = ((8 - i : Nat) : Int) := by rw [w64 (by omega) (by omega)]; omega
    have e3 : IntKind.u64.wrap ((8 - i : Nat) : Int) = ((8 - i : Nat) : Int) := u64n _ (by omega)
    have t := trn_val b i hb hi i ((8 - i : Nat) : Int) rfl (by omega)
    rw [spec_l05Turned.l0]
    simp only [e1, e2, e3, t]
    rw [if_pos (by omega), if_pos (by omega), if_pos (by omega), xor_i64 _ _ (by omega) (by have := q i; omega), w64 (by omega) (by omega)]
    rw [show (i : Int) + 1 = ((i + 1 : Nat) : Int) by omega]
  unfold spec_l05Turned.f
  rw [show (99 : Int) = ((99 : Nat) : Int) from rfl, show (0 : Int) = ((0 : Nat) : Int) from rfl]
  rw [st _ 0 99 (by decide) (by decide), st _ 1 _ (by decide) l0, st _ 2 _ (by decide) l1, st _ 3 _ (by decide) l2, st _ 4 _ (by decide) l3, spec_l05Turned.l0, if_neg (by decide)]
  rfl

theorem spec_byte (a : Nat) (h : a < 256) : spec_l05Byte.f (a : Int) = some true := by
  simp only [spec_l05Byte.f, spec_l01In.f]
  rw [if_pos (by omega), decide_eq_true (by omega)]; rfl
theorem spec_dbl (a : Nat) (h : a < 256) : spec_FieldDouble.f (a : Int) = some ((dbl a : Nat) : Int) := by
  have e2 : wrap64 (2 * (a : Int)) = ((2 * a : Nat) : Int) := by rw [w64 (by omega) (by omega)]; omega
  simp only [spec_FieldDouble.f, spec_byte a h, Option.bind_some, if_true, e2]
  unfold dbl
  by_cases c : 128 ≤ a
  · rw [if_pos (show ((2 * a : Nat) : Int) > 255 by omega), if_pos c]
    exact congrArg some (xor_i64 (2 * a) 283 (by omega) (by decide))
  · rw [if_neg (show ¬ ((2 * a : Nat) : Int) > 255 by omega), if_neg c]
theorem spec_mul_loop (d : Nat) : ∀ (k a b acc : Nat), a < 256 → acc < 256 → b < 2 ^ d → d ≤ 8 → d < k → spec_FieldMul.l0 k (a : Int) (b : Int) (acc : Int) = some ((mul8 d a b acc : Nat) : Int) := by
  induction d with
  | zero =>
    intro k a b acc ha hc hb _ hk
    obtain ⟨k, rfl⟩ : ∃ q, k = q + 1 := ⟨k - 1, by omega⟩
    have : b = 0 := by simpa using hb
    subst this
    simp only [spec_FieldMul.l0, mul8]; rw [if_neg (by omega)]
  | succ d ih =>
    intro k a b acc ha hc hb h8 hk
    obtain ⟨k, rfl⟩ : ∃ q, k = q + 1 := ⟨k - 1, by omega⟩
    have hp : 2 ^ (d + 1) = 2 * 2 ^ d := by rw [Nat.pow_succ]; omega
    have hp8 : 2 ^ (d + 1) ≤ 2 ^ 8 := Nat.pow_le_pow_right (by decide) h8
    by_cases b0 : b = 0
    · subst b0
      simp only [spec_FieldMul.l0, mul8_zero]; rw [if_neg (by omega)]
    · simp only [spec_FieldMul.l0, mul8]
      rw [if_pos (by omega), Int.tmod_eq_emod_of_nonneg (by omega), spec_dbl a ha, Int.tdiv_eq_ediv_of_nonneg (by omega), w64 (by omega) (by omega), show ((b : Int) / 2) = ((b / 2 : Nat) : Int) by omega, xor_i64 acc a (by omega) (by omega)]
      simp only [Option.bind_some]
      by_cases o : b % 2 = 1
      · rw [if_pos (by omega), if_pos o]
        exact ih k _ _ _ (dbl_lt ha) (xlt hc ha) (by omega) (by omega) (by omega)
      · rw [if_neg (by omega), if_neg o]
        exact ih k _ _ _ (dbl_lt ha) hc (by omega) (by omega) (by omega)
theorem spec_mul (k : Nat) (hk : 10 ≤ k) (a b : Nat) (ha : a < 256) (hb : b < 256) : spec_FieldMul.f k (a : Int) (b : Int) = some ((gm a b : Nat) : Int) := by
  obtain ⟨k, rfl⟩ : ∃ q, k = q + 1 := ⟨k - 1, by omega⟩
  simp only [spec_FieldMul.f, spec_byte a ha, spec_byte b hb, Option.bind_some, if_true, Bool.not_true, spec_FieldMul.j0, Bool.false_eq_true, if_false]
  have e := spec_mul_loop 8 k a b 0 ha (by decide) hb (by decide) (by omega)
  rw [Int.natCast_zero] at e
  exact e

/-- 3 to each power. -/
def powT : List Nat := [1, 3, 5, 15, 17, 51, 85, 255, 26, 46, 114, 150, 161, 248, 19, 53, 95, 225, 56, 72, 216, 115, 149, 164, 247, 2, 6, 10, 30, 34, 102, 170, 229, 52, 92, 228, 55, 89, 235, 38, 106, 190, 217, 112, 144, 171, 230, 49, 83, 245, 4, 12, 20, 60, 68, 204, 79, 209, 104, 184, 211, 110, 178, 205, 76, 212, 103, 169, 224, 59, 77, 215, 98, 166, 241, 8, 24, 40, 120, 136, 131, 158, 185, 208, 107, 189, 220, 127, 129, 152, 179, 206, 73, 219, 118, 154, 181, 196, 87, 249, 16, 48, 80, 240, 11, 29, 39, 105, 187, 214, 97, 163, 254, 25, 43, 125, 135, 146, 173, 236, 47, 113, 147, 174, 233, 32, 96, 160, 251, 22, 58, 78, 210, 109, 183, 194, 93, 231, 50, 86, 250, 21, 63, 65, 195, 94, 226, 61, 71, 201, 64, 192, 91, 237, 44, 116, 156, 191, 218, 117, 159, 186, 213, 100, 172, 239, 42, 126, 130, 157, 188, 223, 122, 142, 137, 128, 155, 182, 193, 88, 232, 35, 101, 175, 234, 37, 111, 177, 200, 67, 197, 84, 252, 31, 33, 99, 165, 244, 7, 9, 27, 45, 119, 153, 176, 203, 70, 202, 69, 207, 74, 222, 121, 139, 134, 145, 168, 227, 62, 66, 198, 81, 243, 14, 18, 54, 90, 238, 41, 123, 141, 140, 143, 138, 133, 148, 167, 242, 13, 23, 57, 75, 221, 124, 132, 151, 162, 253, 28, 36, 108, 180, 199, 82, 246, 1]
theorem powT_next : allB 255 (fun i => powT.getD (i + 1) 0 == powT.getD i 0 ^^^ dbl (powT.getD i 0)) = true := by decide +kernel
theorem powT_lt : allB 256 (fun i => decide (powT.getD i 0 < 256)) = true := by decide +kernel
def powN (i : Nat) : Nat := powT.getD i 0
theorem powN_lt {i : Nat} (h : i < 256) : powN i < 256 := of_decide_eq_true (of_all powT_lt i h)
theorem boxPow_eq : ∀ i, i ≤ 255 → boxPow i = some ((powN i : Nat) : Int)
  | 0, _ => rfl
  | i + 1, h => by
    have e := of_all powT_next i (by omega)
    simp only [beq_iff_eq] at e
    have hl := powN_lt (i := i) (by omega)
    have hd := dbl_lt hl
    unfold boxPow
    rw [boxPow_eq i (by omega), ob, spec_dbl _ hl, ob, xor_i64 _ _ (by omega) (by omega)]
    congr 2
    exact e.symm
def tabN : Nat → List Int
  | 0 => (List.replicate 256 0).set 0 99
  | n + 1 => (tabN n).set (powN n) ((boxN (powN ((255 - n) % 255)) : Nat) : Int)
theorem boxTab_eq (k : Nat) (hk : 10 ≤ k) : ∀ n, n ≤ 255 → boxTab k n = some (tabN n)
  | 0, _ => rfl
  | n + 1, h => by
    have hl := powN_lt (i := n) (by omega)
    have hq := powN_lt (i := (255 - n) % 255) (by omega)
    have hb := boxN_lt (powN ((255 - n) % 255))
    unfold boxTab
    rw [boxTab_eq k hk n (by omega), ob, boxPow_eq n (by omega), ob, boxPow_eq ((255 - n) % 255) (by omega), ob, spec_turn k (by omega) _ hq, ob, if_pos (by omega)]
    rw [show ((boxN (powN ((255 - n) % 255)) : Nat) : Int) % 256 = ((boxN (powN ((255 - n) % 255)) : Nat) : Int) by omega]
    rfl
theorem tab_all : tabN 255 = boxT.map (fun n : Nat => (n : Int)) := by decide +kernel
theorem tab_at {a : Nat} (h : a < 256) : (tabN 255).getD a 0 = ((box a : Nat) : Int) := by
  have hl : boxT.length = 256 := by decide +kernel
  rw [tab_all, boxT_at h, List.getD_eq_getElem?_getD, List.getElem?_map, List.getElem?_eq_getElem (by omega), List.getD_eq_getElem?_getD, List.getElem?_eq_getElem (by omega)]
  rfl

theorem dbl_lin0 : allB 256 (fun a => allB 256 fun b => dbl (a ^^^ b) == dbl a ^^^ dbl b) = true := by decide +kernel
theorem dbl_lin {a b : Nat} (ha : a < 256) (hb : b < 256) : dbl (a ^^^ b) = dbl a ^^^ dbl b := by
  have h := of_all (of_all dbl_lin0 a ha) b hb
  simpa using h
theorem xor_half (a b : Nat) : (a ^^^ b) / 2 = a / 2 ^^^ b / 2 := by
  have h := Nat.shiftRight_xor_distrib (a := a) (b := b) (i := 1)
  simpa [Nat.shiftRight_eq_div_pow] using h
theorem xor_odd (a b : Nat) : (a ^^^ b) % 2 = (a % 2 + b % 2) % 2 := by
  have h := Nat.xor_mod_two_pow (a := a) (b := b) (n := 1)
  simp only [Nat.pow_one] at h
  rw [h]
  rcases Nat.mod_two_eq_zero_or_one a with e | e <;> rcases Nat.mod_two_eq_zero_or_one b with e' | e' <;> rw [e, e'] <;> decide
theorem mul8_lin_r (n : Nat) : ∀ a b d x y, mul8 n a (b ^^^ d) (x ^^^ y) = mul8 n a b x ^^^ mul8 n a d y := by
  induction n with
  | zero => intro a b d x y; rfl
  | succ n ih =>
    intro a b d x y
    simp only [mul8]
    rw [xor_half, xor_odd]
    have key : (if (b % 2 + d % 2) % 2 = 1 then (x ^^^ y) ^^^ a else x ^^^ y) = (if b % 2 = 1 then x ^^^ a else x) ^^^ (if d % 2 = 1 then y ^^^ a else y) := by
      rcases Nat.mod_two_eq_zero_or_one b with e | e <;> rcases Nat.mod_two_eq_zero_or_one d with e' | e' <;> rw [e, e'] <;> simp
      · rw [Nat.xor_assoc]
      · rw [Nat.xor_assoc, Nat.xor_comm y a, ← Nat.xor_assoc]
      · rw [Nat.xor_assoc x a, Nat.xor_comm y a, ← Nat.xor_assoc a a, Nat.xor_self, Nat.zero_xor]
    rw [key]
    exact ih _ _ _ _ _
theorem gm_lin_r (a b d : Nat) : gm a (b ^^^ d) = gm a b ^^^ gm a d := mul8_lin_r 8 a b d 0 0
theorem mul8_lin_l (n : Nat) : ∀ a c b x y, a < 256 → c < 256 → mul8 n (a ^^^ c) b (x ^^^ y) = mul8 n a b x ^^^ mul8 n c b y := by
  induction n with
  | zero => intro a c b x y _ _; rfl
  | succ n ih =>
    intro a c b x y ha hc
    simp only [mul8]
    rw [dbl_lin ha hc]
    have key : (if b % 2 = 1 then (x ^^^ y) ^^^ (a ^^^ c) else x ^^^ y) = (if b % 2 = 1 then x ^^^ a else x) ^^^ (if b % 2 = 1 then y ^^^ c else y) := by
      split
      · rw [Nat.xor_assoc x y, ← Nat.xor_assoc y a c, Nat.xor_comm y a, Nat.xor_assoc a y c, ← Nat.xor_assoc x a]
      · rfl
    rw [key]
    exact ih _ _ _ _ _ (dbl_lt ha) (dbl_lt hc)
theorem gm_lin_l {a c : Nat} (b : Nat) (ha : a < 256) (hc : c < 256) : gm (a ^^^ c) b = gm a b ^^^ gm c b := mul8_lin_l 8 a c b 0 0 ha hc
theorem top0 : allB 8 (fun i => allB (2 ^ i) fun r => (2 ^ i ^^^ r) == 2 ^ i + r) = true := by decide +kernel
/-- Two linear functions that agree at the powers of 2 agree at each byte. -/
theorem lin_ext (f g : Nat → Nat) (hf : ∀ x y, x < 256 → y < 256 → f (x ^^^ y) = f x ^^^ f y) (hg : ∀ x y, x < 256 → y < 256 → g (x ^^^ y) = g x ^^^ g y) (hb : ∀ i, i < 8 → f (2 ^ i) = g (2 ^ i)) (a : Nat) (ha : a < 256) : f a = g a := by
  have f0 : f 0 = 0 := by have := hf 0 0 (by decide) (by decide); simpa using this
  have g0 : g 0 = 0 := by have := hg 0 0 (by decide) (by decide); simpa using this
  have key : ∀ n, n ≤ 8 → ∀ x, x < 2 ^ n → f x = g x := by
    intro n
    induction n with
    | zero => intro _ x hx; obtain rfl : x = 0 := by simpa using hx
              rw [f0, g0]
    | succ n ih =>
      intro hn x hx
      by_cases h : x < 2 ^ n
      · exact ih (by omega) x h
      · have hp : 2 ^ (n + 1) = 2 * 2 ^ n := by rw [Nat.pow_succ]; omega
        have h256 : 2 ^ (n + 1) ≤ 2 ^ 8 := Nat.pow_le_pow_right (by decide) hn
        have e := of_all (of_all top0 n (by omega)) (x - 2 ^ n) (by omega)
        simp only [beq_iff_eq] at e
        rw [show 2 ^ n + (x - 2 ^ n) = x by omega] at e
        rw [← e, hf _ _ (by omega) (by omega), hg _ _ (by omega) (by omega), hb n (by omega), ih (by omega) _ (by omega)]
  exact key 8 (by omega) a ha
theorem comm0 : allB 8 (fun i => allB 8 fun j => gm (2 ^ i) (2 ^ j) == gm (2 ^ j) (2 ^ i)) = true := by decide +kernel
theorem pow_lt256 {i : Nat} (h : i < 8) : 2 ^ i < 256 := Nat.pow_lt_pow_right (by decide) h
theorem gm_comm {a b : Nat} (ha : a < 256) (hb : b < 256) : gm a b = gm b a := by
  refine lin_ext (fun x => gm x b) (fun x => gm b x) (fun x y hx hy => gm_lin_l b hx hy) (fun x y _ _ => gm_lin_r b x y) (fun i hi => ?_) a ha
  refine lin_ext (fun y => gm (2 ^ i) y) (fun y => gm y (2 ^ i)) (fun x y _ _ => gm_lin_r _ x y) (fun x y hx hy => gm_lin_l _ hx hy) (fun j hj => ?_) b hb
  simpa using of_all (of_all comm0 i hi) j hj
theorem assoc0 : allB 8 (fun i => allB 8 fun j => allB 8 fun l => gm (gm (2 ^ i) (2 ^ j)) (2 ^ l) == gm (2 ^ i) (gm (2 ^ j) (2 ^ l))) = true := by decide +kernel
theorem gm_assoc {a b d : Nat} (ha : a < 256) (hb : b < 256) (hd : d < 256) : gm (gm a b) d = gm a (gm b d) := by
  refine lin_ext (fun x => gm (gm x b) d) (fun x => gm x (gm b d)) (fun x y hx hy => by rw [gm_lin_l b hx hy, gm_lin_l d (gm_lt b hx) (gm_lt b hy)]) (fun x y hx hy => gm_lin_l _ hx hy) (fun i hi => ?_) a ha
  have hi' := pow_lt256 hi
  refine lin_ext (fun y => gm (gm (2 ^ i) y) d) (fun y => gm (2 ^ i) (gm y d)) (fun x y hx hy => by rw [gm_lin_r, gm_lin_l d (gm_lt _ hi') (gm_lt _ hi')]) (fun x y hx hy => by rw [gm_lin_l d hx hy, gm_lin_r]) (fun j hj => ?_) b hb
  refine lin_ext (fun z => gm (gm (2 ^ i) (2 ^ j)) z) (fun z => gm (2 ^ i) (gm (2 ^ j) z)) (fun x y _ _ => gm_lin_r _ x y) (fun x y _ _ => by rw [gm_lin_r, gm_lin_r]) (fun l hl => ?_) d hd
  simpa using of_all (of_all (of_all assoc0 i hi) j hj) l hl
theorem gm_one0 : allB 256 (fun a => gm 1 a == a) = true := by decide +kernel
theorem gm_one {a : Nat} (h : a < 256) : gm 1 a = a := by simpa using of_all gm_one0 a h

theorem byte_cases (a : Int) : (∃ n : Nat, n < 256 ∧ a = n) ∨ (spec_l01In.f a 0 255 = some false ∧ impl_within.f a 0 255 = some false) := by
  by_cases h0 : 0 ≤ a
  · obtain ⟨n, rfl⟩ := Int.eq_ofNat_of_zero_le h0
    by_cases h : n < 256
    · exact .inl ⟨n, h, rfl⟩
    · refine .inr ⟨?_, ?_⟩
      · unfold spec_l01In.f; rw [if_pos (by omega), decide_eq_false (by omega)]
      · unfold impl_within.f; rw [if_pos (by omega), decide_eq_false (by omega)]
  · refine .inr ⟨?_, ?_⟩
    · unfold spec_l01In.f; rw [if_neg (by omega)]
    · unfold impl_within.f; rw [if_neg (by omega)]

/-- a times itself n times, onto acc. -/
def itM (a : Nat) : Nat → Nat → Nat
  | 0, acc => acc
  | n + 1, acc => itM a n (gm acc a)
theorem itM_out {a : Nat} (ha : a < 256) (n : Nat) : ∀ x y, x < 256 → y < 256 → itM a n (gm x y) = gm x (itM a n y) := by
  induction n with
  | zero => intro x y _ _; rfl
  | succ n ih =>
    intro x y hx hy
    simp only [itM]
    rw [gm_assoc hx hy ha, ih x (gm y a) hx (gm_lt a hy)]
theorem itM_sq {a : Nat} (ha : a < 256) (n : Nat) : ∀ acc, acc < 256 → itM (gm a a) n acc = itM a (2 * n) acc := by
  induction n with
  | zero => intro acc _; rfl
  | succ n ih =>
    intro acc h
    rw [show 2 * (n + 1) = (2 * n + 1) + 1 by omega]
    simp only [itM]
    rw [ih _ (gm_lt _ h), gm_assoc h ha ha]
theorem powL_it (d : Nat) : ∀ x n acc, x < 256 → acc < 256 → n < 2 ^ d → powL d x n acc = itM x n acc := by
  induction d with
  | zero => intro x n acc _ _ hn; obtain rfl : n = 0 := by simpa using hn
            rfl
  | succ d ih =>
    intro x n acc hx hc hn
    have hp : 2 ^ (d + 1) = 2 * 2 ^ d := by rw [Nat.pow_succ]; omega
    simp only [powL]
    by_cases o : n % 2 = 1
    · rw [if_pos o, ih _ _ _ (gm_lt _ hx) (gm_lt _ hc) (by omega), itM_sq hx _ _ (gm_lt _ hc)]
      obtain ⟨m, hm⟩ : ∃ m, n = 2 * m + 1 := ⟨n / 2, by omega⟩
      subst hm
      rw [show (2 * m + 1) / 2 = m by omega]
      rfl
    · rw [if_neg o, ih _ _ _ (gm_lt _ hx) hc (by omega), itM_sq hx _ _ hc, show 2 * (n / 2) = n by omega]
theorem spec_pow_loop (a n : Nat) (ha : a < 256) (hn : n ≤ 1000) (d : Nat) : ∀ (k i acc : Nat), acc < 256 → i + d = n → d + 11 < k → spec_FieldPow.l0 k (a : Int) (n : Int) (acc : Int) (i : Int) = some ((itM a d acc : Nat) : Int) := by
  induction d with
  | zero =>
    intro k i acc _ hi hk
    obtain ⟨k, rfl⟩ : ∃ q, k = q + 1 := ⟨k - 1, by omega⟩
    simp only [spec_FieldPow.l0, itM]; rw [if_neg (by omega)]
  | succ d ih =>
    intro k i acc hc hi hk
    obtain ⟨k, rfl⟩ : ∃ q, k = q + 1 := ⟨k - 1, by omega⟩
    have e := ih k (i + 1) (gm acc a) (gm_lt _ hc) (by omega) (by omega)
    simp only [spec_FieldPow.l0, itM]
    rw [if_pos (by omega), spec_mul k (by omega) acc a hc ha, w64 (by omega) (by omega)]
    simp only [Option.bind_some]
    rw [show (i : Int) + 1 = ((i + 1 : Nat) : Int) by omega]
    exact e
theorem spec_pow (k : Nat) (hk : 1030 ≤ k) (n v : Nat) (hn : n < 256) (hv : v ≤ 1000) : spec_FieldPow.f k (n : Int) (v : Int) = some ((pw n v : Nat) : Int) := by
  obtain ⟨k, rfl⟩ : ∃ q, k = q + 1 := ⟨k - 1, by omega⟩
  have hs : spec_l01In.f (v : Int) 0 1000 = some true := by unfold spec_l01In.f; rw [if_pos (by omega), decide_eq_true (by omega)]
  have e := spec_pow_loop n v hn hv v k 0 1 (by decide) (by omega) (by omega)
  rw [Int.natCast_zero] at e
  unfold pw
  rw [powL_it 10 n v 1 hn (by decide) (by omega)]
  simp only [spec_FieldPow.f, spec_byte n hn, hs, Option.bind_some, if_true, Bool.not_true, spec_FieldPow.j0, Bool.false_eq_true, if_false]
  exact e

theorem impl_xor (a b : ByteArray) (hn : a.size ≤ 281474976710656) : impl_XorText.f a b = some (if a.size = b.size then strOfNums ((List.range a.size).map (xorAt a b)) else ⟨#[]⟩) := by
  unfold impl_XorText.f
  by_cases h : a.size = b.size
  · rw [if_pos h, if_pos hn, if_pos h]
  · rw [if_neg h, if_neg h]

theorem bn_strOf (xs : List Int) (j : Nat) (hj : j < xs.length) (h0 : 0 ≤ xs.getD j 0) (h1 : xs.getD j 0 < 256) : (bn (strOfNums xs) j : Int) = xs.getD j 0 := by
  unfold bn
  rw [strOf_data]
  rw [List.getD_eq_getElem?_getD, List.getElem?_map, List.getElem?_eq_getElem hj]
  rw [List.getD_eq_getElem?_getD, List.getElem?_eq_getElem hj] at h0 h1 ⊢
  simp only [Option.map_some, Option.getD_some] at h0 h1 ⊢
  rw [UInt8.toNat_ofNat']
  omega
theorem xorAt_val (a b : ByteArray) (j : Nat) : xorAt a b j = ((bn a j ^^^ bn b j : Nat) : Int) := by
  unfold xorAt
  rw [bt_bn, bt_bn]
  exact xor_u8 _ _ (bn_lt a j) (bn_lt b j)
/-- The exclusive or of two texts of one length. -/
def xr (a b : ByteArray) : ByteArray := strOfNums ((List.range a.size).map (xorAt a b))
theorem xr_size (a b : ByteArray) : (xr a b).size = a.size := by unfold xr; rw [strOf_size]; simp
theorem bn_xr (a b : ByteArray) (j : Nat) (hj : j < a.size) : bn (xr a b) j = bn a j ^^^ bn b j := by
  have hl : bn a j ^^^ bn b j < 256 := Nat.xor_lt_two_pow (n := 8) (bn_lt a j) (bn_lt b j)
  have hg : ((List.range a.size).map (xorAt a b)).getD j 0 = ((bn a j ^^^ bn b j : Nat) : Int) := by
    rw [← xorAt_val, List.getD_eq_getElem?_getD, List.getElem?_map, List.getElem?_range hj]; rfl
  have e := bn_strOf ((List.range a.size).map (xorAt a b)) j (by simpa using hj) (by rw [hg]; omega) (by rw [hg]; omega)
  rw [hg] at e
  unfold xr
  omega
theorem xr_back {a b : ByteArray} : (xr (xr a b) b).data.toList = a.data.toList := by
  apply bytes_ext (by rw [xr_size, xr_size])
  intro i hi
  rw [xr_size, xr_size] at hi
  rw [bn_xr _ _ _ (by rw [xr_size]; exact hi), bn_xr _ _ _ hi, Nat.xor_assoc, Nat.xor_self, Nat.xor_zero]

theorem mark_loop (d : Nat) : ∀ (k : Nat) (x : Int) (s : ByteArray), 0 ≤ x → x.toNat < 10 ^ d → d ≤ 18 → s.size + d ≤ 1000 → d < k → ∃ r, laws_markText.l0 k x s = some r := by
  induction d with
  | zero =>
    intro k x s h0 hx _ hs hk
    obtain ⟨k, rfl⟩ : ∃ q, k = q + 1 := ⟨k - 1, by omega⟩
    have : x = 0 := by simp at hx; omega
    subst this
    exact ⟨_, by simp only [laws_markText.l0]; rw [if_neg (by omega), if_pos (by omega)]⟩
  | succ d ih =>
    intro k x s h0 hx h18 hs hk
    obtain ⟨k, rfl⟩ : ∃ q, k = q + 1 := ⟨k - 1, by omega⟩
    by_cases hp : x > 0
    · have hd : Int.tdiv x 10 = x / 10 := Int.tdiv_eq_ediv_of_nonneg h0
      have hle : (10 : Nat) ^ (d + 1) ≤ 10 ^ 18 := Nat.pow_le_pow_right (by decide) h18
      have h18' : (10 : Nat) ^ 18 = 1000000000000000000 := by decide
      have hps : (10 : Nat) ^ (d + 1) = 10 * 10 ^ d := by rw [Nat.pow_succ]; omega
      have hw : wrap64 (Int.tdiv x 10) = x / 10 := by rw [hd, w64 (by omega) (by omega)]
      obtain ⟨r, e⟩ := ih k (x / 10) (strOfNums [(wrap64 (48 + (Int.tmod x 10))) % 256] ++ s) (by omega) (by omega) (by omega) (by rw [ByteArray.size_append, strOf_size]; simp only [List.length_cons, List.length_nil]; omega) (by omega)
      refine ⟨r, ?_⟩
      simp only [laws_markText.l0]
      rw [if_pos hp, hw]
      simp only [Option.bind_some]
      rw [if_pos (by rw [strOf_size]; simp only [List.length_cons, List.length_nil]; omega)]
      exact e
    · exact ⟨_, by simp only [laws_markText.l0]; rw [if_neg hp, if_pos (by omega)]⟩
/-- A mark is told, and is the same at all rounds. -/
theorem mark_some (x : Int) (hx : x ≤ 999999999999999999) : ∃ r, ∀ k, 20 ≤ k → laws_markText.f k x = some r := by
  have key : ∃ r, laws_markText.f 20 x = some r := by
    unfold laws_markText.f
    split
    · exact ⟨_, rfl⟩
    · have h18' : (10 : Nat) ^ 18 = 1000000000000000000 := by decide
      exact mark_loop 18 20 x ⟨#[]⟩ (by omega) (by omega) (by omega) (by show 0 + 18 ≤ 1000; omega) (by omega)
  obtain ⟨r, e⟩ := key
  exact ⟨r, fun k hk => at_rounds (fun k => laws_markText.mono x k) hk e⟩

theorem eqStr_loop (xs : List ByteArray) (d : Nat) : ∀ (k i : Nat), i + d = xs.length → xs.length ≤ 9223372036854775806 → d < k → laws_eqStringS.l0 k xs xs (i : Int) = some true := by
  induction d with
  | zero =>
    intro k i hi _ hk
    obtain ⟨k, rfl⟩ : ∃ q, k = q + 1 := ⟨k - 1, by omega⟩
    simp only [laws_eqStringS.l0]; rw [if_neg (by omega)]
  | succ d ih =>
    intro k i hi hl hk
    obtain ⟨k, rfl⟩ : ∃ q, k = q + 1 := ⟨k - 1, by omega⟩
    simp only [laws_eqStringS.l0]
    rw [if_pos (by omega), if_pos (by omega), if_pos (by omega)]
    simp only [if_true]
    rw [w64 (by omega) (by omega), show (i : Int) + 1 = ((i + 1 : Nat) : Int) by omega]
    exact ih k (i + 1) (by omega) hl (by omega)
theorem eqStr_same (xs : List ByteArray) (hl : xs.length ≤ 9223372036854775806) (k : Nat) (hk : xs.length < k) : laws_eqStringS.f k xs xs = some true := by
  unfold laws_eqStringS.f
  rw [if_pos rfl]
  exact eqStr_loop xs xs.length k 0 (by omega) hl hk
/-- What is marked from m on is held from m on. -/
theorem markStr_loop (n : Nat) (hn : n ≤ 100000000) (d : Nat) : ∀ (k i : Nat) (xs : List ByteArray) (m : Int), xs.length = n → i + d = n → 0 ≤ m → m + d ≤ 200000000 → d + 20 < k →
    ∃ ys, laws_markStringS.l0 k xs m (i : Int) = some (m + d, ys) ∧ ys.length = n ∧ (∀ j, j < i → ys.getD j ByteArray.empty = xs.getD j ByteArray.empty) ∧
      ∀ j, i ≤ j → j < n → ∀ k, 20 ≤ k → laws_markText.f k (m + ((j - i : Nat) : Int)) = some (ys.getD j ByteArray.empty) := by
  induction d with
  | zero =>
    intro k i xs m hl hi h0 hm hk
    obtain ⟨k, rfl⟩ : ∃ q, k = q + 1 := ⟨k - 1, by omega⟩
    refine ⟨xs, ?_, hl, fun _ _ => rfl, fun j h1 h2 => by omega⟩
    simp only [laws_markStringS.l0]; rw [if_neg (by omega)]
    congr 2; omega
  | succ d ih =>
    intro k i xs m hl hi h0 hm hk
    obtain ⟨k, rfl⟩ : ∃ q, k = q + 1 := ⟨k - 1, by omega⟩
    obtain ⟨r, hr⟩ := mark_some m (by omega)
    obtain ⟨ys, e, yl, yb, ya⟩ := ih k (i + 1) (xs.set i r) (m + 1) (by simp [hl]) (by omega) (by omega) (by omega) (by omega)
    refine ⟨ys, ?_, yl, ?_, ?_⟩
    · simp only [laws_markStringS.l0]
      rw [if_pos (by omega), hr k (by omega)]
      simp only [Option.bind_some]
      rw [if_pos (by omega), w64 (by omega) (by omega), w64 (by omega) (by omega), show (i : Int) + 1 = ((i + 1 : Nat) : Int) by omega, show ((i : Int)).toNat = i from rfl, e]
      congr 2; omega
    · intro j hj
      rw [yb j (by omega), List.getD_eq_getElem?_getD, List.getD_eq_getElem?_getD, List.getElem?_set_ne (by omega)]
    · intro j h1 h2 k hk
      by_cases hj : j = i
      · subst hj
        rw [yb j (by omega), List.getD_eq_getElem?_getD, List.getElem?_set_self (by omega)]
        simpa using hr k hk
      · have := ya j (by omega) h2 k hk
        rw [show m + ((j - i : Nat) : Int) = m + 1 + ((j - (i + 1) : Nat) : Int) by omega]
        exact this
theorem heldStr_loop (n : Nat) (ys : List ByteArray) (hy : ys.length = n) (hn : n ≤ 100000000) (d : Nat) : ∀ (k i : Nat) (m : Int), i + d = n → 0 ≤ m → m + d ≤ 200000000 →
    (∀ j, i ≤ j → j < n → ∀ k, 20 ≤ k → laws_markText.f k (m + ((j - i : Nat) : Int)) = some (ys.getD j ByteArray.empty)) → d + 20 < k → laws_heldStringS.l0 k ys m (i : Int) = some (m + d) := by
  induction d with
  | zero =>
    intro k i m hi h0 hm _ hk
    obtain ⟨k, rfl⟩ : ∃ q, k = q + 1 := ⟨k - 1, by omega⟩
    simp only [laws_heldStringS.l0]; rw [if_neg (by omega)]
    congr 1; omega
  | succ d ih =>
    intro k i m hi h0 hm ha hk
    obtain ⟨k, rfl⟩ : ∃ q, k = q + 1 := ⟨k - 1, by omega⟩
    have h1 := ha i (by omega) (by omega) k (by omega)
    rw [show m + ((i - i : Nat) : Int) = m by omega] at h1
    have e := ih k (i + 1) (m + 1) (by omega) (by omega) (by omega) (fun j j1 j2 k hk => by
      have := ha j (by omega) j2 k hk
      rw [show m + 1 + ((j - (i + 1) : Nat) : Int) = m + ((j - i : Nat) : Int) by omega]
      exact this) (by omega)
    simp only [laws_heldStringS.l0]
    rw [if_pos (by omega), if_pos (by omega), h1]
    simp only [Option.bind_some]
    rw [if_pos (by unfold rdOf; rfl), w64 (by omega) (by omega), w64 (by omega) (by omega), show (i : Int) + 1 = ((i + 1 : Nat) : Int) by omega, e]
    congr 1; omega
theorem marked (xs : List ByteArray) (hn : xs.length ≤ 100000000) (k : Nat) (hk : xs.length + 20 < k) : ∃ ys, laws_markStringS.f k xs 1 = some (1 + (xs.length : Int), ys) ∧ laws_heldStringS.f k ys 1 = some (1 + (xs.length : Int)) := by
  obtain ⟨ys, e, yl, _, ya⟩ := markStr_loop xs.length hn xs.length k 0 xs 1 rfl (by omega) (by omega) (by omega) (by omega)
  have e2 := heldStr_loop xs.length ys yl hn xs.length k 0 1 (by omega) (by omega) (by omega) (fun j h1 h2 k hk => ya j h1 h2 k hk) (by omega)
  rw [Int.natCast_zero] at e e2
  exact ⟨ys, by unfold laws_markStringS.f; exact e, by unfold laws_heldStringS.f; exact e2⟩

/-- The bytes as whole numbers. -/
def ci (L : List Nat) : List Int := L.map fun n : Nat => (n : Int)
def sm (L : List Nat) : Prop := ∀ x ∈ L, x < 256
theorem ci_len (L : List Nat) : (ci L).length = L.length := List.length_map _
theorem ci_at (L : List Nat) (i : Nat) : (ci L).getD i 0 = ((L.getD i 0 : Nat) : Int) := by
  unfold ci
  rw [List.getD_eq_getElem?_getD, List.getElem?_map, List.getD_eq_getElem?_getD]
  cases L[i]? <;> rfl
theorem sm_at {L : List Nat} (h : sm L) (i : Nat) : L.getD i 0 < 256 := by
  rw [List.getD_eq_getElem?_getD]
  by_cases hi : i < L.length
  · rw [List.getElem?_eq_getElem hi]; exact h _ (List.getElem_mem _)
  · rw [List.getElem?_eq_none (by omega)]; decide
theorem sm_app {L M : List Nat} (h : sm L) (g : sm M) : sm (L ++ M) := fun x hx => by
  rcases List.mem_append.1 hx with hx | hx
  · exact h x hx
  · exact g x hx
def str (L : List Nat) : ByteArray := strOfNums (ci L)
theorem str_size (L : List Nat) : (str L).size = L.length := by unfold str; rw [strOf_size, ci_len]
theorem str_data (L : List Nat) : (str L).data.toList = L.map UInt8.ofNat := by
  unfold str ci
  rw [strOf_data, List.map_map]
  rfl
theorem bn_s {L : List Nat} (h : sm L) (i : Nat) : bn (str L) i = L.getD i 0 := by
  have h1 := sm_at h i
  unfold bn
  rw [str_data, List.getD_eq_getElem?_getD, List.getElem?_map, List.getD_eq_getElem?_getD]
  rw [List.getD_eq_getElem?_getD] at h1
  cases e : L[i]? with
  | none => rfl
  | some x =>
    rw [e] at h1
    simp only [Option.getD_some] at h1
    simp only [Option.map_some, Option.getD_some, UInt8.toNat_ofNat']
    omega
theorem bytes_s {L : List Nat} (h : sm L) : bytesOf (str L) = ci L := by
  unfold bytesOf
  rw [str_data]
  unfold ci
  rw [List.map_map]
  apply List.map_congr_left
  intro x hx
  have := h x hx
  simp only [Function.comp_apply, UInt8.toNat_ofNat']
  congr 1
  omega
theorem ba_ext {a b : ByteArray} (h : a.data.toList = b.data.toList) : a = b := by
  cases a
  cases b
  simp only [ByteArray.mk.injEq]
  exact Array.toList_inj.1 h
theorem str_app (L M : List Nat) : str L ++ str M = str (L ++ M) := by
  apply ba_ext
  rw [ByteArray.data_append, Array.toList_append, str_data, str_data, str_data, List.map_append]
theorem str_cut (L : List Nat) (i j : Nat) : (str L).extract i j = str ((L.drop i).take (j - i)) := by
  apply ba_ext
  rw [ByteArray.data_extract, Array.toList_extract, str_data, str_data]
  simp [List.map_drop, List.map_take, List.extract]
theorem str_all (a : ByteArray) : a = str (a.data.toList.map UInt8.toNat) := by
  apply ba_ext
  rw [str_data, List.map_map]
  conv => lhs; rw [← List.map_id a.data.toList]
  apply List.map_congr_left
  intro x _
  simp
theorem bytes_all (a : ByteArray) : bytesOf a = ci (a.data.toList.map UInt8.toNat) := by
  unfold bytesOf ci
  rw [List.map_map]
  rfl
/-- The word of step i, the columns, the steps. -/
def wordN (S : List Nat) (i : Nat) : List Nat := if i % 4 = 0 then [box (S.getD (4 * i - 3) 0) ^^^ pw 2 (i / 4 - 1), box (S.getD (4 * i - 2) 0), box (S.getD (4 * i - 1) 0), box (S.getD (4 * i - 4) 0)] else [S.getD (4 * i - 4) 0, S.getD (4 * i - 3) 0, S.getD (4 * i - 2) 0, S.getD (4 * i - 1) 0]
def colN (S T : List Nat) (i : Nat) : List Nat := (List.range 4).map fun q => S.getD (4 * i - 16 + q) 0 ^^^ T.getD q 0
def allN : Nat → Nat → List Nat → List Nat
  | 0, _, S => S
  | d + 1, i, S => allN d (i + 1) (S ++ colN S (wordN S i) i)
theorem colN_len (S T : List Nat) (i : Nat) : (colN S T i).length = 4 := by simp [colN]
theorem xor8 {a b : Nat} (ha : a < 256) (hb : b < 256) : a ^^^ b < 256 := Nat.xor_lt_two_pow (n := 8) ha hb
theorem sm_word {S : List Nat} (h : sm S) (i : Nat) : sm (wordN S i) := by
  unfold wordN
  have hb := fun x => box_lt x
  have hp := pw_lt 2 (i / 4 - 1)
  split
  · intro x hx
    simp only [List.mem_cons, List.not_mem_nil, or_false] at hx
    rcases hx with rfl | rfl | rfl | rfl
    · exact xor8 (hb _) hp
    · exact hb _
    · exact hb _
    · exact hb _
  · intro x hx
    simp only [List.mem_cons, List.not_mem_nil, or_false] at hx
    rcases hx with rfl | rfl | rfl | rfl <;> exact sm_at h _
theorem sm_col {S T : List Nat} (h : sm S) (g : sm T) (i : Nat) : sm (colN S T i) := by
  intro x hx
  unfold colN at hx
  obtain ⟨q, _, rfl⟩ := List.mem_map.1 hx
  exact xor8 (sm_at h _) (sm_at g _)
theorem spec_word (k : Nat) (hk : 1030 ≤ k) {S : List Nat} (h : sm S) (i : Nat) (hi : i ≤ 44) : kWord k (tabN 255) (ci S) i = some (ci (wordN S i)) := by
  unfold kWord wordN
  simp only [ci_at]
  have h0 := sm_at h (4 * i - 4)
  have h1 := sm_at h (4 * i - 3)
  have h2 := sm_at h (4 * i - 2)
  have h3 := sm_at h (4 * i - 1)
  by_cases hm : i % 4 = 0
  · rw [if_pos hm, if_pos hm, if_pos (by omega)]
    have e := spec_pow k hk 2 (i / 4 - 1) (by decide) (by omega)
    have hp := pw_lt 2 (i / 4 - 1)
    have hb := box_lt (S.getD (4 * i - 3) 0)
    rw [show ((2 : Nat) : Int) = 2 from rfl] at e
    rw [e, ob]
    simp only [Int.toNat_natCast]
    rw [tab_at h0, tab_at h1, tab_at h2, tab_at h3, show ((pw 2 (i / 4 - 1) : Nat) : Int) % 256 = ((pw 2 (i / 4 - 1) : Nat) : Int) by omega, xor_u8 _ _ hb hp]
    rfl
  · rw [if_neg hm, if_neg hm]
    rfl
theorem spec_cols {S T : List Nat} (h : sm S) (g : sm T) (i : Nat) : kCols (ci S) i (ci T) 4 = ci (S ++ colN S T i) := by
  unfold kCols
  have e : ((List.range 4).map fun q => Go.bits .xor .u8 ((ci S).getD (4 * i - 16 + q) 0) ((ci T).getD q 0)) = ci (colN S T i) := by
    unfold colN ci
    rw [List.map_map]
    apply List.map_congr_left
    intro q _
    have h1 := ci_at S (4 * i - 16 + q)
    have h2 := ci_at T q
    unfold ci at h1 h2
    rw [h1, h2, xor_u8 _ _ (sm_at h _) (sm_at g _)]
    rfl
  rw [e]
  unfold ci
  rw [List.map_append]
theorem spec_all (k : Nat) (hk : 1030 ≤ k) : ∀ (d i : Nat) (S : List Nat), i + d ≤ 44 → sm S → kAll k (tabN 255) d i (ci S) = some (ci (allN d i S)) ∧ sm (allN d i S)
  | 0, _, _, _, h => ⟨rfl, h⟩
  | d + 1, i, S, hi, h => by
    unfold kAll allN
    rw [spec_word k hk h i (by omega), ob, spec_cols h (sm_word h i)]
    exact spec_all k hk d (i + 1) _ (by omega) (sm_app h (sm_col h (sm_word h i) i))
theorem getD_app {S X : List Nat} {p : Nat} (h : p < S.length) : (S ++ X).getD p 0 = S.getD p 0 := by
  rw [List.getD_eq_getElem?_getD, List.getElem?_append_left h, List.getD_eq_getElem?_getD]
theorem getD_app2 {S X : List Nat} {p q : Nat} (h : p = S.length + q) : (S ++ X).getD p 0 = X.getD q 0 := by
  subst h
  rw [List.getD_eq_getElem?_getD, List.getElem?_append_right (by omega), List.getD_eq_getElem?_getD]
  congr 2
  omega
theorem four {X : List Nat} (h : X.length = 4) : [X.getD 0 0, X.getD 1 0, X.getD 2 0, X.getD 3 0] = X := by
  match X, h with
  | [a, b, c, d], _ => rfl
theorem word_next {S W : List Nat} {i : Nat} (hS : S.length = 4 * i) (hW : W.length = 4) (hm : (i + 1) % 4 ≠ 0) : wordN (S ++ W) (i + 1) = W := by
  unfold wordN
  rw [if_neg hm, getD_app2 (q := 0) (by omega), getD_app2 (q := 1) (by omega), getD_app2 (q := 2) (by omega), getD_app2 (q := 3) (by omega)]
  exact four hW
theorem col_app {S X T : List Nat} {i : Nat} (h : 4 * i - 16 + 4 ≤ S.length) : colN (S ++ X) T i = colN S T i := by
  unfold colN
  apply List.map_congr_left
  intro q hq
  have := List.mem_range.1 hq
  rw [getD_app (by omega)]
/-- Four steps are one round. -/
def roundN (S : List Nat) (m : Nat) : List Nat :=
  let W1 := colN S (wordN S (4 * m + 4)) (4 * m + 4)
  let W2 := colN S W1 (4 * m + 5)
  let W3 := colN S W2 (4 * m + 6)
  W1 ++ W2 ++ W3 ++ colN S W3 (4 * m + 7)
theorem round_len (S : List Nat) (m : Nat) : (roundN S m).length = 16 := by simp [roundN, colN_len]
theorem round_sm {S : List Nat} (h : sm S) (m : Nat) : sm (roundN S m) := by
  unfold roundN
  have h1 := sm_col h (sm_word h (4 * m + 4)) (4 * m + 4)
  have h2 := sm_col h h1 (4 * m + 5)
  have h3 := sm_col h h2 (4 * m + 6)
  exact sm_app (sm_app (sm_app h1 h2) h3) (sm_col h h3 _)
theorem step_next (d i : Nat) (S X W : List Nat) (hS : (S ++ X).length = 4 * i) (hW : W.length = 4) (hm : (i + 1) % 4 ≠ 0) (hc : 4 * (i + 1) - 16 + 4 ≤ S.length) : allN (d + 1) (i + 1) (S ++ X ++ W) = allN d (i + 1 + 1) (S ++ (X ++ W) ++ colN S W (i + 1)) := by
  have e : colN (S ++ X ++ W) W (i + 1) = colN S W (i + 1) := by rw [List.append_assoc]; exact col_app hc
  show allN d (i + 1 + 1) ((S ++ X ++ W) ++ colN (S ++ X ++ W) (wordN (S ++ X ++ W) (i + 1)) (i + 1)) = _
  rw [word_next hS hW hm, e, List.append_assoc S X W]
theorem all_round (d m : Nat) (S : List Nat) (hS : S.length = 16 * m + 16) : allN (d + 4) (4 * m + 4) S = allN d (4 * (m + 1) + 4) (S ++ roundN S m) := by
  have l1 := colN_len S (wordN S (4 * m + 4)) (4 * m + 4)
  have e1 : allN (d + 3 + 1) (4 * m + 4) S = allN (d + 3) (4 * m + 4 + 1) (S ++ [] ++ colN S (wordN S (4 * m + 4)) (4 * m + 4)) := by rw [List.append_nil]; rfl
  unfold roundN
  rw [e1]
  generalize colN S (wordN S (4 * m + 4)) (4 * m + 4) = W1 at l1 ⊢
  have l2 := colN_len S W1 (4 * m + 5)
  rw [step_next (d + 2) (4 * m + 4) S [] W1 (by rw [List.append_nil]; omega) l1 (by omega) (by omega), List.nil_append]
  show allN (d + 2) (4 * m + 5 + 1) (S ++ W1 ++ colN S W1 (4 * m + 5)) = _
  simp only []
  generalize colN S W1 (4 * m + 5) = W2 at l2 ⊢
  have l3 := colN_len S W2 (4 * m + 6)
  rw [step_next (d + 1) (4 * m + 5) S W1 W2 (by rw [List.length_append]; omega) l2 (by omega) (by omega)]
  show allN (d + 1) (4 * m + 6 + 1) (S ++ (W1 ++ W2) ++ colN S W2 (4 * m + 6)) = _
  generalize colN S W2 (4 * m + 6) = W3 at l3 ⊢
  rw [step_next d (4 * m + 6) S (W1 ++ W2) W3 (by rw [List.length_append, List.length_append]; omega) l3 (by omega) (by omega)]
  show allN d (4 * m + 4 + 4) _ = _
  rw [show 4 * m + 4 + 4 = 4 * (m + 1) + 4 by omega]
  simp only [List.append_assoc]
def keyN (S : List Nat) (c : Nat) : ByteArray := str ((S.drop (16 * c)).take 16)
theorem key_spec (S : List Nat) (c : Nat) : kKey (ci S) c = keyN S c := by
  unfold kKey keyN str ci
  rw [List.map_take, List.map_drop]
theorem sixteen {L : List Nat} (h : L.length = 16) : (L.drop 13).take (16 - 13) ++ (L.drop 12).take (13 - 12) = [L.getD 13 0, L.getD 14 0, L.getD 15 0, L.getD 12 0] := by
  match L, h with
  | [_, _, _, _, _, _, _, _, _, _, _, _, _, _, _, _], _ => rfl
theorem cut_at (S : List Nat) (o n j : Nat) (hj : j < n) : ((S.drop o).take n).getD j 0 = S.getD (o + j) 0 := by
  rw [List.getD_eq_getElem?_getD, List.getElem?_take, if_pos hj, List.getElem?_drop, List.getD_eq_getElem?_getD]
theorem cut_sm {S : List Nat} (h : sm S) (o n : Nat) : sm ((S.drop o).take n) := fun x hx => h x (List.mem_of_mem_drop (List.mem_of_mem_take hx))
theorem box4 (k : Nat) (hk : 30 ≤ k) (a b c d : Nat) (h : sm [a, b, c, d]) : impl_BoxText.f k (str [a, b, c, d]) = some (str [box a, box b, box c, box d]) := by
  rw [boxText_some k hk _ (by rw [str_size]; exact (by decide : (4 : Nat) ≤ 281474976710656))]
  simp only [bn_s h, str_size]
  rfl
theorem impl_word (k : Nat) (hk : 30 ≤ k) {S : List Nat} (h : sm S) (m : Nat) (hm : m ≤ 10) (hS : S.length = 16 * m + 16) : rkWord k (keyN S m) m = some (ci (wordN S (4 * m + 4))) := by
  have hL : ((S.drop (16 * m)).take 16).length = 16 := by rw [List.length_take, List.length_drop]; omega
  unfold rkWord keyN
  rw [str_cut, str_cut, str_app, sixteen hL, cut_at _ _ _ _ (by decide), cut_at _ _ _ _ (by decide), cut_at _ _ _ _ (by decide), cut_at _ _ _ _ (by decide)]
  have h0 := sm_at h (16 * m + 13)
  have h1 := sm_at h (16 * m + 14)
  have h2 := sm_at h (16 * m + 15)
  have h3 := sm_at h (16 * m + 12)
  unfold wordN
  rw [if_pos (by omega), show 4 * (4 * m + 4) - 3 = 16 * m + 13 by omega, show 4 * (4 * m + 4) - 2 = 16 * m + 14 by omega, show 4 * (4 * m + 4) - 1 = 16 * m + 15 by omega, show 4 * (4 * m + 4) - 4 = 16 * m + 12 by omega, show (4 * m + 4) / 4 - 1 = m by omega]
  generalize S.getD (16 * m + 13) 0 = a at h0 ⊢
  generalize S.getD (16 * m + 14) 0 = b at h1 ⊢
  generalize S.getD (16 * m + 15) 0 = c at h2 ⊢
  generalize S.getD (16 * m + 12) 0 = d at h3 ⊢
  have hs : sm [a, b, c, d] := by
    intro x hx
    simp only [List.mem_cons, List.not_mem_nil, or_false] at hx
    rcases hx with rfl | rfl | rfl | rfl <;> assumption
  have hb := fun x => box_lt x
  have hs2 : sm [box a, box b, box c, box d] := by
    intro x hx
    simp only [List.mem_cons, List.not_mem_nil, or_false] at hx
    rcases hx with rfl | rfl | rfl | rfl <;> exact hb _
  have e := impl_pow k hk 2 m (by decide) (by omega)
  have hp := pw_lt 2 m
  rw [show ((2 : Nat) : Int) = 2 from rfl] at e
  rw [box4 k hk a b c d hs, ob, e, ob, if_pos (by rw [str_size]; rfl), bytes_s hs2, ci_at, show ((pw 2 m : Nat) : Int) % 256 = ((pw 2 m : Nat) : Int) by omega]
  show some ((ci [box a, box b, box c, box d]).set 0 (Go.bits .xor .u8 ((box a : Nat) : Int) ((pw 2 m : Nat) : Int))) = _
  rw [xor_u8 _ _ (hb a) hp]
  rfl
theorem impl_col {S T : List Nat} (h : sm S) (g : sm T) (hT : T.length = 4) (m c d : Nat) (hc : c < 4) (hS : S.length = 16 * m + 16) (nx : ByteArray) (hn : nx.size ≤ 16) :
    rkNext (keyN S m) (d + 1) c (ci T) nx = rkNext (keyN S m) d (c + 1) (ci (colN S T (4 * m + 4 + c))) (nx ++ str (colN S T (4 * m + 4 + c))) := by
  have hM : ((((S.drop (16 * m)).take 16).drop (4 * c)).take 4).length = 4 := by simp; omega
  have hMs := cut_sm (cut_sm h (16 * m) 16) (4 * c) 4
  have hat : ∀ j, j < 4 → ((((S.drop (16 * m)).take 16).drop (4 * c)).take 4).getD j 0 = S.getD (16 * m + 4 * c + j) 0 := by
    intro j hj
    rw [cut_at _ _ _ _ hj, cut_at _ _ _ _ (by omega), Nat.add_assoc]
  have e : impl_XorText.f (strOfNums (ci T)) ((keyN S m).extract (4 * c) (4 * c + 4)) = some (str (colN S T (4 * m + 4 + c))) := by
    unfold keyN
    rw [str_cut, show 4 * c + 4 - 4 * c = 4 by omega]
    show impl_XorText.f (str T) _ = _
    generalize ((((S.drop (16 * m)).take 16).drop (4 * c)).take 4) = M at hM hMs hat ⊢
    rw [impl_xor _ _ (by rw [str_size]; omega), if_pos (by rw [str_size, str_size]; omega), str_size, hT]
    unfold str
    congr 2
    unfold colN ci
    rw [List.map_map]
    apply List.map_congr_left
    intro j hj
    have hj4 := List.mem_range.1 hj
    have b1 := bn_s g j
    have b2 := bn_s hMs j
    unfold str ci at b1 b2
    simp only [Function.comp_apply]
    rw [xorAt_val, b1, b2, hat j hj4, Nat.xor_comm, show 4 * (4 * m + 4 + c) - 16 + j = 16 * m + 4 * c + j by omega]
  rw [rkNext, if_pos ⟨hn, by rw [ci_len, hT]; decide⟩, e, ob, if_pos (by rw [str_size, colN_len]; decide), bytes_s (sm_col h g _)]
theorem impl_round {S : List Nat} (h : sm S) (m : Nat) (hS : S.length = 16 * m + 16) : rkNext (keyN S m) 4 0 (ci (wordN S (4 * m + 4))) ⟨#[]⟩ = some (str (roundN S m)) := by
  have hw := sm_word h (4 * m + 4)
  have lw : (wordN S (4 * m + 4)).length = 4 := by unfold wordN; split <;> rfl
  have h1 := sm_col h hw (4 * m + 4)
  have l1 := colN_len S (wordN S (4 * m + 4)) (4 * m + 4)
  rw [impl_col h hw lw m 0 3 (by decide) hS _ (by decide)]
  unfold roundN
  show rkNext (keyN S m) 3 1 (ci (colN S (wordN S (4 * m + 4)) (4 * m + 4))) (⟨#[]⟩ ++ str (colN S (wordN S (4 * m + 4)) (4 * m + 4))) = _
  have e0 : (⟨#[]⟩ : ByteArray) = str [] := by apply ba_ext; rw [str_data]; rfl
  rw [e0, str_app, List.nil_append]
  generalize colN S (wordN S (4 * m + 4)) (4 * m + 4) = W1 at h1 l1 ⊢
  have h2 := sm_col h h1 (4 * m + 5)
  have l2 := colN_len S W1 (4 * m + 5)
  rw [impl_col h h1 l1 m 1 2 (by decide) hS _ (by rw [str_size]; omega)]
  show rkNext (keyN S m) 2 2 (ci (colN S W1 (4 * m + 5))) (str W1 ++ str (colN S W1 (4 * m + 5))) = _
  simp only []
  generalize colN S W1 (4 * m + 5) = W2 at h2 l2 ⊢
  have h3 := sm_col h h2 (4 * m + 6)
  have l3 := colN_len S W2 (4 * m + 6)
  rw [str_app, impl_col h h2 l2 m 2 1 (by decide) hS _ (by rw [str_size, List.length_append]; omega)]
  show rkNext (keyN S m) 1 3 (ci (colN S W2 (4 * m + 6))) (str (W1 ++ W2) ++ str (colN S W2 (4 * m + 6))) = _
  generalize colN S W2 (4 * m + 6) = W3 at h3 l3 ⊢
  rw [str_app, impl_col h h3 l3 m 3 0 (by decide) hS _ (by rw [str_size, List.length_append, List.length_append]; omega), str_app]
  rfl
theorem key_len {S : List Nat} {m : Nat} (hS : S.length = 16 * m + 16) : (keyN S m).size = 16 := by
  unfold keyN
  rw [str_size, List.length_take, List.length_drop]
  omega
theorem keys_next {S : List Nat} {m : Nat} (hS : S.length = 16 * m + 16) : (List.range (m + 1)).map (keyN S) ++ [str (roundN S m)] = (List.range (m + 1 + 1)).map (keyN (S ++ roundN S m)) := by
  rw [List.range_succ (n := m + 1), List.map_append]
  congr 1
  · apply List.map_congr_left
    intro c hc
    have := List.mem_range.1 hc
    unfold keyN
    rw [List.drop_append_of_le_length (by omega), List.take_append_of_le_length (by rw [List.length_drop]; omega)]
  · have hl := round_len S m
    show _ = [keyN (S ++ roundN S m) (m + 1)]
    unfold keyN
    rw [show 16 * (m + 1) = S.length by omega, List.drop_left, List.take_of_length_le (by omega)]
theorem impl_all (k : Nat) (hk : 30 ≤ k) : ∀ (d m : Nat) (S : List Nat), m + d ≤ 10 → S.length = 16 * m + 16 → sm S → rkAll k d ((List.range (m + 1)).map (keyN S)) = some ((List.range (m + d + 1)).map (keyN (allN (4 * d) (4 * m + 4) S)))
  | 0, _, _, _, _, _ => rfl
  | d + 1, m, S, hm, hS, h => by
    have e1 : ((List.range (m + 1)).map (keyN S)).getD m ByteArray.empty = keyN S m := by
      rw [List.getD_eq_getElem?_getD, List.getElem?_map, List.getElem?_range (by omega)]
      rfl
    have ih := impl_all k hk d (m + 1) (S ++ roundN S m) (by omega) (by rw [List.length_append, round_len]; omega) (sm_app h (round_sm h m))
    unfold rkAll
    rw [List.length_map, List.length_range, Nat.add_sub_cancel, e1, if_pos (key_len hS), impl_word k hk h m (by omega) hS, ob, impl_round h m hS, ob, keys_next hS, ih, show 4 * (d + 1) = 4 * d + 4 by omega, all_round _ _ _ hS, show m + 1 + d + 1 = m + (d + 1) + 1 by omega]
theorem FnExactRoundKeys : laws_FnExactRoundKeys.Pure := by
  intro a _
  refine rounds_of 1200 fun k hk => ?_
  unfold laws_FnExactRoundKeys.f
  by_cases c : (a.size : Int) > 1048576
  · rw [if_pos c]
  · rw [if_neg c]
    obtain ⟨xs, hx, hsp, him⟩ : ∃ xs : List ByteArray, xs.length ≤ 11 ∧ spec_RoundKeys.f k a = some xs ∧ impl_RoundKeys.f k a = some xs := by
      unfold spec_RoundKeys.f impl_RoundKeys.f
      by_cases h16 : a.size = 16
      · rw [if_pos h16, if_pos h16]
        have hb := bytes_all a
        have hs : sm (a.data.toList.map UInt8.toNat) := fun x hx => by
          obtain ⟨y, _, rfl⟩ := List.mem_map.1 hx
          exact y.toNat_lt
        have hl : (a.data.toList.map UInt8.toNat).length = 16 * 0 + 16 := by rw [List.length_map, data_length, h16]
        have e0 : [a] = (List.range (0 + 1)).map (keyN (a.data.toList.map UInt8.toNat)) := by
          show [a] = [keyN _ 0]
          unfold keyN
          rw [Nat.mul_zero, List.drop_zero, List.take_of_length_le (by omega), ← str_all]
        generalize a.data.toList.map UInt8.toNat = S at hb hs hl e0
        have e1 := impl_all k (by omega) 10 0 S (by omega) hl hs
        rw [← e0, show 0 + 10 + 1 = 11 from rfl, show 4 * 10 = 40 from rfl, show 4 * 0 + 4 = 4 from rfl] at e1
        have e2 := (spec_all k (by omega) 40 4 S (by omega) hs).1
        have hp := boxPow_eq 255 (Nat.le_refl _)
        have ht := boxTab_eq k (by omega) 255 (Nat.le_refl _)
        generalize tabN 255 = B at e2 ht
        generalize boxPow 255 = bp at hp ⊢
        generalize boxTab k 255 = bq at ht ⊢
        subst hp
        subst ht
        generalize allN 40 4 S = Z at e1 e2
        have hz : (List.range 11).map (kKey (ci Z)) = (List.range 11).map (keyN Z) := List.map_congr_left (fun q _ => key_spec Z q)
        refine ⟨(List.range 11).map (keyN Z), by rw [List.length_map, List.length_range]; omega, ?_, e1⟩
        rw [ob, ob, hb, e2, ob, hz]
      · rw [if_neg h16, if_neg h16]
        exact ⟨[], by simp, rfl, rfl⟩
    obtain ⟨ys, m1, m2⟩ := marked xs (by omega) k (by omega)
    rw [hsp, ob, him, ob, eqStr_same xs (by omega) k (by omega), ob, if_pos rfl, m1]
    simp only [ob]
    rw [m2]
    simp only [ob]
    rw [if_neg (by omega), if_pos trivial, eqStr_same xs (by omega) k (by omega)]
    simp only [ob, if_true]
    rw [if_neg (by omega)]
end Go.Proofs.Ytngdfchpknglhaa.Pure
