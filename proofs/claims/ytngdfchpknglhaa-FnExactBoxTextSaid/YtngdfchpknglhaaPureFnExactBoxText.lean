/- The law FnExactBoxText answers true: spec.BoxText (by a table of powers of 3) and impl.BoxText (by BoxOf) agree at every string; no condition. -/
import Derived.Test.YtngdfchpknglhaaMFnExactBoxTextx2
namespace Go.Proofs.Ytngdfchpknglhaa.Pure
open Go.RowKit Go.Proofs.Ytngdfchpknglhaa.PFnExactBoxText Go.Proofs.YtngdfchpknglhaaW.PrintWords Go.Proofs.YtngdfchpknglhaaW.PrintLast Go.Proofs.YtngdfchpknglhaaW.PrintMore
set_option linter.unusedVariables false
set_option linter.unusedSimpArgs false

theorem w64 {n : Int} (h0 : -9223372036854775808 ≤ n) (h1 : n ≤ 9223372036854775807) : wrap64 n = n := by
  unfold wrap64; omega
theorem bits_nat3 (k : IntKind) (j : Nat) (hj : j ≤ k.bits) (hk : ∀ n : Int, 0 ≤ n → n < 2 ^ j → k.wrap n = n) (a b : Nat) (ha : a < 2 ^ j) (hb : b < 2 ^ j) :
    Go.bits .and k a b = ((a &&& b : Nat) : Int) ∧ Go.bits .or k a b = ((a ||| b : Nat) : Int) ∧ Go.bits .xor k a b = ((a ^^^ b : Nat) : Int) := by
  have hp : 2 ^ j ≤ 2 ^ k.bits := Nat.pow_le_pow_right (by decide) hj
  have ha' : a % 2 ^ k.bits = a := Nat.mod_eq_of_lt (Nat.lt_of_lt_of_le ha hp)
  have hb' : b % 2 ^ k.bits = b := Nat.mod_eq_of_lt (Nat.lt_of_lt_of_le hb hp)
  have cast : ∀ n : Nat, n < 2 ^ j → ((n : Nat) : Int) < 2 ^ j := fun n h => by exact_mod_cast h
  refine ⟨?_, ?_, ?_⟩
  · simp only [Go.bits, BitVec.ofInt_natCast, BitVec.toNat_and, BitVec.toNat_ofNat, ha', hb']
    exact hk _ (Int.natCast_nonneg _) (cast _ (Nat.and_lt_two_pow _ hb))
  · simp only [Go.bits, BitVec.ofInt_natCast, BitVec.toNat_or, BitVec.toNat_ofNat, ha', hb']
    exact hk _ (Int.natCast_nonneg _) (cast _ (Nat.or_lt_two_pow ha hb))
  · simp only [Go.bits, BitVec.ofInt_natCast, BitVec.toNat_xor, BitVec.toNat_ofNat, ha', hb']
    exact hk _ (Int.natCast_nonneg _) (cast _ (Nat.xor_lt_two_pow ha hb))
theorem wr_i64 (n : Int) (h0 : 0 ≤ n) (h1 : n < 2 ^ 62) : IntKind.i64.wrap n = n := by rw [IntKind.wrap_i64]; omega
theorem wr_u64 (n : Int) (h0 : 0 ≤ n) (h1 : n < 2 ^ 64) : IntKind.u64.wrap n = n := by
  simp [IntKind.wrap, IntKind.bits, IntKind.signed]; omega
theorem or_i64 (a b : Nat) (ha : a < 2 ^ 62) (hb : b < 2 ^ 62) : Go.bits .or .i64 a b = ((a ||| b : Nat) : Int) := (bits_nat3 .i64 62 (by decide) wr_i64 a b ha hb).2.1
theorem xor_i64 (a b : Nat) (ha : a < 2 ^ 62) (hb : b < 2 ^ 62) : Go.bits .xor .i64 a b = ((a ^^^ b : Nat) : Int) := (bits_nat3 .i64 62 (by decide) wr_i64 a b ha hb).2.2
theorem and_i64 (a b : Nat) (ha : a < 2 ^ 62) (hb : b < 2 ^ 62) : Go.bits .and .i64 a b = ((a &&& b : Nat) : Int) := (bits_nat3 .i64 62 (by decide) wr_i64 a b ha hb).1
theorem xor_u8 (a b : Nat) (ha : a < 2 ^ 8) (hb : b < 2 ^ 8) : Go.bits .xor .u8 a b = ((a ^^^ b : Nat) : Int) := (bits_nat3 .u8 8 (by decide) wraps_u8 a b ha hb).2.2
/-- Byte i of s as a natural number. -/
def bn (s : ByteArray) (i : Nat) : Nat := (s.data.toList.getD i 0).toNat
theorem bn_lt (s : ByteArray) (i : Nat) : bn s i < 256 := (s.data.toList.getD i 0).toNat_lt
theorem bt_bn (s : ByteArray) (i : Nat) : bt s (i : Int) = (bn s i : Int) := by
  unfold bt bn
  split
  · rename_i h
    have h' : i < s.data.toList.length := by rw [data_length]; simpa using h
    rw [List.getD_eq_getElem?_getD, List.getElem?_eq_getElem h']; rfl
  · rename_i h
    have h' : s.data.toList.length ≤ i := by rw [data_length]; simpa using h
    rw [List.getD_eq_getElem?_getD, List.getElem?_eq_none h']; rfl
theorem bt_bn' (s : ByteArray) (i : Int) (h : 0 ≤ i) : bt s i = (bn s i.toNat : Int) := by
  obtain ⟨n, rfl⟩ := Int.eq_ofNat_of_zero_le h
  exact bt_bn s n
theorem toList_eq' (s : ByteArray) : s.toList = s.data.toList := ByteArray.toList_eq s
/-- Two strings of one length are one where their bytes are. -/
theorem bytes_ext {s t : ByteArray} (hl : s.size = t.size) (h : ∀ i, i < s.size → bn s i = bn t i) : s.data.toList = t.data.toList := by
  apply List.ext_getElem (by rw [data_length, data_length, hl])
  intro i h1 h2
  have := h i (by rw [← data_length]; exact h1)
  unfold bn at this
  rw [List.getD_eq_getElem?_getD, List.getD_eq_getElem?_getD, List.getElem?_eq_getElem h1, List.getElem?_eq_getElem h2] at this
  exact UInt8.toNat_inj.1 this
theorem strOf_data (xs : List Int) : (strOfNums xs).data.toList = xs.map fun n => UInt8.ofNat n.toNat := by simp [strOfNums]
theorem strOf_toList (xs : List Int) : (strOfNums xs).toList = xs.map fun n => UInt8.ofNat n.toNat := by rw [toList_eq', strOf_data]
theorem strOf_size (xs : List Int) : (strOfNums xs).size = xs.length := by rw [← data_length, strOf_data, List.length_map]
/-- A list of n numbers written cell by cell is the list of what was written. -/
theorem tab_set (f : Nat → Int) (n i : Nat) (rest : List Int) (h : i < n) (hr : rest.length = n - i) :
    (((List.range i).map f) ++ rest).set i (f i) = ((List.range (i + 1)).map f) ++ rest.tail := by
  cases rest with
  | nil => simp at hr; omega
  | cons a rest =>
    rw [List.set_append_right _ _ (by simp)]
    simp [List.range_succ]
theorem xor_zero_iff {a b : Nat} : a ^^^ b = 0 ↔ a = b := by
  constructor
  · intro h
    have := congrArg (· ^^^ b) h
    simpa [Nat.xor_assoc] using this
  · rintro rfl; exact Nat.xor_self a
theorem rounds_of {P : Nat → Prop} (n : Nat) (h : ∀ k, n ≤ k → P k) : ∃ k, P k := ⟨n, h n (Nat.le_refl n)⟩
/-- As Option.bind_some, but not by reduction: the kernel is not led into what follows. -/
theorem ob {α β : Type} (a : α) (f : α → Option β) : (some a).bind f = f a := by
  cases h : f a with
  | none => rw [Option.bind_some, h]
  | some b => rw [Option.bind_some, h]

def dbl (a : Nat) : Nat := if 128 ≤ a then (2 * a) ^^^ 283 else 2 * a
def mul8 : Nat → Nat → Nat → Nat → Nat
  | 0, _, _, acc => acc
  | n + 1, a, b, acc => mul8 n (dbl a) (b / 2) (if b % 2 = 1 then acc ^^^ a else acc)
/-- The product in the field of 256. -/
def gm (a b : Nat) : Nat := mul8 8 a b 0
def allB (n : Nat) (p : Nat → Bool) : Bool := (List.range n).all p
theorem of_all {n : Nat} {p : Nat → Bool} (h : allB n p = true) (a : Nat) (ha : a < n) : p a = true := by
  unfold allB at h
  rw [List.all_eq_true] at h
  exact h a (List.mem_range.2 ha)
theorem dbl_lt0 : allB 256 (fun a => decide (dbl a < 256)) = true := by decide +kernel
theorem dbl_lt {a : Nat} (h : a < 256) : dbl a < 256 := of_decide_eq_true (of_all dbl_lt0 a h)
theorem xlt {a b : Nat} (ha : a < 256) (hb : b < 256) : a ^^^ b < 256 := Nat.xor_lt_two_pow (n := 8) ha hb
theorem mul8_lt (n : Nat) : ∀ a b acc, a < 256 → acc < 256 → mul8 n a b acc < 256 := by
  induction n with
  | zero => intro a b acc _ h; exact h
  | succ n ih =>
    intro a b acc ha h
    simp only [mul8]
    apply ih _ _ _ (dbl_lt ha)
    split
    · exact xlt h ha
    · exact h
theorem gm_lt {a : Nat} (b : Nat) (ha : a < 256) : gm a b < 256 := mul8_lt 8 a b 0 ha (by decide)
theorem mul8_zero (n : Nat) : ∀ a acc, mul8 n a 0 acc = acc := by
  induction n with
  | zero => intro a acc; rfl
  | succ n ih => intro a acc; simp only [mul8, Nat.zero_div]; rw [if_neg (by decide)]; exact ih _ _

/-- The substitution box of a byte whose inverse is b. -/
def trn (b i : Nat) : Nat := (b * 2 ^ i ||| b / 2 ^ (8 - i)) &&& 255
def boxN (b : Nat) : Nat := ((((99 ^^^ trn b 0) ^^^ trn b 1) ^^^ trn b 2) ^^^ trn b 3) ^^^ trn b 4
theorem trn0 : allB 256 (fun b => trn b 0 == b) = true := by decide +kernel
theorem shlN (b i : Nat) (hb : b < 256) (hi : i ≤ 8) (y : Int) (hy : y = i) : shl .i64 (b : Int) y = ((b * 2 ^ i : Nat) : Int) := by
  subst hy
  unfold shl
  rw [show min ((i : Int)).toNat IntKind.i64.bits = i by simp [IntKind.bits]; omega]
  have h : (2 : Nat) ^ i ≤ 2 ^ 8 := Nat.pow_le_pow_right (by decide) hi
  have h2 : b * 2 ^ i ≤ 256 * 2 ^ 8 := Nat.mul_le_mul (by omega) h
  rw [show (b : Int) * 2 ^ i = ((b * 2 ^ i : Nat) : Int) by simp]
  exact wr_i64 _ (Int.natCast_nonneg _) (by omega)
theorem shrN (b i : Nat) (hi : i ≤ 64) (y : Int) (hy : y = i) : shr .i64 (b : Int) y = ((b / 2 ^ i : Nat) : Int) := by
  subst hy
  unfold shr
  rw [show min ((i : Int)).toNat IntKind.i64.bits = i by simp [IntKind.bits]; omega]
  simp
theorem trn_val (b i : Nat) (hb : b < 256) (hi : i ≤ 4) (y z : Int) (hy : y = i) (hz : z = 8 - i) : Go.bits .and .i64 (Go.bits .or .i64 (shl .i64 (b : Int) y) (shr .i64 (b : Int) z)) 255 = ((trn b i : Nat) : Int) := by
  have h : (2 : Nat) ^ i ≤ 2 ^ 4 := Nat.pow_le_pow_right (by decide) hi
  have h2 : b * 2 ^ i ≤ 256 * 2 ^ 4 := Nat.mul_le_mul (by omega) h
  have h3 : b / 2 ^ (8 - i) ≤ b := Nat.div_le_self _ _
  have h4 : (b * 2 ^ i ||| b / 2 ^ (8 - i)) < 2 ^ 13 := Nat.or_lt_two_pow (by omega) (by omega)
  rw [shlN b i hb (by omega) y hy, shrN b (8 - i) (by omega) z (by omega), or_i64 _ _ (by omega) (by omega)]
  exact and_i64 _ 255 (by omega) (by decide)
theorem trn_lt (b i : Nat) : trn b i < 256 := Nat.and_lt_two_pow (n := 8) _ (by decide)
theorem boxN_lt (b : Nat) : boxN b < 256 := xlt (xlt (xlt (xlt (xlt (by decide) (trn_lt _ _)) (trn_lt _ _)) (trn_lt _ _)) (trn_lt _ _)) (trn_lt _ _)

theorem impl_byte (a : Nat) (h : a < 256) : impl_isByte.f (a : Int) = some true := by
  simp only [impl_isByte.f, impl_within.f]
  rw [if_pos (by omega), decide_eq_true (by omega)]; rfl
theorem impl_dbl (a : Nat) (h : a < 256) : impl_FieldDouble.f (a : Int) = some ((dbl a : Nat) : Int) := by
  have e2 : wrap64 (2 * (a : Int)) = ((2 * a : Nat) : Int) := by rw [w64 (by omega) (by omega)]; omega
  simp only [impl_FieldDouble.f, impl_byte a h, Option.bind_some, if_true, e2]
  unfold dbl
  by_cases c : 128 ≤ a
  · rw [if_pos (show (a : Int) ≥ 128 by omega), if_pos c]
    exact congrArg some (xor_i64 (2 * a) 283 (by omega) (by decide))
  · rw [if_neg (show ¬ (a : Int) ≥ 128 by omega), if_neg c]
theorem and_one (b : Nat) (h : b < 2 ^ 62) : Go.bits .and .i64 (b : Int) 1 = ((b % 2 : Nat) : Int) := by
  have e := and_i64 b 1 h (by decide)
  rw [show (1 : Int) = ((1 : Nat) : Int) from rfl, e, Nat.and_one_is_mod]
theorem impl_mul_loop (d : Nat) : ∀ (k a b acc : Nat), a < 256 → acc < 256 → b < 2 ^ d → d ≤ 8 → d < k → impl_FieldMul.l0 k (a : Int) (b : Int) (acc : Int) = some ((mul8 d a b acc : Nat) : Int) := by
  induction d with
  | zero =>
    intro k a b acc ha hc hb _ hk
    obtain ⟨k, rfl⟩ : ∃ q, k = q + 1 := ⟨k - 1, by omega⟩
    have : b = 0 := by simpa using hb
    subst this
    simp only [impl_FieldMul.l0, mul8]; rw [if_neg (by omega)]
  | succ d ih =>
    intro k a b acc ha hc hb h8 hk
    obtain ⟨k, rfl⟩ : ∃ q, k = q + 1 := ⟨k - 1, by omega⟩
    have hp : 2 ^ (d + 1) = 2 * 2 ^ d := by rw [Nat.pow_succ]; omega
    have hp8 : 2 ^ (d + 1) ≤ 2 ^ 8 := Nat.pow_le_pow_right (by decide) h8
    by_cases b0 : b = 0
    · subst b0
      simp only [impl_FieldMul.l0, mul8_zero]; rw [if_neg (by omega)]
    · simp only [impl_FieldMul.l0, mul8]
      rw [if_pos (by omega), and_one b (by omega), impl_dbl a ha, show ((b : Int) / 2) = ((b / 2 : Nat) : Int) by omega, xor_i64 acc a (by omega) (by omega)]
      simp only [Option.bind_some]
      by_cases o : b % 2 = 1
      · rw [if_pos (by omega), if_pos o]
        exact ih k _ _ _ (dbl_lt ha) (xlt hc ha) (by omega) (by omega) (by omega)
      · rw [if_neg (by omega), if_neg o]
        exact ih k _ _ _ (dbl_lt ha) hc (by omega) (by omega) (by omega)
theorem impl_mul (k : Nat) (hk : 10 ≤ k) (a b : Nat) (ha : a < 256) (hb : b < 256) : impl_FieldMul.f k (a : Int) (b : Int) = some ((gm a b : Nat) : Int) := by
  obtain ⟨k, rfl⟩ : ∃ q, k = q + 1 := ⟨k - 1, by omega⟩
  simp only [impl_FieldMul.f, impl_byte a ha, impl_byte b hb, Option.bind_some, if_true, Bool.not_true, impl_FieldMul.j0, Bool.false_eq_true, if_false]
  have e := impl_mul_loop 8 k a b 0 ha (by decide) hb (by decide) (by omega)
  rw [Int.natCast_zero] at e
  exact e

/-- Square and multiply. -/
def powL : Nat → Nat → Nat → Nat → Nat
  | 0, _, _, acc => acc
  | k + 1, x, n, acc => powL k (gm x x) (n / 2) (if n % 2 = 1 then gm acc x else acc)
def pw (a n : Nat) : Nat := powL 10 a n 1
theorem powL_lt (k : Nat) : ∀ x n acc, acc < 256 → powL k x n acc < 256 := by
  induction k with
  | zero => intro x n acc h; exact h
  | succ k ih =>
    intro x n acc h
    simp only [powL]
    apply ih
    split
    · exact gm_lt _ h
    · exact h
theorem pw_lt (a n : Nat) : pw a n < 256 := powL_lt 10 a n 1 (by decide)
theorem powL_zero (k : Nat) : ∀ x acc, powL k x 0 acc = acc := by
  induction k with
  | zero => intro x acc; rfl
  | succ k ih => intro x acc; simp only [powL, Nat.zero_div]; rw [if_neg (by decide)]; exact ih _ _

theorem impl_pow_loop (d : Nat) : ∀ (k x n acc : Nat), x < 256 → acc < 256 → n < 2 ^ d → d ≤ 10 → d + 11 < k → impl_FieldPow.l0 k (x : Int) (n : Int) (acc : Int) = some ((powL d x n acc : Nat) : Int) := by
  induction d with
  | zero =>
    intro k x n acc hx hc hn _ hk
    obtain ⟨k, rfl⟩ : ∃ q, k = q + 1 := ⟨k - 1, by omega⟩
    have : n = 0 := by simpa using hn
    subst this
    simp only [impl_FieldPow.l0, powL]; rw [if_neg (by omega)]
  | succ d ih =>
    intro k x n acc hx hc hn h10 hk
    obtain ⟨k, rfl⟩ : ∃ q, k = q + 1 := ⟨k - 1, by omega⟩
    have hp : 2 ^ (d + 1) = 2 * 2 ^ d := by rw [Nat.pow_succ]; omega
    have hp8 : 2 ^ (d + 1) ≤ 2 ^ 10 := Nat.pow_le_pow_right (by decide) h10
    by_cases n0 : n = 0
    · subst n0
      simp only [impl_FieldPow.l0, powL_zero]; rw [if_neg (by omega)]
    · simp only [impl_FieldPow.l0, powL]
      rw [if_pos (by omega), and_one n (by omega), impl_mul k (by omega) acc x hc hx, impl_mul k (by omega) x x hx hx, show ((n : Int) / 2) = ((n / 2 : Nat) : Int) by omega]
      simp only [Option.bind_some]
      by_cases o : n % 2 = 1
      · rw [if_pos (by omega), if_pos o]
        exact ih k _ _ _ (gm_lt _ hx) (gm_lt _ hc) (by omega) (by omega) (by omega)
      · rw [if_neg (by omega), if_neg o]
        exact ih k _ _ _ (gm_lt _ hx) hc (by omega) (by omega) (by omega)
theorem impl_pow (k : Nat) (hk : 30 ≤ k) (a n : Nat) (ha : a < 256) (hn : n ≤ 1000) : impl_FieldPow.f k (a : Int) (n : Int) = some ((pw a n : Nat) : Int) := by
  obtain ⟨k, rfl⟩ : ∃ q, k = q + 1 := ⟨k - 1, by omega⟩
  have hw : impl_within.f (n : Int) 0 1000 = some true := by
    unfold impl_within.f; rw [if_pos (by omega), decide_eq_true (by omega)]
  have e := impl_pow_loop 10 k a n 1 ha (by decide) (by omega) (by omega) (by omega)
  simp only [impl_FieldPow.f, impl_byte a ha, hw, Option.bind_some, if_true, Bool.not_true, impl_FieldPow.j0, Bool.false_eq_true, if_false]
  exact e

theorem impl_inv (k : Nat) (hk : 30 ≤ k) (a : Nat) (ha : a < 256) : impl_FieldInverse.f k (a : Int) = some ((pw a 254 : Nat) : Int) := by
  have e := impl_pow k hk a 254 ha (by omega)
  unfold impl_FieldInverse.f
  rw [show (254 : Int) = ((254 : Nat) : Int) from rfl, e]; rfl

theorem impl_box_loop (k b : Nat) (hb : b < 256) : impl_BoxOf.l0 (k + 5) (b : Int) (Go.bits .xor .i64 (b : Int) 99) 1 = some ((boxN b : Nat) : Int) := by
  have x0 : Go.bits .xor .i64 (b : Int) 99 = (((99 ^^^ trn b 0) : Nat) : Int) := by
    have e := of_all trn0 b hb
    simp only [beq_iff_eq] at e
    rw [e, Nat.xor_comm]
    exact xor_i64 b 99 (by omega) (by decide)
  have l0 : 99 ^^^ trn b 0 < 256 := xlt (by decide) (trn_lt _ _)
  have l1 := xlt l0 (trn_lt b 1)
  have l2 := xlt l1 (trn_lt b 2)
  have l3 := xlt l2 (trn_lt b 3)
  have t1 := trn_val b 1 hb (by decide) 1 7 rfl rfl
  have t2 := trn_val b 2 hb (by decide) 2 6 rfl rfl
  have t3 := trn_val b 3 hb (by decide) 3 5 rfl rfl
  have t4 := trn_val b 4 hb (by decide) 4 4 rfl rfl
  have q := trn_lt b
  have s1 : impl_BoxOf.l0 (k + 5) (b : Int) (((99 ^^^ trn b 0) : Nat) : Int) 1 = impl_BoxOf.l0 (k + 4) (b : Int) ((((99 ^^^ trn b 0) ^^^ trn b 1 : Nat)) : Int) 2 := by
    rw [impl_BoxOf.l0]
    simp only [(show wrap64 ((8 : Int) - 1) = 7 by unfold wrap64; decide), (show wrap64 ((1 : Int) + 1) = 2 by unfold wrap64; decide), t1]
    rw [if_pos (by decide), if_pos (by decide), if_pos (by decide), xor_i64 _ _ (by omega) (by have := q 1; omega)]
  have s2 : impl_BoxOf.l0 (k + 4) (b : Int) ((((99 ^^^ trn b 0) ^^^ trn b 1 : Nat)) : Int) 2 = impl_BoxOf.l0 (k + 3) (b : Int) (((((99 ^^^ trn b 0) ^^^ trn b 1) ^^^ trn b 2 : Nat)) : Int) 3 := by
    rw [impl_BoxOf.l0]
    simp only [(show wrap64 ((8 : Int) - 2) = 6 by unfold wrap64; decide), (show wrap64 ((2 : Int) + 1) = 3 by unfold wrap64; decide), t2]
    rw [if_pos (by decide), if_pos (by decide), if_pos (by decide), xor_i64 _ _ (by omega) (by have := q 2; omega)]
  have s3 : impl_BoxOf.l0 (k + 3) (b : Int) (((((99 ^^^ trn b 0) ^^^ trn b 1) ^^^ trn b 2 : Nat)) : Int) 3 = impl_BoxOf.l0 (k + 2) (b : Int) ((((((99 ^^^ trn b 0) ^^^ trn b 1) ^^^ trn b 2) ^^^ trn b 3 : Nat)) : Int) 4 := by
    rw [impl_BoxOf.l0]
    simp only [(show wrap64 ((8 : Int) - 3) = 5 by unfold wrap64; decide), (show wrap64 ((3 : Int) + 1) = 4 by unfold wrap64; decide), t3]
    rw [if_pos (by decide), if_pos (by decide), if_pos (by decide), xor_i64 _ _ (by omega) (by have := q 3; omega)]
  have s4 : impl_BoxOf.l0 (k + 2) (b : Int) ((((((99 ^^^ trn b 0) ^^^ trn b 1) ^^^ trn b 2) ^^^ trn b 3 : Nat)) : Int) 4 = impl_BoxOf.l0 (k + 1) (b : Int) ((boxN b : Nat) : Int) 5 := by
    rw [impl_BoxOf.l0]
    simp only [(show wrap64 ((8 : Int) - 4) = 4 by unfold wrap64; decide), (show wrap64 ((4 : Int) + 1) = 5 by unfold wrap64; decide), t4]
    rw [if_pos (by decide), if_pos (by decide), if_pos (by decide), xor_i64 _ _ (by omega) (by have := q 4; omega)]
    rfl
  rw [x0, s1, s2, s3, s4, impl_BoxOf.l0, if_neg (by decide)]
theorem impl_box (k : Nat) (hk : 30 ≤ k) (a : Nat) (ha : a < 256) : impl_BoxOf.f k (a : Int) = some ((boxN (pw a 254) : Nat) : Int) := by
  simp only [impl_BoxOf.f, impl_byte a ha, impl_inv k hk a ha, Option.bind_some, if_true]
  obtain ⟨k, rfl⟩ : ∃ q, k = q + 5 := ⟨k - 5, by omega⟩
  exact impl_box_loop k _ (pw_lt a 254)

/-- The box, as a table. -/
def boxT : List Nat := [99, 124, 119, 123, 242, 107, 111, 197, 48, 1, 103, 43, 254, 215, 171, 118, 202, 130, 201, 125, 250, 89, 71, 240, 173, 212, 162, 175, 156, 164, 114, 192, 183, 253, 147, 38, 54, 63, 247, 204, 52, 165, 229, 241, 113, 216, 49, 21, 4, 199, 35, 195, 24, 150, 5, 154, 7, 18, 128, 226, 235, 39, 178, 117, 9, 131, 44, 26, 27, 110, 90, 160, 82, 59, 214, 179, 41, 227, 47, 132, 83, 209, 0, 237, 32, 252, 177, 91, 106, 203, 190, 57, 74, 76, 88, 207, 208, 239, 170, 251, 67, 77, 51, 133, 69, 249, 2, 127, 80, 60, 159, 168, 81, 163, 64, 143, 146, 157, 56, 245, 188, 182, 218, 33, 16, 255, 243, 210, 205, 12, 19, 236, 95, 151, 68, 23, 196, 167, 126, 61, 100, 93, 25, 115, 96, 129, 79, 220, 34, 42, 144, 136, 70, 238, 184, 20, 222, 94, 11, 219, 224, 50, 58, 10, 73, 6, 36, 92, 194, 211, 172, 98, 145, 149, 228, 121, 231, 200, 55, 109, 141, 213, 78, 169, 108, 86, 244, 234, 101, 122, 174, 8, 186, 120, 37, 46, 28, 166, 180, 198, 232, 221, 116, 31, 75, 189, 139, 138, 112, 62, 181, 102, 72, 3, 246, 14, 97, 53, 87, 185, 134, 193, 29, 158, 225, 248, 152, 17, 105, 217, 142, 148, 155, 30, 135, 233, 206, 85, 40, 223, 140, 161, 137, 13, 191, 230, 66, 104, 65, 153, 45, 15, 176, 84, 187, 22]
def box (a : Nat) : Nat := boxN (pw a 254)
theorem boxT_eq : allB 256 (fun i => box i == boxT.getD i 0) = true := by decide +kernel
theorem boxT_inv : allB 256 (fun i => boxT.idxOf (boxT.getD i 0) == i) = true := by decide +kernel
theorem box_lt (a : Nat) : box a < 256 := boxN_lt _
theorem box_inj {i j : Nat} (hi : i < 256) (hj : j < 256) (h : box i = box j) : i = j := by
  have a1 := of_all boxT_eq i hi
  have a2 := of_all boxT_eq j hj
  have b1 := of_all boxT_inv i hi
  have b2 := of_all boxT_inv j hj
  simp only [beq_iff_eq] at a1 a2 b1 b2
  rw [← b1, ← b2, ← a1, ← a2, h]
theorem boxT_at {i : Nat} (hi : i < 256) : box i = boxT.getD i 0 := by
  have a1 := of_all boxT_eq i hi
  simpa using a1

theorem boxText_some (k : Nat) (hk : 30 ≤ k) (a : ByteArray) (ha : a.size ≤ 281474976710656) : impl_BoxText.f k a = some (strOfNums ((List.range a.size).map fun i => ((box (bn a i) : Nat) : Int))) := by
  unfold impl_BoxText.f
  rw [if_pos ha, optL_of a.size (g := fun i => ((box (bn a i) : Nat) : Int)) (fun i _ => by
    rw [bt_bn, impl_box k hk _ (bn_lt _ _), ob]
    have := box_lt (bn a i)
    show some (((box (bn a i) : Nat) : Int) % 256) = _
    congr 1
    omega), ob]

theorem u64n (n : Nat) (h : n < 100) : IntKind.u64.wrap (n : Int) = n := wr_u64 _ (by omega) (by omega)
theorem spec_turn (k : Nat) (hk : 6 ≤ k) (b : Nat) (hb : b < 256) : spec_l05Turned.f k (b : Int) = some ((boxN b : Nat) : Int) := by
  obtain ⟨k, rfl⟩ : ∃ q, k = q + 6 := ⟨k - 6, by omega⟩
  have q := trn_lt b
  have l0 : 99 ^^^ trn b 0 < 256 := xlt (by decide) (trn_lt _ _)
  have l1 := xlt l0 (trn_lt b 1)
  have l2 := xlt l1 (trn_lt b 2)
  have l3 := xlt l2 (trn_lt b 3)
  have st : ∀ (m i acc : Nat), i ≤ 4 → acc < 256 → spec_l05Turned.l0 (m + 1) (b : Int) (acc : Int) (i : Int) = spec_l05Turned.l0 m (b : Int) (((acc ^^^ trn b i : Nat)) : Int) ((i + 1 : Nat) : Int) := by
    intro m i acc hi hacc
    have e1 : IntKind.u64.wrap (i : Int) = i := u64n i (by omega)
    have e2 : wrap64 ((8 : Int) - i) = ((8 - i : Nat) : Int) := by rw [w64 (by omega) (by omega)]; omega
    have e3 : IntKind.u64.wrap ((8 - i : Nat) : Int) = ((8 - i : Nat) : Int) := u64n _ (by omega)
    have t := trn_val b i hb hi i ((8 - i : Nat) : Int) rfl (by omega)
    rw [spec_l05Turned.l0]
    simp only [e1, e2, e3, t]
    rw [if_pos (by omega), if_pos (by omega), if_pos (by omega), xor_i64 _ _ (by omega) (by have := q i; omega), w64 (by omega) (by omega)]
    rw [show (i : Int) + 1 = ((i + 1 : Nat) : Int) by omega]
  unfold spec_l05Turned.f
  rw [show (99 : Int) = ((99 : Nat) : Int) from rfl, show (0 : Int) = ((0 : Nat) : Int) from rfl]
  rw [st _ 0 99 (by decide) (by decide), st _ 1 _ (by decide) l0, st _ 2 _ (by decide) l1, st _ 3 _ (by decide) l2, st _ 4 _ (by decide) l3, spec_l05Turned.l0, if_neg (by decide)]
  rfl

theorem spec_byte (a : Nat) (h : a < 256) : spec_l05Byte.f (a : Int) = some true := by
  simp only [spec_l05Byte.f, spec_l01In.f]
  rw [if_pos (by omega), decide_eq_true (by omega)]; rfl
theorem spec_dbl (a : Nat) (h : a < 256) : spec_FieldDouble.f (a : Int) = some ((dbl a : Nat) : Int) := by
  have e2 : wrap64 (2 * (a : Int)) = ((2 * a : Nat) : Int) := by rw [w64 (by omega) (by omega)]; omega
  simp only [spec_FieldDouble.f, spec_byte a h, Option.bind_some, if_true, e2]
  unfold dbl
  by_cases c : 128 ≤ a
  · rw [if_pos (show ((2 * a : Nat) : Int) > 255 by omega), if_pos c]
    exact congrArg some (xor_i64 (2 * a) 283 (by omega) (by decide))
  · rw [if_neg (show ¬ ((2 * a : Nat) : Int) > 255 by omega), if_neg c]

/-- 3 to each power. -/
def powT : List Nat := [1, 3, 5, 15, 17, 51, 85, 255, 26, 46, 114, 150, 161, 248, 19, 53, 95, 225, 56, 72, 216, 115, 149, 164, 247, 2, 6, 10, 30, 34, 102, 170, 229, 52, 92, 228, 55, 89, 235, 38, 106, 190, 217, 112, 144, 171, 230, 49, 83, 245, 4, 12, 20, 60, 68, 204, 79, 209, 104, 184, 211, 110, 178, 205, 76, 212, 103, 169, 224, 59, 77, 215, 98, 166, 241, 8, 24, 40, 120, 136, 131, 158, 185, 208, 107, 189, 220, 127, 129, 152, 179, 206, 73, 219, 118, 154, 181, 196, 87, 249, 16, 48, 80, 240, 11, 29, 39, 105, 187, 214, 97, 163, 254, 25, 43, 125, 135, 146, 173, 236, 47, 113, 147, 174, 233, 32, 96, 160, 251, 22, 58, 78, 210, 109, 183, 194, 93, 231, 50, 86, 250, 21, 63, 65, 195, 94, 226, 61, 71, 201, 64, 192, 91, 237, 44, 116, 156, 191, 218, 117, 159, 186, 213, 100, 172, 239, 42, 126, 130, 157, 188, 223, 122, 142, 137, 128, 155, 182, 193, 88, 232, 35, 101, 175, 234, 37, 111, 177, 200, 67, 197, 84, 252, 31, 33, 99, 165, 244, 7, 9, 27, 45, 119, 153, 176, 203, 70, 202, 69, 207, 74, 222, 121, 139, 134, 145, 168, 227, 62, 66, 198, 81, 243, 14, 18, 54, 90, 238, 41, 123, 141, 140, 143, 138, 133, 148, 167, 242, 13, 23, 57, 75, 221, 124, 132, 151, 162, 253, 28, 36, 108, 180, 199, 82, 246, 1]
theorem powT_next : allB 255 (fun i => powT.getD (i + 1) 0 == powT.getD i 0 ^^^ dbl (powT.getD i 0)) = true := by decide +kernel
theorem powT_lt : allB 256 (fun i => decide (powT.getD i 0 < 256)) = true := by decide +kernel
def powN (i : Nat) : Nat := powT.getD i 0
theorem powN_lt {i : Nat} (h : i < 256) : powN i < 256 := of_decide_eq_true (of_all powT_lt i h)
theorem boxPow_eq : ∀ i, i ≤ 255 → boxPow i = some ((powN i : Nat) : Int)
  | 0, _ => rfl
  | i + 1, h => by
    have e := of_all powT_next i (by omega)
    simp only [beq_iff_eq] at e
    have hl := powN_lt (i := i) (by omega)
    have hd := dbl_lt hl
    unfold boxPow
    rw [boxPow_eq i (by omega), ob, spec_dbl _ hl, ob, xor_i64 _ _ (by omega) (by omega)]
    congr 2
    exact e.symm
def tabN : Nat → List Int
  | 0 => (List.replicate 256 0).set 0 99
  | n + 1 => (tabN n).set (powN n) ((boxN (powN ((255 - n) % 255)) : Nat) : Int)
theorem boxTab_eq (k : Nat) (hk : 10 ≤ k) : ∀ n, n ≤ 255 → boxTab k n = some (tabN n)
  | 0, _ => rfl
  | n + 1, h => by
    have hl := powN_lt (i := n) (by omega)
    have hq := powN_lt (i := (255 - n) % 255) (by omega)
    have hb := boxN_lt (powN ((255 - n) % 255))
    unfold boxTab
    rw [boxTab_eq k hk n (by omega), ob, boxPow_eq n (by omega), ob, boxPow_eq ((255 - n) % 255) (by omega), ob, spec_turn k (by omega) _ hq, ob, if_pos (by omega)]
    rw [show ((boxN (powN ((255 - n) % 255)) : Nat) : Int) % 256 = ((boxN (powN ((255 - n) % 255)) : Nat) : Int) by omega]
    rfl
theorem tab_all : tabN 255 = boxT.map (fun n : Nat => (n : Int)) := by decide +kernel
theorem tab_at {a : Nat} (h : a < 256) : (tabN 255).getD a 0 = ((box a : Nat) : Int) := by
  have hl : boxT.length = 256 := by decide +kernel
  rw [tab_all, boxT_at h, List.getD_eq_getElem?_getD, List.getElem?_map, List.getElem?_eq_getElem (by omega), List.getD_eq_getElem?_getD, List.getElem?_eq_getElem (by omega)]
  rfl
theorem spec_boxText (k : Nat) (hk : 10 ≤ k) (a : ByteArray) (ha : a.size ≤ 281474976710656) : spec_BoxText.f k a = some (strOfNums ((List.range a.size).map fun i => ((box (bn a i) : Nat) : Int))) := by
  unfold spec_BoxText.f
  rw [if_pos ha, boxPow_eq 255 (by omega), ob, boxTab_eq k hk 255 (by omega), ob]
  have ht : ∀ x, x < 256 → (tabN 255).getD x 0 = ((box x : Nat) : Int) := fun x hx => tab_at hx
  generalize tabN 255 = T at ht ⊢
  have e : (List.range a.size).map (boxAll T a) = (List.range a.size).map fun i => ((box (bn a i) : Nat) : Int) := by
    apply List.map_congr_left
    intro i _
    unfold boxAll
    rw [bt_bn, Int.toNat_natCast, ht _ (bn_lt a i)]
  rw [e]
theorem FnExactBoxText : laws_FnExactBoxText.Pure := by
  intro a _
  refine ⟨100, ?_⟩
  unfold laws_FnExactBoxText.f
  split
  · rfl
  · rw [spec_boxText 100 (by omega) a (by omega), boxText_some 100 (by omega) a (by omega)]
    simp only [ob, if_true]
end Go.Proofs.Ytngdfchpknglhaa.Pure
