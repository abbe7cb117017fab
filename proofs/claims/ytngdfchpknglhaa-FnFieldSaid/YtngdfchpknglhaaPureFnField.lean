/- The law FnField answers true at every draw: multiplication is commutative, distributive, associative, and what is not 0 has an inverse; no condition. -/
import Derived.Test.YtngdfchpknglhaaMFnFieldx2
namespace Go.Proofs.Ytngdfchpknglhaa.Pure
open Go.RowKit Go.Proofs.Ytngdfchpknglhaa.PFnField Go.Proofs.YtngdfchpknglhaaW.PrintWords Go.Proofs.YtngdfchpknglhaaW.PrintLast Go.Proofs.YtngdfchpknglhaaW.PrintMore
set_option linter.unusedVariables false
set_option linter.unusedSimpArgs false

theorem w64 {n : Int} (h0 : -9223372036854775808 ≤ n) (h1 : n ≤ 9223372036854775807) : wrap64 n = n := by
  unfold wrap64; omega
theorem bits_nat3 (k : IntKind) (j : Nat) (hj : j ≤ k.bits) (hk : ∀ n : Int, 0 ≤ n → n < 2 ^ j → k.wrap n = n) (a b : Nat) (ha : a < 2 ^ j) (hb : b < 2 ^ j) :
    Go.bits .and k a b = ((a &&& b : Nat) : Int) ∧ Go.bits .or k a b = ((a ||| b : Nat) : Int) ∧ Go.bits .xor k a b = ((a ^^^ b : Nat) : Int) := by
  have hp : 2 ^ j ≤ 2 ^ k.bits := Nat.pow_le_pow_right (by decide) hj
  have ha' : a % 2 ^ k.bits = a := Nat.mod_eq_of_lt (Nat.lt_of_lt_of_le ha hp)
  have hb' : b % 2 ^ k.bits = b := Nat.mod_eq_of_lt (Nat.lt_of_lt_of_le hb hp)
  have cast : ∀ n : Nat, n < 2 ^ j → ((n : Nat) : Int) < 2 ^ j := fun n h => by exact_mod_cast h
  refine ⟨?_, ?_, ?_⟩
  · simp only [Go.bits, BitVec.ofInt_natCast, BitVec.toNat_and, BitVec.toNat_ofNat, ha', hb']
    exact hk _ (Int.natCast_nonneg _) (cast _ (Nat.and_lt_two_pow _ hb))
  · simp only [Go.bits, BitVec.ofInt_natCast, BitVec.toNat_or, BitVec.toNat_ofNat, ha', hb']
    exact hk _ (Int.natCast_nonneg _) (cast _ (Nat.or_lt_two_pow ha hb))
  · simp only [Go.bits, BitVec.ofInt_natCast, BitVec.toNat_xor, BitVec.toNat_ofNat, ha', hb']
    exact hk _ (Int.natCast_nonneg _) (cast _ (Nat.xor_lt_two_pow ha hb))
theorem wr_i64 (n : Int) (h0 : 0 ≤ n) (h1 : n < 2 ^ 62) : IntKind.i64.wrap n = n := by rw [IntKind.wrap_i64]; omega
theorem wr_u64 (n : Int) (h0 : 0 ≤ n) (h1 : n < 2 ^ 64) : IntKind.u64.wrap n = n := by
  simp [IntKind.wrap, IntKind.bits, IntKind.signed]; omega
theorem or_i64 (a b : Nat) (ha : a < 2 ^ 62) (hb : b < 2 ^ 62) : Go.bits .or .i64 a b = ((a ||| b : Nat) : Int) := (bits_nat3 .i64 62 (by decide) wr_i64 a b ha hb).2.1
theorem xor_i64 (a b : Nat) (ha : a < 2 ^ 62) (hb : b < 2 ^ 62) : Go.bits .xor .i64 a b = ((a ^^^ b : Nat) : Int) := (bits_nat3 .i64 62 (by decide) wr_i64 a b ha hb).2.2
theorem and_i64 (a b : Nat) (ha : a < 2 ^ 62) (hb : b < 2 ^ 62) : Go.bits .and .i64 a b = ((a &&& b : Nat) : Int) := (bits_nat3 .i64 62 (by decide) wr_i64 a b ha hb).1
theorem xor_u8 (a b : Nat) (ha : a < 2 ^ 8) (hb : b < 2 ^ 8) : Go.bits .xor .u8 a b = ((a ^^^ b : Nat) : Int) := (bits_nat3 .u8 8 (by decide) wraps_u8 a b ha hb).2.2
/-- Byte i of s as a natural number. -/
def bn (s : ByteArray) (i : Nat) : Nat := (s.data.toList.getD i 0).toNat
theorem bn_lt (s : ByteArray) (i : Nat) : bn s i < 256 := (s.data.toList.getD i 0).toNat_lt
theorem bt_bn (s : ByteArray) (i : Nat) : bt s (i : Int) = (bn s i : Int) := by
  unfold bt bn
  split
  · rename_i h
    have h' : i < s.data.toList.length := by rw [data_length]; simpa using h
    rw [List.getD_eq_getElem?_getD, List.getElem?_eq_getElem h']; rfl
  · rename_i h
    have h' : s.data.toList.length ≤ i := by rw [data_length]; simpa using h
    rw [List.getD_eq_getElem?_getD, List.getElem?_eq_none h']; rfl
theorem bt_bn' (s : ByteArray) (i : Int) (h : 0 ≤ i) : bt s i = (bn s i.toNat : Int) := by
  obtain ⟨n, rfl⟩ := Int.eq_ofNat_of_zero_le h
  exact bt_bn s n
theorem toList_eq' (s : ByteArray) : s.toList = s.data.toList := ByteArray.toList_eq s
/-- Two strings of one length are one where their bytes are. -/
theorem bytes_ext {s t : ByteArray} (hl : s.size = t.size) (h : ∀ i, i < s.size → bn s i = bn t i) : s.data.toList = t.data.toList := by
  apply List.ext_getElem (by rw [data_length, data_length, hl])
  intro i h1 h2
  have := h i (by rw [← data_length]; exact h1)
  unfold bn at this
  rw [List.getD_eq_getElem?_getD, List.getD_eq_getElem?_getD, List.getElem?_eq_getElem h1, List.getElem?_eq_getElem h2] at this
  exact UInt8.toNat_inj.1 this
theorem strOf_data (xs : List Int) : (strOfNums xs).data.toList = xs.map fun n => UInt8.ofNat n.toNat := by simp [strOfNums]
theorem strOf_toList (xs : List Int) : (strOfNums xs).toList = xs.map fun n => UInt8.ofNat n.toNat := by rw [toList_eq', strOf_data]
theorem strOf_size (xs : List Int) : (strOfNums xs).size = xs.length := by rw [← data_length, strOf_data, List.length_map]
/-- A list of n numbers written cell by cell is the list of what was written. -/
theorem tab_set (f : Nat → Int) (n i : Nat) (rest : List Int) (h : i < n) (hr : rest.length = n - i) :
    (((List.range i).map f) ++ rest).set i (f i) = ((List.range (i + 1)).map f) ++ rest.tail := by
  cases rest with
  | nil => simp at hr; omega
  | cons a rest =>
    rw [List.set_append_right _ _ (by simp)]
    simp [List.range_succ]
theorem xor_zero_iff {a b : Nat} : a ^^^ b = 0 ↔ a = b := by
  constructor
  · intro h
    have := congrArg (· ^^^ b) h
    simpa [Nat.xor_assoc] using this
  · rintro rfl; exact Nat.xor_self a
theorem rounds_of {P : Nat → Prop} (n : Nat) (h : ∀ k, n ≤ k → P k) : ∃ k, P k := ⟨n, h n (Nat.le_refl n)⟩

def dbl (a : Nat) : Nat := if 128 ≤ a then (2 * a) ^^^ 283 else 2 * a
def mul8 : Nat → Nat → Nat → Nat → Nat
  | 0, _, _, acc => acc
  | n + 1, a, b, acc => mul8 n (dbl a) (b / 2) (if b % 2 = 1 then acc ^^^ a else acc)
/-- The product in the field of 256. -/
def gm (a b : Nat) : Nat := mul8 8 a b 0
def allB (n : Nat) (p : Nat → Bool) : Bool := (List.range n).all p
theorem of_all {n : Nat} {p : Nat → Bool} (h : allB n p = true) (a : Nat) (ha : a < n) : p a = true := by
  unfold allB at h
  rw [List.all_eq_true] at h
  exact h a (List.mem_range.2 ha)
theorem dbl_lt0 : allB 256 (fun a => decide (dbl a < 256)) = true := by decide +kernel
theorem dbl_lt {a : Nat} (h : a < 256) : dbl a < 256 := of_decide_eq_true (of_all dbl_lt0 a h)
theorem xlt {a b : Nat} (ha : a < 256) (hb : b < 256) : a ^^^ b < 256 := Nat.xor_lt_two_pow (n := 8) ha hb
theorem mul8_lt (n : Nat) : ∀ a b acc, a < 256 → acc < 256 → mul8 n a b acc < 256 := by
  induction n with
  | zero => intro a b acc _ h; exact h
  | succ n ih =>
    intro a b acc ha h
    simp only [mul8]
    apply ih _ _ _ (dbl_lt ha)
    split
    · exact xlt h ha
    · exact h
theorem gm_lt {a : Nat} (b : Nat) (ha : a < 256) : gm a b < 256 := mul8_lt 8 a b 0 ha (by decide)
theorem mul8_zero (n : Nat) : ∀ a acc, mul8 n a 0 acc = acc := by
  induction n with
  | zero => intro a acc; rfl
  | succ n ih => intro a acc; simp only [mul8, Nat.zero_div]; rw [if_neg (by decide)]; exact ih _ _

theorem dbl_lin0 : allB 256 (fun a => allB 256 fun b => dbl (a ^^^ b) == dbl a ^^^ dbl b) = true := by decide +kernel
theorem dbl_lin {a b : Nat} (ha : a < 256) (hb : b < 256) : dbl (a ^^^ b) = dbl a ^^^ dbl b := by
  have h := of_all (of_all dbl_lin0 a ha) b hb
  simpa using h
theorem xor_half (a b : Nat) : (a ^^^ b) / 2 = a / 2 ^^^ b / 2 := by
  have h := Nat.shiftRight_xor_distrib (a := a) (b := b) (i := 1)
  simpa [Nat.shiftRight_eq_div_pow] using h
theorem xor_odd (a b : Nat) : (a ^^^ b) % 2 = (a % 2 + b % 2) % 2 := by
  have h := Nat.xor_mod_two_pow (a := a) (b := b) (n := 1)
  simp only [Nat.pow_one] at h
  rw [h]
  rcases Nat.mod_two_eq_zero_or_one a with e | e <;> rcases Nat.mod_two_eq_zero_or_one b with e' | e' <;> rw [e, e'] <;> decide
theorem mul8_lin_r (n : Nat) : ∀ a b d x y, mul8 n a (b ^^^ d) (x ^^^ y) = mul8 n a b x ^^^ mul8 n a d y := by
  induction n with
  | zero => intro a b d x y; rfl
  | succ n ih =>
    intro a b d x y
    simp only [mul8]
    rw [xor_half, xor_odd]
    have key : (if (b % 2 + d % 2) % 2 = 1 then (x ^^^ y) ^^^ a else x ^^^ y) = (if b % 2 = 1 then x ^^^ a else x) ^^^ (if d % 2 = 1 then y ^^^ a else y) := by
      rcases Nat.mod_two_eq_zero_or_one b with e | e <;> rcases Nat.mod_two_eq_zero_or_one d with e' | e' <;> rw [e, e'] <;> simp
      · rw [Nat.xor_assoc]
      · rw [Nat.xor_assoc, Nat.xor_comm y a, ← Nat.xor_assoc]
      · rw [Nat.xor_assoc x a, Nat.xor_comm y a, ← Nat.xor_assoc a a, Nat.xor_self, Nat.zero_xor]
    rw [key]
    exact ih _ _ _ _ _
theorem gm_lin_r (a b d : Nat) : gm a (b ^^^ d) = gm a b ^^^ gm a d := mul8_lin_r 8 a b d 0 0
theorem mul8_lin_l (n : Nat) : ∀ a c b x y, a < 256 → c < 256 → mul8 n (a ^^^ c) b (x ^^^ y) = mul8 n a b x ^^^ mul8 n c b y := by
  induction n with
  | zero => intro a c b x y _ _; rfl
  | succ n ih =>
    intro a c b x y ha hc
    simp only [mul8]
    rw [dbl_lin ha hc]
    have key : (if b % 2 = 1 then (x ^^^ y) ^^^ (a ^^^ c) else x ^^^ y) = (if b % 2 = 1 then x ^^^ a else x) ^^^ (if b % 2 = 1 then y ^^^ c else y) := by
      split
      · rw [Nat.xor_assoc x y, ← Nat.xor_assoc y a c, Nat.xor_comm y a, Nat.xor_assoc a y c, ← Nat.xor_assoc x a]
      · rfl
    rw [key]
    exact ih _ _ _ _ _ (dbl_lt ha) (dbl_lt hc)
theorem gm_lin_l {a c : Nat} (b : Nat) (ha : a < 256) (hc : c < 256) : gm (a ^^^ c) b = gm a b ^^^ gm c b := mul8_lin_l 8 a c b 0 0 ha hc
theorem top0 : allB 8 (fun i => allB (2 ^ i) fun r => (2 ^ i ^^^ r) == 2 ^ i + r) = true := by decide +kernel
/-- Two linear functions that agree at the powers of 2 agree at each byte. -/
theorem lin_ext (f g : Nat → Nat) (hf : ∀ x y, x < 256 → y < 256 → f (x ^^^ y) = f x ^^^ f y) (hg : ∀ x y, x < 256 → y < 256 → g (x ^^^ y) = g x ^^^ g y) (hb : ∀ i, i < 8 → f (2 ^ i) = g (2 ^ i)) (a : Nat) (ha : a < 256) : f a = g a := by
  have f0 : f 0 = 0 := by have := hf 0 0 (by decide) (by decide); simpa using this
  have g0 : g 0 = 0 := by have := hg 0 0 (by decide) (by decide); simpa using this
  have key : ∀ n, n ≤ 8 → ∀ x, x < 2 ^ n → f x = g x := by
    intro n
    induction n with
    | zero => intro _ x hx; obtain rfl : x = 0 := by simpa using hx
              rw [f0, g0]
    | succ n ih =>
      intro hn x hx
      by_cases h : x < 2 ^ n
      · exact ih (by omega) x h
      · have hp : 2 ^ (n + 1) = 2 * 2 ^ n := by rw [Nat.pow_succ]; omega
        have h256 : 2 ^ (n + 1) ≤ 2 ^ 8 := Nat.pow_le_pow_right (by decide) hn
        have e := of_all (of_all top0 n (by omega)) (x - 2 ^ n) (by omega)
        simp only [beq_iff_eq] at e
        rw [show 2 ^ n + (x - 2 ^ n) = x by omega] at e
        rw [← e, hf _ _ (by omega) (by omega), hg _ _ (by omega) (by omega), hb n (by omega), ih (by omega) _ (by omega)]
  exact key 8 (by omega) a ha
theorem comm0 : allB 8 (fun i => allB 8 fun j => gm (2 ^ i) (2 ^ j) == gm (2 ^ j) (2 ^ i)) = true := by decide +kernel
theorem pow_lt256 {i : Nat} (h : i < 8) : 2 ^ i < 256 := Nat.pow_lt_pow_right (by decide) h
theorem gm_comm {a b : Nat} (ha : a < 256) (hb : b < 256) : gm a b = gm b a := by
  refine lin_ext (fun x => gm x b) (fun x => gm b x) (fun x y hx hy => gm_lin_l b hx hy) (fun x y _ _ => gm_lin_r b x y) (fun i hi => ?_) a ha
  refine lin_ext (fun y => gm (2 ^ i) y) (fun y => gm y (2 ^ i)) (fun x y _ _ => gm_lin_r _ x y) (fun x y hx hy => gm_lin_l _ hx hy) (fun j hj => ?_) b hb
  simpa using of_all (of_all comm0 i hi) j hj
theorem assoc0 : allB 8 (fun i => allB 8 fun j => allB 8 fun l => gm (gm (2 ^ i) (2 ^ j)) (2 ^ l) == gm (2 ^ i) (gm (2 ^ j) (2 ^ l))) = true := by decide +kernel
theorem gm_assoc {a b d : Nat} (ha : a < 256) (hb : b < 256) (hd : d < 256) : gm (gm a b) d = gm a (gm b d) := by
  refine lin_ext (fun x => gm (gm x b) d) (fun x => gm x (gm b d)) (fun x y hx hy => by rw [gm_lin_l b hx hy, gm_lin_l d (gm_lt b hx) (gm_lt b hy)]) (fun x y hx hy => gm_lin_l _ hx hy) (fun i hi => ?_) a ha
  have hi' := pow_lt256 hi
  refine lin_ext (fun y => gm (gm (2 ^ i) y) d) (fun y => gm (2 ^ i) (gm y d)) (fun x y hx hy => by rw [gm_lin_r, gm_lin_l d (gm_lt _ hi') (gm_lt _ hi')]) (fun x y hx hy => by rw [gm_lin_l d hx hy, gm_lin_r]) (fun j hj => ?_) b hb
  refine lin_ext (fun z => gm (gm (2 ^ i) (2 ^ j)) z) (fun z => gm (2 ^ i) (gm (2 ^ j) z)) (fun x y _ _ => gm_lin_r _ x y) (fun x y _ _ => by rw [gm_lin_r, gm_lin_r]) (fun l hl => ?_) d hd
  simpa using of_all (of_all (of_all assoc0 i hi) j hj) l hl
theorem gm_one0 : allB 256 (fun a => gm 1 a == a) = true := by decide +kernel
theorem gm_one {a : Nat} (h : a < 256) : gm 1 a = a := by simpa using of_all gm_one0 a h

theorem impl_byte (a : Nat) (h : a < 256) : impl_isByte.f (a : Int) = some true := by
  simp only [impl_isByte.f, impl_within.f]
  rw [if_pos (by omega), decide_eq_true (by omega)]; rfl
theorem impl_dbl (a : Nat) (h : a < 256) : impl_FieldDouble.f (a : Int) = some ((dbl a : Nat) : Int) := by
  have e2 : wrap64 (2 * (a : Int)) = ((2 * a : Nat) : Int) := by rw [w64 (by omega) (by omega)]; omega
  simp only [impl_FieldDouble.f, impl_byte a h, Option.bind_some, if_true, e2]
  unfold dbl
  by_cases c : 128 ≤ a
  · rw [if_pos (show (a : Int) ≥ 128 by omega), if_pos c]
    exact congrArg some (xor_i64 (2 * a) 283 (by omega) (by decide))
  · rw [if_neg (show ¬ (a : Int) ≥ 128 by omega), if_neg c]
theorem and_one (b : Nat) (h : b < 2 ^ 62) : Go.bits .and .i64 (b : Int) 1 = ((b % 2 : Nat) : Int) := by
  have e := and_i64 b 1 h (by decide)
  rw [show (1 : Int) = ((1 : Nat) : Int) from rfl, e, Nat.and_one_is_mod]
theorem impl_mul_loop (d : Nat) : ∀ (k a b acc : Nat), a < 256 → acc < 256 → b < 2 ^ d → d ≤ 8 → d < k → impl_FieldMul.l0 k (a : Int) (b : Int) (acc : Int) = some ((mul8 d a b acc : Nat) : Int) := by
  induction d with
  | zero =>
    intro k a b acc ha hc hb _ hk
    obtain ⟨k, rfl⟩ : ∃ q, k = q + 1 := ⟨k - 1, by omega⟩
    have : b = 0 := by simpa using hb
    subst this
    simp only [impl_FieldMul.l0, mul8]; rw [if_neg (by omega)]
  | succ d ih =>
    intro k a b acc ha hc hb h8 hk
    obtain ⟨k, rfl⟩ : ∃ q, k = q + 1 := ⟨k - 1, by omega⟩
    have hp : 2 ^ (d + 1) = 2 * 2 ^ d := by rw [Nat.pow_succ]; omega
    have hp8 : 2 ^ (d + 1) ≤ 2 ^ 8 := Nat.pow_le_pow_right (by decide) h8
    by_cases b0 : b = 0
    · subst b0
      simp only [impl_FieldMul.l0, mul8_zero]; rw [if_neg (by omega)]
    · simp only [impl_FieldMul.l0, mul8]
      rw [if_pos (by omega), and_one b (by omega), impl_dbl a ha, show ((b : Int) / 2) = ((b / 2 : Nat) : Int) by omega, xor_i64 acc a (by omega) (by omega)]
      simp only [Option.bind_some]
      by_cases o : b % 2 = 1
      · rw [if_pos (by omega), if_pos o]
        exact ih k _ _ _ (dbl_lt ha) (xlt hc ha) (by omega) (by omega) (by omega)
      · rw [if_neg (by omega), if_neg o]
        exact ih k _ _ _ (dbl_lt ha) hc (by omega) (by omega) (by omega)
theorem impl_mul (k : Nat) (hk : 10 ≤ k) (a b : Nat) (ha : a < 256) (hb : b < 256) : impl_FieldMul.f k (a : Int) (b : Int) = some ((gm a b : Nat) : Int) := by
  obtain ⟨k, rfl⟩ : ∃ q, k = q + 1 := ⟨k - 1, by omega⟩
  simp only [impl_FieldMul.f, impl_byte a ha, impl_byte b hb, Option.bind_some, if_true, Bool.not_true, impl_FieldMul.j0, Bool.false_eq_true, if_false]
  have e := impl_mul_loop 8 k a b 0 ha (by decide) hb (by decide) (by omega)
  rw [Int.natCast_zero] at e
  exact e

/-- Square and multiply. -/
def powL : Nat → Nat → Nat → Nat → Nat
  | 0, _, _, acc => acc
  | k + 1, x, n, acc => powL k (gm x x) (n / 2) (if n % 2 = 1 then gm acc x else acc)
def pw (a n : Nat) : Nat := powL 10 a n 1
theorem powL_lt (k : Nat) : ∀ x n acc, acc < 256 → powL k x n acc < 256 := by
  induction k with
  | zero => intro x n acc h; exact h
  | succ k ih =>
    intro x n acc h
    simp only [powL]
    apply ih
    split
    · exact gm_lt _ h
    · exact h
theorem pw_lt (a n : Nat) : pw a n < 256 := powL_lt 10 a n 1 (by decide)
theorem powL_zero (k : Nat) : ∀ x acc, powL k x 0 acc = acc := by
  induction k with
  | zero => intro x acc; rfl
  | succ k ih => intro x acc; simp only [powL, Nat.zero_div]; rw [if_neg (by decide)]; exact ih _ _

theorem impl_pow_loop (d : Nat) : ∀ (k x n acc : Nat), x < 256 → acc < 256 → n < 2 ^ d → d ≤ 10 → d + 11 < k → impl_FieldPow.l0 k (x : Int) (n : Int) (acc : Int) = some ((powL d x n acc : Nat) : Int) := by
  induction d with
  | zero =>
    intro k x n acc hx hc hn _ hk
    obtain ⟨k, rfl⟩ : ∃ q, k = q + 1 := ⟨k - 1, by omega⟩
    have : n = 0 := by simpa using hn
    subst this
    simp only [impl_FieldPow.l0, powL]; rw [if_neg (by omega)]
  | succ d ih =>
    intro k x n acc hx hc hn h10 hk
    obtain ⟨k, rfl⟩ : ∃ q, k = q + 1 := ⟨k - 1, by omega⟩
    have hp : 2 ^ (d + 1) = 2 * 2 ^ d := by rw [Nat.pow_succ]; omega
    have hp8 : 2 ^ (d + 1) ≤ 2 ^ 10 := Nat.pow_le_pow_right (by decide) h10
    by_cases n0 : n = 0
    · subst n0
      simp only [impl_FieldPow.l0, powL_zero]; rw [if_neg (by omega)]
    · simp only [impl_FieldPow.l0, powL]
      rw [if_pos (by omega), and_one n (by omega), impl_mul k (by omega) acc x hc hx, impl_mul k (by omega) x x hx hx, show ((n : Int) / 2) = ((n / 2 : Nat) : Int) by omega]
      simp only [Option.bind_some]
      by_cases o : n % 2 = 1
      · rw [if_pos (by omega), if_pos o]
        exact ih k _ _ _ (gm_lt _ hx) (gm_lt _ hc) (by omega) (by omega) (by omega)
      · rw [if_neg (by omega), if_neg o]
        exact ih k _ _ _ (gm_lt _ hx) hc (by omega) (by omega) (by omega)
theorem impl_pow (k : Nat) (hk : 30 ≤ k) (a n : Nat) (ha : a < 256) (hn : n ≤ 1000) : impl_FieldPow.f k (a : Int) (n : Int) = some ((pw a n : Nat) : Int) := by
  obtain ⟨k, rfl⟩ : ∃ q, k = q + 1 := ⟨k - 1, by omega⟩
  have hw : impl_within.f (n : Int) 0 1000 = some true := by
    unfold impl_within.f; rw [if_pos (by omega), decide_eq_true (by omega)]
  have e := impl_pow_loop 10 k a n 1 ha (by decide) (by omega) (by omega) (by omega)
  simp only [impl_FieldPow.f, impl_byte a ha, hw, Option.bind_some, if_true, Bool.not_true, impl_FieldPow.j0, Bool.false_eq_true, if_false]
  exact e

theorem impl_inv (k : Nat) (hk : 30 ≤ k) (a : Nat) (ha : a < 256) : impl_FieldInverse.f k (a : Int) = some ((pw a 254 : Nat) : Int) := by
  have e := impl_pow k hk a 254 ha (by omega)
  unfold impl_FieldInverse.f
  rw [show (254 : Int) = ((254 : Nat) : Int) from rfl, e]; rfl

theorem and255 (x : Int) : 0 ≤ Go.bits .and .i64 x 255 ∧ Go.bits .and .i64 x 255 ≤ 255 := by
  have h : (BitVec.ofInt 64 x &&& BitVec.ofInt 64 255).toNat ≤ 255 := by
    rw [BitVec.toNat_and]
    exact Nat.le_trans Nat.and_le_right (by decide)
  have e : Go.bits .and .i64 x 255 = (((BitVec.ofInt 64 x &&& BitVec.ofInt 64 255).toNat : Nat) : Int) := by
    show IntKind.i64.wrap (((BitVec.ofInt 64 x &&& BitVec.ofInt 64 255).toNat : Nat) : Int) = _
    exact wr_i64 _ (Int.natCast_nonneg _) (by omega)
  omega
/-- A reader's state: its place lies in the draw. -/
def Cur (s : List Int) (i : Int) : Prop := 0 ≤ i ∧ i ≤ s.length ∧ s.length ≤ 9223372036854775806
theorem new_loop (s : List Int) (hs : s.length ≤ 9223372036854775806) (d : Nat) : ∀ (k i : Nat) (h : Int), i + d = s.length → d < k → ∃ h', spec_l01New.l0 k s h (i : Int) = some (s, 0, h') := by
  induction d with
  | zero =>
    intro k i h hi hk
    obtain ⟨k, rfl⟩ : ∃ q, k = q + 1 := ⟨k - 1, by omega⟩
    exact ⟨h, by simp only [spec_l01New.l0]; rw [if_neg (by omega)]⟩
  | succ d ih =>
    intro k i h hi hk
    obtain ⟨k, rfl⟩ : ∃ q, k = q + 1 := ⟨k - 1, by omega⟩
    by_cases h4 : (i : Int) < 4000
    · obtain ⟨h', e⟩ := ih k (i + 1) (Go.bits .and .i64 (wrap64 ((wrap64 ((wrap64 (h * 131)) + (wrap64 (rd s i)))) + 7)) 1073741823) (by omega) (by omega)
      refine ⟨h', ?_⟩
      simp only [spec_l01New.l0]
      rw [if_pos (by omega), if_pos h4, if_pos (by omega), w64 (n := (i : Int) + 1) (by omega) (by omega), show (i : Int) + 1 = ((i + 1 : Nat) : Int) by omega]
      exact e
    · exact ⟨h, by simp only [spec_l01New.l0]; rw [if_pos (by omega), if_neg h4]⟩
theorem new_some (s : List Int) (hs : s.length ≤ 9223372036854775806) (k : Nat) (hk : s.length < k) : ∃ h', spec_l01New.f k s = some (s, 0, h') := by
  obtain ⟨h', e⟩ := new_loop s hs s.length k 0 (wrap64 (94701 + (s.length : Int))) (by omega) hk
  exact ⟨h', by unfold spec_l01New.f; exact e⟩
theorem cur_new {s : List Int} (hs : s.length ≤ 9223372036854775806) : Cur s 0 := ⟨by omega, by omega, hs⟩
theorem byte_some {s : List Int} {i : Int} (h : Int) (hc : Cur s i) : ∃ r, spec_l01Byte.f s i h = some r ∧ 0 ≤ r.1 ∧ r.1 ≤ 255 ∧ Cur s r.2.1 := by
  obtain ⟨h0, h1, h2⟩ := hc
  unfold spec_l01Byte.f
  by_cases hl : i < (s.length : Int)
  · rw [if_pos hl, if_pos h0]
    refine ⟨_, rfl, (and255 _).1, (and255 _).2, ?_⟩
    show Cur s (wrap64 (i + 1))
    rw [w64 (by omega) (by omega)]
    exact ⟨by omega, by omega, h2⟩
  · rw [if_neg hl]
    exact ⟨_, rfl, (and255 _).1, (and255 _).2, h0, h1, h2⟩
theorem below_some {s : List Int} {i : Int} (h n : Int) (hn : 1 ≤ n) (hc : Cur s i) : ∃ r, spec_l01Below.f s i h n = some r ∧ 0 ≤ r.1 ∧ r.1 < n ∧ Cur s r.2.1 := by
  unfold spec_l01Below.f
  rw [if_neg (by omega)]
  by_cases h256 : n ≤ 256
  · rw [if_pos h256]
    obtain ⟨r, e, r0, r1, c⟩ := byte_some h hc
    rw [e]; simp only [Option.bind_some]; rw [if_neg (by omega)]
    have hm : Int.tmod r.1 n = r.1 % n := Int.tmod_eq_emod_of_nonneg r0
    refine ⟨_, rfl, ?_, ?_, c⟩
    · show 0 ≤ Int.tmod r.1 n
      rw [hm]; exact Int.emod_nonneg _ (by omega)
    · show Int.tmod r.1 n < n
      rw [hm]; exact Int.emod_lt_of_pos _ (by omega)
  · rw [if_neg h256]
    obtain ⟨a, ea, a0, a1, ca⟩ := byte_some h hc
    obtain ⟨b, eb, b0, b1, cb⟩ := byte_some a.2.2 ca
    obtain ⟨c, ec, c0, c1, cc⟩ := byte_some b.2.2 cb
    obtain ⟨d, ed, d0, d1, cd⟩ := byte_some c.2.2 cc
    rw [ea]; simp only [Option.bind_some]; rw [eb]; simp only [Option.bind_some]; rw [ec]; simp only [Option.bind_some]; rw [ed]; simp only [Option.bind_some]; rw [if_neg (by omega)]
    have e : wrap64 ((wrap64 ((wrap64 ((wrap64 (a.1 * 16777216)) + (wrap64 (b.1 * 65536)))) + (wrap64 (c.1 * 256)))) + d.1) = a.1 * 16777216 + b.1 * 65536 + c.1 * 256 + d.1 := by
      rw [w64 (n := a.1 * 16777216) (by omega) (by omega), w64 (n := b.1 * 65536) (by omega) (by omega), w64 (n := c.1 * 256) (by omega) (by omega), w64 (n := a.1 * 16777216 + b.1 * 65536) (by omega) (by omega), w64 (n := a.1 * 16777216 + b.1 * 65536 + c.1 * 256) (by omega) (by omega), w64 (by omega) (by omega)]
    rw [e]
    have hm : Int.tmod (a.1 * 16777216 + b.1 * 65536 + c.1 * 256 + d.1) n = (a.1 * 16777216 + b.1 * 65536 + c.1 * 256 + d.1) % n := Int.tmod_eq_emod_of_nonneg (by omega)
    refine ⟨_, rfl, ?_, ?_, cd⟩
    · show 0 ≤ Int.tmod _ n
      rw [hm]; exact Int.emod_nonneg _ (by omega)
    · show Int.tmod _ n < n
      rw [hm]; exact Int.emod_lt_of_pos _ (by omega)

theorem places_loop (s : List Int) (d : Nat) : ∀ (k : Nat) (l : List Int) (i : Nat) (c h : Int), i + d = 12 → l.length = i → (∀ x ∈ l, 0 ≤ x ∧ x < 10000) → Cur s c → d < k → ∃ p, spec_DrawPlaces.l0 k l (i : Int) s c h = some p ∧ p.length = 12 ∧ ∀ x ∈ p, 0 ≤ x ∧ x < 10000 := by
  induction d with
  | zero =>
    intro k l i c h hi hl hx hc hk
    obtain ⟨k, rfl⟩ : ∃ q, k = q + 1 := ⟨k - 1, by omega⟩
    exact ⟨l, by simp only [spec_DrawPlaces.l0]; rw [if_neg (by omega)], by omega, hx⟩
  | succ d ih =>
    intro k l i c h hi hl hx hc hk
    obtain ⟨k, rfl⟩ : ∃ q, k = q + 1 := ⟨k - 1, by omega⟩
    obtain ⟨r, e, r0, r1, hr⟩ := below_some (s := s) (i := c) h 10000 (by omega) hc
    obtain ⟨p, ep, pl, px⟩ := ih k (l ++ [r.1]) (i + 1) r.2.1 r.2.2 (by omega) (by simp [hl]) (by
      intro x hm
      rcases List.mem_append.1 hm with hm | hm
      · exact hx x hm
      · rw [List.mem_singleton.1 hm]; exact ⟨r0, r1⟩) hr (by omega)
    refine ⟨p, ?_, pl, px⟩
    simp only [spec_DrawPlaces.l0]
    rw [if_pos (by omega), e]; simp only [Option.bind_some]; rw [if_pos (by omega), w64 (by omega) (by omega), show (i : Int) + 1 = ((i + 1 : Nat) : Int) by omega]
    exact ep
theorem places_some (s : List Int) (hs : s.length ≤ 9223372036854775806) (k : Nat) (hk : s.length + 13 < k) : ∃ p, spec_DrawPlaces.f k s = some p ∧ p.length = 12 ∧ ∀ x ∈ p, 0 ≤ x ∧ x < 10000 := by
  obtain ⟨h', e⟩ := new_some s hs k (by omega)
  obtain ⟨p, ep, pl, px⟩ := places_loop s 12 k [] 0 0 h' (by omega) rfl (by simp) (cur_new hs) (by omega)
  refine ⟨p, ?_, pl, px⟩
  unfold spec_DrawPlaces.f
  rw [e]; simp only [Option.bind_some]; exact ep
theorem rd_mem {p : List Int} {P : Int → Prop} (h : ∀ x ∈ p, P x) (i : Nat) (hi : i < p.length) : P (rd p (i : Int)) := by
  unfold rd
  rw [List.getD_eq_getElem?_getD, show ((i : Int)).toNat = i from rfl, List.getElem?_eq_getElem hi]
  exact h _ (List.getElem_mem hi)
theorem mod256 {x : Int} (h : 0 ≤ x) : ∃ n : Nat, n < 256 ∧ Int.tmod x 256 = n := by
  rw [Int.tmod_eq_emod_of_nonneg h]
  exact ⟨(x % 256).toNat, by omega, by omega⟩

theorem inv0 : allB 256 (fun a => a == 0 || gm a (pw a 254) == 1) = true := by decide +kernel
theorem dbl2 : allB 256 (fun a => dbl a == gm a 2) = true := by decide +kernel
theorem cube0 : allB 256 (fun a => pw a 3 == gm a (gm a a)) = true := by decide +kernel
theorem pw00 : pw 0 254 = 0 := by decide +kernel
theorem gm87 : gm 87 131 = 193 := by decide +kernel
theorem field_tail (k : Nat) (hk : 31 ≤ k) (a b d : Nat) (ha : a < 256) (hb : b < 256) (hd : d < 256) : laws_FnField.j0 k (a : Int) (b : Int) (d : Int) false = some true := by
  obtain ⟨k, rfl⟩ : ∃ q, k = q + 1 := ⟨k - 1, by omega⟩
  have x1 : Go.bits .xor .i64 (b : Int) (d : Int) = ((b ^^^ d : Nat) : Int) := xor_i64 b d (by omega) (by omega)
  have g1 := gm_lt b ha
  have g2 := gm_lt d ha
  have x2 : Go.bits .xor .i64 ((gm a b : Nat) : Int) ((gm a d : Nat) : Int) = ((gm a b ^^^ gm a d : Nat) : Int) := xor_i64 _ _ (by omega) (by omega)
  have c2 : (2 : Int) = ((2 : Nat) : Int) := rfl
  have c3 : (3 : Int) = ((3 : Nat) : Int) := rfl
  have e3 := of_all dbl2 a ha
  have e4 := of_all cube0 a ha
  simp only [beq_iff_eq] at e3 e4
  have m2 := impl_mul k (by omega) a 2 ha (by decide)
  have p3 := impl_pow k (by omega) a 3 ha (by decide)
  have m87 := impl_mul k (by omega) 87 131 (by decide) (by decide)
  rw [gm87] at m87
  simp only [laws_FnField.j0, Bool.false_eq_true, if_false, x1]
  rw [impl_mul k (by omega) a b ha hb, impl_mul k (by omega) b a hb ha]
  simp only [Option.bind_some]
  rw [if_pos (by rw [gm_comm ha hb]), impl_mul k (by omega) a (b ^^^ d) ha (xlt hb hd)]
  simp only [Option.bind_some]
  rw [impl_mul k (by omega) a d ha hd]
  simp only [Option.bind_some]
  rw [x2, if_pos (by rw [gm_lin_r]), impl_mul k (by omega) (gm a b) d g1 hd]
  simp only [Option.bind_some]
  rw [impl_mul k (by omega) b d hb hd]
  simp only [Option.bind_some]
  rw [impl_mul k (by omega) a (gm b d) ha (gm_lt _ hb)]
  simp only [Option.bind_some]
  rw [if_pos (by rw [gm_assoc ha hb hd]), impl_dbl a ha]
  simp only [Option.bind_some]
  rw [show impl_FieldMul.f k (a : Int) 2 = _ from m2]
  simp only [Option.bind_some]
  rw [if_pos (by rw [e3]), show impl_FieldPow.f k (a : Int) 3 = _ from p3]
  simp only [Option.bind_some]
  rw [impl_mul k (by omega) a a ha ha]
  simp only [Option.bind_some]
  rw [impl_mul k (by omega) a (gm a a) ha (gm_lt _ ha)]
  simp only [Option.bind_some]
  rw [if_pos (by rw [e4]), show impl_FieldMul.f k 87 131 = _ from m87]
  rfl
theorem FnField : laws_FnField.Pure := by
  intro l h1 h2 _
  refine rounds_of (l.length + 100) fun k hk => ?_
  unfold laws_FnField.f laws_big.f
  simp only [Option.bind_some]
  by_cases hb : (l.length : Int) > 1048576
  · rw [if_pos (decide_eq_true hb)]
  · rw [if_neg (by simpa using hb)]
    obtain ⟨p, e, pl, px⟩ := places_some l (by omega) k (by omega)
    rw [e]; simp only [Option.bind_some]
    rw [if_pos (by omega), if_pos (by omega), if_pos (by omega)]
    have q0 := rd_mem (P := fun x => 0 ≤ x ∧ x < 10000) px 0 (by omega)
    have q1 := rd_mem (P := fun x => 0 ≤ x ∧ x < 10000) px 1 (by omega)
    have q2 := rd_mem (P := fun x => 0 ≤ x ∧ x < 10000) px 2 (by omega)
    obtain ⟨a, ha, ea⟩ := mod256 q0.1
    obtain ⟨b, hb, eb⟩ := mod256 q1.1
    obtain ⟨d, hd, ed⟩ := mod256 q2.1
    rw [show rd p 0 = rd p ((0 : Nat) : Int) from rfl, show rd p 1 = rd p ((1 : Nat) : Int) from rfl, show rd p 2 = rd p ((2 : Nat) : Int) from rfl, ea, eb, ed, impl_inv k (by omega) a ha]
    simp only [Option.bind_some]
    have t := field_tail k (by omega) a b d ha hb hd
    by_cases a0 : a = 0
    · subst a0
      rw [if_neg (by omega), if_pos (by omega), pw00]
      exact t
    · have ei := of_all inv0 a ha
      have ei' : gm a (pw a 254) = 1 := by simpa [a0] using ei
      rw [if_pos (by omega), impl_mul k (by omega) a _ ha (pw_lt _ _), ei']
      simp only [Option.bind_some]
      rw [if_pos (by omega), if_neg (by omega)]
      exact t
end Go.Proofs.Ytngdfchpknglhaa.Pure
