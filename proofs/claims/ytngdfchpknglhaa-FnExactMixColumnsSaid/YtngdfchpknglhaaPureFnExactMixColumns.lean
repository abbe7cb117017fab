/- The law FnExactMixColumns answers true: spec.MixColumns and impl.MixColumns agree at every string; no condition. -/
import Derived.Test.YtngdfchpknglhaaMFnExactMixColumnsx2
namespace Go.Proofs.Ytngdfchpknglhaa.Pure
open Go.RowKit Go.Proofs.Ytngdfchpknglhaa.PFnExactMixColumns Go.Proofs.YtngdfchpknglhaaW.PrintWords Go.Proofs.YtngdfchpknglhaaW.PrintLast Go.Proofs.YtngdfchpknglhaaW.PrintMore
set_option linter.unusedVariables false
set_option linter.unusedSimpArgs false

theorem w64 {n : Int} (h0 : -9223372036854775808 ≤ n) (h1 : n ≤ 9223372036854775807) : wrap64 n = n := by
  unfold wrap64; omega
theorem bits_nat3 (k : IntKind) (j : Nat) (hj : j ≤ k.bits) (hk : ∀ n : Int, 0 ≤ n → n < 2 ^ j → k.wrap n = n) (a b : Nat) (ha : a < 2 ^ j) (hb : b < 2 ^ j) :
    Go.bits .and k a b = ((a &&& b : Nat) : Int) ∧ Go.bits .or k a b = ((a ||| b : Nat) : Int) ∧ Go.bits .xor k a b = ((a ^^^ b : Nat) : Int) := by
  have hp : 2 ^ j ≤ 2 ^ k.bits := Nat.pow_le_pow_right (by decide) hj
  have ha' : a % 2 ^ k.bits = a := Nat.mod_eq_of_lt (Nat.lt_of_lt_of_le ha hp)
  have hb' : b % 2 ^ k.bits = b := Nat.mod_eq_of_lt (Nat.lt_of_lt_of_le hb hp)
  have cast : ∀ n : Nat, n < 2 ^ j → ((n : Nat) : Int) < 2 ^ j := fun n h => by exact_mod_cast h
  refine ⟨?_, ?_, ?_⟩
  · simp only [Go.bits, BitVec.ofInt_natCast, BitVec.toNat_and, BitVec.toNat_ofNat, ha', hb']
    exact hk _ (Int.natCast_nonneg _) (cast _ (Nat.and_lt_two_pow _ hb))
  · simp only [Go.bits, BitVec.ofInt_natCast, BitVec.toNat_or, BitVec.toNat_ofNat, ha', hb']
    exact hk _ (Int.natCast_nonneg _) (cast _ (Nat.or_lt_two_pow ha hb))
  · simp only [Go.bits, BitVec.ofInt_natCast, BitVec.toNat_xor, BitVec.toNat_ofNat, ha', hb']
    exact hk _ (Int.natCast_nonneg _) (cast _ (Nat.xor_lt_two_pow ha hb))
theorem wr_i64 (n : Int) (h0 : 0 ≤ n) (h1 : n < 2 ^ 62) : IntKind.i64.wrap n = n := by rw [IntKind.wrap_i64]; omega
theorem wr_u64 (n : Int) (h0 : 0 ≤ n) (h1 : n < 2 ^ 64) : IntKind.u64.wrap n = n := by
  simp [IntKind.wrap, IntKind.bits, IntKind.signed]; omega
theorem or_i64 (a b : Nat) (ha : a < 2 ^ 62) (hb : b < 2 ^ 62) : Go.bits .or .i64 a b = ((a ||| b : Nat) : Int) := (bits_nat3 .i64 62 (by decide) wr_i64 a b ha hb).2.1
theorem xor_i64 (a b : Nat) (ha : a < 2 ^ 62) (hb : b < 2 ^ 62) : Go.bits .xor .i64 a b = ((a ^^^ b : Nat) : Int) := (bits_nat3 .i64 62 (by decide) wr_i64 a b ha hb).2.2
theorem and_i64 (a b : Nat) (ha : a < 2 ^ 62) (hb : b < 2 ^ 62) : Go.bits .and .i64 a b = ((a &&& b : Nat) : Int) := (bits_nat3 .i64 62 (by decide) wr_i64 a b ha hb).1
theorem xor_u8 (a b : Nat) (ha : a < 2 ^ 8) (hb : b < 2 ^ 8) : Go.bits .xor .u8 a b = ((a ^^^ b : Nat) : Int) := (bits_nat3 .u8 8 (by decide) wraps_u8 a b ha hb).2.2
/-- Byte i of s as a natural number. -/
def bn (s : ByteArray) (i : Nat) : Nat := (s.data.toList.getD i 0).toNat
theorem bn_lt (s : ByteArray) (i : Nat) : bn s i < 256 := (s.data.toList.getD i 0).toNat_lt
theorem bt_bn (s : ByteArray) (i : Nat) : bt s (i : Int) = (bn s i : Int) := by
  unfold bt bn
  split
  · rename_i h
    have h' : i < s.data.toList.length := by rw [data_length]; simpa using h
    rw [List.getD_eq_getElem?_getD, List.getElem?_eq_getElem h']; rfl
  · rename_i h
    have h' : s.data.toList.length ≤ i := by rw [data_length]; simpa using h
    rw [List.getD_eq_getElem?_getD, List.getElem?_eq_none h']; rfl
theorem bt_bn' (s : ByteArray) (i : Int) (h : 0 ≤ i) : bt s i = (bn s i.toNat : Int) := by
  obtain ⟨n, rfl⟩ := Int.eq_ofNat_of_zero_le h
  exact bt_bn s n
theorem toList_eq' (s : ByteArray) : s.toList = s.data.toList := ByteArray.toList_eq s
/-- Two strings of one length are one where their bytes are. -/
theorem bytes_ext {s t : ByteArray} (hl : s.size = t.size) (h : ∀ i, i < s.size → bn s i = bn t i) : s.data.toList = t.data.toList := by
  apply List.ext_getElem (by rw [data_length, data_length, hl])
  intro i h1 h2
  have := h i (by rw [← data_length]; exact h1)
  unfold bn at this
  rw [List.getD_eq_getElem?_getD, List.getD_eq_getElem?_getD, List.getElem?_eq_getElem h1, List.getElem?_eq_getElem h2] at this
  exact UInt8.toNat_inj.1 this
theorem strOf_data (xs : List Int) : (strOfNums xs).data.toList = xs.map fun n => UInt8.ofNat n.toNat := by simp [strOfNums]
theorem strOf_toList (xs : List Int) : (strOfNums xs).toList = xs.map fun n => UInt8.ofNat n.toNat := by rw [toList_eq', strOf_data]
theorem strOf_size (xs : List Int) : (strOfNums xs).size = xs.length := by rw [← data_length, strOf_data, List.length_map]
/-- A list of n numbers written cell by cell is the list of what was written. -/
theorem tab_set (f : Nat → Int) (n i : Nat) (rest : List Int) (h : i < n) (hr : rest.length = n - i) :
    (((List.range i).map f) ++ rest).set i (f i) = ((List.range (i + 1)).map f) ++ rest.tail := by
  cases rest with
  | nil => simp at hr; omega
  | cons a rest =>
    rw [List.set_append_right _ _ (by simp)]
    simp [List.range_succ]
theorem xor_zero_iff {a b : Nat} : a ^^^ b = 0 ↔ a = b := by
  constructor
  · intro h
    have := congrArg (· ^^^ b) h
    simpa [Nat.xor_assoc] using this
  · rintro rfl; exact Nat.xor_self a
theorem rounds_of {P : Nat → Prop} (n : Nat) (h : ∀ k, n ≤ k → P k) : ∃ k, P k := ⟨n, h n (Nat.le_refl n)⟩
/-- As Option.bind_some, but not by reduction: the kernel is not led into what follows. -/
theorem ob {α β : Type} (a : α) (f : α → Option β) : (some a).bind f = f a := by
  cases h : f a with
  | none => rw [Option.bind_some, h]
  | some b => rw [Option.bind_some, h]

def dbl (a : Nat) : Nat := if 128 ≤ a then (2 * a) ^^^ 283 else 2 * a
def mul8 : Nat → Nat → Nat → Nat → Nat
  | 0, _, _, acc => acc
  | n + 1, a, b, acc => mul8 n (dbl a) (b / 2) (if b % 2 = 1 then acc ^^^ a else acc)
/-- The product in the field of 256. -/
def gm (a b : Nat) : Nat := mul8 8 a b 0
def allB (n : Nat) (p : Nat → Bool) : Bool := (List.range n).all p
theorem of_all {n : Nat} {p : Nat → Bool} (h : allB n p = true) (a : Nat) (ha : a < n) : p a = true := by
  unfold allB at h
  rw [List.all_eq_true] at h
  exact h a (List.mem_range.2 ha)
theorem dbl_lt0 : allB 256 (fun a => decide (dbl a < 256)) = true := by decide +kernel
theorem dbl_lt {a : Nat} (h : a < 256) : dbl a < 256 := of_decide_eq_true (of_all dbl_lt0 a h)
theorem xlt {a b : Nat} (ha : a < 256) (hb : b < 256) : a ^^^ b < 256 := Nat.xor_lt_two_pow (n := 8) ha hb
theorem mul8_lt (n : Nat) : ∀ a b acc, a < 256 → acc < 256 → mul8 n a b acc < 256 := by
  induction n with
  | zero => intro a b acc _ h; exact h
  | succ n ih =>
    intro a b acc ha h
    simp only [mul8]
    apply ih _ _ _ (dbl_lt ha)
    split
    · exact xlt h ha
    · exact h
theorem gm_lt {a : Nat} (b : Nat) (ha : a < 256) : gm a b < 256 := mul8_lt 8 a b 0 ha (by decide)
theorem mul8_zero (n : Nat) : ∀ a acc, mul8 n a 0 acc = acc := by
  induction n with
  | zero => intro a acc; rfl
  | succ n ih => intro a acc; simp only [mul8, Nat.zero_div]; rw [if_neg (by decide)]; exact ih _ _

theorem impl_byte (a : Nat) (h : a < 256) : impl_isByte.f (a : Int) = some true := by
  simp only [impl_isByte.f, impl_within.f]
  rw [if_pos (by omega), decide_eq_true (by omega)]; rfl
theorem impl_dbl (a : Nat) (h : a < 256) : impl_FieldDouble.f (a : Int) = some ((dbl a : Nat) : Int) := by
  have e2 : wrap64 (2 * (a : Int)) = ((2 * a : Nat) : Int) := by rw [w64 (by omega) (by omega)]; omega
  simp only [impl_FieldDouble.f, impl_byte a h, Option.bind_some, if_true, e2]
  unfold dbl
  by_cases c : 128 ≤ a
  · rw [if_pos (show (a : Int) ≥ 128 by omega), if_pos c]
    exact congrArg some (xor_i64 (2 * a) 283 (by omega) (by decide))
  · rw [if_neg (show ¬ (a : Int) ≥ 128 by omega), if_neg c]
theorem and_one (b : Nat) (h : b < 2 ^ 62) : Go.bits .and .i64 (b : Int) 1 = ((b % 2 : Nat) : Int) := by
  have e := and_i64 b 1 h (by decide)
  rw [show (1 : Int) = ((1 : Nat) : Int) from rfl, e, Nat.and_one_is_mod]
theorem impl_mul_loop (d : Nat) : ∀ (k a b acc : Nat), a < 256 → acc < 256 → b < 2 ^ d → d ≤ 8 → d < k → impl_FieldMul.l0 k (a : Int) (b : Int) (acc : Int) = some ((mul8 d a b acc : Nat) : Int) := by
  induction d with
  | zero =>
    intro k a b acc ha hc hb _ hk
    obtain ⟨k, rfl⟩ : ∃ q, k = q + 1 := ⟨k - 1, by omega⟩
    have : b = 0 := by simpa using hb
    subst this
    simp only [impl_FieldMul.l0, mul8]; rw [if_neg (by omega)]
  | succ d ih =>
    intro k a b acc ha hc hb h8 hk
    obtain ⟨k, rfl⟩ : ∃ q, k = q + 1 := ⟨k - 1, by omega⟩
    have hp : 2 ^ (d + 1) = 2 * 2 ^ d := by rw [Nat.pow_succ]; omega
    have hp8 : 2 ^ (d + 1) ≤ 2 ^ 8 := Nat.pow_le_pow_right (by decide) h8
    by_cases b0 : b = 0
    · subst b0
      simp only [impl_FieldMul.l0, mul8_zero]; rw [if_neg (by omega)]
    · simp only [impl_FieldMul.l0, mul8]
      rw [if_pos (by omega), and_one b (by omega), impl_dbl a ha, show ((b : Int) / 2) = ((b / 2 : Nat) : Int) by omega, xor_i64 acc a (by omega) (by omega)]
      simp only [Option.bind_some]
      by_cases o : b % 2 = 1
      · rw [if_pos (by omega), if_pos o]
        exact ih k _ _ _ (dbl_lt ha) (xlt hc ha) (by omega) (by omega) (by omega)
      · rw [if_neg (by omega), if_neg o]
        exact ih k _ _ _ (dbl_lt ha) hc (by omega) (by omega) (by omega)
theorem impl_mul (k : Nat) (hk : 10 ≤ k) (a b : Nat) (ha : a < 256) (hb : b < 256) : impl_FieldMul.f k (a : Int) (b : Int) = some ((gm a b : Nat) : Int) := by
  obtain ⟨k, rfl⟩ : ∃ q, k = q + 1 := ⟨k - 1, by omega⟩
  simp only [impl_FieldMul.f, impl_byte a ha, impl_byte b hb, Option.bind_some, if_true, Bool.not_true, impl_FieldMul.j0, Bool.false_eq_true, if_false]
  have e := impl_mul_loop 8 k a b 0 ha (by decide) hb (by decide) (by omega)
  rw [Int.natCast_zero] at e
  exact e

theorem dbl_lin0 : allB 256 (fun a => allB 256 fun b => dbl (a ^^^ b) == dbl a ^^^ dbl b) = true := by decide +kernel
theorem dbl_lin {a b : Nat} (ha : a < 256) (hb : b < 256) : dbl (a ^^^ b) = dbl a ^^^ dbl b := by
  have h := of_all (of_all dbl_lin0 a ha) b hb
  simpa using h
theorem xor_half (a b : Nat) : (a ^^^ b) / 2 = a / 2 ^^^ b / 2 := by
  have h := Nat.shiftRight_xor_distrib (a := a) (b := b) (i := 1)
  simpa [Nat.shiftRight_eq_div_pow] using h
theorem xor_odd (a b : Nat) : (a ^^^ b) % 2 = (a % 2 + b % 2) % 2 := by
  have h := Nat.xor_mod_two_pow (a := a) (b := b) (n := 1)
  simp only [Nat.pow_one] at h
  rw [h]
  rcases Nat.mod_two_eq_zero_or_one a with e | e <;> rcases Nat.mod_two_eq_zero_or_one b with e' | e' <;> rw [e, e'] <;> decide
theorem mul8_lin_r (n : Nat) : ∀ a b d x y, mul8 n a (b ^^^ d) (x ^^^ y) = mul8 n a b x ^^^ mul8 n a d y := by
  induction n with
  | zero => intro a b d x y; rfl
  | succ n ih =>
    intro a b d x y
    simp only [mul8]
    rw [xor_half, xor_odd]
    have key : (if (b % 2 + d % 2) % 2 = 1 then (x ^^^ y) ^^^ a else x ^^^ y) = (if b % 2 = 1 then x ^^^ a else x) ^^^ (if d % 2 = 1 then y ^^^ a else y) := by
      rcases Nat.mod_two_eq_zero_or_one b with e | e <;> rcases Nat.mod_two_eq_zero_or_one d with e' | e' <;> rw [e, e'] <;> simp
      · rw [Nat.xor_assoc]
      · rw [Nat.xor_assoc, Nat.xor_comm y a, ← Nat.xor_assoc]
      · rw [Nat.xor_assoc x a, Nat.xor_comm y a, ← Nat.xor_assoc a a, Nat.xor_self, Nat.zero_xor]
    rw [key]
    exact ih _ _ _ _ _
theorem gm_lin_r (a b d : Nat) : gm a (b ^^^ d) = gm a b ^^^ gm a d := mul8_lin_r 8 a b d 0 0
theorem mul8_lin_l (n : Nat) : ∀ a c b x y, a < 256 → c < 256 → mul8 n (a ^^^ c) b (x ^^^ y) = mul8 n a b x ^^^ mul8 n c b y := by
  induction n with
  | zero => intro a c b x y _ _; rfl
  | succ n ih =>
    intro a c b x y ha hc
    simp only [mul8]
    rw [dbl_lin ha hc]
    have key : (if b % 2 = 1 then (x ^^^ y) ^^^ (a ^^^ c) else x ^^^ y) = (if b % 2 = 1 then x ^^^ a else x) ^^^ (if b % 2 = 1 then y ^^^ c else y) := by
      split
      · rw [Nat.xor_assoc x y, ← Nat.xor_assoc y a c, Nat.xor_comm y a, Nat.xor_assoc a y c, ← Nat.xor_assoc x a]
      · rfl
    rw [key]
    exact ih _ _ _ _ _ (dbl_lt ha) (dbl_lt hc)
theorem gm_lin_l {a c : Nat} (b : Nat) (ha : a < 256) (hc : c < 256) : gm (a ^^^ c) b = gm a b ^^^ gm c b := mul8_lin_l 8 a c b 0 0 ha hc
theorem top0 : allB 8 (fun i => allB (2 ^ i) fun r => (2 ^ i ^^^ r) == 2 ^ i + r) = true := by decide +kernel
/-- Two linear functions that agree at the powers of 2 agree at each byte. -/
theorem lin_ext (f g : Nat → Nat) (hf : ∀ x y, x < 256 → y < 256 → f (x ^^^ y) = f x ^^^ f y) (hg : ∀ x y, x < 256 → y < 256 → g (x ^^^ y) = g x ^^^ g y) (hb : ∀ i, i < 8 → f (2 ^ i) = g (2 ^ i)) (a : Nat) (ha : a < 256) : f a = g a := by
  have f0 : f 0 = 0 := by have := hf 0 0 (by decide) (by decide); simpa using this
  have g0 : g 0 = 0 := by have := hg 0 0 (by decide) (by decide); simpa using this
  have key : ∀ n, n ≤ 8 → ∀ x, x < 2 ^ n → f x = g x := by
    intro n
    induction n with
    | zero => intro _ x hx; obtain rfl : x = 0 := by simpa using hx
              rw [f0, g0]
    | succ n ih =>
      intro hn x hx
      by_cases h : x < 2 ^ n
      · exact ih (by omega) x h
      · have hp : 2 ^ (n + 1) = 2 * 2 ^ n := by rw [Nat.pow_succ]; omega
        have h256 : 2 ^ (n + 1) ≤ 2 ^ 8 := Nat.pow_le_pow_right (by decide) hn
        have e := of_all (of_all top0 n (by omega)) (x - 2 ^ n) (by omega)
        simp only [beq_iff_eq] at e
        rw [show 2 ^ n + (x - 2 ^ n) = x by omega] at e
        rw [← e, hf _ _ (by omega) (by omega), hg _ _ (by omega) (by omega), hb n (by omega), ih (by omega) _ (by omega)]
  exact key 8 (by omega) a ha
theorem comm0 : allB 8 (fun i => allB 8 fun j => gm (2 ^ i) (2 ^ j) == gm (2 ^ j) (2 ^ i)) = true := by decide +kernel
theorem pow_lt256 {i : Nat} (h : i < 8) : 2 ^ i < 256 := Nat.pow_lt_pow_right (by decide) h
theorem gm_comm {a b : Nat} (ha : a < 256) (hb : b < 256) : gm a b = gm b a := by
  refine lin_ext (fun x => gm x b) (fun x => gm b x) (fun x y hx hy => gm_lin_l b hx hy) (fun x y _ _ => gm_lin_r b x y) (fun i hi => ?_) a ha
  refine lin_ext (fun y => gm (2 ^ i) y) (fun y => gm y (2 ^ i)) (fun x y _ _ => gm_lin_r _ x y) (fun x y hx hy => gm_lin_l _ hx hy) (fun j hj => ?_) b hb
  simpa using of_all (of_all comm0 i hi) j hj
theorem assoc0 : allB 8 (fun i => allB 8 fun j => allB 8 fun l => gm (gm (2 ^ i) (2 ^ j)) (2 ^ l) == gm (2 ^ i) (gm (2 ^ j) (2 ^ l))) = true := by decide +kernel
theorem gm_assoc {a b d : Nat} (ha : a < 256) (hb : b < 256) (hd : d < 256) : gm (gm a b) d = gm a (gm b d) := by
  refine lin_ext (fun x => gm (gm x b) d) (fun x => gm x (gm b d)) (fun x y hx hy => by rw [gm_lin_l b hx hy, gm_lin_l d (gm_lt b hx) (gm_lt b hy)]) (fun x y hx hy => gm_lin_l _ hx hy) (fun i hi => ?_) a ha
  have hi' := pow_lt256 hi
  refine lin_ext (fun y => gm (gm (2 ^ i) y) d) (fun y => gm (2 ^ i) (gm y d)) (fun x y hx hy => by rw [gm_lin_r, gm_lin_l d (gm_lt _ hi') (gm_lt _ hi')]) (fun x y hx hy => by rw [gm_lin_l d hx hy, gm_lin_r]) (fun j hj => ?_) b hb
  refine lin_ext (fun z => gm (gm (2 ^ i) (2 ^ j)) z) (fun z => gm (2 ^ i) (gm (2 ^ j) z)) (fun x y _ _ => gm_lin_r _ x y) (fun x y _ _ => by rw [gm_lin_r, gm_lin_r]) (fun l hl => ?_) d hd
  simpa using of_all (of_all (of_all assoc0 i hi) j hj) l hl
theorem gm_one0 : allB 256 (fun a => gm 1 a == a) = true := by decide +kernel
theorem gm_one {a : Nat} (h : a < 256) : gm 1 a = a := by simpa using of_all gm_one0 a h

/-- The byte of a mixed column whose bytes, from this one on, are a, b, c, d. -/
def mix4 (a b c d : Nat) : Nat := dbl a ^^^ (dbl b ^^^ b) ^^^ c ^^^ d
theorem gm2 : allB 256 (fun a => gm 2 a == dbl a) = true := by decide +kernel
theorem gm3 : allB 256 (fun a => gm 3 a == dbl a ^^^ a) = true := by decide +kernel
theorem mix4_lt {a b c d : Nat} (ha : a < 256) (hb : b < 256) (hc : c < 256) (hd : d < 256) : mix4 a b c d < 256 := xlt (xlt (xlt (dbl_lt ha) (xlt (dbl_lt hb) hb)) hc) hd
theorem xor64 (a b : Nat) (ha : a < 256) (hb : b < 256) : Go.bits .xor .i64 (a : Int) (b : Int) = ((a ^^^ b : Nat) : Int) := xor_i64 a b (by omega) (by omega)
/-- Byte i of a block's mixed columns. -/
def mixN (a : ByteArray) (i : Nat) : Nat := mix4 (bn a (4 * (i / 4) + i % 4)) (bn a (4 * (i / 4) + (i % 4 + 1) % 4)) (bn a (4 * (i / 4) + (i % 4 + 2) % 4)) (bn a (4 * (i / 4) + (i % 4 + 3) % 4))
theorem mixN_lt (a : ByteArray) (i : Nat) : mixN a i < 256 := mix4_lt (bn_lt _ _) (bn_lt _ _) (bn_lt _ _) (bn_lt _ _)
theorem impl_mixV (k : Nat) (hk : 10 ≤ k) (a : ByteArray) (i : Nat) : mixV k a i = some ((mixN a i : Nat) : Int) := by
  have at_ : ∀ j : Nat, mixAt a i (j : Int) = ((bn a (4 * (i / 4) + (i % 4 + j) % 4) : Nat) : Int) := fun j => by
    unfold mixAt
    rw [show 4 * ((i : Int) / 4) + ((i : Int) % 4 + (j : Int)) % 4 = ((4 * (i / 4) + (i % 4 + j) % 4 : Nat) : Int) by omega]
    exact bt_bn _ _
  have a0 := at_ 0
  have a1 := at_ 1
  have a2 := at_ 2
  have a3 := at_ 3
  rw [show 4 * (i / 4) + (i % 4 + 0) % 4 = 4 * (i / 4) + i % 4 by omega] at a0
  unfold mixV mixN
  rw [show (mixAt a i 0) = _ from a0, show (mixAt a i 1) = _ from a1, show (mixAt a i 2) = _ from a2, show (mixAt a i 3) = _ from a3]
  generalize bn a (4 * (i / 4) + i % 4) = x0, bn_lt a (4 * (i / 4) + i % 4) = h0
  generalize bn a (4 * (i / 4) + (i % 4 + 1) % 4) = x1, bn_lt a (4 * (i / 4) + (i % 4 + 1) % 4) = h1
  generalize bn a (4 * (i / 4) + (i % 4 + 2) % 4) = x2, bn_lt a (4 * (i / 4) + (i % 4 + 2) % 4) = h2
  generalize bn a (4 * (i / 4) + (i % 4 + 3) % 4) = x3, bn_lt a (4 * (i / 4) + (i % 4 + 3) % 4) = h3
  have e2 := of_all gm2 x0 h0
  have e3 := of_all gm3 x1 h1
  simp only [beq_iff_eq] at e2 e3
  rw [show impl_FieldMul.f k 2 (x0 : Int) = _ from impl_mul k hk 2 x0 (by decide) h0, show impl_FieldMul.f k 3 (x1 : Int) = _ from impl_mul k hk 3 x1 (by decide) h1, ob, ob, e2, e3]
  have l0 := dbl_lt h0
  have l1 := xlt (dbl_lt h1) h1
  have l2 := xlt l0 l1
  have l3 := xlt l2 h2
  have l4 := xlt l3 h3
  rw [xor64 _ _ l0 l1, xor64 _ _ l2 h2, xor64 _ _ l3 h3]
  unfold mix4
  congr 1
  omega
/-- The columns of a block, mixed. -/
def mixB (a : ByteArray) : ByteArray := strOfNums ((List.range 16).map fun i => ((mixN a i : Nat) : Int))
theorem impl_mix (k : Nat) (hk : 10 ≤ k) (a : ByteArray) (h : a.size = 16) : impl_MixColumns.f k a = some (mixB a) := by
  unfold impl_MixColumns.f
  rw [if_pos h, optL_of 16 (fun i _ => impl_mixV k hk a i), ob]
  rfl
theorem impl_mix_no (k : Nat) (a : ByteArray) (h : a.size ≠ 16) : impl_MixColumns.f k a = some a := by
  unfold impl_MixColumns.f
  rw [if_neg h]
theorem mixB_size (a : ByteArray) : (mixB a).size = 16 := by unfold mixB; rw [strOf_size]; simp
theorem bn_str (f : Nat → Nat) (n i : Nat) (hf : ∀ j, f j < 256) (hi : i < n) : bn (strOfNums ((List.range n).map fun j => ((f j : Nat) : Int))) i = f i := by
  unfold bn
  rw [strOf_data, List.map_map, List.getD_eq_getElem?_getD, List.getElem?_map, List.getElem?_range hi]
  simp only [Option.map_some, Option.getD_some, Function.comp_def, Int.toNat_natCast]
  have := hf i
  rw [UInt8.toNat_ofNat']
  exact Nat.mod_eq_of_lt (by omega)
theorem bn_mix (a : ByteArray) (i : Nat) (hi : i < 16) : bn (mixB a) i = mixN a i := bn_str (mixN a) 16 i (mixN_lt a) hi

theorem spec_byte5 (a : Nat) (h : a < 256) : spec_l05Byte.f (a : Int) = some true := by
  simp only [spec_l05Byte.f, spec_l01In.f]
  rw [if_pos (by omega), decide_eq_true (by omega)]; rfl
theorem spec_dbl5 (a : Nat) (h : a < 256) : spec_FieldDouble.f (a : Int) = some ((dbl a : Nat) : Int) := by
  have e2 : wrap64 (2 * (a : Int)) = ((2 * a : Nat) : Int) := by rw [w64 (by omega) (by omega)]; omega
  simp only [spec_FieldDouble.f, spec_byte5 a h, Option.bind_some, if_true, e2]
  unfold dbl
  by_cases c : 128 ≤ a
  · rw [if_pos (show ((2 * a : Nat) : Int) > 255 by omega), if_pos c]
    exact congrArg some (xor_i64 (2 * a) 283 (by omega) (by decide))
  · rw [if_neg (show ¬ ((2 * a : Nat) : Int) > 255 by omega), if_neg c]
theorem spec_mix_i0 (c q : Nat) (hc : c < 4) (hq : q < 4) : wrap64 ((wrap64 (4 * (c : Int))) + (q : Int)) = ((4 * c + q : Nat) : Int) := by
  rw [w64 (n := 4 * (c : Int)) (by omega) (by omega), w64 (by omega) (by omega)]; omega
theorem spec_mix_q (q : Nat) (hq : q < 4) : wrap64 ((q : Int) + 1) = ((q + 1 : Nat) : Int) := by
  rw [w64 (by omega) (by omega)]; omega
theorem spec_mixAt (c q : Nat) (hc : c < 4) (hq : q < 4) (j : Nat) (hj : j < 4) :
    wrap64 ((wrap64 (4 * (c : Int))) + (Int.tmod (wrap64 ((q : Int) + (j : Int))) 4)) = ((4 * c + (q + j) % 4 : Nat) : Int) := by
  rw [w64 (n := 4 * (c : Int)) (by omega) (by omega), w64 (n := (q : Int) + (j : Int)) (by omega) (by omega), Int.tmod_eq_emod_of_nonneg (by omega), w64 (by omega) (by omega)]
  omega
theorem wbt (a : ByteArray) (i : Nat) : wrap64 (bt a (i : Int)) = ((bn a i : Nat) : Int) := by
  have := bn_lt a i
  rw [bt_bn, w64 (by omega) (by omega)]
set_option maxHeartbeats 2000000 in
theorem spec_mix1 (a : ByteArray) (h16 : a.size = 16) (c : Nat) (hc : c < 4) (d : Nat) : ∀ (k q : Nat) (xs : List Int), q + d = 4 → xs.length = 16 → d < k →
    (∀ r k', (∀ j, j < 4 * (c + 1) → True) → spec_MixColumns.l0 k' a r ((c : Int) + 1) = spec_MixColumns.l0 k' a r ((c + 1 : Nat) : Int)) →
    ∃ k', k = k' + d + 1 ∧ spec_MixColumns.l1 k a ((List.range (4 * c + q)).map (fun i => ((mixN a i : Nat) : Int)) ++ xs.drop (4 * c + q)) (c : Int) (q : Int) = spec_MixColumns.l0 k' a ((List.range (4 * c + 4)).map (fun i => ((mixN a i : Nat) : Int)) ++ xs.drop (4 * c + 4)) ((c + 1 : Nat) : Int) := by
  induction d with
  | zero =>
    intro k q xs hq hx hk _
    obtain ⟨k, rfl⟩ : ∃ z, k = z + 1 := ⟨k - 1, by omega⟩
    obtain rfl : q = 4 := by omega
    refine ⟨k, by omega, ?_⟩
    rw [spec_MixColumns.l1, if_neg (by omega), w64 (by omega) (by omega), show (c : Int) + 1 = ((c + 1 : Nat) : Int) by omega]
  | succ d ih =>
    intro k q xs hq hx hk hh
    obtain ⟨k, rfl⟩ : ∃ z, k = z + 1 := ⟨k - 1, by omega⟩
    obtain ⟨k', hk', e⟩ := ih k (q + 1) xs (by omega) hx (by omega) hh
    refine ⟨k', by omega, ?_⟩
    rw [← e]
    have hq4 : q < 4 := by omega
    have hlen : ((List.range (4 * c + q)).map (fun i => ((mixN a i : Nat) : Int)) ++ xs.drop (4 * c + q)).length = 16 := by
      rw [List.length_append, List.length_map, List.length_range, List.length_drop, hx]; omega
    have z (n : Nat) : (0 : Int) ≤ (n : Int) := Int.natCast_nonneg n
    have y0 : ((4 * c + q : Nat) : Int) < (a.size : Int) := by omega
    have y1 : ((4 * c + (q + 1) % 4 : Nat) : Int) < (a.size : Int) := by omega
    have y2 : ((4 * c + (q + 2) % 4 : Nat) : Int) < (a.size : Int) := by omega
    have y3 : ((4 * c + (q + 3) % 4 : Nat) : Int) < (a.size : Int) := by omega
    have yq : (q : Int) < 4 := by omega
    have y4 : ((4 * c + q : Nat) : Int) < ((((List.range (4 * c + q)).map (fun i => ((mixN a i : Nat) : Int)) ++ xs.drop (4 * c + q)).length : Nat) : Int) := by rw [hlen]; omega
    have ht := tab_set (fun i => ((mixN a i : Nat) : Int)) 16 (4 * c + q) (xs.drop (4 * c + q)) (by omega) (by rw [List.length_drop, hx])
    have ed1 : (4 * c + q) / 4 = c := by omega
    have ed2 : (4 * c + q) % 4 = q := by omega
    clear hh hk hk' hlen
    have hq1 := spec_mix_q q hq4
    have i0 := spec_mix_i0 c q hc hq4
    have i1 : wrap64 ((wrap64 (4 * (c : Int))) + (Int.tmod (wrap64 ((q : Int) + 1)) 4)) = ((4 * c + (q + 1) % 4 : Nat) : Int) := spec_mixAt c q hc hq4 1 (by decide)
    have i2 : wrap64 ((wrap64 (4 * (c : Int))) + (Int.tmod (wrap64 ((q : Int) + 2)) 4)) = ((4 * c + (q + 2) % 4 : Nat) : Int) := spec_mixAt c q hc hq4 2 (by decide)
    have i3 : wrap64 ((wrap64 (4 * (c : Int))) + (Int.tmod (wrap64 ((q : Int) + 3)) 4)) = ((4 * c + (q + 3) % 4 : Nat) : Int) := spec_mixAt c q hc hq4 3 (by decide)
    rw [spec_MixColumns.l1, if_pos yq, i0, i1, i2, i3, if_pos (z _), if_pos y0, if_pos (z _), if_pos y1, if_pos (z _), if_pos y2, if_pos (z _), if_pos y3]
    clear i0 i1 i2 i3
    rw [wbt, wbt, spec_dbl5 _ (bn_lt _ _), ob, spec_dbl5 _ (bn_lt _ _), ob, if_pos y4, bt_bn, bt_bn]
    have h0 := bn_lt a (4 * c + q)
    have h1 := bn_lt a (4 * c + (q + 1) % 4)
    have h2 := bn_lt a (4 * c + (q + 2) % 4)
    have h3 := bn_lt a (4 * c + (q + 3) % 4)
    have l0 := dbl_lt h0
    have l1 := dbl_lt h1
    have l2 := xlt l0 l1
    have l3 := xlt l2 h1
    have l4 := xlt h2 h3
    rw [xor64 _ _ l0 l1, xor64 _ _ l2 h1, xor_u8 _ _ h2 h3]
    rw [show ((dbl (bn a (4 * c + q)) ^^^ dbl (bn a (4 * c + (q + 1) % 4)) ^^^ bn a (4 * c + (q + 1) % 4) : Nat) : Int) % 256 = ((dbl (bn a (4 * c + q)) ^^^ dbl (bn a (4 * c + (q + 1) % 4)) ^^^ bn a (4 * c + (q + 1) % 4) : Nat) : Int) by omega]
    rw [xor_u8 _ _ l3 l4]
    have ev : dbl (bn a (4 * c + q)) ^^^ dbl (bn a (4 * c + (q + 1) % 4)) ^^^ bn a (4 * c + (q + 1) % 4) ^^^ (bn a (4 * c + (q + 2) % 4) ^^^ bn a (4 * c + (q + 3) % 4)) = mixN a (4 * c + q) := by
      unfold mixN mix4
      rw [ed1, ed2]
      simp only [Nat.xor_assoc]
    rw [ev, Int.toNat_natCast, hq1, ht, List.tail_drop]
    rfl
theorem spec_mix0 (a : ByteArray) (h16 : a.size = 16) (d : Nat) : ∀ (k c : Nat) (xs : List Int), c + d = 4 → xs.length = 16 → 6 * d < k →
    spec_MixColumns.l0 k a ((List.range (4 * c)).map (fun i => ((mixN a i : Nat) : Int)) ++ xs.drop (4 * c)) (c : Int) = some (mixB a) := by
  induction d with
  | zero =>
    intro k c xs hc hx hk
    obtain ⟨k, rfl⟩ : ∃ z, k = z + 1 := ⟨k - 1, by omega⟩
    obtain rfl : c = 4 := by omega
    rw [spec_MixColumns.l0, if_neg (by omega), List.drop_eq_nil_of_le (by omega), List.append_nil]
    rfl
  | succ d ih =>
    intro k c xs hc hx hk
    obtain ⟨k, rfl⟩ : ∃ z, k = z + 1 := ⟨k - 1, by omega⟩
    obtain ⟨k', hk', e⟩ := spec_mix1 a h16 c (by omega) 4 k 0 xs (by omega) hx (by omega) (fun r k' _ => by rw [show (c : Int) + 1 = ((c + 1 : Nat) : Int) by omega])
    rw [spec_MixColumns.l0, if_pos (by omega)]
    rw [Nat.add_zero, Int.natCast_zero] at e
    rw [e]
    have := ih k' (c + 1) xs (by omega) hx (by omega)
    rw [show 4 * (c + 1) = 4 * c + 4 by omega] at this
    exact this
theorem spec_mix (k : Nat) (hk : 30 ≤ k) (a : ByteArray) (h16 : a.size = 16) : spec_MixColumns.f k a = some (mixB a) := by
  unfold spec_MixColumns.f
  rw [if_pos (by omega), if_pos (by decide)]
  have := spec_mix0 a h16 4 k 0 (List.replicate 16 0) (by omega) (by simp) (by omega)
  rw [Nat.mul_zero, List.range_zero, List.map_nil, List.nil_append, List.drop_zero, Int.natCast_zero] at this
  exact this
theorem FnExactMixColumns : laws_FnExactMixColumns.Pure := by
  intro a _
  refine ⟨40, ?_⟩
  unfold laws_FnExactMixColumns.f
  split
  · rfl
  · by_cases h : a.size = 16
    · rw [spec_mix 40 (by omega) a h, impl_mix 40 (by omega) a h]
      simp only [ob, if_true]
    · rw [impl_mix_no 40 a h]
      unfold spec_MixColumns.f
      rw [if_neg (by omega)]
      simp only [ob, if_true]
end Go.Proofs.Ytngdfchpknglhaa.Pure
