/- The law FnColumns answers true at every draw: ShiftRows and MixColumns four times are the identity, MixColumns is linear; no condition. -/
import Derived.Test.YtngdfchpknglhaaMFnColumnsx3
namespace Go.Proofs.Ytngdfchpknglhaa.Pure
open Go.RowKit Go.Proofs.Ytngdfchpknglhaa.PFnColumns Go.Proofs.YtngdfchpknglhaaW.PrintWords Go.Proofs.YtngdfchpknglhaaW.PrintLast Go.Proofs.YtngdfchpknglhaaW.PrintMore
set_option linter.unusedVariables false
set_option linter.unusedSimpArgs false

theorem w64 {n : Int} (h0 : -9223372036854775808 ≤ n) (h1 : n ≤ 9223372036854775807) : wrap64 n = n := by
  unfold wrap64; omega
theorem bits_nat3 (k : IntKind) (j : Nat) (hj : j ≤ k.bits) (hk : ∀ n : Int, 0 ≤ n → n < 2 ^ j → k.wrap n = n) (a b : Nat) (ha : a < 2 ^ j) (hb : b < 2 ^ j) :
    Go.bits .and k a b = ((a &&& b : Nat) : Int) ∧ Go.bits .or k a b = ((a ||| b : Nat) : Int) ∧ Go.bits .xor k a b = ((a ^^^ b : Nat) : Int) := by
  have hp : 2 ^ j ≤ 2 ^ k.bits := Nat.pow_le_pow_right (by decide) hj
  have ha' : a % 2 ^ k.bits = a := Nat.mod_eq_of_lt (Nat.lt_of_lt_of_le ha hp)
  have hb' : b % 2 ^ k.bits = b := Nat.mod_eq_of_lt (Nat.lt_of_lt_of_le hb hp)
  have cast : ∀ n : Nat, n < 2 ^ j → ((n : Nat) : Int) < 2 ^ j := fun n h => by exact_mod_cast h
  refine ⟨?_, ?_, ?_⟩
  · simp only [Go.bits, BitVec.ofInt_natCast, BitVec.toNat_and, BitVec.toNat_ofNat, ha', hb']
    exact hk _ (Int.natCast_nonneg _) (cast _ (Nat.and_lt_two_pow _ hb))
  · simp only [Go.bits, BitVec.ofInt_natCast, BitVec.toNat_or, BitVec.toNat_ofNat, ha', hb']
    exact hk _ (Int.natCast_nonneg _) (cast _ (Nat.or_lt_two_pow ha hb))
  · simp only [Go.bits, BitVec.ofInt_natCast, BitVec.toNat_xor, BitVec.toNat_ofNat, ha', hb']
    exact hk _ (Int.natCast_nonneg _) (cast _ (Nat.xor_lt_two_pow ha hb))
theorem wr_i64 (n : Int) (h0 : 0 ≤ n) (h1 : n < 2 ^ 62) : IntKind.i64.wrap n = n := by rw [IntKind.wrap_i64]; omega
theorem wr_u64 (n : Int) (h0 : 0 ≤ n) (h1 : n < 2 ^ 64) : IntKind.u64.wrap n = n := by
  simp [IntKind.wrap, IntKind.bits, IntKind.signed]; omega
theorem or_i64 (a b : Nat) (ha : a < 2 ^ 62) (hb : b < 2 ^ 62) : Go.bits .or .i64 a b = ((a ||| b : Nat) : Int) := (bits_nat3 .i64 62 (by decide) wr_i64 a b ha hb).2.1
theorem xor_i64 (a b : Nat) (ha : a < 2 ^ 62) (hb : b < 2 ^ 62) : Go.bits .xor .i64 a b = ((a ^^^ b : Nat) : Int) := (bits_nat3 .i64 62 (by decide) wr_i64 a b ha hb).2.2
theorem and_i64 (a b : Nat) (ha : a < 2 ^ 62) (hb : b < 2 ^ 62) : Go.bits .and .i64 a b = ((a &&& b : Nat) : Int) := (bits_nat3 .i64 62 (by decide) wr_i64 a b ha hb).1
theorem xor_u8 (a b : Nat) (ha : a < 2 ^ 8) (hb : b < 2 ^ 8) : Go.bits .xor .u8 a b = ((a ^^^ b : Nat) : Int) := (bits_nat3 .u8 8 (by decide) wraps_u8 a b ha hb).2.2
/-- Byte i of s as a natural number. -/
def bn (s : ByteArray) (i : Nat) : Nat := (s.data.toList.getD i 0).toNat
theorem bn_lt (s : ByteArray) (i : Nat) : bn s i < 256 := (s.data.toList.getD i 0).toNat_lt
theorem bt_bn (s : ByteArray) (i : Nat) : bt s (i : Int) = (bn s i : Int) := by
  unfold bt bn
  split
  · rename_i h
    have h' : i < s.data.toList.length := by rw [data_length]; simpa using h
    rw [List.getD_eq_getElem?_getD, List.getElem?_eq_getElem h']; rfl
  · rename_i h
    have h' : s.data.toList.length ≤ i := by rw [data_length]; simpa using h
    rw [List.getD_eq_getElem?_getD, List.getElem?_eq_none h']; rfl
theorem bt_bn' (s : ByteArray) (i : Int) (h : 0 ≤ i) : bt s i = (bn s i.toNat : Int) := by
  obtain ⟨n, rfl⟩ := Int.eq_ofNat_of_zero_le h
  exact bt_bn s n
theorem toList_eq' (s : ByteArray) : s.toList = s.data.toList := ByteArray.toList_eq s
/-- Two strings of one length are one where their bytes are. -/
theorem bytes_ext {s t : ByteArray} (hl : s.size = t.size) (h : ∀ i, i < s.size → bn s i = bn t i) : s.data.toList = t.data.toList := by
  apply List.ext_getElem (by rw [data_length, data_length, hl])
  intro i h1 h2
  have := h i (by rw [← data_length]; exact h1)
  unfold bn at this
  rw [List.getD_eq_getElem?_getD, List.getD_eq_getElem?_getD, List.getElem?_eq_getElem h1, List.getElem?_eq_getElem h2] at this
  exact UInt8.toNat_inj.1 this
theorem strOf_data (xs : List Int) : (strOfNums xs).data.toList = xs.map fun n => UInt8.ofNat n.toNat := by simp [strOfNums]
theorem strOf_toList (xs : List Int) : (strOfNums xs).toList = xs.map fun n => UInt8.ofNat n.toNat := by rw [toList_eq', strOf_data]
theorem strOf_size (xs : List Int) : (strOfNums xs).size = xs.length := by rw [← data_length, strOf_data, List.length_map]
/-- A list of n numbers written cell by cell is the list of what was written. -/
theorem tab_set (f : Nat → Int) (n i : Nat) (rest : List Int) (h : i < n) (hr : rest.length = n - i) :
    (((List.range i).map f) ++ rest).set i (f i) = ((List.range (i + 1)).map f) ++ rest.tail := by
  cases rest with
  | nil => simp at hr; omega
  | cons a rest =>
    rw [List.set_append_right _ _ (by simp)]
    simp [List.range_succ]
theorem xor_zero_iff {a b : Nat} : a ^^^ b = 0 ↔ a = b := by
  constructor
  · intro h
    have := congrArg (· ^^^ b) h
    simpa [Nat.xor_assoc] using this
  · rintro rfl; exact Nat.xor_self a
theorem rounds_of {P : Nat → Prop} (n : Nat) (h : ∀ k, n ≤ k → P k) : ∃ k, P k := ⟨n, h n (Nat.le_refl n)⟩
/-- As Option.bind_some, but not by reduction: the kernel is not led into what follows. -/
theorem ob {α β : Type} (a : α) (f : α → Option β) : (some a).bind f = f a := by
  cases h : f a with
  | none => rw [Option.bind_some, h]
  | some b => rw [Option.bind_some, h]

def dbl (a : Nat) : Nat := if 128 ≤ a then (2 * a) ^^^ 283 else 2 * a
def mul8 : Nat → Nat → Nat → Nat → Nat
  | 0, _, _, acc => acc
  | n + 1, a, b, acc => mul8 n (dbl a) (b / 2) (if b % 2 = 1 then acc ^^^ a else acc)
/-- The product in the field of 256. -/
def gm (a b : Nat) : Nat := mul8 8 a b 0
def allB (n : Nat) (p : Nat → Bool) : Bool := (List.range n).all p
theorem of_all {n : Nat} {p : Nat → Bool} (h : allB n p = true) (a : Nat) (ha : a < n) : p a = true := by
  unfold allB at h
  rw [List.all_eq_true] at h
  exact h a (List.mem_range.2 ha)
theorem dbl_lt0 : allB 256 (fun a => decide (dbl a < 256)) = true := by decide +kernel
theorem dbl_lt {a : Nat} (h : a < 256) : dbl a < 256 := of_decide_eq_true (of_all dbl_lt0 a h)
theorem xlt {a b : Nat} (ha : a < 256) (hb : b < 256) : a ^^^ b < 256 := Nat.xor_lt_two_pow (n := 8) ha hb
theorem mul8_lt (n : Nat) : ∀ a b acc, a < 256 → acc < 256 → mul8 n a b acc < 256 := by
  induction n with
  | zero => intro a b acc _ h; exact h
  | succ n ih =>
    intro a b acc ha h
    simp only [mul8]
    apply ih _ _ _ (dbl_lt ha)
    split
    · exact xlt h ha
    · exact h
theorem gm_lt {a : Nat} (b : Nat) (ha : a < 256) : gm a b < 256 := mul8_lt 8 a b 0 ha (by decide)
theorem mul8_zero (n : Nat) : ∀ a acc, mul8 n a 0 acc = acc := by
  induction n with
  | zero => intro a acc; rfl
  | succ n ih => intro a acc; simp only [mul8, Nat.zero_div]; rw [if_neg (by decide)]; exact ih _ _

theorem impl_byte (a : Nat) (h : a < 256) : impl_isByte.f (a : Int) = some true := by
  simp only [impl_isByte.f, impl_within.f]
  rw [if_pos (by omega), decide_eq_true (by omega)]; rfl
theorem impl_dbl (a : Nat) (h : a < 256) : impl_FieldDouble.f (a : Int) = some ((dbl a : Nat) : Int) := by
  have e2 : wrap64 (2 * (a : Int)) = ((2 * a : Nat) : Int) := by rw [w64 (by omega) (by omega)]; omega
  simp only [impl_FieldDouble.f, impl_byte a h, Option.bind_some, if_true, e2]
  unfold dbl
  by_cases c : 128 ≤ a
  · rw [if_pos (show (a : Int) ≥ 128 by omega), if_pos c]
    exact congrArg some (xor_i64 (2 * a) 283 (by omega) (by decide))
  · rw [if_neg (show ¬ (a : Int) ≥ 128 by omega), if_neg c]
theorem and_one (b : Nat) (h : b < 2 ^ 62) : Go.bits .and .i64 (b : Int) 1 = ((b % 2 : Nat) : Int) := by
  have e := and_i64 b 1 h (by decide)
  rw [show (1 : Int) = ((1 : Nat) : Int) from rfl, e, Nat.and_one_is_mod]
theorem impl_mul_loop (d : Nat) : ∀ (k a b acc : Nat), a < 256 → acc < 256 → b < 2 ^ d → d ≤ 8 → d < k → impl_FieldMul.l0 k (a : Int) (b : Int) (acc : Int) = some ((mul8 d a b acc : Nat) : Int) := by
  induction d with
  | zero =>
    intro k a b acc ha hc hb _ hk
    obtain ⟨k, rfl⟩ : ∃ q, k = q + 1 := ⟨k - 1, by omega⟩
    have : b = 0 := by simpa using hb
    subst this
    simp only [impl_FieldMul.l0, mul8]; rw [if_neg (by omega)]
  | succ d ih =>
    intro k a b acc ha hc hb h8 hk
    obtain ⟨k, rfl⟩ : ∃ q, k = q + 1 := ⟨k - 1, by omega⟩
    have hp : 2 ^ (d + 1) = 2 * 2 ^ d := by rw [Nat.pow_succ]; omega
    have hp8 : 2 ^ (d + 1) ≤ 2 ^ 8 := Nat.pow_le_pow_right (by decide) h8
    by_cases b0 : b = 0
    · subst b0
      simp only [impl_FieldMul.l0, mul8_zero]; rw [if_neg (by omega)]
    · simp only [impl_FieldMul.l0, mul8]
      rw [if_pos (by omega), and_one b (by omega), impl_dbl a ha, show ((b : Int) / 2) = ((b / 2 : Nat) : Int) by omega, xor_i64 acc a (by omega) (by omega)]
      simp only [Option.bind_some]
      by_cases o : b % 2 = 1
      · rw [if_pos (by omega), if_pos o]
        exact ih k _ _ _ (dbl_lt ha) (xlt hc ha) (by omega) (by omega) (by omega)
      · rw [if_neg (by omega), if_neg o]
        exact ih k _ _ _ (dbl_lt ha) hc (by omega) (by omega) (by omega)
theorem impl_mul (k : Nat) (hk : 10 ≤ k) (a b : Nat) (ha : a < 256) (hb : b < 256) : impl_FieldMul.f k (a : Int) (b : Int) = some ((gm a b : Nat) : Int) := by
  obtain ⟨k, rfl⟩ : ∃ q, k = q + 1 := ⟨k - 1, by omega⟩
  simp only [impl_FieldMul.f, impl_byte a ha, impl_byte b hb, Option.bind_some, if_true, Bool.not_true, impl_FieldMul.j0, Bool.false_eq_true, if_false]
  have e := impl_mul_loop 8 k a b 0 ha (by decide) hb (by decide) (by omega)
  rw [Int.natCast_zero] at e
  exact e

theorem dbl_lin0 : allB 256 (fun a => allB 256 fun b => dbl (a ^^^ b) == dbl a ^^^ dbl b) = true := by decide +kernel
theorem dbl_lin {a b : Nat} (ha : a < 256) (hb : b < 256) : dbl (a ^^^ b) = dbl a ^^^ dbl b := by
  have h := of_all (of_all dbl_lin0 a ha) b hb
  simpa using h
theorem xor_half (a b : Nat) : (a ^^^ b) / 2 = a / 2 ^^^ b / 2 := by
  have h := Nat.shiftRight_xor_distrib (a := a) (b := b) (i := 1)
  simpa [Nat.shiftRight_eq_div_pow] using h
theorem xor_odd (a b : Nat) : (a ^^^ b) % 2 = (a % 2 + b % 2) % 2 := by
  have h := Nat.xor_mod_two_pow (a := a) (b := b) (n := 1)
  simp only [Nat.pow_one] at h
  rw [h]
  rcases Nat.mod_two_eq_zero_or_one a with e | e <;> rcases Nat.mod_two_eq_zero_or_one b with e' | e' <;> rw [e, e'] <;> decide
theorem mul8_lin_r (n : Nat) : ∀ a b d x y, mul8 n a (b ^^^ d) (x ^^^ y) = mul8 n a b x ^^^ mul8 n a d y := by
  induction n with
  | zero => intro a b d x y; rfl
  | succ n ih =>
    intro a b d x y
    simp only [mul8]
    rw [xor_half, xor_odd]
    have key : (if (b % 2 + d % 2) % 2 = 1 then (x ^^^ y) ^^^ a else x ^^^ y) = (if b % 2 = 1 then x ^^^ a else x) ^^^ (if d % 2 = 1 then y ^^^ a else y) := by
      rcases Nat.mod_two_eq_zero_or_one b with e | e <;> rcases Nat.mod_two_eq_zero_or_one d with e' | e' <;> rw [e, e'] <;> simp
      · rw [Nat.xor_assoc]
      · rw [Nat.xor_assoc, Nat.xor_comm y a, ← Nat.xor_assoc]
      · rw [Nat.xor_assoc x a, Nat.xor_comm y a, ← Nat.xor_assoc a a, Nat.xor_self, Nat.zero_xor]
    rw [key]
    exact ih _ _ _ _ _
theorem gm_lin_r (a b d : Nat) : gm a (b ^^^ d) = gm a b ^^^ gm a d := mul8_lin_r 8 a b d 0 0
theorem mul8_lin_l (n : Nat) : ∀ a c b x y, a < 256 → c < 256 → mul8 n (a ^^^ c) b (x ^^^ y) = mul8 n a b x ^^^ mul8 n c b y := by
  induction n with
  | zero => intro a c b x y _ _; rfl
  | succ n ih =>
    intro a c b x y ha hc
    simp only [mul8]
    rw [dbl_lin ha hc]
    have key : (if b % 2 = 1 then (x ^^^ y) ^^^ (a ^^^ c) else x ^^^ y) = (if b % 2 = 1 then x ^^^ a else x) ^^^ (if b % 2 = 1 then y ^^^ c else y) := by
      split
      · rw [Nat.xor_assoc x y, ← Nat.xor_assoc y a c, Nat.xor_comm y a, Nat.xor_assoc a y c, ← Nat.xor_assoc x a]
      · rfl
    rw [key]
    exact ih _ _ _ _ _ (dbl_lt ha) (dbl_lt hc)
theorem gm_lin_l {a c : Nat} (b : Nat) (ha : a < 256) (hc : c < 256) : gm (a ^^^ c) b = gm a b ^^^ gm c b := mul8_lin_l 8 a c b 0 0 ha hc
theorem top0 : allB 8 (fun i => allB (2 ^ i) fun r => (2 ^ i ^^^ r) == 2 ^ i + r) = true := by decide +kernel
/-- Two linear functions that agree at the powers of 2 agree at each byte. -/
theorem lin_ext (f g : Nat → Nat) (hf : ∀ x y, x < 256 → y < 256 → f (x ^^^ y) = f x ^^^ f y) (hg : ∀ x y, x < 256 → y < 256 → g (x ^^^ y) = g x ^^^ g y) (hb : ∀ i, i < 8 → f (2 ^ i) = g (2 ^ i)) (a : Nat) (ha : a < 256) : f a = g a := by
  have f0 : f 0 = 0 := by have := hf 0 0 (by decide) (by decide); simpa using this
  have g0 : g 0 = 0 := by have := hg 0 0 (by decide) (by decide); simpa using this
  have key : ∀ n, n ≤ 8 → ∀ x, x < 2 ^ n → f x = g x := by
    intro n
    induction n with
    | zero => intro _ x hx; obtain rfl : x = 0 := by simpa using hx
              rw [f0, g0]
    | succ n ih =>
      intro hn x hx
      by_cases h : x < 2 ^ n
      · exact ih (by omega) x h
      · have hp : 2 ^ (n + 1) = 2 * 2 ^ n := by rw [Nat.pow_succ]; omega
        have h256 : 2 ^ (n + 1) ≤ 2 ^ 8 := Nat.pow_le_pow_right (by decide) hn
        have e := of_all (of_all top0 n (by omega)) (x - 2 ^ n) (by omega)
        simp only [beq_iff_eq] at e
        rw [show 2 ^ n + (x - 2 ^ n) = x by omega] at e
        rw [← e, hf _ _ (by omega) (by omega), hg _ _ (by omega) (by omega), hb n (by omega), ih (by omega) _ (by omega)]
  exact key 8 (by omega) a ha
theorem comm0 : allB 8 (fun i => allB 8 fun j => gm (2 ^ i) (2 ^ j) == gm (2 ^ j) (2 ^ i)) = true := by decide +kernel
theorem pow_lt256 {i : Nat} (h : i < 8) : 2 ^ i < 256 := Nat.pow_lt_pow_right (by decide) h
theorem gm_comm {a b : Nat} (ha : a < 256) (hb : b < 256) : gm a b = gm b a := by
  refine lin_ext (fun x => gm x b) (fun x => gm b x) (fun x y hx hy => gm_lin_l b hx hy) (fun x y _ _ => gm_lin_r b x y) (fun i hi => ?_) a ha
  refine lin_ext (fun y => gm (2 ^ i) y) (fun y => gm y (2 ^ i)) (fun x y _ _ => gm_lin_r _ x y) (fun x y hx hy => gm_lin_l _ hx hy) (fun j hj => ?_) b hb
  simpa using of_all (of_all comm0 i hi) j hj
theorem assoc0 : allB 8 (fun i => allB 8 fun j => allB 8 fun l => gm (gm (2 ^ i) (2 ^ j)) (2 ^ l) == gm (2 ^ i) (gm (2 ^ j) (2 ^ l))) = true := by decide +kernel
theorem gm_assoc {a b d : Nat} (ha : a < 256) (hb : b < 256) (hd : d < 256) : gm (gm a b) d = gm a (gm b d) := by
  refine lin_ext (fun x => gm (gm x b) d) (fun x => gm x (gm b d)) (fun x y hx hy => by rw [gm_lin_l b hx hy, gm_lin_l d (gm_lt b hx) (gm_lt b hy)]) (fun x y hx hy => gm_lin_l _ hx hy) (fun i hi => ?_) a ha
  have hi' := pow_lt256 hi
  refine lin_ext (fun y => gm (gm (2 ^ i) y) d) (fun y => gm (2 ^ i) (gm y d)) (fun x y hx hy => by rw [gm_lin_r, gm_lin_l d (gm_lt _ hi') (gm_lt _ hi')]) (fun x y hx hy => by rw [gm_lin_l d hx hy, gm_lin_r]) (fun j hj => ?_) b hb
  refine lin_ext (fun z => gm (gm (2 ^ i) (2 ^ j)) z) (fun z => gm (2 ^ i) (gm (2 ^ j) z)) (fun x y _ _ => gm_lin_r _ x y) (fun x y _ _ => by rw [gm_lin_r, gm_lin_r]) (fun l hl => ?_) d hd
  simpa using of_all (of_all (of_all assoc0 i hi) j hj) l hl
theorem gm_one0 : allB 256 (fun a => gm 1 a == a) = true := by decide +kernel
theorem gm_one {a : Nat} (h : a < 256) : gm 1 a = a := by simpa using of_all gm_one0 a h

/-- The byte of a mixed column whose bytes, from this one on, are a, b, c, d. -/
def mix4 (a b c d : Nat) : Nat := dbl a ^^^ (dbl b ^^^ b) ^^^ c ^^^ d
theorem gm2 : allB 256 (fun a => gm 2 a == dbl a) = true := by decide +kernel
theorem gm3 : allB 256 (fun a => gm 3 a == dbl a ^^^ a) = true := by decide +kernel
theorem mix4_lt {a b c d : Nat} (ha : a < 256) (hb : b < 256) (hc : c < 256) (hd : d < 256) : mix4 a b c d < 256 := xlt (xlt (xlt (dbl_lt ha) (xlt (dbl_lt hb) hb)) hc) hd
theorem xor64 (a b : Nat) (ha : a < 256) (hb : b < 256) : Go.bits .xor .i64 (a : Int) (b : Int) = ((a ^^^ b : Nat) : Int) := xor_i64 a b (by omega) (by omega)
/-- Byte i of a block's mixed columns. -/
def mixN (a : ByteArray) (i : Nat) : Nat := mix4 (bn a (4 * (i / 4) + i % 4)) (bn a (4 * (i / 4) + (i % 4 + 1) % 4)) (bn a (4 * (i / 4) + (i % 4 + 2) % 4)) (bn a (4 * (i / 4) + (i % 4 + 3) % 4))
theorem mixN_lt (a : ByteArray) (i : Nat) : mixN a i < 256 := mix4_lt (bn_lt _ _) (bn_lt _ _) (bn_lt _ _) (bn_lt _ _)
theorem impl_mixV (k : Nat) (hk : 10 ≤ k) (a : ByteArray) (i : Nat) : mixV k a i = some ((mixN a i : Nat) : Int) := by
  have at_ : ∀ j : Nat, mixAt a i (j : Int) = ((bn a (4 * (i / 4) + (i % 4 + j) % 4) : Nat) : Int) := fun j => by
    unfold mixAt
    rw [show 4 * ((i : Int) / 4) + ((i : Int) % 4 + (j : Int)) % 4 = ((4 * (i / 4) + (i % 4 + j) % 4 : Nat) : Int) by omega]
    exact bt_bn _ _
  have a0 := at_ 0
  have a1 := at_ 1
  have a2 := at_ 2
  have a3 := at_ 3
  rw [show 4 * (i / 4) + (i % 4 + 0) % 4 = 4 * (i / 4) + i % 4 by omega] at a0
  unfold mixV mixN
  rw [show (mixAt a i 0) = _ from a0, show (mixAt a i 1) = _ from a1, show (mixAt a i 2) = _ from a2, show (mixAt a i 3) = _ from a3]
  generalize bn a (4 * (i / 4) + i % 4) = x0, bn_lt a (4 * (i / 4) + i % 4) = h0
  generalize bn a (4 * (i / 4) + (i % 4 + 1) % 4) = x1, bn_lt a (4 * (i / 4) + (i % 4 + 1) % 4) = h1
  generalize bn a (4 * (i / 4) + (i % 4 + 2) % 4) = x2, bn_lt a (4 * (i / 4) + (i % 4 + 2) % 4) = h2
  generalize bn a (4 * (i / 4) + (i % 4 + 3) % 4) = x3, bn_lt a (4 * (i / 4) + (i % 4 + 3) % 4) = h3
  have e2 := of_all gm2 x0 h0
  have e3 := of_all gm3 x1 h1
  simp only [beq_iff_eq] at e2 e3
  rw [show impl_FieldMul.f k 2 (x0 : Int) = _ from impl_mul k hk 2 x0 (by decide) h0, show impl_FieldMul.f k 3 (x1 : Int) = _ from impl_mul k hk 3 x1 (by decide) h1, ob, ob, e2, e3]
  have l0 := dbl_lt h0
  have l1 := xlt (dbl_lt h1) h1
  have l2 := xlt l0 l1
  have l3 := xlt l2 h2
  have l4 := xlt l3 h3
  rw [xor64 _ _ l0 l1, xor64 _ _ l2 h2, xor64 _ _ l3 h3]
  unfold mix4
  congr 1
  omega
/-- The columns of a block, mixed. -/
def mixB (a : ByteArray) : ByteArray := strOfNums ((List.range 16).map fun i => ((mixN a i : Nat) : Int))
theorem impl_mix (k : Nat) (hk : 10 ≤ k) (a : ByteArray) (h : a.size = 16) : impl_MixColumns.f k a = some (mixB a) := by
  unfold impl_MixColumns.f
  rw [if_pos h, optL_of 16 (fun i _ => impl_mixV k hk a i), ob]
  rfl
theorem impl_mix_no (k : Nat) (a : ByteArray) (h : a.size ≠ 16) : impl_MixColumns.f k a = some a := by
  unfold impl_MixColumns.f
  rw [if_neg h]
theorem mixB_size (a : ByteArray) : (mixB a).size = 16 := by unfold mixB; rw [strOf_size]; simp
theorem bn_str (f : Nat → Nat) (n i : Nat) (hf : ∀ j, f j < 256) (hi : i < n) : bn (strOfNums ((List.range n).map fun j => ((f j : Nat) : Int))) i = f i := by
  unfold bn
  rw [strOf_data, List.map_map, List.getD_eq_getElem?_getD, List.getElem?_map, List.getElem?_range hi]
  simp only [Option.map_some, Option.getD_some, Function.comp_def, Int.toNat_natCast]
  have := hf i
  rw [UInt8.toNat_ofNat']
  exact Nat.mod_eq_of_lt (by omega)
theorem bn_mix (a : ByteArray) (i : Nat) (hi : i < 16) : bn (mixB a) i = mixN a i := bn_str (mixN a) 16 i (mixN_lt a) hi

/-- The substitution box of a byte whose inverse is b. -/
def trn (b i : Nat) : Nat := (b * 2 ^ i ||| b / 2 ^ (8 - i)) &&& 255
def boxN (b : Nat) : Nat := ((((99 ^^^ trn b 0) ^^^ trn b 1) ^^^ trn b 2) ^^^ trn b 3) ^^^ trn b 4
theorem trn0 : allB 256 (fun b => trn b 0 == b) = true := by decide +kernel
theorem shlN (b i : Nat) (hb : b < 256) (hi : i ≤ 8) (y : Int) (hy : y = i) : shl .i64 (b : Int) y = ((b * 2 ^ i : Nat) : Int) := by
  subst hy
  unfold shl
  rw [show min ((i : Int)).toNat IntKind.i64.bits = i by simp [IntKind.bits]; omega]
  have h : (2 : Nat) ^ i ≤ 2 ^ 8 := Nat.pow_le_pow_right (by decide) hi
  have h2 : b * 2 ^ i ≤ 256 * 2 ^ 8 := Nat.mul_le_mul (by omega) h
  rw [show (b : Int) * 2 ^ i = ((b * 2 ^ i : Nat) : Int) by simp]
  exact wr_i64 _ (Int.natCast_nonneg _) (by omega)
theorem shrN (b i : Nat) (hi : i ≤ 64) (y : Int) (hy : y = i) : shr .i64 (b : Int) y = ((b / 2 ^ i : Nat) : Int) := by
  subst hy
  unfold shr
  rw [show min ((i : Int)).toNat IntKind.i64.bits = i by simp [IntKind.bits]; omega]
  simp
theorem trn_val (b i : Nat) (hb : b < 256) (hi : i ≤ 4) (y z : Int) (hy : y = i) (hz : z = 8 - i) : Go.bits .and .i64 (Go.bits .or .i64 (shl .i64 (b : Int) y) (shr .i64 (b : Int) z)) 255 = ((trn b i : Nat) : Int) := by
  have h : (2 : Nat) ^ i ≤ 2 ^ 4 := Nat.pow_le_pow_right (by decide) hi
  have h2 : b * 2 ^ i ≤ 256 * 2 ^ 4 := Nat.mul_le_mul (by omega) h
  have h3 : b / 2 ^ (8 - i) ≤ b := Nat.div_le_self _ _
  have h4 : (b * 2 ^ i ||| b / 2 ^ (8 - i)) < 2 ^ 13 := Nat.or_lt_two_pow (by omega) (by omega)
  rw [shlN b i hb (by omega) y hy, shrN b (8 - i) (by omega) z (by omega), or_i64 _ _ (by omega) (by omega)]
  exact and_i64 _ 255 (by omega) (by decide)
theorem trn_lt (b i : Nat) : trn b i < 256 := Nat.and_lt_two_pow (n := 8) _ (by decide)
theorem boxN_lt (b : Nat) : boxN b < 256 := xlt (xlt (xlt (xlt (xlt (by decide) (trn_lt _ _)) (trn_lt _ _)) (trn_lt _ _)) (trn_lt _ _)) (trn_lt _ _)

/-- Square and multiply. -/
def powL : Nat → Nat → Nat → Nat → Nat
  | 0, _, _, acc => acc
  | k + 1, x, n, acc => powL k (gm x x) (n / 2) (if n % 2 = 1 then gm acc x else acc)
def pw (a n : Nat) : Nat := powL 10 a n 1
theorem powL_lt (k : Nat) : ∀ x n acc, acc < 256 → powL k x n acc < 256 := by
  induction k with
  | zero => intro x n acc h; exact h
  | succ k ih =>
    intro x n acc h
    simp only [powL]
    apply ih
    split
    · exact gm_lt _ h
    · exact h
theorem pw_lt (a n : Nat) : pw a n < 256 := powL_lt 10 a n 1 (by decide)
theorem powL_zero (k : Nat) : ∀ x acc, powL k x 0 acc = acc := by
  induction k with
  | zero => intro x acc; rfl
  | succ k ih => intro x acc; simp only [powL, Nat.zero_div]; rw [if_neg (by decide)]; exact ih _ _

theorem impl_pow_loop (d : Nat) : ∀ (k x n acc : Nat), x < 256 → acc < 256 → n < 2 ^ d → d ≤ 10 → d + 11 < k → impl_FieldPow.l0 k (x : Int) (n : Int) (acc : Int) = some ((powL d x n acc : Nat) : Int) := by
  induction d with
  | zero =>
    intro k x n acc hx hc hn _ hk
    obtain ⟨k, rfl⟩ : ∃ q, k = q + 1 := ⟨k - 1, by omega⟩
    have : n = 0 := by simpa using hn
    subst this
    simp only [impl_FieldPow.l0, powL]; rw [if_neg (by omega)]
  | succ d ih =>
    intro k x n acc hx hc hn h10 hk
    obtain ⟨k, rfl⟩ : ∃ q, k = q + 1 := ⟨k - 1, by omega⟩
    have hp : 2 ^ (d + 1) = 2 * 2 ^ d := by rw [Nat.pow_succ]; omega
    have hp8 : 2 ^ (d + 1) ≤ 2 ^ 10 := Nat.pow_le_pow_right (by decide) h10
    by_cases n0 : n = 0
    · subst n0
      simp only [impl_FieldPow.l0, powL_zero]; rw [if_neg (by omega)]
    · simp only [impl_FieldPow.l0, powL]
      rw [if_pos (by omega), and_one n (by omega), impl_mul k (by omega) acc x hc hx, impl_mul k (by omega) x x hx hx, show ((n : Int) / 2) = ((n / 2 : Nat) : Int) by omega]
      simp only [Option.bind_some]
      by_cases o : n % 2 = 1
      · rw [if_pos (by omega), if_pos o]
        exact ih k _ _ _ (gm_lt _ hx) (gm_lt _ hc) (by omega) (by omega) (by omega)
      · rw [if_neg (by omega), if_neg o]
        exact ih k _ _ _ (gm_lt _ hx) hc (by omega) (by omega) (by omega)
theorem impl_pow (k : Nat) (hk : 30 ≤ k) (a n : Nat) (ha : a < 256) (hn : n ≤ 1000) : impl_FieldPow.f k (a : Int) (n : Int) = some ((pw a n : Nat) : Int) := by
  obtain ⟨k, rfl⟩ : ∃ q, k = q + 1 := ⟨k - 1, by omega⟩
  have hw : impl_within.f (n : Int) 0 1000 = some true := by
    unfold impl_within.f; rw [if_pos (by omega), decide_eq_true (by omega)]
  have e := impl_pow_loop 10 k a n 1 ha (by decide) (by omega) (by omega) (by omega)
  simp only [impl_FieldPow.f, impl_byte a ha, hw, Option.bind_some, if_true, Bool.not_true, impl_FieldPow.j0, Bool.false_eq_true, if_false]
  exact e

theorem impl_inv (k : Nat) (hk : 30 ≤ k) (a : Nat) (ha : a < 256) : impl_FieldInverse.f k (a : Int) = some ((pw a 254 : Nat) : Int) := by
  have e := impl_pow k hk a 254 ha (by omega)
  unfold impl_FieldInverse.f
  rw [show (254 : Int) = ((254 : Nat) : Int) from rfl, e]; rfl

theorem impl_box_loop (k b : Nat) (hb : b < 256) : impl_BoxOf.l0 (k + 5) (b : Int) (Go.bits .xor .i64 (b : Int) 99) 1 = some ((boxN b : Nat) : Int) := by
  have x0 : Go.bits .xor .i64 (b : Int) 99 = (((99 ^^^ trn b 0) : Nat) : Int) := by
    have e := of_all trn0 b hb
    simp only [beq_iff_eq] at e
    rw [e, Nat.xor_comm]
    exact xor_i64 b 99 (by omega) (by decide)
  have l0 : 99 ^^^ trn b 0 < 256 := xlt (by decide) (trn_lt _ _)
  have l1 := xlt l0 (trn_lt b 1)
  have l2 := xlt l1 (trn_lt b 2)
  have l3 := xlt l2 (trn_lt b 3)
  have t1 := trn_val b 1 hb (by decide) 1 7 rfl rfl
  have t2 := trn_val b 2 hb (by decide) 2 6 rfl rfl
  have t3 := trn_val b 3 hb (by decide) 3 5 rfl rfl
  have t4 := trn_val b 4 hb (by decide) 4 4 rfl rfl
  have q := trn_lt b
  have s1 : impl_BoxOf.l0 (k + 5) (b : Int) (((99 ^^^ trn b 0) : Nat) : Int) 1 = impl_BoxOf.l0 (k + 4) (b : Int) ((((99 ^^^ trn b 0) ^^^ trn b 1 : Nat)) : Int) 2 := by
    rw [impl_BoxOf.l0]
    simp only [(show wrap64 ((8 : Int) - 1) = 7 by unfold wrap64; decide), (show wrap64 ((1 : Int) + 1) = 2 by unfold wrap64; decide), t1]
    rw [if_pos (by decide), if_pos (by decide), if_pos (by decide), xor_i64 _ _ (by omega) (by have := q 1; omega)]
  have s2 : impl_BoxOf.l0 (k + 4) (b : Int) ((((99 ^^^ trn b 0) ^^^ trn b 1 : Nat)) : Int) 2 = impl_BoxOf.l0 (k + 3) (b : Int) (((((99 ^^^ trn b 0) ^^^ trn b 1) ^^^ trn b 2 : Nat)) : Int) 3 := by
    rw [impl_BoxOf.l0]
    simp only [(show wrap64 ((8 : Int) - 2) = 6 by unfold wrap64; decide), (show wrap64 ((2 : Int) + 1) = 3 by unfold wrap64; decide), t2]
    rw [if_pos (by decide), if_pos (by decide), if_pos (by decide), xor_i64 _ _ (by omega) (by have := q 2; omega)]
  have s3 : impl_BoxOf.l0 (k + 3) (b : Int) (((((99 ^^^ trn b 0) ^^^ trn b 1) ^^^ trn b 2 : Nat)) : Int) 3 = impl_BoxOf.l0 (k + 2) (b : Int) ((((((99 ^^^ trn b 0) ^^^ trn b 1) ^^^ trn b 2) ^^^ trn b 3 : Nat)) : Int) 4 := by
    rw [impl_BoxOf.l0]
    simp only [(show wrap64 ((8 : Int) - 3) = 5 by unfold wrap64; decide), (show wrap64 ((3 : Int) + 1) = 4 by unfold wrap64; decide), t3]
    rw [if_pos (by decide), if_pos (by decide), if_pos (by decide), xor_i64 _ _ (by omega) (by have := q 3; omega)]
  have s4 : impl_BoxOf.l0 (k + 2) (b : Int) ((((((99 ^^^ trn b 0) ^^^ trn b 1) ^^^ trn b 2) ^^^ trn b 3 : Nat)) : Int) 4 = impl_BoxOf.l0 (k + 1) (b : Int) ((boxN b : Nat) : Int) 5 := by
    rw [impl_BoxOf.l0]
    simp only [(show wrap64 ((8 : Int) - 4) = 4 by unfold wrap64; decide), (show wrap64 ((4 : Int) + 1) = 5 by unfold wrap64; decide), t4]
    rw [if_pos (by decide), if_pos (by decide), if_pos (by decide), xor_i64 _ _ (by omega) (by have := q 4; omega)]
    rfl
  rw [x0, s1, s2, s3, s4, impl_BoxOf.l0, if_neg (by decide)]
theorem impl_box (k : Nat) (hk : 30 ≤ k) (a : Nat) (ha : a < 256) : impl_BoxOf.f k (a : Int) = some ((boxN (pw a 254) : Nat) : Int) := by
  simp only [impl_BoxOf.f, impl_byte a ha, impl_inv k hk a ha, Option.bind_some, if_true]
  obtain ⟨k, rfl⟩ : ∃ q, k = q + 5 := ⟨k - 5, by omega⟩
  exact impl_box_loop k _ (pw_lt a 254)

/-- The box, as a table. -/
def boxT : List Nat := [99, 124, 119, 123, 242, 107, 111, 197, 48, 1, 103, 43, 254, 215, 171, 118, 202, 130, 201, 125, 250, 89, 71, 240, 173, 212, 162, 175, 156, 164, 114, 192, 183, 253, 147, 38, 54, 63, 247, 204, 52, 165, 229, 241, 113, 216, 49, 21, 4, 199, 35, 195, 24, 150, 5, 154, 7, 18, 128, 226, 235, 39, 178, 117, 9, 131, 44, 26, 27, 110, 90, 160, 82, 59, 214, 179, 41, 227, 47, 132, 83, 209, 0, 237, 32, 252, 177, 91, 106, 203, 190, 57, 74, 76, 88, 207, 208, 239, 170, 251, 67, 77, 51, 133, 69, 249, 2, 127, 80, 60, 159, 168, 81, 163, 64, 143, 146, 157, 56, 245, 188, 182, 218, 33, 16, 255, 243, 210, 205, 12, 19, 236, 95, 151, 68, 23, 196, 167, 126, 61, 100, 93, 25, 115, 96, 129, 79, 220, 34, 42, 144, 136, 70, 238, 184, 20, 222, 94, 11, 219, 224, 50, 58, 10, 73, 6, 36, 92, 194, 211, 172, 98, 145, 149, 228, 121, 231, 200, 55, 109, 141, 213, 78, 169, 108, 86, 244, 234, 101, 122, 174, 8, 186, 120, 37, 46, 28, 166, 180, 198, 232, 221, 116, 31, 75, 189, 139, 138, 112, 62, 181, 102, 72, 3, 246, 14, 97, 53, 87, 185, 134, 193, 29, 158, 225, 248, 152, 17, 105, 217, 142, 148, 155, 30, 135, 233, 206, 85, 40, 223, 140, 161, 137, 13, 191, 230, 66, 104, 65, 153, 45, 15, 176, 84, 187, 22]
def box (a : Nat) : Nat := boxN (pw a 254)
theorem boxT_eq : allB 256 (fun i => box i == boxT.getD i 0) = true := by decide +kernel
theorem boxT_inv : allB 256 (fun i => boxT.idxOf (boxT.getD i 0) == i) = true := by decide +kernel
theorem box_lt (a : Nat) : box a < 256 := boxN_lt _
theorem box_inj {i j : Nat} (hi : i < 256) (hj : j < 256) (h : box i = box j) : i = j := by
  have a1 := of_all boxT_eq i hi
  have a2 := of_all boxT_eq j hj
  have b1 := of_all boxT_inv i hi
  have b2 := of_all boxT_inv j hj
  simp only [beq_iff_eq] at a1 a2 b1 b2
  rw [← b1, ← b2, ← a1, ← a2, h]
theorem boxT_at {i : Nat} (hi : i < 256) : box i = boxT.getD i 0 := by
  have a1 := of_all boxT_eq i hi
  simpa using a1

theorem impl_shift16 (k : Nat) (hk : 30 ≤ k) (a : ByteArray) (h16 : a.size = 16) : impl_ShiftRows.f k a = some (strOfNums [bt a 0, bt a 5, bt a 10, bt a 15, bt a 4, bt a 9, bt a 14, bt a 3, bt a 8, bt a 13, bt a 2, bt a 7, bt a 12, bt a 1, bt a 6, bt a 11]) := by
  obtain ⟨k, rfl⟩ : ∃ q, k = q + 30 := ⟨k - 30, by omega⟩
  simp [impl_ShiftRows.f, impl_ShiftRows.l0, h16, wrap64, List.replicate]

theorem and255 (x : Int) : 0 ≤ Go.bits .and .i64 x 255 ∧ Go.bits .and .i64 x 255 ≤ 255 := by
  have h : (BitVec.ofInt 64 x &&& BitVec.ofInt 64 255).toNat ≤ 255 := by
    rw [BitVec.toNat_and]
    exact Nat.le_trans Nat.and_le_right (by decide)
  have e : Go.bits .and .i64 x 255 = (((BitVec.ofInt 64 x &&& BitVec.ofInt 64 255).toNat : Nat) : Int) := by
    show IntKind.i64.wrap (((BitVec.ofInt 64 x &&& BitVec.ofInt 64 255).toNat : Nat) : Int) = _
    exact wr_i64 _ (Int.natCast_nonneg _) (by omega)
  omega
/-- A reader's state: its place lies in the draw. -/
def Cur (s : List Int) (i : Int) : Prop := 0 ≤ i ∧ i ≤ s.length ∧ s.length ≤ 9223372036854775806
theorem new_loop (s : List Int) (hs : s.length ≤ 9223372036854775806) (d : Nat) : ∀ (k i : Nat) (h : Int), i + d = s.length → d < k → ∃ h', spec_l01New.l0 k s h (i : Int) = some (s, 0, h') := by
  induction d with
  | zero =>
    intro k i h hi hk
    obtain ⟨k, rfl⟩ : ∃ q, k = q + 1 := ⟨k - 1, by omega⟩
    exact ⟨h, by simp only [spec_l01New.l0]; rw [if_neg (by omega)]⟩
  | succ d ih =>
    intro k i h hi hk
    obtain ⟨k, rfl⟩ : ∃ q, k = q + 1 := ⟨k - 1, by omega⟩
    by_cases h4 : (i : Int) < 4000
    · obtain ⟨h', e⟩ := ih k (i + 1) (Go.bits .and .i64 (wrap64 ((wrap64 ((wrap64 (h * 131)) + (wrap64 (rd s i)))) + 7)) 1073741823) (by omega) (by omega)
      refine ⟨h', ?_⟩
      simp only [spec_l01New.l0]
      rw [if_pos (by omega), if_pos h4, if_pos (by omega), w64 (n := (i : Int) + 1) (by omega) (by omega), show (i : Int) + 1 = ((i + 1 : Nat) : Int) by omega]
      exact e
    · exact ⟨h, by simp only [spec_l01New.l0]; rw [if_pos (by omega), if_neg h4]⟩
theorem new_some (s : List Int) (hs : s.length ≤ 9223372036854775806) (k : Nat) (hk : s.length < k) : ∃ h', spec_l01New.f k s = some (s, 0, h') := by
  obtain ⟨h', e⟩ := new_loop s hs s.length k 0 (wrap64 (94701 + (s.length : Int))) (by omega) hk
  exact ⟨h', by unfold spec_l01New.f; exact e⟩
theorem cur_new {s : List Int} (hs : s.length ≤ 9223372036854775806) : Cur s 0 := ⟨by omega, by omega, hs⟩
theorem byte_some {s : List Int} {i : Int} (h : Int) (hc : Cur s i) : ∃ r, spec_l01Byte.f s i h = some r ∧ 0 ≤ r.1 ∧ r.1 ≤ 255 ∧ Cur s r.2.1 := by
  obtain ⟨h0, h1, h2⟩ := hc
  unfold spec_l01Byte.f
  by_cases hl : i < (s.length : Int)
  · rw [if_pos hl, if_pos h0]
    refine ⟨_, rfl, (and255 _).1, (and255 _).2, ?_⟩
    show Cur s (wrap64 (i + 1))
    rw [w64 (by omega) (by omega)]
    exact ⟨by omega, by omega, h2⟩
  · rw [if_neg hl]
    exact ⟨_, rfl, (and255 _).1, (and255 _).2, h0, h1, h2⟩
theorem below_some {s : List Int} {i : Int} (h n : Int) (hn : 1 ≤ n) (hc : Cur s i) : ∃ r, spec_l01Below.f s i h n = some r ∧ 0 ≤ r.1 ∧ r.1 < n ∧ Cur s r.2.1 := by
  unfold spec_l01Below.f
  rw [if_neg (by omega)]
  by_cases h256 : n ≤ 256
  · rw [if_pos h256]
    obtain ⟨r, e, r0, r1, c⟩ := byte_some h hc
    rw [e]; simp only [Option.bind_some]; rw [if_neg (by omega)]
    have hm : Int.tmod r.1 n = r.1 % n := Int.tmod_eq_emod_of_nonneg r0
    refine ⟨_, rfl, ?_, ?_, c⟩
    · show 0 ≤ Int.tmod r.1 n
      rw [hm]; exact Int.emod_nonneg _ (by omega)
    · show Int.tmod r.1 n < n
      rw [hm]; exact Int.emod_lt_of_pos _ (by omega)
  · rw [if_neg h256]
    obtain ⟨a, ea, a0, a1, ca⟩ := byte_some h hc
    obtain ⟨b, eb, b0, b1, cb⟩ := byte_some a.2.2 ca
    obtain ⟨c, ec, c0, c1, cc⟩ := byte_some b.2.2 cb
    obtain ⟨d, ed, d0, d1, cd⟩ := byte_some c.2.2 cc
    rw [ea]; simp only [Option.bind_some]; rw [eb]; simp only [Option.bind_some]; rw [ec]; simp only [Option.bind_some]; rw [ed]; simp only [Option.bind_some]; rw [if_neg (by omega)]
    have e : wrap64 ((wrap64 ((wrap64 ((wrap64 (a.1 * 16777216)) + (wrap64 (b.1 * 65536)))) + (wrap64 (c.1 * 256)))) + d.1) = a.1 * 16777216 + b.1 * 65536 + c.1 * 256 + d.1 := by
      rw [w64 (n := a.1 * 16777216) (by omega) (by omega), w64 (n := b.1 * 65536) (by omega) (by omega), w64 (n := c.1 * 256) (by omega) (by omega), w64 (n := a.1 * 16777216 + b.1 * 65536) (by omega) (by omega), w64 (n := a.1 * 16777216 + b.1 * 65536 + c.1 * 256) (by omega) (by omega), w64 (by omega) (by omega)]
    rw [e]
    have hm : Int.tmod (a.1 * 16777216 + b.1 * 65536 + c.1 * 256 + d.1) n = (a.1 * 16777216 + b.1 * 65536 + c.1 * 256 + d.1) % n := Int.tmod_eq_emod_of_nonneg (by omega)
    refine ⟨_, rfl, ?_, ?_, cd⟩
    · show 0 ≤ Int.tmod _ n
      rw [hm]; exact Int.emod_nonneg _ (by omega)
    · show Int.tmod _ n < n
      rw [hm]; exact Int.emod_lt_of_pos _ (by omega)

theorem text_loop (s : List Int) (n : Int) (hn : n ≤ 5000) (d : Nat) : ∀ (k i : Nat) (l : List Int) (c h : Int), (i : Int) + d = n → l.length = i → Cur s c → d < k →
    ∃ r, spec_l01Text.l0 k n l (i : Int) s c h = some r ∧ (r.1.size : Int) = n ∧ Cur s r.2.1 := by
  induction d with
  | zero =>
    intro k i l c h hi hl hc hk
    obtain ⟨k, rfl⟩ : ∃ q, k = q + 1 := ⟨k - 1, by omega⟩
    refine ⟨(strOfNums l, c, h), ?_, ?_, hc⟩
    · simp only [spec_l01Text.l0]; rw [if_neg (by omega)]
    · simp only [strOf_size]; omega
  | succ d ih =>
    intro k i l c h hi hl hc hk
    obtain ⟨k, rfl⟩ : ∃ q, k = q + 1 := ⟨k - 1, by omega⟩
    obtain ⟨b, e, _, _, hb⟩ := byte_some h hc
    obtain ⟨r, er, rs, rc⟩ := ih k (i + 1) (l ++ [b.1 % 256]) b.2.1 b.2.2 (by omega) (by simp [hl]) hb (by omega)
    refine ⟨r, ?_, rs, rc⟩
    simp only [spec_l01Text.l0]
    rw [if_pos (by omega), e]
    simp only [ob]
    rw [if_pos (by omega), w64 (by omega) (by omega), show (i : Int) + 1 = ((i + 1 : Nat) : Int) by omega]
    exact er
theorem text_some {s : List Int} {c : Int} (h n : Int) (h0 : 0 ≤ n) (hn : n ≤ 5000) (hc : Cur s c) (k : Nat) (hk : 5002 < k) : ∃ r, spec_l01Text.f k s c h n = some r ∧ (r.1.size : Int) = n ∧ Cur s r.2.1 := by
  obtain ⟨k, rfl⟩ : ∃ q, k = q + 1 := ⟨k - 1, by omega⟩
  obtain ⟨r, e, rs, rc⟩ := text_loop s n hn n.toNat k 0 [] c h (by omega) rfl hc (by omega)
  rw [Int.natCast_zero] at e
  refine ⟨r, ?_, rs, rc⟩
  unfold spec_l01Text.f
  rw [if_neg (by omega)]
  simp only [spec_l01Text.j0]
  exact e

theorem pick_some {s : List Int} {c : Int} (h : Int) (l : List Int) (hl : 1 ≤ l.length) (hc : Cur s c) : ∃ r, spec_l01PickInt.f s c h l = some r ∧ r.1 ∈ l ∧ Cur s r.2.1 := by
  obtain ⟨b, e, b0, b1, hb⟩ := below_some (s := s) (i := c) h (l.length : Int) (by omega) hc
  refine ⟨(rd l b.1, b.2.1, b.2.2), ?_, ?_, hb⟩
  · unfold spec_l01PickInt.f
    rw [e]
    simp only [ob]
    rw [if_pos b0, if_pos b1]
  · show rd l b.1 ∈ l
    unfold rd
    have hlt : b.1.toNat < l.length := by omega
    rw [List.getD_eq_getElem?_getD, List.getElem?_eq_getElem hlt]
    exact List.getElem_mem hlt

/-- Byte j of the exclusive or of two texts. -/
def xorAt (a b : ByteArray) (j : Nat) : Int := Go.bits .xor .u8 (bt a (j : Int)) (bt b (j : Int))
theorem spec_xor_loop (a b : ByteArray) (hs : a.size = b.size) (hn : a.size ≤ 140737488351232) (d : Nat) : ∀ (k i : Nat), i + d = a.size → d < k → spec_XorText.l0 k a b ((List.range i).map (xorAt a b)) (i : Int) = some (strOfNums ((List.range a.size).map (xorAt a b))) := by
  induction d with
  | zero =>
    intro k i hi hk
    obtain ⟨k, rfl⟩ : ∃ q, k = q + 1 := ⟨k - 1, by omega⟩
    obtain rfl : i = a.size := by omega
    simp only [spec_XorText.l0]; rw [if_neg (by omega)]
  | succ d ih =>
    intro k i hi hk
    obtain ⟨k, rfl⟩ : ∃ q, k = q + 1 := ⟨k - 1, by omega⟩
    have e := ih k (i + 1) (by omega) (by omega)
    rw [List.range_succ, List.map_append] at e
    simp only [spec_XorText.l0]
    rw [if_pos (by omega), if_pos (by omega), if_pos (by omega), if_pos (by simp; omega), w64 (by omega) (by omega), show (i : Int) + 1 = ((i + 1 : Nat) : Int) by omega]
    exact e
theorem spec_xor (a b : ByteArray) (hn : a.size ≤ 140737488351232) (k : Nat) (hk : a.size < k) : spec_XorText.f k a b = some (if a.size = b.size then strOfNums ((List.range a.size).map (xorAt a b)) else ⟨#[]⟩) := by
  unfold spec_XorText.f
  by_cases h : a.size = b.size
  · rw [if_pos (by omega), if_pos h]
    have e := spec_xor_loop a b h hn a.size k 0 (by omega) hk
    rw [Int.natCast_zero] at e
    exact e
  · rw [if_neg (by omega), if_neg h]

theorem bn_strOf (xs : List Int) (j : Nat) (hj : j < xs.length) (h0 : 0 ≤ xs.getD j 0) (h1 : xs.getD j 0 < 256) : (bn (strOfNums xs) j : Int) = xs.getD j 0 := by
  unfold bn
  rw [strOf_data]
  rw [List.getD_eq_getElem?_getD, List.getElem?_map, List.getElem?_eq_getElem hj]
  rw [List.getD_eq_getElem?_getD, List.getElem?_eq_getElem hj] at h0 h1 ⊢
  simp only [Option.map_some, Option.getD_some] at h0 h1 ⊢
  rw [UInt8.toNat_ofNat']
  omega
theorem xorAt_val (a b : ByteArray) (j : Nat) : xorAt a b j = ((bn a j ^^^ bn b j : Nat) : Int) := by
  unfold xorAt
  rw [bt_bn, bt_bn]
  exact xor_u8 _ _ (bn_lt a j) (bn_lt b j)
/-- The exclusive or of two texts of one length. -/
def xr (a b : ByteArray) : ByteArray := strOfNums ((List.range a.size).map (xorAt a b))
theorem xr_size (a b : ByteArray) : (xr a b).size = a.size := by unfold xr; rw [strOf_size]; simp
theorem bn_xr (a b : ByteArray) (j : Nat) (hj : j < a.size) : bn (xr a b) j = bn a j ^^^ bn b j := by
  have hl : bn a j ^^^ bn b j < 256 := Nat.xor_lt_two_pow (n := 8) (bn_lt a j) (bn_lt b j)
  have hg : ((List.range a.size).map (xorAt a b)).getD j 0 = ((bn a j ^^^ bn b j : Nat) : Int) := by
    rw [← xorAt_val, List.getD_eq_getElem?_getD, List.getElem?_map, List.getElem?_range hj]; rfl
  have e := bn_strOf ((List.range a.size).map (xorAt a b)) j (by simpa using hj) (by rw [hg]; omega) (by rw [hg]; omega)
  rw [hg] at e
  unfold xr
  omega
theorem xr_back {a b : ByteArray} : (xr (xr a b) b).data.toList = a.data.toList := by
  apply bytes_ext (by rw [xr_size, xr_size])
  intro i hi
  rw [xr_size, xr_size] at hi
  rw [bn_xr _ _ _ (by rw [xr_size]; exact hi), bn_xr _ _ _ hi, Nat.xor_assoc, Nat.xor_self, Nat.xor_zero]

def shB (a : ByteArray) : ByteArray := strOfNums ((List.range 16).map fun i => ((bn a (5 * i % 16) : Nat) : Int))
theorem impl_sh (k : Nat) (hk : 30 ≤ k) (a : ByteArray) (h16 : a.size = 16) : impl_ShiftRows.f k a = some (shB a) := by
  rw [impl_shift16 k hk a h16]
  unfold shB
  congr 2
  show [bt a ((0 : Nat) : Int), bt a ((5 : Nat) : Int), bt a ((10 : Nat) : Int), bt a ((15 : Nat) : Int), bt a ((4 : Nat) : Int), bt a ((9 : Nat) : Int), bt a ((14 : Nat) : Int), bt a ((3 : Nat) : Int), bt a ((8 : Nat) : Int), bt a ((13 : Nat) : Int), bt a ((2 : Nat) : Int), bt a ((7 : Nat) : Int), bt a ((12 : Nat) : Int), bt a ((1 : Nat) : Int), bt a ((6 : Nat) : Int), bt a ((11 : Nat) : Int)] = _
  simp only [bt_bn]
  rfl
theorem shB_size (a : ByteArray) : (shB a).size = 16 := by unfold shB; rw [strOf_size]; simp
theorem bn_sh (a : ByteArray) (i : Nat) (hi : i < 16) : bn (shB a) i = bn a (5 * i % 16) := bn_str (fun i => bn a (5 * i % 16)) 16 i (fun _ => bn_lt _ _) hi
theorem sh4 (a : ByteArray) (h16 : a.size = 16) : (shB (shB (shB (shB a)))).data.toList = a.data.toList := by
  apply bytes_ext (by rw [shB_size, h16])
  intro i hi
  rw [shB_size] at hi
  rw [bn_sh _ _ hi, bn_sh _ _ (by omega), bn_sh _ _ (by omega), bn_sh _ _ (by omega)]
  congr 1
  omega
theorem xlc (a b c : Nat) : a ^^^ (b ^^^ c) = b ^^^ (a ^^^ c) := by rw [← Nat.xor_assoc, Nat.xor_comm a b, Nat.xor_assoc]
theorem xcl (a b : Nat) : a ^^^ (a ^^^ b) = b := by rw [← Nat.xor_assoc, Nat.xor_self, Nat.zero_xor]
theorem dbl_mix {a b c d : Nat} (ha : a < 256) (hb : b < 256) (hc : c < 256) (hd : d < 256) : dbl (mix4 a b c d) = mix4 (dbl a) (dbl b) (dbl c) (dbl d) := by
  unfold mix4
  rw [dbl_lin (xlt (xlt (dbl_lt ha) (xlt (dbl_lt hb) hb)) hc) hd, dbl_lin (xlt (dbl_lt ha) (xlt (dbl_lt hb) hb)) hc, dbl_lin (dbl_lt ha) (xlt (dbl_lt hb) hb), dbl_lin (dbl_lt hb) hb]
theorem mix_two {a b c d : Nat} (ha : a < 256) (hb : b < 256) (hc : c < 256) (hd : d < 256) :
    mix4 (mix4 a b c d) (mix4 b c d a) (mix4 c d a b) (mix4 d a b c) = dbl (dbl a) ^^^ a ^^^ dbl (dbl c) := by
  have e : mix4 (mix4 a b c d) (mix4 b c d a) (mix4 c d a b) (mix4 d a b c) = dbl (mix4 a b c d) ^^^ (dbl (mix4 b c d a) ^^^ mix4 b c d a) ^^^ mix4 c d a b ^^^ mix4 d a b c := rfl
  rw [e, dbl_mix ha hb hc hd, dbl_mix hb hc hd ha]
  unfold mix4
  generalize dbl (dbl a) = a2
  generalize dbl (dbl b) = b2
  generalize dbl (dbl c) = c2
  generalize dbl a = a1
  generalize dbl b = b1
  generalize dbl c = c1
  generalize dbl d = d1
  simp only [Nat.xor_assoc, Nat.xor_comm, xlc, Nat.xor_self, Nat.xor_zero, Nat.zero_xor, xcl]
theorem mix_back {a c : Nat} (ha : a < 256) (hc : c < 256) :
    dbl (dbl (dbl (dbl a) ^^^ a ^^^ dbl (dbl c))) ^^^ (dbl (dbl a) ^^^ a ^^^ dbl (dbl c)) ^^^ dbl (dbl (dbl (dbl c) ^^^ c ^^^ dbl (dbl a))) = a := by
  have la := dbl_lt (dbl_lt ha)
  have lc := dbl_lt (dbl_lt hc)
  have q : ∀ {x y z : Nat}, x < 256 → y < 256 → z < 256 → dbl (dbl (x ^^^ y ^^^ z)) = dbl (dbl x) ^^^ dbl (dbl y) ^^^ dbl (dbl z) := fun hx hy hz => by
    rw [dbl_lin (xlt hx hy) hz, dbl_lin hx hy, dbl_lin (xlt (dbl_lt hx) (dbl_lt hy)) (dbl_lt hz), dbl_lin (dbl_lt hx) (dbl_lt hy)]
  rw [q la ha lc, q lc hc la]
  generalize dbl (dbl (dbl (dbl a))) = a4
  generalize dbl (dbl (dbl (dbl c))) = c4
  generalize dbl (dbl a) = a2
  generalize dbl (dbl c) = c2
  simp only [Nat.xor_assoc, Nat.xor_comm, xlc, Nat.xor_self, Nat.xor_zero, Nat.zero_xor, xcl]
/-- Byte q of column c. -/
def col (a : ByteArray) (c q : Nat) : Nat := bn a (4 * c + q % 4)
theorem col_lt (a : ByteArray) (c q : Nat) : col a c q < 256 := bn_lt _ _
theorem col_mix (a : ByteArray) (c q : Nat) (hc : c < 4) : col (mixB a) c q = mix4 (col a c q) (col a c (q + 1)) (col a c (q + 2)) (col a c (q + 3)) := by
  have hq : q % 4 < 4 := Nat.mod_lt _ (by decide)
  unfold col
  rw [bn_mix a _ (by omega)]
  unfold mixN
  rw [show (4 * c + q % 4) / 4 = c by omega, show (4 * c + q % 4) % 4 = q % 4 by omega, show (q % 4 + 1) % 4 = (q + 1) % 4 by omega, show (q % 4 + 2) % 4 = (q + 2) % 4 by omega, show (q % 4 + 3) % 4 = (q + 3) % 4 by omega]
theorem col_per (a : ByteArray) (c q : Nat) : col a c (q + 4) = col a c q := by
  unfold col
  rw [show (q + 4) % 4 = q % 4 by omega]
theorem col_two (a : ByteArray) (c q : Nat) (hc : c < 4) : col (mixB (mixB a)) c q = dbl (dbl (col a c q)) ^^^ col a c q ^^^ dbl (dbl (col a c (q + 2))) := by
  rw [col_mix _ c q hc, col_mix _ c q hc, col_mix _ c (q + 1) hc, col_mix _ c (q + 2) hc, col_mix _ c (q + 3) hc]
  have p0 : col a c (q + 1 + 3) = col a c q := col_per a c q
  have p1 : col a c (q + 2 + 2) = col a c q := col_per a c q
  have p2 : col a c (q + 3 + 1) = col a c q := col_per a c q
  have p3 : col a c (q + 2 + 3) = col a c (q + 1) := col_per a c (q + 1)
  have p4 : col a c (q + 3 + 2) = col a c (q + 1) := col_per a c (q + 1)
  have p5 : col a c (q + 3 + 3) = col a c (q + 2) := col_per a c (q + 2)
  rw [p0, p3, p5]
  exact mix_two (col_lt _ _ _) (col_lt _ _ _) (col_lt _ _ _) (col_lt _ _ _)
theorem mixB4 (a : ByteArray) (h16 : a.size = 16) : (mixB (mixB (mixB (mixB a)))).data.toList = a.data.toList := by
  apply bytes_ext (by rw [mixB_size, h16])
  intro i hi
  rw [mixB_size] at hi
  have e := col_two (mixB (mixB a)) (i / 4) (i % 4) (by omega)
  rw [col_two a (i / 4) (i % 4) (by omega), col_two a (i / 4) (i % 4 + 2) (by omega), show col a (i / 4) (i % 4 + 2 + 2) = col a (i / 4) (i % 4) from col_per _ _ _, mix_back (col_lt _ _ _) (col_lt _ _ _)] at e
  unfold col at e
  rw [show 4 * (i / 4) + i % 4 % 4 = i by omega] at e
  exact e
theorem mix4_lin {a b c d a' b' c' d' : Nat} (ha : a < 256) (hb : b < 256) (ha' : a' < 256) (hb' : b' < 256) :
    mix4 (a ^^^ a') (b ^^^ b') (c ^^^ c') (d ^^^ d') = mix4 a b c d ^^^ mix4 a' b' c' d' := by
  unfold mix4
  rw [dbl_lin ha ha', dbl_lin hb hb']
  generalize dbl a = x1
  generalize dbl b = x2
  generalize dbl a' = x3
  generalize dbl b' = x4
  simp only [Nat.xor_assoc, Nat.xor_comm, xlc]
theorem mix_lin (a b : ByteArray) (ha : a.size = 16) (hb : b.size = 16) : (xr (mixB a) (mixB b)).data.toList = (mixB (xr a b)).data.toList := by
  apply bytes_ext (by rw [xr_size, mixB_size, mixB_size])
  intro i hi
  rw [xr_size, mixB_size] at hi
  rw [bn_xr _ _ _ (by rw [mixB_size]; exact hi), bn_mix a i hi, bn_mix b i hi, bn_mix _ i hi]
  unfold mixN
  rw [bn_xr _ _ _ (by omega), bn_xr _ _ _ (by omega), bn_xr _ _ _ (by omega), bn_xr _ _ _ (by omega), mix4_lin (bn_lt _ _) (bn_lt _ _) (bn_lt _ _) (bn_lt _ _)]
theorem boxText_some (k : Nat) (hk : 30 ≤ k) (a : ByteArray) (ha : a.size ≤ 281474976710656) : impl_BoxText.f k a = some (strOfNums ((List.range a.size).map fun i => ((box (bn a i) : Nat) : Int))) := by
  unfold impl_BoxText.f
  rw [if_pos ha, optL_of a.size (g := fun i => ((box (bn a i) : Nat) : Int)) (fun i _ => by
    rw [bt_bn, impl_box k hk _ (bn_lt _ _), ob]
    have := box_lt (bn a i)
    show some (((box (bn a i) : Nat) : Int) % 256) = _
    congr 1
    omega), ob]
theorem boxZero (k : Nat) (hk : 30 ≤ k) : ∃ r, impl_BoxText.f k (⟨#[0]⟩ : ByteArray) = some r ∧ r.toList = ([99] : List UInt8) := by
  refine ⟨_, boxText_some k hk _ (by decide), ?_⟩
  rw [strOf_toList, show ((⟨#[0]⟩ : ByteArray)).size = 1 from rfl]
  have e : box (bn (⟨#[0]⟩ : ByteArray) 0) = 99 := boxT_at (i := 0) (by decide)
  show [UInt8.ofNat ((box (bn (⟨#[0]⟩ : ByteArray) 0) : Nat) : Int).toNat] = [99]
  rw [e]
  rfl
theorem FnColumns : laws_FnColumns.Pure := by
  intro l h1 h2 _
  refine rounds_of (l.length + 6000) fun k hk => ?_
  unfold laws_FnColumns.f laws_big.f
  simp only [ob]
  by_cases hb : (l.length : Int) > 1048576
  · rw [if_pos (decide_eq_true hb)]
  · rw [if_neg (by simpa using hb)]
    have hc := cur_new (s := l) (by omega)
    obtain ⟨h', e0⟩ := new_some l (by omega) k (by omega)
    obtain ⟨m, em, mm, cm⟩ := pick_some (s := l) (c := 0) h' [16, 16, 16, 16, 16, 16, 15, 17, 0] (by simp) hc
    have hm : 0 ≤ m.1 ∧ m.1 ≤ 17 := by
      simp only [List.mem_cons, List.not_mem_nil, or_false] at mm
      omega
    obtain ⟨b, ebx, sb, cb⟩ := text_some m.2.2 m.1 hm.1 (by omega) cm k (by omega)
    have ed : spec_DrawShiftRows.f k l = some b.1 := by
      unfold spec_DrawShiftRows.f spec_l06Bytes.f
      rw [e0]; simp only [ob]
      rw [em]; simp only [ob]
      rw [ebx]; simp only [ob]
    have zb : b.1.size ≤ 17 := by omega
    rw [ed]
    simp only [ob]
    generalize b.1 = a at zb
    by_cases h16 : a.size = 16
    · rw [if_pos (by omega)]
      obtain ⟨k, rfl⟩ : ∃ q, k = q + 5 := ⟨k - 5, by omega⟩
      have w1 : wrap64 ((0 : Int) + 1) = 1 := w64 (by decide) (by decide)
      have w2 : wrap64 ((1 : Int) + 1) = 2 := w64 (by decide) (by decide)
      have w3 : wrap64 ((2 : Int) + 1) = 3 := w64 (by decide) (by decide)
      have w4 : wrap64 ((3 : Int) + 1) = 4 := w64 (by decide) (by decide)
      rw [laws_FnColumns.l0, if_pos (by decide), impl_sh _ (by omega) a h16, ob, impl_mix _ (by omega) a h16, ob, w1]
      rw [laws_FnColumns.l0, if_pos (by decide), impl_sh _ (by omega) _ (shB_size a), ob, impl_mix _ (by omega) _ (mixB_size a), ob, w2]
      rw [laws_FnColumns.l0, if_pos (by decide), impl_sh _ (by omega) _ (shB_size _), ob, impl_mix _ (by omega) _ (mixB_size _), ob, w3]
      rw [laws_FnColumns.l0, if_pos (by decide), impl_sh _ (by omega) _ (shB_size _), ob, impl_mix _ (by omega) _ (mixB_size _), ob, w4]
      rw [laws_FnColumns.l0, if_neg (by decide)]
      have eo : laws_others.f a = some (strOfNums ((List.range a.size).map (othAt a))) := by
        unfold laws_others.f
        rw [if_pos (by omega)]
      have so : (strOfNums ((List.range a.size).map (othAt a))).size = 16 := by rw [strOf_size]; simp; omega
      generalize strOfNums ((List.range a.size).map (othAt a)) = o at eo so
      rw [eo, ob, impl_mix _ (by omega) a h16, ob, impl_mix _ (by omega) o so, ob]
      have x1 := spec_xor (mixB a) (mixB o) (by rw [mixB_size]; omega) k (by rw [mixB_size]; omega)
      rw [if_pos (by rw [mixB_size, mixB_size])] at x1
      have x2 := spec_xor a o (by omega) k (by omega)
      rw [if_pos (by omega)] at x2
      rw [show spec_XorText.f k (mixB a) (mixB o) = some (xr (mixB a) (mixB o)) from x1, ob]
      rw [if_pos (by rw [toList_eq', toList_eq', sh4 a h16]), if_pos (by rw [toList_eq', toList_eq', mixB4 a h16])]
      rw [show spec_XorText.f k a o = some (xr a o) from x2, ob, impl_mix _ (by omega) _ (by rw [xr_size]; exact h16), ob]
      rw [if_pos (by rw [toList_eq', toList_eq', mix_lin a o h16 so])]
      obtain ⟨r, er, hr⟩ := boxZero k (by omega)
      rw [er, ob, if_pos hr, boxText_some k (by omega) a (by omega), ob, strOf_size]
      simp [h16]
    · rw [if_neg (by omega)]
      have es : impl_ShiftRows.f k a = some a := by
        unfold impl_ShiftRows.f
        rw [if_neg (by omega)]
      rw [es, ob, if_pos rfl, impl_mix_no k a h16, ob, if_pos rfl]
      obtain ⟨r, er, hr⟩ := boxZero k (by omega)
      rw [er, ob, hr]
      rfl
end Go.Proofs.Ytngdfchpknglhaa.Pure
