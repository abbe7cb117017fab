/- The law FnExactNumAt answers true at every string and every two numbers; no condition. -/
import Derived.Test.YtbnfhbbgmcpjgaaPFnExactNumAtx1
import Derived.OpenShut
namespace Go.Proofs.Ytbnfhbbgmcpjgaa.Pure
open Go.RowKit Go.Proofs.Ytbnfhbbgmcpjgaa.PFnExactNumAt Go.Proofs.YtbnfhbbgmcpjgaaW.PrintWords Go.Proofs.YtbnfhbbgmcpjgaaW.PrintLast Go.Proofs.YtbnfhbbgmcpjgaaW.PrintMore

theorem w64 {n : Int} (h0 : -9223372036854775808 ≤ n) (h1 : n ≤ 9223372036854775807) : wrap64 n = n := by
  unfold wrap64; omega
theorem bits_nat3 (k : IntKind) (j : Nat) (hj : j ≤ k.bits) (hk : ∀ n : Int, 0 ≤ n → n < 2 ^ j → k.wrap n = n) (a b : Nat) (ha : a < 2 ^ j) (hb : b < 2 ^ j) :
    Go.bits .and k a b = ((a &&& b : Nat) : Int) ∧ Go.bits .or k a b = ((a ||| b : Nat) : Int) ∧ Go.bits .xor k a b = ((a ^^^ b : Nat) : Int) := by
  have hp : 2 ^ j ≤ 2 ^ k.bits := Nat.pow_le_pow_right (by decide) hj
  have ha' : a % 2 ^ k.bits = a := Nat.mod_eq_of_lt (Nat.lt_of_lt_of_le ha hp)
  have hb' : b % 2 ^ k.bits = b := Nat.mod_eq_of_lt (Nat.lt_of_lt_of_le hb hp)
  have cast : ∀ n : Nat, n < 2 ^ j → ((n : Nat) : Int) < 2 ^ j := fun n h => by exact_mod_cast h
  refine ⟨?_, ?_, ?_⟩
  · simp only [Go.bits, BitVec.ofInt_natCast, BitVec.toNat_and, BitVec.toNat_ofNat, ha', hb']
    exact hk _ (Int.natCast_nonneg _) (cast _ (Nat.and_lt_two_pow _ hb))
  · simp only [Go.bits, BitVec.ofInt_natCast, BitVec.toNat_or, BitVec.toNat_ofNat, ha', hb']
    exact hk _ (Int.natCast_nonneg _) (cast _ (Nat.or_lt_two_pow ha hb))
  · simp only [Go.bits, BitVec.ofInt_natCast, BitVec.toNat_xor, BitVec.toNat_ofNat, ha', hb']
    exact hk _ (Int.natCast_nonneg _) (cast _ (Nat.xor_lt_two_pow ha hb))
theorem wr_i64 (n : Int) (h0 : 0 ≤ n) (h1 : n < 2 ^ 62) : IntKind.i64.wrap n = n := by rw [IntKind.wrap_i64]; omega
theorem wr_u64 (n : Int) (h0 : 0 ≤ n) (h1 : n < 2 ^ 64) : IntKind.u64.wrap n = n := by
  simp [IntKind.wrap, IntKind.bits, IntKind.signed]; omega
theorem or_i64 (a b : Nat) (ha : a < 2 ^ 62) (hb : b < 2 ^ 62) : Go.bits .or .i64 a b = ((a ||| b : Nat) : Int) := (bits_nat3 .i64 62 (by decide) wr_i64 a b ha hb).2.1
theorem xor_i64 (a b : Nat) (ha : a < 2 ^ 62) (hb : b < 2 ^ 62) : Go.bits .xor .i64 a b = ((a ^^^ b : Nat) : Int) := (bits_nat3 .i64 62 (by decide) wr_i64 a b ha hb).2.2
theorem and_i64 (a b : Nat) (ha : a < 2 ^ 62) (hb : b < 2 ^ 62) : Go.bits .and .i64 a b = ((a &&& b : Nat) : Int) := (bits_nat3 .i64 62 (by decide) wr_i64 a b ha hb).1
theorem xor_u8 (a b : Nat) (ha : a < 2 ^ 8) (hb : b < 2 ^ 8) : Go.bits .xor .u8 a b = ((a ^^^ b : Nat) : Int) := (bits_nat3 .u8 8 (by decide) wraps_u8 a b ha hb).2.2
/-- Byte i of s as a natural number. -/
def bn (s : ByteArray) (i : Nat) : Nat := (s.data.toList.getD i 0).toNat
theorem bn_lt (s : ByteArray) (i : Nat) : bn s i < 256 := (s.data.toList.getD i 0).toNat_lt
theorem bt_bn (s : ByteArray) (i : Nat) : bt s (i : Int) = (bn s i : Int) := by
  unfold bt bn
  split
  · rename_i h
    have h' : i < s.data.toList.length := by rw [data_length]; simpa using h
    rw [List.getD_eq_getElem?_getD, List.getElem?_eq_getElem h']; rfl
  · rename_i h
    have h' : s.data.toList.length ≤ i := by rw [data_length]; simpa using h
    rw [List.getD_eq_getElem?_getD, List.getElem?_eq_none h']; rfl
theorem bt_bn' (s : ByteArray) (i : Int) (h : 0 ≤ i) : bt s i = (bn s i.toNat : Int) := by
  obtain ⟨n, rfl⟩ := Int.eq_ofNat_of_zero_le h
  exact bt_bn s n
theorem toList_eq' (s : ByteArray) : s.toList = s.data.toList := ByteArray.toList_eq s
/-- Two strings of one length are one where their bytes are. -/
theorem bytes_ext {s t : ByteArray} (hl : s.size = t.size) (h : ∀ i, i < s.size → bn s i = bn t i) : s.data.toList = t.data.toList := by
  apply List.ext_getElem (by rw [data_length, data_length, hl])
  intro i h1 h2
  have := h i (by rw [← data_length]; exact h1)
  unfold bn at this
  rw [List.getD_eq_getElem?_getD, List.getD_eq_getElem?_getD, List.getElem?_eq_getElem h1, List.getElem?_eq_getElem h2] at this
  exact UInt8.toNat_inj.1 this
theorem strOf_data (xs : List Int) : (strOfNums xs).data.toList = xs.map fun n => UInt8.ofNat n.toNat := by simp [strOfNums]
theorem strOf_toList (xs : List Int) : (strOfNums xs).toList = xs.map fun n => UInt8.ofNat n.toNat := by rw [toList_eq', strOf_data]
theorem strOf_size (xs : List Int) : (strOfNums xs).size = xs.length := by rw [← data_length, strOf_data, List.length_map]
/-- A list of n numbers written cell by cell is the list of what was written. -/
theorem tab_set (f : Nat → Int) (n i : Nat) (rest : List Int) (h : i < n) (hr : rest.length = n - i) :
    (((List.range i).map f) ++ rest).set i (f i) = ((List.range (i + 1)).map f) ++ rest.tail := by
  cases rest with
  | nil => simp at hr; omega
  | cons a rest =>
    rw [List.set_append_right _ _ (by simp)]
    simp [List.range_succ]
theorem xor_zero_iff {a b : Nat} : a ^^^ b = 0 ↔ a = b := by
  constructor
  · intro h
    have := congrArg (· ^^^ b) h
    simpa [Nat.xor_assoc] using this
  · rintro rfl; exact Nat.xor_self a

/-- The first w bytes from place p on, the greatest first, behind what is there. -/
def numOf (s : ByteArray) (p : Nat) : Nat → Nat → Nat
  | 0, acc => acc
  | w + 1, acc => numOf s (p + 1) w (256 * acc + bn s p)
theorem spec_num_loop (s : ByteArray) (at_ w : Int) (_ : w ≤ 7) (_ : 0 ≤ at_) (hb : at_ + w ≤ s.size) (hs : s.size ≤ 140737488351232) (d : Nat) : ∀ (k p acc : Nat), (p : Int) + d = at_ + w → d < k → d ≤ 7 → acc < 256 ^ (7 - d) →
    spec_NumAt.l0 k s at_ w (acc : Int) (p : Int) = some (((numOf s p d acc : Nat) : Int), true) := by
  induction d with
  | zero =>
    intro k p acc hd hk _ ha
    obtain ⟨k, rfl⟩ : ∃ q, k = q + 1 := ⟨k - 1, by omega⟩
    simp only [spec_NumAt.l0, numOf]
    rw [w64 (n := at_ + w) (by omega) (by omega), if_neg (by omega)]
  | succ d ih =>
    intro k p acc hd hk hd7 ha
    obtain ⟨k, rfl⟩ : ∃ q, k = q + 1 := ⟨k - 1, by omega⟩
    have hb' := bn_lt s p
    have hp : 256 ^ (7 - d) = 256 * 256 ^ (7 - (d + 1)) := by rw [show 7 - d = (7 - (d + 1)) + 1 by omega, Nat.pow_succ]; omega
    have hq : 256 ^ (7 - (d + 1)) ≤ 256 ^ 6 := Nat.pow_le_pow_right (by decide) (by omega)
    have e := ih k (p + 1) (256 * acc + bn s p) (by omega) (by omega) (by omega) (by omega)
    simp only [spec_NumAt.l0, numOf]
    have hq' : (256 : Nat) ^ 6 = 281474976710656 := by decide
    rw [w64 (n := at_ + w) (by omega) (by omega), if_pos (by omega), if_pos (by omega), if_pos (by omega), bt_bn, w64 (n := 256 * (acc : Int)) (by omega) (by omega), w64 (n := (bn s p : Int)) (by omega) (by omega), w64 (by omega) (by omega), w64 (by omega) (by omega)]
    rw [show (256 * (acc : Int) + (bn s p : Int)) = ((256 * acc + bn s p : Nat) : Int) by omega, show (p : Int) + 1 = ((p + 1 : Nat) : Int) by omega, e]
theorem or_byte (a b : Nat) (ha : a < 2 ^ 54) (hb : b < 256) : Go.bits .or .i64 ((a : Int) * 256) (b : Int) = ((256 * a + b : Nat) : Int) := by
  have e := bits_join .i64 62 (by decide) wr_i64 8 ((a : Int) * 256) b (by omega) (by omega) (by omega) (by omega) (by omega) (by omega)
  rw [e]; omega
theorem impl_num_loop (s : ByteArray) (at_ w : Int) (_ : w ≤ 7) (_ : 0 ≤ at_) (hb : at_ + w ≤ s.size) (hs : s.size ≤ 140737488351232) (d : Nat) : ∀ (k : Nat) (i p acc : Nat), (i : Int) + d = w → (p : Int) = at_ + i → d < k → d ≤ 7 → acc < 256 ^ (7 - d) →
    impl_NumAt.l0 k s at_ (acc : Int) w (i : Int) = some (((numOf s p d acc : Nat) : Int), true) := by
  induction d with
  | zero =>
    intro k i p acc hd hp hk _ ha
    obtain ⟨k, rfl⟩ : ∃ q, k = q + 1 := ⟨k - 1, by omega⟩
    simp only [impl_NumAt.l0, numOf]
    rw [if_neg (by omega)]
  | succ d ih =>
    intro k i p acc hd hip hk hd7 ha
    obtain ⟨k, rfl⟩ : ∃ q, k = q + 1 := ⟨k - 1, by omega⟩
    have hb' := bn_lt s p
    have hp : 256 ^ (7 - d) = 256 * 256 ^ (7 - (d + 1)) := by rw [show 7 - d = (7 - (d + 1)) + 1 by omega, Nat.pow_succ]; omega
    have hq : 256 ^ (7 - (d + 1)) ≤ 256 ^ 6 := Nat.pow_le_pow_right (by decide) (by omega)
    have e := ih k (i + 1) (p + 1) (256 * acc + bn s p) (by omega) (by omega) (by omega) (by omega) (by omega)
    have hq' : (256 : Nat) ^ 6 = 281474976710656 := by decide
    simp only [impl_NumAt.l0, numOf]
    rw [w64 (n := at_ + i) (by omega) (by omega), if_pos (by omega), if_pos (by omega), if_pos (by omega), ← hip, bt_bn, w64 (n := (acc : Int) * 256) (by omega) (by omega), w64 (n := (bn s p : Int)) (by omega) (by omega), or_byte _ _ (by omega) hb', w64 (by omega) (by omega)]
    rw [show (i : Int) + 1 = ((i + 1 : Nat) : Int) by omega, e]
/-- NumAt of the program and of the reference are one: at 9 rounds or more. -/
theorem numAt_both (k : Nat) (hk : 9 ≤ k) (s : ByteArray) (at_ w : Int) (hs : s.size ≤ 140737488351232) (a0 : -9223372036854775808 ≤ at_) (a1 : at_ ≤ 9223372036854775807) (w0 : -9223372036854775808 ≤ w) (w1 : w ≤ 9223372036854775807) :
    ∃ r : Int × Bool, spec_NumAt.f k s at_ w = some r ∧ impl_NumAt.f k s at_ w = some r := by
  obtain ⟨k, rfl⟩ : ∃ q, k = q + 1 := ⟨k - 1, by omega⟩
  by_cases hw : 1 ≤ w
  · by_cases hw7 : w ≤ 7
    · have e0 : wrap64 ((s.size : Int) - w) = (s.size : Int) - w := w64 (by omega) (by omega)
      by_cases h : 0 ≤ at_
      · by_cases h2 : at_ ≤ s.size - w
        · obtain ⟨p, rfl⟩ := Int.eq_ofNat_of_zero_le h
          obtain ⟨n, rfl⟩ := Int.eq_ofNat_of_zero_le (show 0 ≤ w by omega)
          have e1 := spec_num_loop s p n hw7 h (by omega) hs n k p 0 (by omega) (by omega) (by omega) (Nat.pow_pos (by decide))
          have e2 := impl_num_loop s p n hw7 h (by omega) hs n k 0 p 0 (by omega) (by omega) (by omega) (by omega) (Nat.pow_pos (by decide))
          refine ⟨(((numOf s p n 0 : Nat) : Int), true), ?_, ?_⟩
          · simp only [spec_NumAt.f, spec_l01In.f, e0, ge_iff_le, if_pos hw, if_pos h, hw7, h2, decide_true, Option.bind_some, if_true, Bool.not_true, spec_NumAt.j0, Bool.false_eq_true, if_false]
            rw [Int.natCast_zero] at e1
            exact e1
          · have h3 : ¬ ((p : Int) > (s.size : Int) - n) := by omega
            simp only [impl_NumAt.f, impl_within.f, e0, ge_iff_le, if_pos hw, if_neg (show ¬ ((p : Int) < 0) by omega), hw7, h3, decide_true, decide_false, Option.bind_some, if_true, impl_NumAt.j0, Bool.false_eq_true, if_false]
            rw [Int.natCast_zero] at e2
            exact e2
        · have h3 : at_ > (s.size : Int) - w := by omega
          refine ⟨(0, false), ?_, ?_⟩
          · simp only [spec_NumAt.f, spec_l01In.f, e0, ge_iff_le, if_pos hw, if_pos h, hw7, h2, decide_true, decide_false, Option.bind_some, if_true, Bool.not_false, spec_NumAt.j0]
          · simp only [impl_NumAt.f, impl_within.f, e0, ge_iff_le, if_pos hw, if_neg (show ¬ (at_ < 0) by omega), hw7, h3, decide_true, Option.bind_some, if_true, impl_NumAt.j0]
      · refine ⟨(0, false), ?_, ?_⟩
        · simp only [spec_NumAt.f, spec_l01In.f, e0, ge_iff_le, if_pos hw, if_neg h, hw7, decide_true, Option.bind_some, if_true, Bool.not_false, spec_NumAt.j0]
        · simp only [impl_NumAt.f, if_pos (show at_ < 0 by omega), if_true, impl_NumAt.j0]
    · refine ⟨(0, false), ?_, ?_⟩
      · simp only [spec_NumAt.f, spec_l01In.f, ge_iff_le, if_pos hw, hw7, decide_false, Option.bind_some, if_true, spec_NumAt.j0, Bool.false_eq_true, if_false]
      · simp only [impl_NumAt.f, impl_within.f, ge_iff_le, if_pos hw, hw7, decide_false, Option.bind_some, if_true, impl_NumAt.j0, Bool.false_eq_true, if_false, ite_self]
  · refine ⟨(0, false), ?_, ?_⟩
    · simp only [spec_NumAt.f, spec_l01In.f, ge_iff_le, if_neg hw, Option.bind_some, if_true, spec_NumAt.j0, Bool.false_eq_true, if_false]
    · simp only [impl_NumAt.f, impl_within.f, ge_iff_le, if_neg hw, Option.bind_some, if_true, impl_NumAt.j0, Bool.false_eq_true, if_false, ite_self]

theorem FnExactNumAt : laws_FnExactNumAt.Pure := by
  intro s at_ w hs hat hw
  obtain ⟨a0, a1⟩ := bounds_i64 hat
  obtain ⟨w0, w1⟩ := bounds_i64 hw
  obtain ⟨r, e1, e2⟩ := numAt_both 9 (by omega) s at_ w hs a0 a1 w0 w1
  refine ⟨9, ?_⟩
  simp only [laws_FnExactNumAt.f, e1, e2]
  split; · rfl
  simp
end Go.Proofs.Ytbnfhbbgmcpjgaa.Pure
