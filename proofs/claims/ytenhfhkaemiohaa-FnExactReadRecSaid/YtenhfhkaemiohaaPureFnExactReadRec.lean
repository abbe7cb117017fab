/- The law FnExactReadRec answers true at every string; no condition. -/
import Derived.Test.YtenhfhkaemiohaaMFnExactReadRecx3
namespace Go.Proofs.Ytenhfhkaemiohaa.Pure
open Go.RowKit Go.Proofs.Ytenhfhkaemiohaa.PFnExactReadRec Go.Proofs.YtenhfhkaemiohaaW.PrintWords Go.Proofs.YtenhfhkaemiohaaW.PrintLast Go.Proofs.YtenhfhkaemiohaaW.PrintMore
set_option linter.unusedVariables false
set_option linter.unusedSimpArgs false

theorem w64 {n : Int} (h0 : -9223372036854775808 ≤ n) (h1 : n ≤ 9223372036854775807) : wrap64 n = n := by
  unfold wrap64; omega
theorem bits_nat3 (k : IntKind) (j : Nat) (hj : j ≤ k.bits) (hk : ∀ n : Int, 0 ≤ n → n < 2 ^ j → k.wrap n = n) (a b : Nat) (ha : a < 2 ^ j) (hb : b < 2 ^ j) :
    Go.bits .and k a b = ((a &&& b : Nat) : Int) ∧ Go.bits .or k a b = ((a ||| b : Nat) : Int) ∧ Go.bits .xor k a b = ((a ^^^ b : Nat) : Int) := by
  have hp : 2 ^ j ≤ 2 ^ k.bits := Nat.pow_le_pow_right (by decide) hj
  have ha' : a % 2 ^ k.bits = a := Nat.mod_eq_of_lt (Nat.lt_of_lt_of_le ha hp)
  have hb' : b % 2 ^ k.bits = b := Nat.mod_eq_of_lt (Nat.lt_of_lt_of_le hb hp)
  have cast : ∀ n : Nat, n < 2 ^ j → ((n : Nat) : Int) < 2 ^ j := fun n h => by exact_mod_cast h
  refine ⟨?_, ?_, ?_⟩
  · simp only [Go.bits, BitVec.ofInt_natCast, BitVec.toNat_and, BitVec.toNat_ofNat, ha', hb']
    exact hk _ (Int.natCast_nonneg _) (cast _ (Nat.and_lt_two_pow _ hb))
  · simp only [Go.bits, BitVec.ofInt_natCast, BitVec.toNat_or, BitVec.toNat_ofNat, ha', hb']
    exact hk _ (Int.natCast_nonneg _) (cast _ (Nat.or_lt_two_pow ha hb))
  · simp only [Go.bits, BitVec.ofInt_natCast, BitVec.toNat_xor, BitVec.toNat_ofNat, ha', hb']
    exact hk _ (Int.natCast_nonneg _) (cast _ (Nat.xor_lt_two_pow ha hb))
theorem wr_i64 (n : Int) (h0 : 0 ≤ n) (h1 : n < 2 ^ 62) : IntKind.i64.wrap n = n := by rw [IntKind.wrap_i64]; omega
theorem wr_u64 (n : Int) (h0 : 0 ≤ n) (h1 : n < 2 ^ 64) : IntKind.u64.wrap n = n := by
  simp [IntKind.wrap, IntKind.bits, IntKind.signed]; omega
theorem or_i64 (a b : Nat) (ha : a < 2 ^ 62) (hb : b < 2 ^ 62) : Go.bits .or .i64 a b = ((a ||| b : Nat) : Int) := (bits_nat3 .i64 62 (by decide) wr_i64 a b ha hb).2.1
theorem xor_i64 (a b : Nat) (ha : a < 2 ^ 62) (hb : b < 2 ^ 62) : Go.bits .xor .i64 a b = ((a ^^^ b : Nat) : Int) := (bits_nat3 .i64 62 (by decide) wr_i64 a b ha hb).2.2
theorem and_i64 (a b : Nat) (ha : a < 2 ^ 62) (hb : b < 2 ^ 62) : Go.bits .and .i64 a b = ((a &&& b : Nat) : Int) := (bits_nat3 .i64 62 (by decide) wr_i64 a b ha hb).1
theorem xor_u8 (a b : Nat) (ha : a < 2 ^ 8) (hb : b < 2 ^ 8) : Go.bits .xor .u8 a b = ((a ^^^ b : Nat) : Int) := (bits_nat3 .u8 8 (by decide) wraps_u8 a b ha hb).2.2
/-- Byte i of s as a natural number. -/
def bn (s : ByteArray) (i : Nat) : Nat := (s.data.toList.getD i 0).toNat
theorem bn_lt (s : ByteArray) (i : Nat) : bn s i < 256 := (s.data.toList.getD i 0).toNat_lt
theorem bt_bn (s : ByteArray) (i : Nat) : bt s (i : Int) = (bn s i : Int) := by
  unfold bt bn
  split
  · rename_i h
    have h' : i < s.data.toList.length := by rw [data_length]; simpa using h
    rw [List.getD_eq_getElem?_getD, List.getElem?_eq_getElem h']; rfl
  · rename_i h
    have h' : s.data.toList.length ≤ i := by rw [data_length]; simpa using h
    rw [List.getD_eq_getElem?_getD, List.getElem?_eq_none h']; rfl
theorem bt_bn' (s : ByteArray) (i : Int) (h : 0 ≤ i) : bt s i = (bn s i.toNat : Int) := by
  obtain ⟨n, rfl⟩ := Int.eq_ofNat_of_zero_le h
  exact bt_bn s n
theorem toList_eq' (s : ByteArray) : s.toList = s.data.toList := ByteArray.toList_eq s
/-- Two strings of one length are one where their bytes are. -/
theorem bytes_ext {s t : ByteArray} (hl : s.size = t.size) (h : ∀ i, i < s.size → bn s i = bn t i) : s.data.toList = t.data.toList := by
  apply List.ext_getElem (by rw [data_length, data_length, hl])
  intro i h1 h2
  have := h i (by rw [← data_length]; exact h1)
  unfold bn at this
  rw [List.getD_eq_getElem?_getD, List.getD_eq_getElem?_getD, List.getElem?_eq_getElem h1, List.getElem?_eq_getElem h2] at this
  exact UInt8.toNat_inj.1 this
theorem strOf_data (xs : List Int) : (strOfNums xs).data.toList = xs.map fun n => UInt8.ofNat n.toNat := by simp [strOfNums]
theorem strOf_toList (xs : List Int) : (strOfNums xs).toList = xs.map fun n => UInt8.ofNat n.toNat := by rw [toList_eq', strOf_data]
theorem strOf_size (xs : List Int) : (strOfNums xs).size = xs.length := by rw [← data_length, strOf_data, List.length_map]
/-- A list of n numbers written cell by cell is the list of what was written. -/
theorem tab_set (f : Nat → Int) (n i : Nat) (rest : List Int) (h : i < n) (hr : rest.length = n - i) :
    (((List.range i).map f) ++ rest).set i (f i) = ((List.range (i + 1)).map f) ++ rest.tail := by
  cases rest with
  | nil => simp at hr; omega
  | cons a rest =>
    rw [List.set_append_right _ _ (by simp)]
    simp [List.range_succ]
theorem xor_zero_iff {a b : Nat} : a ^^^ b = 0 ↔ a = b := by
  constructor
  · intro h
    have := congrArg (· ^^^ b) h
    simpa [Nat.xor_assoc] using this
  · rintro rfl; exact Nat.xor_self a

/-- The w bytes of m, the greatest first. -/
def nb (m w i : Nat) : Int := ((m / 2 ^ (8 * (w - 1 - i)) % 256 : Nat) : Int)
def numBytes (m w : Nat) : List Int := (List.range w).map (nb m w)
theorem numBytes_length (m w : Nat) : (numBytes m w).length = w := by simp [numBytes]
theorem shr_nat (m c : Nat) (hc : c ≤ 64) (y : Int) (hy : y = c) : shr .i64 (m : Int) y = ((m / 2 ^ c : Nat) : Int) := by
  subst hy
  unfold shr
  rw [show min ((c : Int)).toNat IntKind.i64.bits = c by simp [IntKind.bits]; omega]
  simp
theorem shl_one (c : Nat) (hc : c ≤ 56) (y : Int) (hy : y = c) : shl .i64 1 y = ((2 ^ c : Nat) : Int) := by
  subst hy
  unfold shl
  rw [show min ((c : Int)).toNat IntKind.i64.bits = c by simp [IntKind.bits]; omega]
  have h : (2 : Nat) ^ c ≤ 2 ^ 56 := Nat.pow_le_pow_right (by decide) hc
  rw [show (1 : Int) * 2 ^ c = ((2 ^ c : Nat) : Int) by simp]
  exact wr_i64 _ (Int.natCast_nonneg _) (by have : (2 : Nat) ^ 56 = 72057594037927936 := by decide
                                            omega)
theorem spec_numText_loop (m w : Nat) (hw : w ≤ 7) (d : Nat) : ∀ (k j : Nat), j + d = w → d < k →
    spec_NumText.l0 k (m : Int) ((List.range j).map (nb m w)) ((w : Int) - 1 - j) = some (strOfNums (numBytes m w)) := by
  induction d with
  | zero =>
    intro k j hd hk
    obtain ⟨k, rfl⟩ : ∃ q, k = q + 1 := ⟨k - 1, by omega⟩
    obtain rfl : j = w := by omega
    simp only [spec_NumText.l0]
    rw [if_neg (by omega)]; rfl
  | succ d ih =>
    intro k j hd hk
    obtain ⟨k, rfl⟩ : ∃ q, k = q + 1 := ⟨k - 1, by omega⟩
    have e := ih k (j + 1) (by omega) (by omega)
    simp only [spec_NumText.l0]
    rw [wr_u64 ((w : Int) - 1 - j) (by omega) (by omega), wr_u64 (8 * ((w : Int) - 1 - j)) (by omega) (by omega), if_pos (by omega), if_pos (by omega), if_pos (by simp; omega), shr_nat m (8 * (w - 1 - j)) (by omega) _ (by omega), w64 (by omega) (by omega)]
    rw [show (((m / 2 ^ (8 * (w - 1 - j)) : Nat) : Int) % 256) = nb m w j by unfold nb; omega]
    rw [List.range_succ, List.map_append] at e
    rw [show (w : Int) - 1 - j - 1 = (w : Int) - 1 - ((j + 1 : Nat) : Int) by omega]
    exact e
theorem impl_numText_loop (m w : Nat) (hw : w ≤ 7) (d : Nat) : ∀ (k j : Nat), j + d = w → d < k →
    impl_NumText.l0 k (m : Int) (w : Int) ((List.range j).map (nb m w) ++ List.replicate d 0) (w : Int) (j : Int) = some (strOfNums (numBytes m w)) := by
  induction d with
  | zero =>
    intro k j hd hk
    obtain ⟨k, rfl⟩ : ∃ q, k = q + 1 := ⟨k - 1, by omega⟩
    obtain rfl : j = w := by omega
    simp only [impl_NumText.l0]
    rw [if_neg (by omega)]; simp [numBytes]
  | succ d ih =>
    intro k j hd hk
    obtain ⟨k, rfl⟩ : ∃ q, k = q + 1 := ⟨k - 1, by omega⟩
    have e := ih k (j + 1) (by omega) (by omega)
    simp only [impl_NumText.l0]
    rw [w64 (n := (w : Int) - 1) (by omega) (by omega), w64 (n := (w : Int) - 1 - j) (by omega) (by omega), w64 (n := 8 * ((w : Int) - 1 - j)) (by omega) (by omega), if_pos (by omega), if_pos (by omega), if_pos (by omega), if_pos (by simp; omega), shr_nat m (8 * (w - 1 - j)) (by omega) _ (by omega), w64 (by omega) (by omega)]
    rw [show (((m / 2 ^ (8 * (w - 1 - j)) : Nat) : Int) % 256) = nb m w j by unfold nb; omega]
    rw [show ((j : Int)).toNat = j from rfl, tab_set (nb m w) w j (List.replicate (d + 1) 0) (by omega) (by simp; omega)]
    exact e
/-- What NumText comes to. -/
def numTextOf (n w : Int) : ByteArray := if 0 ≤ n ∧ 1 ≤ w ∧ w ≤ 7 ∧ n.toNat < 2 ^ (8 * w.toNat) then strOfNums (numBytes n.toNat w.toNat) else ⟨#[]⟩
theorem numTextOf_size (n w : Int) : (numTextOf n w).size ≤ 7 := by
  unfold numTextOf
  split
  · rw [strOf_size, numBytes_length]; omega
  · simp [ByteArray.size]
theorem spec_numText (k : Nat) (hk : 9 ≤ k) (n w : Int) (n1 : n ≤ 9223372036854775807) : spec_NumText.f k n w = some (numTextOf n w) := by
  obtain ⟨k, rfl⟩ : ∃ q, k = q + 1 := ⟨k - 1, by omega⟩
  unfold numTextOf
  by_cases hn : 0 ≤ n
  · obtain ⟨m, rfl⟩ := Int.eq_ofNat_of_zero_le hn
    by_cases hw : 1 ≤ w
    · obtain ⟨v, rfl⟩ := Int.eq_ofNat_of_zero_le (show 0 ≤ w by omega)
      by_cases hw7 : (v : Int) ≤ 7
      · have e0 : IntKind.u64.wrap (v : Int) = v := wr_u64 _ (by omega) (by omega)
        have e1 : IntKind.u64.wrap (8 * (v : Int)) = 8 * v := wr_u64 _ (by omega) (by omega)
        have e2 := shr_nat m (8 * v) (by omega) (8 * (v : Int)) (by omega)
        have hc : (0 : Int) ≤ 8 * v := by omega
        simp only [spec_NumText.f, spec_l01In.f, ge_iff_le, if_neg (show ¬ ((m : Int) < 0) by omega), if_pos hw, hw7, decide_true, Option.bind_some, if_true, e0, e1, e2, if_pos hc, spec_NumText.j0]
        by_cases h : m < 2 ^ (8 * v)
        · rw [if_neg, if_pos ⟨hn, hw, trivial, h⟩]
          · have e := spec_numText_loop m v (by omega) v k 0 (by omega) (by omega)
            rw [Int.natCast_zero, Int.sub_zero] at e
            rw [w64 (by omega) (by omega)]
            exact e
          · have := Nat.div_eq_of_lt h
            simp [this]
        · rw [if_pos, if_neg (fun hh => h hh.2.2.2)]
          have := Nat.div_pos (show 2 ^ (8 * v) ≤ m by omega) (Nat.two_pow_pos _)
          simp only [decide_eq_true_eq]; omega
      · simp only [spec_NumText.f, spec_l01In.f, ge_iff_le, if_neg (show ¬ ((m : Int) < 0) by omega), if_pos hw, hw7, decide_false, Option.bind_some, Bool.false_eq_true, if_false, if_true, spec_NumText.j0, false_and, and_false]
    · simp only [spec_NumText.f, spec_l01In.f, ge_iff_le, if_neg (show ¬ ((m : Int) < 0) by omega), if_neg hw, Option.bind_some, Bool.false_eq_true, if_false, if_true, spec_NumText.j0, hw, false_and, and_false]
  · simp only [spec_NumText.f, if_pos (show n < 0 by omega), if_true, spec_NumText.j0, hn, false_and, if_false]
theorem impl_numText (k : Nat) (hk : 9 ≤ k) (n w : Int) (n1 : n ≤ 9223372036854775807) : impl_NumText.f k n w = some (numTextOf n w) := by
  obtain ⟨k, rfl⟩ : ∃ q, k = q + 1 := ⟨k - 1, by omega⟩
  unfold numTextOf
  by_cases hn : 0 ≤ n
  · obtain ⟨m, rfl⟩ := Int.eq_ofNat_of_zero_le hn
    by_cases hw : 1 ≤ w
    · obtain ⟨v, rfl⟩ := Int.eq_ofNat_of_zero_le (show 0 ≤ w by omega)
      by_cases hw7 : (v : Int) ≤ 7
      · have e1 : wrap64 (8 * (v : Int)) = 8 * v := w64 (by omega) (by omega)
        have e2 := shl_one (8 * v) (by omega) (8 * (v : Int)) (by omega)
        have hc : (0 : Int) ≤ 8 * v := by omega
        simp only [impl_NumText.f, impl_within.f, ge_iff_le, if_neg (show ¬ ((m : Int) < 0) by omega), if_pos hw, hw7, decide_true, Option.bind_some, if_true, e1, e2, if_pos hc, impl_NumText.j0]
        by_cases h : m < 2 ^ (8 * v)
        · have h' : ¬ ((2 ^ (8 * v) : Nat) : Int) ≤ (m : Int) := by omega
          have e := impl_numText_loop m v (by omega) v k 0 (by omega) (by omega)
          rw [Int.natCast_zero] at e
          simp only [h', decide_false, Bool.false_eq_true, if_false]
          rw [if_pos (show ((v : Int)).toNat ≤ 281474976710656 by omega)]
          simp only [List.length_replicate, Int.toNat_natCast]
          have hh : 0 ≤ (m : Int) ∧ 1 ≤ (v : Int) ∧ True ∧ m < 2 ^ (8 * v) := ⟨hn, hw, trivial, h⟩
          simp only [if_pos hh]
          exact e
        · have h' : ((2 ^ (8 * v) : Nat) : Int) ≤ (m : Int) := by omega
          simp only [h', decide_true, if_true]
          rw [if_neg (fun hh => h hh.2.2.2)]
      · simp only [impl_NumText.f, impl_within.f, ge_iff_le, if_neg (show ¬ ((m : Int) < 0) by omega), if_pos hw, hw7, decide_false, Option.bind_some, Bool.false_eq_true, if_false, if_true, impl_NumText.j0, false_and, and_false]
    · simp only [impl_NumText.f, impl_within.f, ge_iff_le, if_neg (show ¬ ((m : Int) < 0) by omega), if_neg hw, Option.bind_some, Bool.false_eq_true, if_false, if_true, impl_NumText.j0, hw, false_and, and_false]
  · simp only [impl_NumText.f, if_pos (show n < 0 by omega), if_true, impl_NumText.j0, hn, false_and, if_false]

/-- The first w bytes from place p on, the greatest first, behind what is there. -/
def numOf (s : ByteArray) (p : Nat) : Nat → Nat → Nat
  | 0, acc => acc
  | w + 1, acc => numOf s (p + 1) w (256 * acc + bn s p)
theorem spec_num_loop (s : ByteArray) (at_ w : Int) (_ : w ≤ 7) (_ : 0 ≤ at_) (hb : at_ + w ≤ s.size) (hs : s.size ≤ 140737488351232) (d : Nat) : ∀ (k p acc : Nat), (p : Int) + d = at_ + w → d < k → d ≤ 7 → acc < 256 ^ (7 - d) →
    spec_NumAt.l0 k s at_ w (acc : Int) (p : Int) = some (((numOf s p d acc : Nat) : Int), true) := by
  induction d with
  | zero =>
    intro k p acc hd hk _ ha
    obtain ⟨k, rfl⟩ : ∃ q, k = q + 1 := ⟨k - 1, by omega⟩
    simp only [spec_NumAt.l0, numOf]
    rw [w64 (n := at_ + w) (by omega) (by omega), if_neg (by omega)]
  | succ d ih =>
    intro k p acc hd hk hd7 ha
    obtain ⟨k, rfl⟩ : ∃ q, k = q + 1 := ⟨k - 1, by omega⟩
    have hb' := bn_lt s p
    have hp : 256 ^ (7 - d) = 256 * 256 ^ (7 - (d + 1)) := by rw [show 7 - d = (7 - (d + 1)) + 1 by omega, Nat.pow_succ]; omega
    have hq : 256 ^ (7 - (d + 1)) ≤ 256 ^ 6 := Nat.pow_le_pow_right (by decide) (by omega)
    have e := ih k (p + 1) (256 * acc + bn s p) (by omega) (by omega) (by omega) (by omega)
    simp only [spec_NumAt.l0, numOf]
    have hq' : (256 : Nat) ^ 6 = 281474976710656 := by decide
    rw [w64 (n := at_ + w) (by omega) (by omega), if_pos (by omega), if_pos (by omega), if_pos (by omega), bt_bn, w64 (n := 256 * (acc : Int)) (by omega) (by omega), w64 (n := (bn s p : Int)) (by omega) (by omega), w64 (by omega) (by omega), w64 (by omega) (by omega)]
    rw [show (256 * (acc : Int) + (bn s p : Int)) = ((256 * acc + bn s p : Nat) : Int) by omega, show (p : Int) + 1 = ((p + 1 : Nat) : Int) by omega, e]
theorem or_byte (a b : Nat) (ha : a < 2 ^ 54) (hb : b < 256) : Go.bits .or .i64 ((a : Int) * 256) (b : Int) = ((256 * a + b : Nat) : Int) := by
  have e := bits_join .i64 62 (by decide) wr_i64 8 ((a : Int) * 256) b (by omega) (by omega) (by omega) (by omega) (by omega) (by omega)
  rw [e]; omega
theorem impl_num_loop (s : ByteArray) (at_ w : Int) (_ : w ≤ 7) (_ : 0 ≤ at_) (hb : at_ + w ≤ s.size) (hs : s.size ≤ 140737488351232) (d : Nat) : ∀ (k : Nat) (i p acc : Nat), (i : Int) + d = w → (p : Int) = at_ + i → d < k → d ≤ 7 → acc < 256 ^ (7 - d) →
    impl_NumAt.l0 k s at_ (acc : Int) w (i : Int) = some (((numOf s p d acc : Nat) : Int), true) := by
  induction d with
  | zero =>
    intro k i p acc hd hp hk _ ha
    obtain ⟨k, rfl⟩ : ∃ q, k = q + 1 := ⟨k - 1, by omega⟩
    simp only [impl_NumAt.l0, numOf]
    rw [if_neg (by omega)]
  | succ d ih =>
    intro k i p acc hd hip hk hd7 ha
    obtain ⟨k, rfl⟩ : ∃ q, k = q + 1 := ⟨k - 1, by omega⟩
    have hb' := bn_lt s p
    have hp : 256 ^ (7 - d) = 256 * 256 ^ (7 - (d + 1)) := by rw [show 7 - d = (7 - (d + 1)) + 1 by omega, Nat.pow_succ]; omega
    have hq : 256 ^ (7 - (d + 1)) ≤ 256 ^ 6 := Nat.pow_le_pow_right (by decide) (by omega)
    have e := ih k (i + 1) (p + 1) (256 * acc + bn s p) (by omega) (by omega) (by omega) (by omega) (by omega)
    have hq' : (256 : Nat) ^ 6 = 281474976710656 := by decide
    simp only [impl_NumAt.l0, numOf]
    rw [w64 (n := at_ + i) (by omega) (by omega), if_pos (by omega), if_pos (by omega), if_pos (by omega), ← hip, bt_bn, w64 (n := (acc : Int) * 256) (by omega) (by omega), w64 (n := (bn s p : Int)) (by omega) (by omega), or_byte _ _ (by omega) hb', w64 (by omega) (by omega)]
    rw [show (i : Int) + 1 = ((i + 1 : Nat) : Int) by omega, e]
/-- NumAt of the program and of the reference are one: at 9 rounds or more. -/
theorem numAt_both (k : Nat) (hk : 9 ≤ k) (s : ByteArray) (at_ w : Int) (hs : s.size ≤ 140737488351232) (a0 : -9223372036854775808 ≤ at_) (a1 : at_ ≤ 9223372036854775807) (w0 : -9223372036854775808 ≤ w) (w1 : w ≤ 9223372036854775807) :
    ∃ r : Int × Bool, spec_NumAt.f k s at_ w = some r ∧ impl_NumAt.f k s at_ w = some r := by
  obtain ⟨k, rfl⟩ : ∃ q, k = q + 1 := ⟨k - 1, by omega⟩
  by_cases hw : 1 ≤ w
  · by_cases hw7 : w ≤ 7
    · have e0 : wrap64 ((s.size : Int) - w) = (s.size : Int) - w := w64 (by omega) (by omega)
      by_cases h : 0 ≤ at_
      · by_cases h2 : at_ ≤ s.size - w
        · obtain ⟨p, rfl⟩ := Int.eq_ofNat_of_zero_le h
          obtain ⟨n, rfl⟩ := Int.eq_ofNat_of_zero_le (show 0 ≤ w by omega)
          have e1 := spec_num_loop s p n hw7 h (by omega) hs n k p 0 (by omega) (by omega) (by omega) (Nat.pow_pos (by decide))
          have e2 := impl_num_loop s p n hw7 h (by omega) hs n k 0 p 0 (by omega) (by omega) (by omega) (by omega) (Nat.pow_pos (by decide))
          refine ⟨(((numOf s p n 0 : Nat) : Int), true), ?_, ?_⟩
          · simp only [spec_NumAt.f, spec_l01In.f, e0, ge_iff_le, if_pos hw, if_pos h, hw7, h2, decide_true, Option.bind_some, if_true, Bool.not_true, spec_NumAt.j0, Bool.false_eq_true, if_false]
            rw [Int.natCast_zero] at e1
            exact e1
          · have h3 : ¬ ((p : Int) > (s.size : Int) - n) := by omega
            simp only [impl_NumAt.f, impl_within.f, e0, ge_iff_le, if_pos hw, if_neg (show ¬ ((p : Int) < 0) by omega), hw7, h3, decide_true, decide_false, Option.bind_some, if_true, impl_NumAt.j0, Bool.false_eq_true, if_false]
            rw [Int.natCast_zero] at e2
            exact e2
        · have h3 : at_ > (s.size : Int) - w := by omega
          refine ⟨(0, false), ?_, ?_⟩
          · simp only [spec_NumAt.f, spec_l01In.f, e0, ge_iff_le, if_pos hw, if_pos h, hw7, h2, decide_true, decide_false, Option.bind_some, if_true, Bool.not_false, spec_NumAt.j0]
          · simp only [impl_NumAt.f, impl_within.f, e0, ge_iff_le, if_pos hw, if_neg (show ¬ (at_ < 0) by omega), hw7, h3, decide_true, Option.bind_some, if_true, impl_NumAt.j0]
      · refine ⟨(0, false), ?_, ?_⟩
        · simp only [spec_NumAt.f, spec_l01In.f, e0, ge_iff_le, if_pos hw, if_neg h, hw7, decide_true, Option.bind_some, if_true, Bool.not_false, spec_NumAt.j0]
        · simp only [impl_NumAt.f, if_pos (show at_ < 0 by omega), if_true, impl_NumAt.j0]
    · refine ⟨(0, false), ?_, ?_⟩
      · simp only [spec_NumAt.f, spec_l01In.f, ge_iff_le, if_pos hw, hw7, decide_false, Option.bind_some, if_true, spec_NumAt.j0, Bool.false_eq_true, if_false]
      · simp only [impl_NumAt.f, impl_within.f, ge_iff_le, if_pos hw, hw7, decide_false, Option.bind_some, if_true, impl_NumAt.j0, Bool.false_eq_true, if_false, ite_self]
  · refine ⟨(0, false), ?_, ?_⟩
    · simp only [spec_NumAt.f, spec_l01In.f, ge_iff_le, if_neg hw, Option.bind_some, if_true, spec_NumAt.j0, Bool.false_eq_true, if_false]
    · simp only [impl_NumAt.f, impl_within.f, ge_iff_le, if_neg hw, Option.bind_some, if_true, impl_NumAt.j0, Bool.false_eq_true, if_false, ite_self]

theorem recWord_both (k : Nat) (hk : 10 ≤ k) (p s : Int) (m : ByteArray) (hm : m.size ≤ 140737488351232) : ∃ r, spec_RecWord.f k p s m = some r ∧ impl_RecWord.f k p s m = some r ∧ r.size ≤ 140737488351300 := by
  obtain ⟨k, rfl⟩ : ∃ q, k = q + 1 := ⟨k - 1, by omega⟩
  have no : ∀ b : Bool, b = true → ∃ r, spec_RecWord.j0 (k + 1) b p s m = some r ∧ impl_RecWord.j0 (k + 1) b p s m = some r ∧ r.size ≤ 140737488351300 := by
    rintro b rfl
    exact ⟨⟨#[]⟩, by simp only [spec_RecWord.j0, if_true], by simp only [impl_RecWord.j0, if_true], by simp [ByteArray.size]⟩
  simp only [spec_RecWord.f, impl_RecWord.f, spec_l01In.f, impl_within.f]
  by_cases h1 : p ≥ 1
  · by_cases h2 : p ≤ 12
    · by_cases h3 : s ≥ 1
      · by_cases h4 : s ≤ 16777215
        · by_cases h5 : ((m.size : Int) != 4) = true
          · simp only [if_pos h1, h2, if_pos h3, h4, decide_true, Option.bind_some, if_true, h5]
            exact no true rfl
          · have h6 : ((m.size : Int) != 4) = false := by simpa using h5
            simp only [if_pos h1, h2, if_pos h3, h4, decide_true, Option.bind_some, if_true, h6]
            have z1 := numTextOf_size p 1
            have z2 := numTextOf_size s 3
            refine ⟨(numTextOf p 1 ++ numTextOf s 3) ++ m, ?_, ?_, ?_⟩
            · simp only [spec_RecWord.j0, Bool.false_eq_true, if_false, spec_numText k (by omega) p 1 (by omega), spec_numText k (by omega) s 3 (by omega), Option.bind_some]
              rw [if_pos (by omega), if_pos (by rw [ByteArray.size_append]; omega)]
            · simp only [impl_RecWord.j0, Bool.false_eq_true, if_false, impl_numText k (by omega) p 1 (by omega), impl_numText k (by omega) s 3 (by omega), Option.bind_some]
              rw [if_pos (by omega), if_pos (by rw [ByteArray.size_append]; omega)]
            · rw [ByteArray.size_append, ByteArray.size_append]; omega
        · simp only [if_pos h1, h2, if_pos h3, h4, decide_true, decide_false, Option.bind_some, if_true, Bool.false_eq_true, if_false]
          exact no true rfl
      · simp only [if_pos h1, h2, if_neg h3, decide_true, Option.bind_some, if_true, Bool.false_eq_true, if_false]
        exact no true rfl
    · simp only [if_pos h1, h2, decide_false, Option.bind_some, Bool.false_eq_true, if_false]
      exact no true rfl
  · simp only [if_neg h1, Option.bind_some, Bool.false_eq_true, if_false]
    exact no true rfl

theorem readRec_both (k : Nat) (hk : 10 ≤ k) (a : ByteArray) (ha : a.size ≤ 140737488351232) : ∃ r, spec_ReadRec.f k a = some r ∧ impl_ReadRec.f k a = some r := by
  by_cases h8 : (a.size : Int) = 8
  · obtain ⟨p, p1, p2⟩ := numAt_both k (by omega) a 0 1 ha (by omega) (by omega) (by omega) (by omega)
    obtain ⟨s, s1, s2⟩ := numAt_both k (by omega) a 1 3 ha (by omega) (by omega) (by omega) (by omega)
    obtain ⟨r, r1, r2, _⟩ := recWord_both k hk p.1 s.1 (a.extract 4 a.size) (by rw [ByteArray.size_extract]; omega)
    simp only [spec_ReadRec.f, impl_ReadRec.f, if_pos h8, p1, p2, s1, s2, r1, r2, Option.bind_some, if_pos (show (4 : Int) ≤ a.size by omega)]
    split <;> exact ⟨_, rfl, rfl⟩
  · exact ⟨(0, 0, ⟨#[]⟩, false), by simp only [spec_ReadRec.f, if_neg h8], by simp only [impl_ReadRec.f, if_neg h8]⟩
theorem FnExactReadRec : laws_FnExactReadRec.Pure := by
  intro a ha
  refine ⟨10, ?_⟩
  obtain ⟨r, e1, e2⟩ := readRec_both 10 (by omega) a ha
  simp only [laws_FnExactReadRec.f, e1, e2, laws_eqRec.f, Option.bind_some]
  split
  · rfl
  · simp
end Go.Proofs.Ytenhfhkaemiohaa.Pure
