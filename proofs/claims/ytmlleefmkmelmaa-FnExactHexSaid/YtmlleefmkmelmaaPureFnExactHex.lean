/- The law FnExactHex answers true at every string; no condition. -/
import Derived.Test.YtmlleefmkmelmaaMFnExactHexx1
namespace Go.Proofs.Ytmlleefmkmelmaa.Pure
open Go.RowKit Go.Proofs.Ytmlleefmkmelmaa.PFnExactHex Go.Proofs.YtmlleefmkmelmaaW.PrintWords Go.Proofs.YtmlleefmkmelmaaW.PrintLast Go.Proofs.YtmlleefmkmelmaaW.PrintMore
set_option linter.unusedVariables false
set_option linter.unusedSimpArgs false

theorem w64 {n : Int} (h0 : -9223372036854775808 ≤ n) (h1 : n ≤ 9223372036854775807) : wrap64 n = n := by
  unfold wrap64; omega
theorem bits_nat3 (k : IntKind) (j : Nat) (hj : j ≤ k.bits) (hk : ∀ n : Int, 0 ≤ n → n < 2 ^ j → k.wrap n = n) (a b : Nat) (ha : a < 2 ^ j) (hb : b < 2 ^ j) :
    Go.bits .and k a b = ((a &&& b : Nat) : Int) ∧ Go.bits .or k a b = ((a ||| b : Nat) : Int) ∧ Go.bits .xor k a b = ((a ^^^ b : Nat) : Int) := by
  have hp : 2 ^ j ≤ 2 ^ k.bits := Nat.pow_le_pow_right (by decide) hj
  have ha' : a % 2 ^ k.bits = a := Nat.mod_eq_of_lt (Nat.lt_of_lt_of_le ha hp)
  have hb' : b % 2 ^ k.bits = b := Nat.mod_eq_of_lt (Nat.lt_of_lt_of_le hb hp)
  have cast : ∀ n : Nat, n < 2 ^ j → ((n : Nat) : Int) < 2 ^ j := fun n h => by exact_mod_cast h
  refine ⟨?_, ?_, ?_⟩
  · simp only [Go.bits, BitVec.ofInt_natCast, BitVec.toNat_and, BitVec.toNat_ofNat, ha', hb']
    exact hk _ (Int.natCast_nonneg _) (cast _ (Nat.and_lt_two_pow _ hb))
  · simp only [Go.bits, BitVec.ofInt_natCast, BitVec.toNat_or, BitVec.toNat_ofNat, ha', hb']
    exact hk _ (Int.natCast_nonneg _) (cast _ (Nat.or_lt_two_pow ha hb))
  · simp only [Go.bits, BitVec.ofInt_natCast, BitVec.toNat_xor, BitVec.toNat_ofNat, ha', hb']
    exact hk _ (Int.natCast_nonneg _) (cast _ (Nat.xor_lt_two_pow ha hb))
theorem wr_i64 (n : Int) (h0 : 0 ≤ n) (h1 : n < 2 ^ 62) : IntKind.i64.wrap n = n := by rw [IntKind.wrap_i64]; omega
theorem wr_u64 (n : Int) (h0 : 0 ≤ n) (h1 : n < 2 ^ 64) : IntKind.u64.wrap n = n := by
  simp [IntKind.wrap, IntKind.bits, IntKind.signed]; omega
theorem or_i64 (a b : Nat) (ha : a < 2 ^ 62) (hb : b < 2 ^ 62) : Go.bits .or .i64 a b = ((a ||| b : Nat) : Int) := (bits_nat3 .i64 62 (by decide) wr_i64 a b ha hb).2.1
theorem xor_i64 (a b : Nat) (ha : a < 2 ^ 62) (hb : b < 2 ^ 62) : Go.bits .xor .i64 a b = ((a ^^^ b : Nat) : Int) := (bits_nat3 .i64 62 (by decide) wr_i64 a b ha hb).2.2
theorem and_i64 (a b : Nat) (ha : a < 2 ^ 62) (hb : b < 2 ^ 62) : Go.bits .and .i64 a b = ((a &&& b : Nat) : Int) := (bits_nat3 .i64 62 (by decide) wr_i64 a b ha hb).1
theorem xor_u8 (a b : Nat) (ha : a < 2 ^ 8) (hb : b < 2 ^ 8) : Go.bits .xor .u8 a b = ((a ^^^ b : Nat) : Int) := (bits_nat3 .u8 8 (by decide) wraps_u8 a b ha hb).2.2
/-- Byte i of s as a natural number. -/
def bn (s : ByteArray) (i : Nat) : Nat := (s.data.toList.getD i 0).toNat
theorem bn_lt (s : ByteArray) (i : Nat) : bn s i < 256 := (s.data.toList.getD i 0).toNat_lt
theorem bt_bn (s : ByteArray) (i : Nat) : bt s (i : Int) = (bn s i : Int) := by
  unfold bt bn
  split
  · rename_i h
    have h' : i < s.data.toList.length := by rw [data_length]; simpa using h
    rw [List.getD_eq_getElem?_getD, List.getElem?_eq_getElem h']; rfl
  · rename_i h
    have h' : s.data.toList.length ≤ i := by rw [data_length]; simpa using h
    rw [List.getD_eq_getElem?_getD, List.getElem?_eq_none h']; rfl
theorem bt_bn' (s : ByteArray) (i : Int) (h : 0 ≤ i) : bt s i = (bn s i.toNat : Int) := by
  obtain ⟨n, rfl⟩ := Int.eq_ofNat_of_zero_le h
  exact bt_bn s n
theorem toList_eq' (s : ByteArray) : s.toList = s.data.toList := ByteArray.toList_eq s
/-- Two strings of one length are one where their bytes are. -/
theorem bytes_ext {s t : ByteArray} (hl : s.size = t.size) (h : ∀ i, i < s.size → bn s i = bn t i) : s.data.toList = t.data.toList := by
  apply List.ext_getElem (by rw [data_length, data_length, hl])
  intro i h1 h2
  have := h i (by rw [← data_length]; exact h1)
  unfold bn at this
  rw [List.getD_eq_getElem?_getD, List.getD_eq_getElem?_getD, List.getElem?_eq_getElem h1, List.getElem?_eq_getElem h2] at this
  exact UInt8.toNat_inj.1 this
theorem strOf_data (xs : List Int) : (strOfNums xs).data.toList = xs.map fun n => UInt8.ofNat n.toNat := by simp [strOfNums]
theorem strOf_toList (xs : List Int) : (strOfNums xs).toList = xs.map fun n => UInt8.ofNat n.toNat := by rw [toList_eq', strOf_data]
theorem strOf_size (xs : List Int) : (strOfNums xs).size = xs.length := by rw [← data_length, strOf_data, List.length_map]
/-- A list of n numbers written cell by cell is the list of what was written. -/
theorem tab_set (f : Nat → Int) (n i : Nat) (rest : List Int) (h : i < n) (hr : rest.length = n - i) :
    (((List.range i).map f) ++ rest).set i (f i) = ((List.range (i + 1)).map f) ++ rest.tail := by
  cases rest with
  | nil => simp at hr; omega
  | cons a rest =>
    rw [List.set_append_right _ _ (by simp)]
    simp [List.range_succ]
theorem xor_zero_iff {a b : Nat} : a ^^^ b = 0 ↔ a = b := by
  constructor
  · intro h
    have := congrArg (· ^^^ b) h
    simpa [Nat.xor_assoc] using this
  · rintro rfl; exact Nat.xor_self a
theorem rounds_of {P : Nat → Prop} (n : Nat) (h : ∀ k, n ≤ k → P k) : ∃ k, P k := ⟨n, h n (Nat.le_refl n)⟩
/-- As Option.bind_some, but not by reduction: the kernel is not led into what follows. -/
theorem ob {α β : Type} (a : α) (f : α → Option β) : (some a).bind f = f a := by
  cases h : f a with
  | none => rw [Option.bind_some, h]
  | some b => rw [Option.bind_some, h]

theorem figure_digit : ∀ n, n < 16 → spec_l01Figure.f ((n : Nat) : Int) = some (((Go.Lib.Hx.digit n).toNat : Nat) : Int) := by decide +kernel
theorem nums_snoc (l : List UInt8) (b : UInt8) : Go.Lib.Hx.nums (l ++ [b]) = Go.Lib.Hx.nums l ++ [((Go.Lib.Hx.digit (b.toNat / 16)).toNat : Int), ((Go.Lib.Hx.digit (b.toNat % 16)).toNat : Int)] := by
  simp [Go.Lib.Hx.nums, Go.Lib.Hx.encode, List.flatMap_append]
theorem bt_data (a : ByteArray) (i : Nat) (h : i < a.data.toList.length) : bt a (i : Int) = ((a.data.toList[i]'h).toNat : Int) := by
  have h_ : i < a.size := h
  rw [← bt_at a (i : Int) (by simpa using h_)]
  rfl
theorem spec_hex_loop (a : ByteArray) (hs : a.size ≤ 20000) (d : Nat) : ∀ (k i : Nat), i + d = a.size → d < k → spec_Hex.l0 k a (Go.Lib.Hx.nums (a.data.toList.take i)) (i : Int) = some (strOfNums (Go.Lib.Hx.nums a.data.toList), true) := by
  have hn : a.data.toList.length = a.size := rfl
  induction d with
  | zero =>
    intro k i hi hk
    obtain ⟨k, rfl⟩ : ∃ q, k = q + 1 := ⟨k - 1, by omega⟩
    obtain rfl : i = a.size := by omega
    simp only [spec_Hex.l0]; rw [if_neg (by omega), List.take_of_length_le (by omega)]
  | succ d ih =>
    intro k i hi hk
    obtain ⟨k, rfl⟩ : ∃ q, k = q + 1 := ⟨k - 1, by omega⟩
    have hil : i < a.data.toList.length := by omega
    have e := ih k (i + 1) (by omega) (by omega)
    rw [List.take_add_one, List.getElem?_eq_getElem hil, Option.toList_some, nums_snoc] at e
    have hb := bt_data a i hil
    have hlt := (a.data.toList[i]'hil).toNat_lt
    generalize a.data.toList[i]'hil = b at *
    simp only [spec_Hex.l0]
    rw [if_pos (by omega), if_pos (by omega), hb, w64 (show -9223372036854775808 ≤ (b.toNat : Int) by omega) (by omega), show Int.tdiv (b.toNat : Int) 16 = ((b.toNat / 16 : Nat) : Int) by rw [Int.tdiv_eq_ediv_of_nonneg (by omega)]; omega, w64 (by omega) (by omega), show Int.tmod (b.toNat : Int) 16 = ((b.toNat % 16 : Nat) : Int) by rw [Int.tmod_eq_emod_of_nonneg (by omega)]; omega, figure_digit _ (by omega), figure_digit _ (by omega)]
    simp only [Option.bind_some]
    rw [if_pos (by rw [Go.Lib.Hx.nums_length, List.length_take]; simp; omega), w64 (by omega) (by omega), show (i : Int) + 1 = ((i + 1 : Nat) : Int) by omega]
    exact e
theorem spec_hex (a : ByteArray) (k : Nat) (hk : a.size < k) : spec_Hex.f k a = some (if a.size ≤ 20000 then ((⟨(Go.Lib.Hx.encode a.data.toList).toArray⟩ : ByteArray), true) else ((⟨#[]⟩ : ByteArray), false)) := by
  unfold spec_Hex.f
  by_cases h : a.size ≤ 20000
  · rw [if_neg (by omega), if_pos h]
    have e := spec_hex_loop a h a.size k 0 (by omega) hk
    rw [Int.natCast_zero, Go.Lib.Hx.strOfNums_nums] at e
    exact e
  · rw [if_pos (by omega), if_neg h]

theorem FnExactHex : laws_FnExactHex.Pure := by
  intro a ha
  refine rounds_of (a.size + 1) fun k hk => ?_
  unfold laws_FnExactHex.f
  split
  · rfl
  · rw [spec_hex a k (by omega)]
    unfold impl_Hex.f
    by_cases c : a.size ≤ 20000
    · rw [if_pos c, if_pos c]
      simp
    · rw [if_neg c, if_neg c]
      simp
end Go.Proofs.Ytmlleefmkmelmaa.Pure
