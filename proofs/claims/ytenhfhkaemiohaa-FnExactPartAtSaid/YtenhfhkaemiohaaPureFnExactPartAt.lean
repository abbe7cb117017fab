/- The law FnExactPartAt answers true at every geometry and number; no condition. -/
import Derived.Test.YtenhfhkaemiohaaMFnExactPartAtx2
namespace Go.Proofs.Ytenhfhkaemiohaa.Pure
open Go.RowKit Go.Proofs.Ytenhfhkaemiohaa.PFnExactPartAt Go.Proofs.YtenhfhkaemiohaaW.PrintWords Go.Proofs.YtenhfhkaemiohaaW.PrintLast Go.Proofs.YtenhfhkaemiohaaW.PrintMore
set_option linter.unusedVariables false
set_option linter.unusedSimpArgs false

theorem w64 {n : Int} (h0 : -9223372036854775808 ≤ n) (h1 : n ≤ 9223372036854775807) : wrap64 n = n := by
  unfold wrap64; omega
theorem bits_nat3 (k : IntKind) (j : Nat) (hj : j ≤ k.bits) (hk : ∀ n : Int, 0 ≤ n → n < 2 ^ j → k.wrap n = n) (a b : Nat) (ha : a < 2 ^ j) (hb : b < 2 ^ j) :
    Go.bits .and k a b = ((a &&& b : Nat) : Int) ∧ Go.bits .or k a b = ((a ||| b : Nat) : Int) ∧ Go.bits .xor k a b = ((a ^^^ b : Nat) : Int) := by
  have hp : 2 ^ j ≤ 2 ^ k.bits := Nat.pow_le_pow_right (by decide) hj
  have ha' : a % 2 ^ k.bits = a := Nat.mod_eq_of_lt (Nat.lt_of_lt_of_le ha hp)
  have hb' : b % 2 ^ k.bits = b := Nat.mod_eq_of_lt (Nat.lt_of_lt_of_le hb hp)
  have cast : ∀ n : Nat, n < 2 ^ j → ((n : Nat) : Int) < 2 ^ j := fun n h => by exact_mod_cast h
  refine ⟨?_, ?_, ?_⟩
  · simp only [Go.bits, BitVec.ofInt_natCast, BitVec.toNat_and, BitVec.toNat_ofNat, ha', hb']
    exact hk _ (Int.natCast_nonneg _) (cast _ (Nat.and_lt_two_pow _ hb))
  · simp only [Go.bits, BitVec.ofInt_natCast, BitVec.toNat_or, BitVec.toNat_ofNat, ha', hb']
    exact hk _ (Int.natCast_nonneg _) (cast _ (Nat.or_lt_two_pow ha hb))
  · simp only [Go.bits, BitVec.ofInt_natCast, BitVec.toNat_xor, BitVec.toNat_ofNat, ha', hb']
    exact hk _ (Int.natCast_nonneg _) (cast _ (Nat.xor_lt_two_pow ha hb))
theorem wr_i64 (n : Int) (h0 : 0 ≤ n) (h1 : n < 2 ^ 62) : IntKind.i64.wrap n = n := by rw [IntKind.wrap_i64]; omega
theorem wr_u64 (n : Int) (h0 : 0 ≤ n) (h1 : n < 2 ^ 64) : IntKind.u64.wrap n = n := by
  simp [IntKind.wrap, IntKind.bits, IntKind.signed]; omega
theorem or_i64 (a b : Nat) (ha : a < 2 ^ 62) (hb : b < 2 ^ 62) : Go.bits .or .i64 a b = ((a ||| b : Nat) : Int) := (bits_nat3 .i64 62 (by decide) wr_i64 a b ha hb).2.1
theorem xor_i64 (a b : Nat) (ha : a < 2 ^ 62) (hb : b < 2 ^ 62) : Go.bits .xor .i64 a b = ((a ^^^ b : Nat) : Int) := (bits_nat3 .i64 62 (by decide) wr_i64 a b ha hb).2.2
theorem and_i64 (a b : Nat) (ha : a < 2 ^ 62) (hb : b < 2 ^ 62) : Go.bits .and .i64 a b = ((a &&& b : Nat) : Int) := (bits_nat3 .i64 62 (by decide) wr_i64 a b ha hb).1
theorem xor_u8 (a b : Nat) (ha : a < 2 ^ 8) (hb : b < 2 ^ 8) : Go.bits .xor .u8 a b = ((a ^^^ b : Nat) : Int) := (bits_nat3 .u8 8 (by decide) wraps_u8 a b ha hb).2.2
/-- Byte i of s as a natural number. -/
def bn (s : ByteArray) (i : Nat) : Nat := (s.data.toList.getD i 0).toNat
theorem bn_lt (s : ByteArray) (i : Nat) : bn s i < 256 := (s.data.toList.getD i 0).toNat_lt
theorem bt_bn (s : ByteArray) (i : Nat) : bt s (i : Int) = (bn s i : Int) := by
  unfold bt bn
  split
  · rename_i h
    have h' : i < s.data.toList.length := by rw [data_length]; simpa using h
    rw [List.getD_eq_getElem?_getD, List.getElem?_eq_getElem h']; rfl
  · rename_i h
    have h' : s.data.toList.length ≤ i := by rw [data_length]; simpa using h
    rw [List.getD_eq_getElem?_getD, List.getElem?_eq_none h']; rfl
theorem bt_bn' (s : ByteArray) (i : Int) (h : 0 ≤ i) : bt s i = (bn s i.toNat : Int) := by
  obtain ⟨n, rfl⟩ := Int.eq_ofNat_of_zero_le h
  exact bt_bn s n
theorem toList_eq' (s : ByteArray) : s.toList = s.data.toList := ByteArray.toList_eq s
/-- Two strings of one length are one where their bytes are. -/
theorem bytes_ext {s t : ByteArray} (hl : s.size = t.size) (h : ∀ i, i < s.size → bn s i = bn t i) : s.data.toList = t.data.toList := by
  apply List.ext_getElem (by rw [data_length, data_length, hl])
  intro i h1 h2
  have := h i (by rw [← data_length]; exact h1)
  unfold bn at this
  rw [List.getD_eq_getElem?_getD, List.getD_eq_getElem?_getD, List.getElem?_eq_getElem h1, List.getElem?_eq_getElem h2] at this
  exact UInt8.toNat_inj.1 this
theorem strOf_data (xs : List Int) : (strOfNums xs).data.toList = xs.map fun n => UInt8.ofNat n.toNat := by simp [strOfNums]
theorem strOf_toList (xs : List Int) : (strOfNums xs).toList = xs.map fun n => UInt8.ofNat n.toNat := by rw [toList_eq', strOf_data]
theorem strOf_size (xs : List Int) : (strOfNums xs).size = xs.length := by rw [← data_length, strOf_data, List.length_map]
/-- A list of n numbers written cell by cell is the list of what was written. -/
theorem tab_set (f : Nat → Int) (n i : Nat) (rest : List Int) (h : i < n) (hr : rest.length = n - i) :
    (((List.range i).map f) ++ rest).set i (f i) = ((List.range (i + 1)).map f) ++ rest.tail := by
  cases rest with
  | nil => simp at hr; omega
  | cons a rest =>
    rw [List.set_append_right _ _ (by simp)]
    simp [List.range_succ]
theorem xor_zero_iff {a b : Nat} : a ^^^ b = 0 ↔ a = b := by
  constructor
  · intro h
    have := congrArg (· ^^^ b) h
    simpa [Nat.xor_assoc] using this
  · rintro rfl; exact Nat.xor_self a

theorem lin (x lo hi : Int) : spec_l01In.f x lo hi = some (decide (lo ≤ x ∧ x ≤ hi)) := by
  unfold spec_l01In.f
  by_cases h : x ≥ lo
  · rw [if_pos h]; congr 1; simp; omega
  · rw [if_neg h]; congr 1; simp; omega
theorem win (x lo hi : Int) : impl_within.f x lo hi = some (decide (lo ≤ x ∧ x ≤ hi)) := lin x lo hi
def geoB (a b c d : Int) : Bool := decide (1 ≤ a ∧ a ≤ 3) && (decide (5 ≤ b ∧ b ≤ 12) && (decide (2 ≤ c ∧ c ≤ 6) && decide (1 ≤ d ∧ d ≤ wrap64 (b - 4))))
theorem geo_spec (a b c d : Int) : spec_GeoOk.f a b c d = some (geoB a b c d) := by
  simp only [spec_GeoOk.f, lin, Option.bind_some, geoB]
  cases decide (1 ≤ a ∧ a ≤ 3) <;> cases decide (5 ≤ b ∧ b ≤ 12) <;> cases decide (2 ≤ c ∧ c ≤ 6) <;> simp
theorem geo_impl (a b c d : Int) : impl_GeoOk.f a b c d = some (geoB a b c d) := by
  simp only [impl_GeoOk.f, win, Option.bind_some, geoB]
  cases decide (1 ≤ a ∧ a ≤ 3) <;> cases decide (5 ≤ b ∧ b ≤ 12) <;> cases decide (2 ≤ c ∧ c ≤ 6) <;> simp
theorem geo_bounds {a b c d : Int} (h : geoB a b c d = true) : (1 ≤ a ∧ a ≤ 3) ∧ (5 ≤ b ∧ b ≤ 12) ∧ (2 ≤ c ∧ c ≤ 6) ∧ 1 ≤ d ∧ d ≤ b - 4 := by
  simp only [geoB, Bool.and_eq_true, decide_eq_true_eq] at h
  obtain ⟨h1, h2, h3, h4⟩ := h
  rw [w64 (by omega) (by omega)] at h4
  exact ⟨h1, h2, h3, h4⟩

theorem FnExactPartAt : laws_FnExactPartAt.Pure := by
  intro a b c d at_ _ _ _ _ _
  refine ⟨2, ?_⟩
  simp only [laws_FnExactPartAt.f, laws_toGeo.f, spec_PartAt.f, spec_PartWords.f, impl_PartAt.f, impl_Geo_partWords.f, geo_spec, geo_impl, lin, win, Option.bind_some]
  cases hg : geoB a b c d
  · simp [spec_PartAt.j0, impl_PartAt.j0]
  · obtain ⟨_, hb, hc, _⟩ := geo_bounds hg
    have hn : wrap64 (wrap64 (38 + wrap64 (8 * c)) + wrap64 (4 * b)) = 38 + 8 * c + 4 * b := by
      rw [w64 (n := 8 * c) (by omega) (by omega), w64 (n := 4 * b) (by omega) (by omega), w64 (n := 38 + 8 * c) (by omega) (by omega), w64 (by omega) (by omega)]
    have h0 : ¬ (38 + 8 * c + 4 * b = 0) := by omega
    simp only [if_true, Option.bind_some, hn, if_neg h0]
    generalize decide (0 ≤ at_ ∧ at_ ≤ wrap64 (wrap64 (a * (38 + 8 * c + 4 * b)) - 1)) = q
    cases q
    · simp [spec_PartAt.j0, impl_PartAt.j0]
    · simp only [spec_PartAt.j0, impl_PartAt.j0, impl_Geo_partWords.f, hn, if_neg h0, Bool.not_true, Bool.false_eq_true, if_false, Option.bind_some]
      generalize Int.tmod at_ (38 + 8 * c + 4 * b) = r
      by_cases h1 : r = 0
      · simp [h1]
      · by_cases h2 : r = 2
        · simp [h2]
        · simp only [h1, h2, if_false]
          split
          · simp
          · split
            · simp
            · split
              · simp
              · split <;> simp
end Go.Proofs.Ytenhfhkaemiohaa.Pure
