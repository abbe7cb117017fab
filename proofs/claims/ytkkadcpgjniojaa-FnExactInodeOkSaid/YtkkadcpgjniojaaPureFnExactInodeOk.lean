/- The law FnExactInodeOk answers true: spec.InodeOk and impl.InodeOk give the same answer at every inode, and the argument is unchanged; no condition. -/
import Derived.Test.YtkkadcpgjniojaaMFnExactInodeOkx10
import Derived.OpenShut
namespace Go.Proofs.Ytkkadcpgjniojaa.Pure
open Go.RowKit Go.Proofs.Ytkkadcpgjniojaa.PFnExactInodeOk Go.Proofs.YtkkadcpgjniojaaW.PrintWords Go.Proofs.YtkkadcpgjniojaaW.PrintLast Go.Proofs.YtkkadcpgjniojaaW.PrintMore
set_option linter.unusedVariables false
set_option linter.unusedSimpArgs false

theorem w64 {n : Int} (h0 : -9223372036854775808 ≤ n) (h1 : n ≤ 9223372036854775807) : wrap64 n = n := by
  unfold wrap64; omega
theorem bits_nat3 (k : IntKind) (j : Nat) (hj : j ≤ k.bits) (hk : ∀ n : Int, 0 ≤ n → n < 2 ^ j → k.wrap n = n) (a b : Nat) (ha : a < 2 ^ j) (hb : b < 2 ^ j) :
    Go.bits .and k a b = ((a &&& b : Nat) : Int) ∧ Go.bits .or k a b = ((a ||| b : Nat) : Int) ∧ Go.bits .xor k a b = ((a ^^^ b : Nat) : Int) := by
  have hp : 2 ^ j ≤ 2 ^ k.bits := Nat.pow_le_pow_right (by decide) hj
  have ha' : a % 2 ^ k.bits = a := Nat.mod_eq_of_lt (Nat.lt_of_lt_of_le ha hp)
  have hb' : b % 2 ^ k.bits = b := Nat.mod_eq_of_lt (Nat.lt_of_lt_of_le hb hp)
  have cast : ∀ n : Nat, n < 2 ^ j → ((n : Nat) : Int) < 2 ^ j := fun n h => by exact_mod_cast h
  refine ⟨?_, ?_, ?_⟩
  · simp only [Go.bits, BitVec.ofInt_natCast, BitVec.toNat_and, BitVec.toNat_ofNat, ha', hb']
    exact hk _ (Int.natCast_nonneg _) (cast _ (Nat.and_lt_two_pow _ hb))
  · simp only [Go.bits, BitVec.ofInt_natCast, BitVec.toNat_or, BitVec.toNat_ofNat, ha', hb']
    exact hk _ (Int.natCast_nonneg _) (cast _ (Nat.or_lt_two_pow ha hb))
  · simp only [Go.bits, BitVec.ofInt_natCast, BitVec.toNat_xor, BitVec.toNat_ofNat, ha', hb']
    exact hk _ (Int.natCast_nonneg _) (cast _ (Nat.xor_lt_two_pow ha hb))
theorem wr_i64 (n : Int) (h0 : 0 ≤ n) (h1 : n < 2 ^ 62) : IntKind.i64.wrap n = n := by rw [IntKind.wrap_i64]; omega
theorem wr_u64 (n : Int) (h0 : 0 ≤ n) (h1 : n < 2 ^ 64) : IntKind.u64.wrap n = n := by
  simp [IntKind.wrap, IntKind.bits, IntKind.signed]; omega
theorem or_i64 (a b : Nat) (ha : a < 2 ^ 62) (hb : b < 2 ^ 62) : Go.bits .or .i64 a b = ((a ||| b : Nat) : Int) := (bits_nat3 .i64 62 (by decide) wr_i64 a b ha hb).2.1
theorem xor_i64 (a b : Nat) (ha : a < 2 ^ 62) (hb : b < 2 ^ 62) : Go.bits .xor .i64 a b = ((a ^^^ b : Nat) : Int) := (bits_nat3 .i64 62 (by decide) wr_i64 a b ha hb).2.2
theorem and_i64 (a b : Nat) (ha : a < 2 ^ 62) (hb : b < 2 ^ 62) : Go.bits .and .i64 a b = ((a &&& b : Nat) : Int) := (bits_nat3 .i64 62 (by decide) wr_i64 a b ha hb).1
theorem xor_u8 (a b : Nat) (ha : a < 2 ^ 8) (hb : b < 2 ^ 8) : Go.bits .xor .u8 a b = ((a ^^^ b : Nat) : Int) := (bits_nat3 .u8 8 (by decide) wraps_u8 a b ha hb).2.2
/-- Byte i of s as a natural number. -/
def bn (s : ByteArray) (i : Nat) : Nat := (s.data.toList.getD i 0).toNat
theorem bn_lt (s : ByteArray) (i : Nat) : bn s i < 256 := (s.data.toList.getD i 0).toNat_lt
theorem bt_bn (s : ByteArray) (i : Nat) : bt s (i : Int) = (bn s i : Int) := by
  unfold bt bn
  split
  · rename_i h
    have h' : i < s.data.toList.length := by rw [data_length]; simpa using h
    rw [List.getD_eq_getElem?_getD, List.getElem?_eq_getElem h']; rfl
  · rename_i h
    have h' : s.data.toList.length ≤ i := by rw [data_length]; simpa using h
    rw [List.getD_eq_getElem?_getD, List.getElem?_eq_none h']; rfl
theorem bt_bn' (s : ByteArray) (i : Int) (h : 0 ≤ i) : bt s i = (bn s i.toNat : Int) := by
  obtain ⟨n, rfl⟩ := Int.eq_ofNat_of_zero_le h
  exact bt_bn s n
theorem toList_eq' (s : ByteArray) : s.toList = s.data.toList := ByteArray.toList_eq s
/-- Two strings of one length are one where their bytes are. -/
theorem bytes_ext {s t : ByteArray} (hl : s.size = t.size) (h : ∀ i, i < s.size → bn s i = bn t i) : s.data.toList = t.data.toList := by
  apply List.ext_getElem (by rw [data_length, data_length, hl])
  intro i h1 h2
  have := h i (by rw [← data_length]; exact h1)
  unfold bn at this
  rw [List.getD_eq_getElem?_getD, List.getD_eq_getElem?_getD, List.getElem?_eq_getElem h1, List.getElem?_eq_getElem h2] at this
  exact UInt8.toNat_inj.1 this
theorem strOf_data (xs : List Int) : (strOfNums xs).data.toList = xs.map fun n => UInt8.ofNat n.toNat := by simp [strOfNums]
theorem strOf_toList (xs : List Int) : (strOfNums xs).toList = xs.map fun n => UInt8.ofNat n.toNat := by rw [toList_eq', strOf_data]
theorem strOf_size (xs : List Int) : (strOfNums xs).size = xs.length := by rw [← data_length, strOf_data, List.length_map]
/-- A list of n numbers written cell by cell is the list of what was written. -/
theorem tab_set (f : Nat → Int) (n i : Nat) (rest : List Int) (h : i < n) (hr : rest.length = n - i) :
    (((List.range i).map f) ++ rest).set i (f i) = ((List.range (i + 1)).map f) ++ rest.tail := by
  cases rest with
  | nil => simp at hr; omega
  | cons a rest =>
    rw [List.set_append_right _ _ (by simp)]
    simp [List.range_succ]
theorem xor_zero_iff {a b : Nat} : a ^^^ b = 0 ↔ a = b := by
  constructor
  · intro h
    have := congrArg (· ^^^ b) h
    simpa [Nat.xor_assoc] using this
  · rintro rfl; exact Nat.xor_self a
theorem rounds_of {P : Nat → Prop} (n : Nat) (h : ∀ k, n ≤ k → P k) : ∃ k, P k := ⟨n, h n (Nat.le_refl n)⟩
/-- As Option.bind_some, but not by reduction: the kernel is not led into what follows. -/
theorem ob {α β : Type} (a : α) (f : α → Option β) : (some a).bind f = f a := by
  cases h : f a with
  | none => rw [Option.bind_some, h]
  | some b => rw [Option.bind_some, h]

/-- The w bytes of m, the greatest first. -/
def nb (m w i : Nat) : Int := ((m / 2 ^ (8 * (w - 1 - i)) % 256 : Nat) : Int)
def numBytes (m w : Nat) : List Int := (List.range w).map (nb m w)
theorem numBytes_length (m w : Nat) : (numBytes m w).length = w := by simp [numBytes]
theorem shr_nat (m c : Nat) (hc : c ≤ 64) (y : Int) (hy : y = c) : shr .i64 (m : Int) y = ((m / 2 ^ c : Nat) : Int) := by
  subst hy
  unfold shr
  rw [show min ((c : Int)).toNat IntKind.i64.bits = c by simp [IntKind.bits]; omega]
  simp
theorem shl_one (c : Nat) (hc : c ≤ 56) (y : Int) (hy : y = c) : shl .i64 1 y = ((2 ^ c : Nat) : Int) := by
  subst hy
  unfold shl
  rw [show min ((c : Int)).toNat IntKind.i64.bits = c by simp [IntKind.bits]; omega]
  have h : (2 : Nat) ^ c ≤ 2 ^ 56 := Nat.pow_le_pow_right (by decide) hc
  rw [show (1 : Int) * 2 ^ c = ((2 ^ c : Nat) : Int) by simp]
  exact wr_i64 _ (Int.natCast_nonneg _) (by have : (2 : Nat) ^ 56 = 72057594037927936 := by decide
                                            omega)
theorem spec_numText_loop (m w : Nat) (hw : w ≤ 7) (d : Nat) : ∀ (k j : Nat), j + d = w → d < k →
    spec_NumText.l0 k (m : Int) ((List.range j).map (nb m w)) ((w : Int) - 1 - j) = some (strOfNums (numBytes m w)) := by
  induction d with
  | zero =>
    intro k j hd hk
    obtain ⟨k, rfl⟩ : ∃ q, k = q + 1 := ⟨k - 1, by omega⟩
    obtain rfl : j = w := by omega
    simp only [spec_NumText.l0]
    rw [if_neg (by omega)]; rfl
  | succ d ih =>
    intro k j hd hk
    obtain ⟨k, rfl⟩ : ∃ q, k = q + 1 := ⟨k - 1, by omega⟩
    have e := ih k (j + 1) (by omega) (by omega)
    simp only [spec_NumText.l0]
    rw [wr_u64 ((w : Int) - 1 - j) (by omega) (by omega), wr_u64 (8 * ((w : Int) - 1 - j)) (by omega) (by omega), if_pos (by omega), if_pos (by omega), if_pos (by simp; omega), shr_nat m (8 * (w - 1 - j)) (by omega) _ (by omega), w64 (by omega) (by omega)]
    rw [show (((m / 2 ^ (8 * (w - 1 - j)) : Nat) : Int) % 256) = nb m w j by unfold nb; omega]
    rw [List.range_succ, List.map_append] at e
    rw [show (w : Int) - 1 - j - 1 = (w : Int) - 1 - ((j + 1 : Nat) : Int) by omega]
    exact e
theorem impl_numText_loop (m w : Nat) (hw : w ≤ 7) (d : Nat) : ∀ (k j : Nat), j + d = w → d < k →
    impl_NumText.l0 k (m : Int) (w : Int) ((List.range j).map (nb m w) ++ List.replicate d 0) (w : Int) (j : Int) = some (strOfNums (numBytes m w)) := by
  induction d with
  | zero =>
    intro k j hd hk
    obtain ⟨k, rfl⟩ : ∃ q, k = q + 1 := ⟨k - 1, by omega⟩
    obtain rfl : j = w := by omega
    simp only [impl_NumText.l0]
    rw [if_neg (by omega)]; simp [numBytes]
  | succ d ih =>
    intro k j hd hk
    obtain ⟨k, rfl⟩ : ∃ q, k = q + 1 := ⟨k - 1, by omega⟩
    have e := ih k (j + 1) (by omega) (by omega)
    simp only [impl_NumText.l0]
    rw [w64 (n := (w : Int) - 1) (by omega) (by omega), w64 (n := (w : Int) - 1 - j) (by omega) (by omega), w64 (n := 8 * ((w : Int) - 1 - j)) (by omega) (by omega), if_pos (by omega), if_pos (by omega), if_pos (by omega), if_pos (by simp; omega), shr_nat m (8 * (w - 1 - j)) (by omega) _ (by omega), w64 (by omega) (by omega)]
    rw [show (((m / 2 ^ (8 * (w - 1 - j)) : Nat) : Int) % 256) = nb m w j by unfold nb; omega]
    rw [show ((j : Int)).toNat = j from rfl, tab_set (nb m w) w j (List.replicate (d + 1) 0) (by omega) (by simp; omega)]
    exact e
/-- What NumText comes to. -/
def numTextOf (n w : Int) : ByteArray := if 0 ≤ n ∧ 1 ≤ w ∧ w ≤ 7 ∧ n.toNat < 2 ^ (8 * w.toNat) then strOfNums (numBytes n.toNat w.toNat) else ⟨#[]⟩
theorem numTextOf_size (n w : Int) : (numTextOf n w).size ≤ 7 := by
  unfold numTextOf
  split
  · rw [strOf_size, numBytes_length]; omega
  · simp [ByteArray.size]
theorem spec_numText (k : Nat) (hk : 9 ≤ k) (n w : Int) (n1 : n ≤ 9223372036854775807) : spec_NumText.f k n w = some (numTextOf n w) := by
  obtain ⟨k, rfl⟩ : ∃ q, k = q + 1 := ⟨k - 1, by omega⟩
  unfold numTextOf
  by_cases hn : 0 ≤ n
  · obtain ⟨m, rfl⟩ := Int.eq_ofNat_of_zero_le hn
    by_cases hw : 1 ≤ w
    · obtain ⟨v, rfl⟩ := Int.eq_ofNat_of_zero_le (show 0 ≤ w by omega)
      by_cases hw7 : (v : Int) ≤ 7
      · have e0 : IntKind.u64.wrap (v : Int) = v := wr_u64 _ (by omega) (by omega)
        have e1 : IntKind.u64.wrap (8 * (v : Int)) = 8 * v := wr_u64 _ (by omega) (by omega)
        have e2 := shr_nat m (8 * v) (by omega) (8 * (v : Int)) (by omega)
        have hc : (0 : Int) ≤ 8 * v := by omega
        simp only [spec_NumText.f, spec_l01In.f, ge_iff_le, if_neg (show ¬ ((m : Int) < 0) by omega), if_pos hw, hw7, decide_true, Option.bind_some, if_true, e0, e1, e2, if_pos hc, spec_NumText.j0]
        by_cases h : m < 2 ^ (8 * v)
        · rw [if_neg, if_pos ⟨hn, hw, trivial, h⟩]
          · have e := spec_numText_loop m v (by omega) v k 0 (by omega) (by omega)
            rw [Int.natCast_zero, Int.sub_zero] at e
            rw [w64 (by omega) (by omega)]
            exact e
          · have := Nat.div_eq_of_lt h
            simp [this]
        · rw [if_pos, if_neg (fun hh => h hh.2.2.2)]
          have := Nat.div_pos (show 2 ^ (8 * v) ≤ m by omega) (Nat.two_pow_pos _)
          simp only [decide_eq_true_eq]; omega
      · simp only [spec_NumText.f, spec_l01In.f, ge_iff_le, if_neg (show ¬ ((m : Int) < 0) by omega), if_pos hw, hw7, decide_false, Option.bind_some, Bool.false_eq_true, if_false, if_true, spec_NumText.j0, false_and, and_false]
    · simp only [spec_NumText.f, spec_l01In.f, ge_iff_le, if_neg (show ¬ ((m : Int) < 0) by omega), if_neg hw, Option.bind_some, Bool.false_eq_true, if_false, if_true, spec_NumText.j0, hw, false_and, and_false]
  · simp only [spec_NumText.f, if_pos (show n < 0 by omega), if_true, spec_NumText.j0, hn, false_and, if_false]
theorem impl_numText (k : Nat) (hk : 9 ≤ k) (n w : Int) (n1 : n ≤ 9223372036854775807) : impl_NumText.f k n w = some (numTextOf n w) := by
  obtain ⟨k, rfl⟩ : ∃ q, k = q + 1 := ⟨k - 1, by omega⟩
  unfold numTextOf
  by_cases hn : 0 ≤ n
  · obtain ⟨m, rfl⟩ := Int.eq_ofNat_of_zero_le hn
    by_cases hw : 1 ≤ w
    · obtain ⟨v, rfl⟩ := Int.eq_ofNat_of_zero_le (show 0 ≤ w by omega)
      by_cases hw7 : (v : Int) ≤ 7
      · have e1 : wrap64 (8 * (v : Int)) = 8 * v := w64 (by omega) (by omega)
        have e2 := shl_one (8 * v) (by omega) (8 * (v : Int)) (by omega)
        have hc : (0 : Int) ≤ 8 * v := by omega
        simp only [impl_NumText.f, impl_within.f, ge_iff_le, if_neg (show ¬ ((m : Int) < 0) by omega), if_pos hw, hw7, decide_true, Option.bind_some, if_true, e1, e2, if_pos hc, impl_NumText.j0]
        by_cases h : m < 2 ^ (8 * v)
        · have h' : ¬ ((2 ^ (8 * v) : Nat) : Int) ≤ (m : Int) := by omega
          have e := impl_numText_loop m v (by omega) v k 0 (by omega) (by omega)
          rw [Int.natCast_zero] at e
          simp only [h', decide_false, Bool.false_eq_true, if_false]
          rw [if_pos (show ((v : Int)).toNat ≤ 281474976710656 by omega)]
          simp only [List.length_replicate, Int.toNat_natCast]
          have hh : 0 ≤ (m : Int) ∧ 1 ≤ (v : Int) ∧ True ∧ m < 2 ^ (8 * v) := ⟨hn, hw, trivial, h⟩
          simp only [if_pos hh]
          exact e
        · have h' : ((2 ^ (8 * v) : Nat) : Int) ≤ (m : Int) := by omega
          simp only [h', decide_true, if_true]
          rw [if_neg (fun hh => h hh.2.2.2)]
      · simp only [impl_NumText.f, impl_within.f, ge_iff_le, if_neg (show ¬ ((m : Int) < 0) by omega), if_pos hw, hw7, decide_false, Option.bind_some, Bool.false_eq_true, if_false, if_true, impl_NumText.j0, false_and, and_false]
    · simp only [impl_NumText.f, impl_within.f, ge_iff_le, if_neg (show ¬ ((m : Int) < 0) by omega), if_neg hw, Option.bind_some, Bool.false_eq_true, if_false, if_true, impl_NumText.j0, hw, false_and, and_false]
  · simp only [impl_NumText.f, if_pos (show n < 0 by omega), if_true, impl_NumText.j0, hn, false_and, if_false]

theorem recWord_both (k : Nat) (hk : 10 ≤ k) (p s : Int) (m : ByteArray) (hm : m.size ≤ 140737488351232) : ∃ r, spec_RecWord.f k p s m = some r ∧ impl_RecWord.f k p s m = some r ∧ r.size ≤ 140737488351300 := by
  obtain ⟨k, rfl⟩ : ∃ q, k = q + 1 := ⟨k - 1, by omega⟩
  have no : ∀ b : Bool, b = true → ∃ r, spec_RecWord.j0 (k + 1) b p s m = some r ∧ impl_RecWord.j0 (k + 1) b p s m = some r ∧ r.size ≤ 140737488351300 := by
    rintro b rfl
    exact ⟨⟨#[]⟩, by simp only [spec_RecWord.j0, if_true], by simp only [impl_RecWord.j0, if_true], by simp [ByteArray.size]⟩
  simp only [spec_RecWord.f, impl_RecWord.f, spec_l01In.f, impl_within.f]
  by_cases h1 : p ≥ 1
  · by_cases h2 : p ≤ 12
    · by_cases h3 : s ≥ 1
      · by_cases h4 : s ≤ 16777215
        · by_cases h5 : ((m.size : Int) != 4) = true
          · simp only [if_pos h1, h2, if_pos h3, h4, decide_true, Option.bind_some, if_true, h5]
            exact no true rfl
          · have h6 : ((m.size : Int) != 4) = false := by simpa using h5
            simp only [if_pos h1, h2, if_pos h3, h4, decide_true, Option.bind_some, if_true, h6]
            have z1 := numTextOf_size p 1
            have z2 := numTextOf_size s 3
            refine ⟨(numTextOf p 1 ++ numTextOf s 3) ++ m, ?_, ?_, ?_⟩
            · simp only [spec_RecWord.j0, Bool.false_eq_true, if_false, spec_numText k (by omega) p 1 (by omega), spec_numText k (by omega) s 3 (by omega), Option.bind_some]
              rw [if_pos (by omega), if_pos (by rw [ByteArray.size_append]; omega)]
            · simp only [impl_RecWord.j0, Bool.false_eq_true, if_false, impl_numText k (by omega) p 1 (by omega), impl_numText k (by omega) s 3 (by omega), Option.bind_some]
              rw [if_pos (by omega), if_pos (by rw [ByteArray.size_append]; omega)]
            · rw [ByteArray.size_append, ByteArray.size_append]; omega
        · simp only [if_pos h1, h2, if_pos h3, h4, decide_true, decide_false, Option.bind_some, if_true, Bool.false_eq_true, if_false]
          exact no true rfl
      · simp only [if_pos h1, h2, if_neg h3, decide_true, Option.bind_some, if_true, Bool.false_eq_true, if_false]
        exact no true rfl
    · simp only [if_pos h1, h2, decide_false, Option.bind_some, Bool.false_eq_true, if_false]
      exact no true rfl
  · simp only [if_neg h1, Option.bind_some, Bool.false_eq_true, if_false]
    exact no true rfl

/-- n zero bytes. -/
def zb (n : Nat) : ByteArray := strOfNums (List.replicate n 0)
theorem zb_size (n : Nat) : (zb n).size = n := by unfold zb; rw [strOf_size, List.length_replicate]
theorem zb_data (n : Nat) : (zb n).data.toList = List.replicate n 0 := by unfold zb; rw [strOf_data, List.map_replicate]; rfl
theorem ba_ext {s t : ByteArray} (h : s.data.toList = t.data.toList) : s = t := by
  cases s; cases t; simp only at h; congr; exact Array.toList_inj.1 h
theorem rep_zero (n : Nat) (hn : n ≤ 140737488355328) : strings_Repeat.f ⟨#[0]⟩ (n : Int) = some (zb n) := by
  unfold strings_Repeat.f rep_.f
  rw [if_pos ⟨by omega, by show 1 * n ≤ _; omega, by omega⟩]
  congr 1
  apply ba_ext
  rw [zb_data]
  show Lib.repeatL [0] n = _
  induction n with
  | zero => rfl
  | succ n ih => rw [Lib.repeatL, ih (by omega), List.replicate_succ]; rfl
theorem impl_pad (s : ByteArray) (n : Nat) (hs : s.size ≤ 140737488351300) (hn : n ≤ 100000) : impl_padded.f s (n : Int) = some (s ++ zb (n - s.size)) := by
  unfold impl_padded.f
  have e : mx 0 (wrap64 ((n : Int) - (s.size : Int))) = ((n - s.size : Nat) : Int) := by
    rw [w64 (by omega) (by omega)]
    unfold mx
    split <;> omega
  rw [e, rep_zero _ (by omega)]
  simp only [Option.bind_some]
  rw [if_pos (by rw [zb_size]; omega)]
theorem pad_empty (n : Nat) (hn : n ≤ 100000) : impl_padded.f ⟨#[]⟩ (n : Int) = some (zb n) := by
  rw [impl_pad _ n (Nat.zero_le _) hn]
  have e : (⟨#[]⟩ : ByteArray) ++ zb (n - (⟨#[]⟩ : ByteArray).size) = zb n := by
    apply ba_ext
    rw [show (⟨#[]⟩ : ByteArray).size = 0 from rfl, Nat.sub_zero, ByteArray.data_append, Array.toList_append]
    rfl
  rw [e]

theorem long_loop (n : Nat) (x : Int) (hn : n ≤ 100000) (d : Nat) : ∀ (k i : Nat), i + d = n → d < k → spec_l01Long.l0 k (n : Int) x ((List.range i).map (fun _ => x) ++ List.replicate d 0) (i : Int) = some (strOfNums (List.replicate n x)) := by
  induction d with
  | zero =>
    intro k i hi hk
    obtain ⟨k, rfl⟩ : ∃ q, k = q + 1 := ⟨k - 1, by omega⟩
    obtain rfl : i = n := by omega
    simp only [spec_l01Long.l0]
    rw [if_neg (by omega)]
    congr 2
    simp [List.map_const']
  | succ d ih =>
    intro k i hi hk
    obtain ⟨k, rfl⟩ : ∃ q, k = q + 1 := ⟨k - 1, by omega⟩
    have e := ih k (i + 1) (by omega) (by omega)
    have t := tab_set (fun _ => x) n i (List.replicate (d + 1) 0) (by omega) (by simp; omega)
    rw [show (List.replicate (d + 1) (0 : Int)).tail = List.replicate d 0 by simp [List.replicate_succ]] at t
    simp only [spec_l01Long.l0]
    rw [if_pos (by omega), if_pos (by omega), if_pos (by simp; omega), w64 (by omega) (by omega), show (i : Int) + 1 = ((i + 1 : Nat) : Int) by omega, show ((i : Int)).toNat = i from rfl, t]
    exact e
theorem spec_long (n : Nat) (x : Int) (hn : n ≤ 100000) (k : Nat) (hk : n < k) : spec_l01Long.f k (n : Int) x = some (strOfNums (List.replicate n x)) := by
  unfold spec_l01Long.f
  have e := long_loop n x hn n k 0 (by omega) hk
  rw [Int.natCast_zero] at e
  rw [if_pos (by omega), if_pos (by omega)]
  simpa using e
theorem spec_zero (n : Nat) (hn : n ≤ 20000) (k : Nat) (hk : n < k) : spec_ZeroText.f k (n : Int) = some (zb n) := by
  unfold spec_ZeroText.f spec_l01In.f
  rw [if_pos (by omega), decide_eq_true (by omega)]
  simp only [Option.bind_some, if_true, spec_long n 0 (by omega) k hk]
  rfl

theorem spec_wtext (s : ByteArray) (k : Nat) (hk : 9 ≤ k) : spec_WordText.f k s = some (if s.size ≤ 8 then s ++ zb (8 - s.size) else ⟨#[]⟩) := by
  unfold spec_WordText.f
  by_cases h : s.size ≤ 8
  · rw [if_neg (by omega), if_pos h]
    first
      | rw [show wrap64 (8 - (s.size : Int)) = ((8 - s.size : Nat) : Int) by rw [w64 (by omega) (by omega)]; omega]
      | rw [show (8 - (s.size : Int)) = ((8 - s.size : Nat) : Int) by omega]
    rw [spec_zero (8 - s.size) (by omega) k (by omega)]
    simp only [Option.bind_some]
    rw [if_pos (by rw [zb_size]; omega)]
  · rw [if_pos (by omega), if_neg h]

theorem impl_wtext (s : ByteArray) : impl_WordText.f s = some (if s.size ≤ 8 then s ++ zb (8 - s.size) else ⟨#[]⟩) := by
  unfold impl_WordText.f
  by_cases h : s.size ≤ 8
  · rw [if_neg (by omega), if_pos h, show (8 : Int) = ((8 : Nat) : Int) from rfl, impl_pad s 8 (by omega) (by omega)]
    rfl
  · rw [if_pos (by omega), if_neg h]

theorem name_loops (a : ByteArray) (hn : a.size ≤ 9223372036854775806) (d : Nat) : ∀ (k i : Nat), a.size - i = d → i ≤ a.size → d < k →
    ∃ r, spec_NameOk.l0 k a (i : Int) = some r ∧ impl_NameOk.l0 k a (a.size : Int) (i : Int) = some r ∧ (r = true → a.size ≤ 7) := by
  induction d with
  | zero =>
    intro k i hd hi hk
    obtain ⟨k, rfl⟩ : ∃ q, k = q + 1 := ⟨k - 1, by omega⟩
    simp only [spec_NameOk.l0, impl_NameOk.l0]; rw [if_neg (by omega), if_neg (by omega)]
    simp only [spec_l01In.f, impl_within.f]
    split
    · refine ⟨_, rfl, rfl, ?_⟩
      intro h; simp only [decide_eq_true_eq] at h; omega
    · exact ⟨false, rfl, rfl, fun h => by cases h⟩
  | succ d ih =>
    intro k i hd hi hk
    obtain ⟨k, rfl⟩ : ∃ q, k = q + 1 := ⟨k - 1, by omega⟩
    have hb := bn_lt a i
    obtain ⟨r, e1, e2, e3⟩ := ih k (i + 1) (by omega) (by omega) (by omega)
    rw [show ((i + 1 : Nat) : Int) = (i : Int) + 1 by omega] at e1 e2
    have c0 : (i : Int) < (a.size : Int) := by omega
    have c0' : 0 ≤ (i : Int) := by omega
    have hw : wrap64 (bn a i : Int) = (bn a i : Int) := w64 (by omega) (by omega)
    have hi' : wrap64 ((i : Int) + 1) = (i : Int) + 1 := w64 (by omega) (by omega)
    simp only [spec_NameOk.l0, impl_NameOk.l0, spec_l01In.f, bt_bn, hw, hi', if_pos c0, if_pos c0', e1, e2]
    by_cases c1 : (bn a i : Int) ≥ 97 <;> by_cases c2 : (bn a i : Int) ≤ 122 <;> by_cases c3 : (bn a i : Int) ≥ 48 <;> by_cases c4 : (bn a i : Int) ≤ 57 <;>
      first | (exfalso; omega) | (simp only [c1, c2, c3, c4, if_true, if_false, decide_true, decide_false, Option.bind_some, Bool.false_eq_true]; first | exact ⟨_, rfl, rfl, e3⟩ | exact ⟨_, rfl, rfl, fun h => by cases h⟩)
theorem name_both (a : ByteArray) (hn : a.size ≤ 9223372036854775806) (k : Nat) (hk : a.size < k) : ∃ r, spec_NameOk.f k a = some r ∧ impl_NameOk.f k a = some r ∧ (r = true → a.size ≤ 7) := by
  obtain ⟨r, e1, e2, e3⟩ := name_loops a hn a.size k 0 (by omega) (by omega) hk
  rw [Int.natCast_zero] at e1 e2
  exact ⟨r, by unfold spec_NameOk.f; exact e1, by unfold impl_NameOk.f; exact e2, e3⟩

theorem entry_both (i : Int) (s : ByteArray) (hs : s.size ≤ 140737488351300) (k : Nat) (hk : s.size + 20 < k) : ∃ r, spec_EntryWord.f k i s = some r ∧ impl_EntryWord.f k i s = some r := by
  obtain ⟨k, rfl⟩ : ∃ q, k = q + 1 := ⟨k - 1, by omega⟩
  obtain ⟨b, b1, b2, b3⟩ := name_both s (by omega) (k + 1) (by omega)
  have no : ∀ b : Bool, b = true → ∃ r, spec_EntryWord.j0 (k + 1) b i s = some r ∧ impl_EntryWord.j0 (k + 1) b i s = some r := by
    rintro b rfl
    exact ⟨⟨#[]⟩, by simp only [spec_EntryWord.j0, if_true], by simp only [impl_EntryWord.j0, if_true]⟩
  simp only [spec_EntryWord.f, impl_EntryWord.f, spec_l01In.f, impl_within.f, b1, b2]
  by_cases h1 : i ≥ 1
  · by_cases h2 : i ≤ 5
    · simp only [if_pos h1, h2, decide_true, Option.bind_some, if_true]
      cases b
      · exact no true rfl
      · have hs7 := b3 rfl
        have z := numTextOf_size i 1
        refine ⟨(if (numTextOf i 1 ++ s).size ≤ 8 then (numTextOf i 1 ++ s) ++ zb (8 - (numTextOf i 1 ++ s).size) else ⟨#[]⟩), ?_, ?_⟩
        rotate_left
        · simp only [impl_EntryWord.j0, Bool.not_true, Bool.false_eq_true, if_false, impl_numText k (by omega) i 1 (by omega), Option.bind_some]
          rw [if_pos (by omega), impl_wtext]; rfl
        · simp only [spec_EntryWord.j0, Bool.not_true, Bool.false_eq_true, if_false, spec_numText k (by omega) i 1 (by omega), Option.bind_some]
          rw [if_pos (by omega), spec_wtext _ k (by omega)]; rfl
    · simp only [if_pos h1, h2, decide_false, Option.bind_some, Bool.false_eq_true, if_false]
      exact no true rfl
  · simp only [if_neg h1, Option.bind_some, Bool.false_eq_true, if_false]
    exact no true rfl

theorem pagesFor_both (a : Int) (h : (Lit.int .i64 a).wf = true) : ∃ p, spec_PagesFor.f a = some p ∧ impl_PagesFor.f a = some p := by
  obtain ⟨h0, h1⟩ := bounds_i64 h
  simp only [spec_PagesFor.f, impl_PagesFor.f, wrap64]
  by_cases hp : a ≤ 0
  · by_cases hn : a < 0
    · rw [if_pos hp, if_pos hn]; exact ⟨_, rfl, rfl⟩
    · have : a = 0 := by omega
      subst this; exact ⟨0, rfl, rfl⟩
  · rw [if_neg hp, if_neg (show ¬ a < 0 by omega)]
    refine ⟨_, rfl, ?_⟩
    split <;> rename_i hc <;> rw [Int.tmod_eq_emod_of_nonneg (by omega)] at hc <;> simp only [Int.tdiv_eq_ediv_of_nonneg (show 0 ≤ a by omega)] <;>
    rw [Int.tdiv_eq_ediv_of_nonneg (by omega)] <;> congr 1 <;> omega
def convR (x : S108) : S84 := ⟨x.f0, x.f1, x.f2⟩
def convE (x : S31) : S34 := ⟨x.f0, x.f1⟩
theorem tab_setG {α : Type} (f : Nat → α) (n i : Nat) (rest : List α) (h : i < n) (hr : rest.length = n - i) :
    (((List.range i).map f) ++ rest).set i (f i) = ((List.range (i + 1)).map f) ++ rest.tail := by
  cases rest with
  | nil => simp at hr; omega
  | cons a rest =>
    rw [List.set_append_right _ _ (by simp)]
    simp [List.range_succ]
theorem range_convR (l : List S108) : (List.range l.length).map (fun j : Nat => convR (rd_T108 l (j : Int))) = l.map convR := by
  apply List.ext_getElem (by simp)
  intro i h1 h2
  simp only [List.length_map, List.length_range] at h1
  simp only [List.getElem_map, List.getElem_range]
  unfold rd_T108
  rw [List.getD_eq_getElem?_getD, Int.toNat_natCast, List.getElem?_eq_getElem h1]
  rfl
theorem range_convE (l : List S31) : (List.range l.length).map (fun j : Nat => convE (rd_T31 l (j : Int))) = l.map convE := by
  apply List.ext_getElem (by simp)
  intro i h1 h2
  simp only [List.length_map, List.length_range] at h1
  simp only [List.getElem_map, List.getElem_range]
  unfold rd_T31
  rw [List.getD_eq_getElem?_getD, Int.toNat_natCast, List.getElem?_eq_getElem h1]
  rfl
theorem rd108_mem (l : List S108) (i : Nat) (h : i < l.length) : rd_T108 l (i : Int) ∈ l := by
  unfold rd_T108
  rw [List.getD_eq_getElem?_getD, Int.toNat_natCast, List.getElem?_eq_getElem h]
  exact List.getElem_mem h
theorem rd31_mem (l : List S31) (i : Nat) (h : i < l.length) : rd_T31 l (i : Int) ∈ l := by
  unfold rd_T31
  rw [List.getD_eq_getElem?_getD, Int.toNat_natCast, List.getElem?_eq_getElem h]
  exact List.getElem_mem h
theorem rd84_conv (l : List S108) (i : Nat) (h : i < l.length) : rd_T84 (l.map convR) (i : Int) = convR (rd_T108 l (i : Int)) := by
  unfold rd_T84 rd_T108
  rw [List.getD_eq_getElem?_getD, List.getD_eq_getElem?_getD, Int.toNat_natCast, List.getElem?_eq_getElem (by rw [List.length_map]; exact h), List.getElem?_eq_getElem h]
  simp
theorem rd34_conv (l : List S31) (i : Nat) (h : i < l.length) : rd_T34 (l.map convE) (i : Int) = convE (rd_T31 l (i : Int)) := by
  unfold rd_T34 rd_T31
  rw [List.getD_eq_getElem?_getD, List.getD_eq_getElem?_getD, Int.toNat_natCast, List.getElem?_eq_getElem (by rw [List.length_map]; exact h), List.getElem?_eq_getElem h]
  simp
theorem szRecS_loop (l : List S108) (hw : ∀ x ∈ l, x.f2.size ≤ 9223372036854775807) (hl : l.length ≤ 1048576) (d : Nat) : ∀ (k i : Nat) (x : Int), i + d = l.length → d < k → 0 ≤ x → x ≤ 1048576 →
    ∃ v, laws_szRecS.l0 k l x (i : Int) = some v ∧ (v < 0 ∨ 0 ≤ v ∧ v ≤ x ∧ ∀ j, i ≤ j → j < l.length → (rd_T108 l (j : Int)).f2.size ≤ 1048576) := by
  induction d with
  | zero =>
    intro k i x hi hk h0 h1
    obtain ⟨k, rfl⟩ : ∃ z, k = z + 1 := ⟨k - 1, by omega⟩
    unfold laws_szRecS.l0
    rw [if_neg (by omega)]
    exact ⟨x, rfl, .inr ⟨h0, Int.le_refl _, fun j a b => by omega⟩⟩
  | succ d ih =>
    intro k i x hi hk h0 h1
    obtain ⟨k, rfl⟩ : ∃ z, k = z + 1 := ⟨k - 1, by omega⟩
    have s2 := hw _ (rd108_mem l i (by omega))
    unfold laws_szRecS.l0 laws_szRec.f
    rw [if_pos (by omega), if_pos (by omega), w64 (n := x - ((rd_T108 l (i : Int)).f2.size : Int)) (by omega) (by omega)]
    by_cases h2 : x - ((rd_T108 l (i : Int)).f2.size : Int) < 0
    · rw [if_pos h2, ob, if_pos (by omega)]
      exact ⟨_, rfl, .inl (by omega)⟩
    · rw [if_neg h2, ob, if_neg (by omega), w64 (n := (i : Int) + 1) (by omega) (by omega), show (i : Int) + 1 = ((i + 1 : Nat) : Int) by omega]
      obtain ⟨v, e, h⟩ := ih k (i + 1) (x - ((rd_T108 l (i : Int)).f2.size : Int)) (by omega) (by omega) (by omega) (by omega)
      refine ⟨v, e, ?_⟩
      rcases h with h | ⟨a, b, c⟩
      · exact .inl h
      · refine .inr ⟨a, by omega, fun j hj hj2 => ?_⟩
        by_cases e2 : j = i
        · subst e2; omega
        · exact c j (by omega) hj2
theorem szRecS_some (l : List S108) (hw : ∀ x ∈ l, x.f2.size ≤ 9223372036854775807) (hl : l.length ≤ 9223372036854775807) (x : Int) (h0 : 0 ≤ x) (h1 : x ≤ 1048576) (k : Nat) (hk : l.length < k) :
    ∃ v, laws_szRecS.f k l x = some v ∧ (v < 0 ∨ 0 ≤ v ∧ v ≤ 1048576 ∧ l.length ≤ 1048576 ∧ ∀ j, j < l.length → (rd_T108 l (j : Int)).f2.size ≤ 1048576) := by
  unfold laws_szRecS.f
  rw [w64 (n := x - (l.length : Int)) (by omega) (by omega)]
  by_cases h2 : x - (l.length : Int) < 0
  · rw [if_pos h2]; exact ⟨_, rfl, .inl (by omega)⟩
  · rw [if_neg h2]
    obtain ⟨v, e, h⟩ := szRecS_loop l hw (by omega) l.length k 0 (x - (l.length : Int)) (by omega) hk (by omega) (by omega)
    rw [Int.natCast_zero] at e
    refine ⟨v, e, ?_⟩
    rcases h with h | ⟨a, b, c⟩
    · exact .inl h
    · exact .inr ⟨a, by omega, by omega, fun j hj => c j (by omega) hj⟩
theorem szEntryS_loop (l : List S31) (hw : ∀ x ∈ l, x.f1.size ≤ 9223372036854775807) (hl : l.length ≤ 1048576) (d : Nat) : ∀ (k i : Nat) (x : Int), i + d = l.length → d < k → 0 ≤ x → x ≤ 1048576 →
    ∃ v, laws_szEntryS.l0 k l x (i : Int) = some v ∧ (v < 0 ∨ 0 ≤ v ∧ v ≤ x ∧ ∀ j, i ≤ j → j < l.length → (rd_T31 l (j : Int)).f1.size ≤ 1048576) := by
  induction d with
  | zero =>
    intro k i x hi hk h0 h1
    obtain ⟨k, rfl⟩ : ∃ z, k = z + 1 := ⟨k - 1, by omega⟩
    unfold laws_szEntryS.l0
    rw [if_neg (by omega)]
    exact ⟨x, rfl, .inr ⟨h0, Int.le_refl _, fun j a b => by omega⟩⟩
  | succ d ih =>
    intro k i x hi hk h0 h1
    obtain ⟨k, rfl⟩ : ∃ z, k = z + 1 := ⟨k - 1, by omega⟩
    have s2 := hw _ (rd31_mem l i (by omega))
    unfold laws_szEntryS.l0 laws_szEntry.f
    rw [if_pos (by omega), if_pos (by omega), w64 (n := x - ((rd_T31 l (i : Int)).f1.size : Int)) (by omega) (by omega)]
    by_cases h2 : x - ((rd_T31 l (i : Int)).f1.size : Int) < 0
    · rw [if_pos h2, ob, if_pos (by omega)]
      exact ⟨_, rfl, .inl (by omega)⟩
    · rw [if_neg h2, ob, if_neg (by omega), w64 (n := (i : Int) + 1) (by omega) (by omega), show (i : Int) + 1 = ((i + 1 : Nat) : Int) by omega]
      obtain ⟨v, e, h⟩ := ih k (i + 1) (x - ((rd_T31 l (i : Int)).f1.size : Int)) (by omega) (by omega) (by omega) (by omega)
      refine ⟨v, e, ?_⟩
      rcases h with h | ⟨a, b, c⟩
      · exact .inl h
      · refine .inr ⟨a, by omega, fun j hj hj2 => ?_⟩
        by_cases e2 : j = i
        · subst e2; omega
        · exact c j (by omega) hj2
theorem szEntryS_some (l : List S31) (hw : ∀ x ∈ l, x.f1.size ≤ 9223372036854775807) (hl : l.length ≤ 9223372036854775807) (x : Int) (h0 : 0 ≤ x) (h1 : x ≤ 1048576) (k : Nat) (hk : l.length < k) :
    ∃ v, laws_szEntryS.f k l x = some v ∧ (v < 0 ∨ 0 ≤ v ∧ v ≤ 1048576 ∧ l.length ≤ 1048576 ∧ ∀ j, j < l.length → (rd_T31 l (j : Int)).f1.size ≤ 1048576) := by
  unfold laws_szEntryS.f
  rw [w64 (n := x - (l.length : Int)) (by omega) (by omega)]
  by_cases h2 : x - (l.length : Int) < 0
  · rw [if_pos h2]; exact ⟨_, rfl, .inl (by omega)⟩
  · rw [if_neg h2]
    obtain ⟨v, e, h⟩ := szEntryS_loop l hw (by omega) l.length k 0 (x - (l.length : Int)) (by omega) hk (by omega) (by omega)
    rw [Int.natCast_zero] at e
    refine ⟨v, e, ?_⟩
    rcases h with h | ⟨a, b, c⟩
    · exact .inl h
    · exact .inr ⟨a, by omega, by omega, fun j hj => c j (by omega) hj⟩
theorem toRecS_loop (l : List S108) (hl : l.length ≤ 1048576) (d : Nat) : ∀ (k i : Nat) (rest : List S84), i + d = l.length → rest.length = d → d < k →
    laws_toRecS.l0 k l ((List.range i).map (fun j : Nat => convR (rd_T108 l (j : Int))) ++ rest) (i : Int) = some (l.map convR) := by
  induction d with
  | zero =>
    intro k i rest hi hr hk
    obtain ⟨k, rfl⟩ : ∃ z, k = z + 1 := ⟨k - 1, by omega⟩
    obtain rfl : rest = [] := List.length_eq_zero_iff.1 hr
    obtain rfl : i = l.length := by omega
    unfold laws_toRecS.l0
    rw [if_neg (by omega), List.append_nil, range_convR]
  | succ d ih =>
    intro k i rest hi hr hk
    obtain ⟨k, rfl⟩ : ∃ z, k = z + 1 := ⟨k - 1, by omega⟩
    have hlen : ((List.range i).map (fun j : Nat => convR (rd_T108 l (j : Int))) ++ rest).length = l.length := by
      rw [List.length_append, List.length_map, List.length_range, hr]; exact hi
    unfold laws_toRecS.l0 laws_toRec.f
    rw [if_pos (by omega), if_pos (by omega), ob, if_pos (by rw [hlen]; omega), w64 (n := (i : Int) + 1) (by omega) (by omega), show (i : Int) + 1 = ((i + 1 : Nat) : Int) by omega, Int.toNat_natCast]
    have ht := tab_setG (fun j : Nat => convR (rd_T108 l (j : Int))) l.length i rest (by omega) (by omega)
    have e := ih k (i + 1) rest.tail (by omega) (by rw [List.length_tail]; omega) (by omega)
    rw [← ht] at e
    exact e
theorem toRecS_some (l : List S108) (hl : l.length ≤ 1048576) (k : Nat) (hk : l.length < k) : laws_toRecS.f k l = some (l.map convR) := by
  unfold laws_toRecS.f
  rw [if_pos (by omega), if_pos (by omega), Int.toNat_natCast]
  have e := toRecS_loop l hl l.length k 0 (List.replicate l.length z84) (by omega) (by simp) hk
  rw [Int.natCast_zero, List.range_zero, List.map_nil, List.nil_append] at e
  exact e
theorem toEntryS_loop (l : List S31) (hl : l.length ≤ 1048576) (d : Nat) : ∀ (k i : Nat) (rest : List S34), i + d = l.length → rest.length = d → d < k →
    laws_toEntryS.l0 k l ((List.range i).map (fun j : Nat => convE (rd_T31 l (j : Int))) ++ rest) (i : Int) = some (l.map convE) := by
  induction d with
  | zero =>
    intro k i rest hi hr hk
    obtain ⟨k, rfl⟩ : ∃ z, k = z + 1 := ⟨k - 1, by omega⟩
    obtain rfl : rest = [] := List.length_eq_zero_iff.1 hr
    obtain rfl : i = l.length := by omega
    unfold laws_toEntryS.l0
    rw [if_neg (by omega), List.append_nil, range_convE]
  | succ d ih =>
    intro k i rest hi hr hk
    obtain ⟨k, rfl⟩ : ∃ z, k = z + 1 := ⟨k - 1, by omega⟩
    have hlen : ((List.range i).map (fun j : Nat => convE (rd_T31 l (j : Int))) ++ rest).length = l.length := by
      rw [List.length_append, List.length_map, List.length_range, hr]; exact hi
    unfold laws_toEntryS.l0 laws_toEntry.f
    rw [if_pos (by omega), if_pos (by omega), ob, if_pos (by rw [hlen]; omega), w64 (n := (i : Int) + 1) (by omega) (by omega), show (i : Int) + 1 = ((i + 1 : Nat) : Int) by omega, Int.toNat_natCast]
    have ht := tab_setG (fun j : Nat => convE (rd_T31 l (j : Int))) l.length i rest (by omega) (by omega)
    have e := ih k (i + 1) rest.tail (by omega) (by rw [List.length_tail]; omega) (by omega)
    rw [← ht] at e
    exact e
theorem toEntryS_some (l : List S31) (hl : l.length ≤ 1048576) (k : Nat) (hk : l.length < k) : laws_toEntryS.f k l = some (l.map convE) := by
  unfold laws_toEntryS.f
  rw [if_pos (by omega), if_pos (by omega), Int.toNat_natCast]
  have e := toEntryS_loop l hl l.length k 0 (List.replicate l.length z34) (by omega) (by simp) hk
  rw [Int.natCast_zero, List.range_zero, List.map_nil, List.nil_append] at e
  exact e
theorem eqRecS_loop (l : List S84) (hl : l.length ≤ 1048577) (d : Nat) : ∀ (k i : Nat), i + d = l.length → d < k → laws_eqRecS.l0 k l l (i : Int) = some true := by
  induction d with
  | zero =>
    intro k i hi hk
    obtain ⟨k, rfl⟩ : ∃ z, k = z + 1 := ⟨k - 1, by omega⟩
    unfold laws_eqRecS.l0
    rw [if_neg (by omega)]
  | succ d ih =>
    intro k i hi hk
    obtain ⟨k, rfl⟩ : ∃ z, k = z + 1 := ⟨k - 1, by omega⟩
    unfold laws_eqRecS.l0 laws_eqRec.f
    rw [if_pos (by omega), if_pos (by omega), if_pos (by omega), if_pos rfl, if_pos rfl, if_pos rfl, ob, if_pos rfl, w64 (n := (i : Int) + 1) (by omega) (by omega), show (i : Int) + 1 = ((i + 1 : Nat) : Int) by omega]
    exact ih k (i + 1) (by omega) (by omega)
theorem eqRecS_self (l : List S84) (hl : l.length ≤ 1048577) (k : Nat) (hk : l.length < k) : laws_eqRecS.f k l l = some true := by
  unfold laws_eqRecS.f
  rw [if_pos rfl]
  have := eqRecS_loop l hl l.length k 0 (by omega) hk
  rw [Int.natCast_zero] at this
  exact this
theorem eqEntryS_loop (l : List S34) (hl : l.length ≤ 1048577) (d : Nat) : ∀ (k i : Nat), i + d = l.length → d < k → laws_eqEntryS.l0 k l l (i : Int) = some true := by
  induction d with
  | zero =>
    intro k i hi hk
    obtain ⟨k, rfl⟩ : ∃ z, k = z + 1 := ⟨k - 1, by omega⟩
    unfold laws_eqEntryS.l0
    rw [if_neg (by omega)]
  | succ d ih =>
    intro k i hi hk
    obtain ⟨k, rfl⟩ : ∃ z, k = z + 1 := ⟨k - 1, by omega⟩
    unfold laws_eqEntryS.l0 laws_eqEntry.f
    rw [if_pos (by omega), if_pos (by omega), if_pos (by omega), if_pos rfl, if_pos rfl, ob, if_pos rfl, w64 (n := (i : Int) + 1) (by omega) (by omega), show (i : Int) + 1 = ((i + 1 : Nat) : Int) by omega]
    exact ih k (i + 1) (by omega) (by omega)
theorem eqEntryS_self (l : List S34) (hl : l.length ≤ 1048577) (k : Nat) (hk : l.length < k) : laws_eqEntryS.f k l l = some true := by
  unfold laws_eqEntryS.f
  rw [if_pos rfl]
  have := eqEntryS_loop l hl l.length k 0 (by omega) hk
  rw [Int.natCast_zero] at this
  exact this
/-- Does the page of i stand among those from j on, d of them? -/
def pgFrom (l : List S84) (p : Int) : Nat → Nat → Bool
  | 0, _ => false
  | d + 1, j => decide ((rd_T84 l (j : Int)).f0 = p) || pgFrom l p d (j + 1)
theorem pgFrom_has (l : List S84) (p : Int) (i : Nat) (hi : i ≤ l.length) (d : Nat) : ∀ j, j + d = i → pgFrom l p d j = hasPg ((l.take i).drop j) p := by
  induction d with
  | zero =>
    intro j hj
    rw [List.drop_eq_nil_of_le (by rw [List.length_take]; omega)]
    rfl
  | succ d ih =>
    intro j hj
    have hlt : j < (l.take i).length := by rw [List.length_take]; omega
    rw [List.drop_eq_getElem_cons hlt]
    unfold pgFrom
    rw [ih (j + 1) (by omega)]
    have e : rd_T84 l (j : Int) = (l.take i)[j] := by
      unfold rd_T84
      rw [Int.toNat_natCast, List.getD_eq_getElem?_getD, List.getElem_take, List.getElem?_eq_getElem (by omega)]; rfl
    rw [e]
    rfl
section
variable (a0 a1 a2 : Int) (a3 : ByteArray) (R : List S84) (E : List S34)
theorem specFile_inner (hR : R.length ≤ 1048577) (i : Nat) (hi : i < R.length) (m : Nat) (d : Nat) : ∀ j, j + d = i →
    spec_InodeOk.l1 (m + d + 1) (i : Int) (j : Int) a0 a1 a2 a3 R E = if pgFrom R (rd_T84 R (i : Int)).f0 d j = true then some false else spec_InodeOk.l0 m ((i + 1 : Nat) : Int) a0 a1 a2 a3 R E := by
  induction d with
  | zero =>
    intro j hj
    unfold spec_InodeOk.l1 pgFrom
    rw [if_neg (by omega), if_neg (by simp), w64 (n := (i : Int) + 1) (by omega) (by omega), show (i : Int) + 1 = ((i + 1 : Nat) : Int) by omega]
  | succ d ih =>
    intro j hj
    rw [show m + (d + 1) + 1 = (m + d + 1) + 1 by omega]
    unfold spec_InodeOk.l1 pgFrom
    rw [if_pos (by omega), if_pos (by omega), if_pos (by omega), if_pos (by omega), if_pos (by omega), w64 (n := (j : Int) + 1) (by omega) (by omega), show (j : Int) + 1 = ((j + 1 : Nat) : Int) by omega, ih (j + 1) (by omega)]
    by_cases h : (rd_T84 R (j : Int)).f0 = (rd_T84 R (i : Int)).f0
    · rw [if_pos h, decide_eq_true h, Bool.true_or, if_pos rfl]
    · rw [if_neg h, decide_eq_false h, Bool.false_or]
theorem file_both (hR : R.length ≤ 1048577) (hs : ∀ j, j < R.length → (rd_T84 R (j : Int)).f2.size ≤ 1048576) (d : Nat) : ∀ i, i + d = R.length →
    ∃ (K : Nat) (b : Bool), ∀ k, K ≤ k → spec_InodeOk.l0 k (i : Int) a0 a1 a2 a3 R E = some b ∧ fileL k R d i = some b := by
  induction d with
  | zero =>
    intro i hi
    refine ⟨1, true, fun k hk => ?_⟩
    obtain ⟨k, rfl⟩ : ∃ z, k = z + 1 := ⟨k - 1, by omega⟩
    unfold spec_InodeOk.l0 fileL
    rw [if_neg (by omega)]
    exact ⟨rfl, rfl⟩
  | succ d ih =>
    intro i hi
    obtain ⟨K, b, hK⟩ := ih (i + 1) (by omega)
    obtain ⟨r, e1, e2, _⟩ := recWord_both 10 (Nat.le_refl _) (rd_T84 R (i : Int)).f0 (rd_T84 R (i : Int)).f1 (rd_T84 R (i : Int)).f2 (by have := hs i (by omega); omega)
    have q1 : ∀ k, 10 ≤ k → spec_RecWord.f k (rd_T84 R (i : Int)).f0 (rd_T84 R (i : Int)).f1 (rd_T84 R (i : Int)).f2 = some r := fun k hk => at_rounds (g := fun k => spec_RecWord.f k (rd_T84 R (i : Int)).f0 (rd_T84 R (i : Int)).f1 (rd_T84 R (i : Int)).f2) (fun k => spec_RecWord.mono _ _ _ k) hk e1
    have q2 : ∀ k, 10 ≤ k → impl_RecWord.f k (rd_T84 R (i : Int)).f0 (rd_T84 R (i : Int)).f1 (rd_T84 R (i : Int)).f2 = some r := fun k hk => at_rounds (g := fun k => impl_RecWord.f k (rd_T84 R (i : Int)).f0 (rd_T84 R (i : Int)).f1 (rd_T84 R (i : Int)).f2) (fun k => impl_RecWord.mono _ _ _ k) hk e2
    by_cases hr : r.toList = ([] : List UInt8)
    · refine ⟨12, false, fun k hk => ?_⟩
      obtain ⟨k, rfl⟩ : ∃ z, k = z + 1 := ⟨k - 1, by omega⟩
      unfold spec_InodeOk.l0 fileL
      rw [if_pos (by omega), if_pos (by omega), q1 k (by omega), q2 (k + 1) (by omega), ob, ob, if_pos hr, if_pos hr]
      exact ⟨rfl, rfl⟩
    · have hin := pgFrom_has R (rd_T84 R (i : Int)).f0 i (by omega) i 0 (by omega)
      rw [List.drop_zero] at hin
      refine ⟨K + i + 12, if hasPg (R.take i) (rd_T84 R (i : Int)).f0 = true then false else b, fun k hk => ?_⟩
      obtain ⟨m, rfl⟩ : ∃ m, k = m + i + 1 + 1 := ⟨k - i - 2, by omega⟩
      unfold spec_InodeOk.l0 fileL
      rw [if_pos (by omega), if_pos (by omega), q1 _ (by omega), q2 _ (by omega), ob, ob, if_neg hr, if_neg hr]
      have e := specFile_inner a0 a1 a2 a3 R E hR i (by omega) m i 0 (by omega)
      rw [Int.natCast_zero] at e
      rw [e, hin]
      by_cases hp : hasPg (R.take i) (rd_T84 R (i : Int)).f0 = true
      · rw [if_pos hp, if_pos hp, if_pos hp]; exact ⟨rfl, rfl⟩
      · rw [if_neg hp, if_neg hp, if_neg hp]
        exact ⟨(hK m (by omega)).1, (hK _ (by omega)).2⟩
/-- The last conditions of a directory. -/
def dirEnd (a1 : Int) (a3 : ByteArray) (n m : Nat) : Bool := decide (a1 = 0) && (decide (a3.toList = ([] : List UInt8)) && (decide ((n : Int) = 0) && decide ((m : Int) ≤ 6)))
theorem dir_both (hE : E.length ≤ 1048577) (hs : ∀ j, j < E.length → (rd_T34 E (j : Int)).f1.size ≤ 1048576) (d : Nat) : ∀ i, i + d = E.length →
    ∃ (b : Bool), ∀ k, d + 1048600 ≤ k → spec_InodeOk.l2 k (i : Int) a0 a1 a2 a3 R E = some b ∧ impl_isDir.l0 k E (E.length : Int) (i : Int) a0 a1 a2 a3 R E = some (b && dirEnd a1 a3 R.length E.length) := by
  induction d with
  | zero =>
    intro i hi
    refine ⟨true, fun k hk => ?_⟩
    obtain ⟨k, rfl⟩ : ∃ z, k = z + 1 := ⟨k - 1, by omega⟩
    unfold spec_InodeOk.l2 impl_isDir.l0 dirEnd
    rw [if_neg (by omega), if_neg (by omega)]
    refine ⟨rfl, ?_⟩
    by_cases h1 : a1 = 0
    · rw [if_pos h1, decide_eq_true h1]
      by_cases h2 : a3.toList = ([] : List UInt8)
      · rw [if_pos h2, decide_eq_true h2]
        by_cases h3 : (R.length : Int) = 0
        · rw [if_pos h3, decide_eq_true h3]; rfl
        · rw [if_neg h3, decide_eq_false h3]; rfl
      · rw [if_neg h2, decide_eq_false h2]; rfl
    · rw [if_neg h1, decide_eq_false h1]; rfl
  | succ d ih =>
    intro i hi
    obtain ⟨b, hK⟩ := ih (i + 1) (by omega)
    have hsz := hs i (by omega)
    obtain ⟨r, e1, e2⟩ := entry_both (rd_T34 E (i : Int)).f0 (rd_T34 E (i : Int)).f1 (by omega) 1048598 (by omega)
    have q1 : ∀ k, 1048598 ≤ k → spec_EntryWord.f k (rd_T34 E (i : Int)).f0 (rd_T34 E (i : Int)).f1 = some r := fun k hk => at_rounds (g := fun k => spec_EntryWord.f k (rd_T34 E (i : Int)).f0 (rd_T34 E (i : Int)).f1) (fun k => spec_EntryWord.mono _ _ k) hk e1
    have q2 : ∀ k, 1048598 ≤ k → impl_EntryWord.f k (rd_T34 E (i : Int)).f0 (rd_T34 E (i : Int)).f1 = some r := fun k hk => at_rounds (g := fun k => impl_EntryWord.f k (rd_T34 E (i : Int)).f0 (rd_T34 E (i : Int)).f1) (fun k => impl_EntryWord.mono _ _ k) hk e2
    have hnx : wrap64 ((i : Int) + 1) = ((i + 1 : Nat) : Int) := by rw [w64 (by omega) (by omega)]; omega
    by_cases hr : r.toList = ([] : List UInt8)
    · refine ⟨false, fun k hk => ?_⟩
      obtain ⟨k, rfl⟩ : ∃ z, k = z + 1 := ⟨k - 1, by omega⟩
      unfold spec_InodeOk.l2 impl_isDir.l0
      rw [if_pos (by omega), if_pos (by omega), q1 k (by omega), ob, if_pos hr, if_pos (by omega), if_pos (by omega), if_pos (by omega), q2 k (by omega), ob, if_pos hr]
      exact ⟨rfl, rfl⟩
    · by_cases h0 : (i : Int) > 0
      · have hpv : wrap64 ((i : Int) - 1) = ((i - 1 : Nat) : Int) := by rw [w64 (by omega) (by omega)]; omega
        by_cases hls : Op.bytesLess (rd_T34 E ((i - 1 : Nat) : Int)).f1.toList (rd_T34 E (i : Int)).f1.toList = true
        · refine ⟨b, fun k hk => ?_⟩
          obtain ⟨k, rfl⟩ : ∃ z, k = z + 1 := ⟨k - 1, by omega⟩
          obtain ⟨g1, g2⟩ := hK k (by omega)
          unfold spec_InodeOk.l2 impl_isDir.l0
          rw [if_pos (by omega), if_pos (by omega), q1 k (by omega), ob, if_neg hr, if_pos h0, hpv, hnx, if_pos (by omega), if_pos (by omega), if_pos hls, if_pos (by omega), if_pos (by omega), if_pos (by omega), q2 k (by omega), ob, if_neg hr, if_pos h0, if_pos (by omega), if_pos (by omega), if_pos hls]
          exact ⟨g1, g2⟩
        · refine ⟨false, fun k hk => ?_⟩
          obtain ⟨k, rfl⟩ : ∃ z, k = z + 1 := ⟨k - 1, by omega⟩
          unfold spec_InodeOk.l2 impl_isDir.l0
          rw [if_pos (by omega), if_pos (by omega), q1 k (by omega), ob, if_neg hr, if_pos h0, hpv, if_pos (by omega), if_pos (by omega), if_neg hls, if_pos (by omega), if_pos (by omega), if_pos (by omega), q2 k (by omega), ob, if_neg hr, if_pos h0, if_pos (by omega), if_pos (by omega), if_neg hls]
          exact ⟨rfl, rfl⟩
      · refine ⟨b, fun k hk => ?_⟩
        obtain ⟨k, rfl⟩ : ∃ z, k = z + 1 := ⟨k - 1, by omega⟩
        obtain ⟨g1, g2⟩ := hK k (by omega)
        unfold spec_InodeOk.l2 impl_isDir.l0
        rw [if_pos (by omega), if_pos (by omega), q1 k (by omega), ob, if_neg hr, if_neg h0, hnx, if_pos (by omega), if_pos (by omega), if_pos (by omega), q2 k (by omega), ob, if_neg hr, if_neg h0]
        exact ⟨g1, g2⟩
theorem inode_both (h1 : (Lit.int .i64 a1).wf = true) (hR : R.length ≤ 1048576) (hsR : ∀ j, j < R.length → (rd_T84 R (j : Int)).f2.size ≤ 1048576) (hE : E.length ≤ 1048576) (hsE : ∀ j, j < E.length → (rd_T34 E (j : Int)).f1.size ≤ 1048576) :
    ∃ (K : Nat) (b : Bool), ∀ k, K ≤ k → spec_InodeOk.f k a0 a1 a2 a3 R E = some b ∧ impl_InodeOk.f k a0 a1 a2 a3 R E = some b := by
  have hin : ∀ x y z : Int, spec_l01In.f x y z = impl_within.f x y z := fun x y z => rfl
  have hw : ∀ x y z : Int, ∃ b, impl_within.f x y z = some b := fun x y z => by
    unfold impl_within.f; split <;> exact ⟨_, rfl⟩
  obtain ⟨bg, hbg⟩ := hw a2 0 65535
  by_cases hg : bg = true
  · by_cases k0 : a0 = 0
    · by_cases c1 : a1 = 0
      · by_cases c2 : a3.toList = ([] : List UInt8)
        · by_cases c3 : (R.length : Int) = 0
          · exact ⟨0, _, fun k _ => by unfold spec_InodeOk.f impl_InodeOk.f; rw [hin, hbg]; simp only [ob]; rw [if_pos hg, if_pos hg, if_pos k0, if_pos k0, if_pos c1, if_pos c2, if_pos c3]; exact ⟨rfl, rfl⟩⟩
          · exact ⟨0, false, fun k _ => by unfold spec_InodeOk.f impl_InodeOk.f; rw [hin, hbg]; simp only [ob]; rw [if_pos hg, if_pos hg, if_pos k0, if_pos k0, if_pos c1, if_pos c2, if_neg c3]; exact ⟨rfl, rfl⟩⟩
        · exact ⟨0, false, fun k _ => by unfold spec_InodeOk.f impl_InodeOk.f; rw [hin, hbg]; simp only [ob]; rw [if_pos hg, if_pos hg, if_pos k0, if_pos k0, if_pos c1, if_neg c2]; exact ⟨rfl, rfl⟩⟩
      · exact ⟨0, false, fun k _ => by unfold spec_InodeOk.f impl_InodeOk.f; rw [hin, hbg]; simp only [ob]; rw [if_pos hg, if_pos hg, if_pos k0, if_pos k0, if_neg c1]; exact ⟨rfl, rfl⟩⟩
    · by_cases k1 : a0 = 1
      · obtain ⟨bw, hbw⟩ := hw a1 0 128
        obtain ⟨K, bl, hK⟩ := file_both a0 a1 a2 a3 R E (by omega) hsR R.length 0 (by omega)
        obtain ⟨p, p1, p2⟩ := pagesFor_both a1 h1
        refine ⟨K + 2, bl && (bw && (decide ((a3.size : Int) = 8) && (decide ((R.length : Int) = p) && decide ((E.length : Int) = 0)))), fun k hk => ?_⟩
        obtain ⟨k, rfl⟩ : ∃ z, k = z + 1 := ⟨k - 1, by omega⟩
        obtain ⟨g1, _⟩ := hK k (by omega)
        obtain ⟨_, g2⟩ := hK (k + 1) (by omega)
        rw [Int.natCast_zero] at g1
        have ei : impl_isFile.f (k + 1) a0 a1 a2 a3 R E = some (bl && (bw && (decide ((a3.size : Int) = 8) && (decide ((R.length : Int) = p) && decide ((E.length : Int) = 0))))) := by
          unfold impl_isFile.f
          rw [if_pos (by omega), g2, ob]
          cases bl
          · rfl
          · rw [if_pos rfl]
            unfold fileE
            rw [hbw, ob]
            cases bw
            · rfl
            · rw [if_pos rfl]
              by_cases c : (a3.size : Int) = 8
              · rw [if_pos c, p2, ob, decide_eq_true c]; rfl
              · rw [if_neg c, decide_eq_false c]; rfl
        unfold spec_InodeOk.f impl_InodeOk.f
        rw [hin, hbg]; simp only [ob]
        rw [if_pos hg, if_pos hg, if_neg k0, if_neg k0, if_pos k1, if_pos k1, ei, ob, hin, hbw]; simp only [ob]
        refine ⟨?_, by first | rfl | trivial⟩
        simp only [spec_InodeOk.j0, g1, p1]
        cases bw
        · simp
        · simp only [if_true]
          by_cases c : (a3.size : Int) = 8
          · rw [if_pos c, ob, decide_eq_true c]
            by_cases c2 : (R.length : Int) = p
            · rw [if_pos c2, decide_eq_true c2]
              by_cases c3 : (E.length : Int) = 0
              · rw [decide_eq_true c3, decide_eq_false (by omega)]; simp
              · rw [decide_eq_false c3, decide_eq_true (by omega)]; simp
            · rw [if_neg c2, decide_eq_false c2]; simp
          · rw [if_neg c, decide_eq_false c]; simp
      · by_cases k2 : a0 = 2
        · obtain ⟨bl, hK⟩ := dir_both a0 a1 a2 a3 R E (by omega) hsE E.length 0 (by omega)
          refine ⟨E.length + 1048700, bl && dirEnd a1 a3 R.length E.length, fun k hk => ?_⟩
          obtain ⟨k, rfl⟩ : ∃ z, k = z + 1 := ⟨k - 1, by omega⟩
          obtain ⟨g1, _⟩ := hK k (by omega)
          obtain ⟨_, g2⟩ := hK (k + 1) (by omega)
          rw [Int.natCast_zero] at g1 g2
          unfold spec_InodeOk.f impl_InodeOk.f impl_isDir.f
          rw [hin, hbg]; simp only [ob]
          rw [if_pos hg, if_pos hg, if_neg k0, if_neg k0, if_neg k1, if_neg k1, if_pos k2, if_pos k2, g2, ob]
          refine ⟨?_, by first | rfl | trivial⟩
          unfold dirEnd
          simp only [spec_InodeOk.j3, g1]
          by_cases c1 : a1 = 0
          · rw [if_pos c1, decide_eq_true c1]
            by_cases c2 : a3.toList = ([] : List UInt8)
            · rw [if_pos c2, decide_eq_true c2]
              by_cases c3 : (R.length : Int) = 0
              · rw [if_neg (by omega), decide_eq_true c3]
                by_cases c4 : (E.length : Int) ≤ 6
                · rw [decide_eq_true c4, decide_eq_false (by omega)]; simp
                · rw [decide_eq_false c4, decide_eq_true (by omega)]; simp
              · rw [if_pos (by omega), decide_eq_false c3]; simp
            · rw [if_neg c2, decide_eq_false c2]; simp
          · rw [if_neg c1, decide_eq_false c1]; simp
        · exact ⟨0, false, fun k _ => by unfold spec_InodeOk.f impl_InodeOk.f; rw [hin, hbg]; simp only [ob]; rw [if_pos hg, if_pos hg, if_neg k0, if_neg k0, if_neg k1, if_neg k1, if_neg k2, if_neg k2]; exact ⟨rfl, rfl⟩⟩
  · exact ⟨0, false, fun k _ => by unfold spec_InodeOk.f impl_InodeOk.f; rw [hin, hbg]; simp only [ob]; rw [if_neg hg, if_neg hg]; exact ⟨rfl, rfl⟩⟩
end
theorem FnExactInodeOk : laws_FnExactInodeOk.Pure := by
  intro a0 a1 a2 a3 R E _ h1 _ h3 hR hwR hE hwE
  have hwR' : ∀ x ∈ R, x.f2.size ≤ 9223372036854775807 := fun x hx => (hwR x hx).2.2
  have hwE' : ∀ x ∈ E, x.f1.size ≤ 9223372036854775807 := fun x hx => (hwE x hx).2
  by_cases hs : R.length ≤ 1048576 ∧ E.length ≤ 1048576 ∧ (∀ j, j < R.length → (rd_T108 R (j : Int)).f2.size ≤ 1048576) ∧ (∀ j, j < E.length → (rd_T31 E (j : Int)).f1.size ≤ 1048576)
  · obtain ⟨s1, s2, s3, s4⟩ := hs
    have lR : (R.map convR).length = R.length := List.length_map _
    have lE : (E.map convE).length = E.length := List.length_map _
    obtain ⟨K, b, hK⟩ := inode_both a0 a1 a2 a3 (R.map convR) (E.map convE) h1 (by omega) (fun j hj => by rw [rd84_conv R j (by omega)]; exact s3 j (by omega)) (by omega) (fun j hj => by rw [rd34_conv E j (by omega)]; exact s4 j (by omega))
    refine rounds_of (R.length + E.length + K + 10) fun k hk => ?_
    obtain ⟨g1, g2⟩ := hK k (by omega)
    have tR := toRecS_some R s1 k (by omega)
    have tE := toEntryS_some E s2 k (by omega)
    obtain ⟨v, ev⟩ : ∃ v, laws_szInode.f k a0 a1 a2 a3 R E 1048576 = some v := by
      unfold laws_szInode.f
      rw [w64 (n := 1048576 - (a3.size : Int)) (by omega) (by omega)]
      by_cases c : 1048576 - (a3.size : Int) < 0
      · rw [if_pos c]; exact ⟨_, rfl⟩
      · rw [if_neg c]
        obtain ⟨v1, e1, q1⟩ := szRecS_some R hwR' hR (1048576 - (a3.size : Int)) (by omega) (by omega) k (by omega)
        rw [e1, ob]
        by_cases c1 : v1 < 0
        · rw [if_pos c1]; exact ⟨_, rfl⟩
        · rw [if_neg c1]
          obtain ⟨v2, e2, _⟩ := szEntryS_some E hwE' hE v1 (by omega) (by rcases q1 with q1 | q1 <;> omega) k (by omega)
          rw [e2, ob]
          by_cases c2 : v2 < 0
          · rw [if_pos c2]; exact ⟨_, rfl⟩
          · rw [if_neg c2]; exact ⟨_, rfl⟩
    unfold laws_FnExactInodeOk.f laws_toInode.f
    rw [ev]; simp only [ob]
    by_cases hv : v < 0
    · rw [if_pos hv]
    · rw [if_neg hv, tR]; simp only [ob]
      rw [tE]; simp only [ob]
      rw [g1]; simp only [ob]
      rw [g2]; simp only [ob]
      unfold laws_eqInode.f
      rw [if_neg (by simp), if_pos rfl, if_pos rfl, if_pos rfl, if_pos rfl, eqRecS_self _ (by omega) k (by omega), ob, if_pos rfl, eqEntryS_self _ (by omega) k (by omega), ob, if_pos rfl, ob, if_pos rfl]
  · refine rounds_of (R.length + E.length + 10) fun k hk => ?_
    unfold laws_FnExactInodeOk.f laws_szInode.f
    rw [w64 (n := 1048576 - (a3.size : Int)) (by omega) (by omega)]
    by_cases c : 1048576 - (a3.size : Int) < 0
    · rw [if_pos c, ob, if_pos (by omega)]
    · rw [if_neg c]
      obtain ⟨v1, e1, q1⟩ := szRecS_some R hwR' hR (1048576 - (a3.size : Int)) (by omega) (by omega) k (by omega)
      rw [e1]; simp only [ob]
      by_cases c1 : v1 < 0
      · rw [if_pos c1, ob, if_pos (by omega)]
      · rw [if_neg c1]
        rcases q1 with q1 | q1
        · exact absurd q1 c1
        obtain ⟨v2, e2, q2⟩ := szEntryS_some E hwE' hE v1 (by omega) (by omega) k (by omega)
        rw [e2]; simp only [ob]
        by_cases c2 : v2 < 0
        · rw [if_pos c2, ob, if_pos (by omega)]
        · rcases q2 with q2 | q2
          · exact absurd q2 c2
          exact absurd ⟨q1.2.2.1, q2.2.2.1, q1.2.2.2, q2.2.2.2⟩ hs
end Go.Proofs.Ytkkadcpgjniojaa.Pure
