/- The law FnExactReadEntry answers true at every string; no condition. -/
import Derived.Test.YtkkadcpgjniojaaDoorMFnExactReadEntryx6
namespace Go.Proofs.YtkkadcpgjniojaaDoor.Pure
open Go.RowKit Go.Proofs.YtkkadcpgjniojaaDoor.PFnExactReadEntry Go.Proofs.YtkkadcpgjniojaaDoorW.PrintWords Go.Proofs.YtkkadcpgjniojaaDoorW.PrintLast Go.Proofs.YtkkadcpgjniojaaDoorW.PrintMore
set_option linter.unusedVariables false
set_option linter.unusedSimpArgs false

theorem w64 {n : Int} (h0 : -9223372036854775808 ≤ n) (h1 : n ≤ 9223372036854775807) : wrap64 n = n := by
  unfold wrap64; omega
theorem bits_nat3 (k : IntKind) (j : Nat) (hj : j ≤ k.bits) (hk : ∀ n : Int, 0 ≤ n → n < 2 ^ j → k.wrap n = n) (a b : Nat) (ha : a < 2 ^ j) (hb : b < 2 ^ j) :
    Go.bits .and k a b = ((a &&& b : Nat) : Int) ∧ Go.bits .or k a b = ((a ||| b : Nat) : Int) ∧ Go.bits .xor k a b = ((a ^^^ b : Nat) : Int) := by
  have hp : 2 ^ j ≤ 2 ^ k.bits := Nat.pow_le_pow_right (by decide) hj
  have ha' : a % 2 ^ k.bits = a := Nat.mod_eq_of_lt (Nat.lt_of_lt_of_le ha hp)
  have hb' : b % 2 ^ k.bits = b := Nat.mod_eq_of_lt (Nat.lt_of_lt_of_le hb hp)
  have cast : ∀ n : Nat, n < 2 ^ j → ((n : Nat) : Int) < 2 ^ j := fun n h => by exact_mod_cast h
  refine ⟨?_, ?_, ?_⟩
  · simp only [Go.bits, BitVec.ofInt_natCast, BitVec.toNat_and, BitVec.toNat_ofNat, ha', hb']
    exact hk _ (Int.natCast_nonneg _) (cast _ (Nat.and_lt_two_pow _ hb))
  · simp only [Go.bits, BitVec.ofInt_natCast, BitVec.toNat_or, BitVec.toNat_ofNat, ha', hb']
    exact hk _ (Int.natCast_nonneg _) (cast _ (Nat.or_lt_two_pow ha hb))
  · simp only [Go.bits, BitVec.ofInt_natCast, BitVec.toNat_xor, BitVec.toNat_ofNat, ha', hb']
    exact hk _ (Int.natCast_nonneg _) (cast _ (Nat.xor_lt_two_pow ha hb))
theorem wr_i64 (n : Int) (h0 : 0 ≤ n) (h1 : n < 2 ^ 62) : IntKind.i64.wrap n = n := by rw [IntKind.wrap_i64]; omega
theorem wr_u64 (n : Int) (h0 : 0 ≤ n) (h1 : n < 2 ^ 64) : IntKind.u64.wrap n = n := by
  simp [IntKind.wrap, IntKind.bits, IntKind.signed]; omega
theorem or_i64 (a b : Nat) (ha : a < 2 ^ 62) (hb : b < 2 ^ 62) : Go.bits .or .i64 a b = ((a ||| b : Nat) : Int) := (bits_nat3 .i64 62 (by decide) wr_i64 a b ha hb).2.1
theorem xor_i64 (a b : Nat) (ha : a < 2 ^ 62) (hb : b < 2 ^ 62) : Go.bits .xor .i64 a b = ((a ^^^ b : Nat) : Int) := (bits_nat3 .i64 62 (by decide) wr_i64 a b ha hb).2.2
theorem and_i64 (a b : Nat) (ha : a < 2 ^ 62) (hb : b < 2 ^ 62) : Go.bits .and .i64 a b = ((a &&& b : Nat) : Int) := (bits_nat3 .i64 62 (by decide) wr_i64 a b ha hb).1
theorem xor_u8 (a b : Nat) (ha : a < 2 ^ 8) (hb : b < 2 ^ 8) : Go.bits .xor .u8 a b = ((a ^^^ b : Nat) : Int) := (bits_nat3 .u8 8 (by decide) wraps_u8 a b ha hb).2.2
/-- Byte i of s as a natural number. -/
def bn (s : ByteArray) (i : Nat) : Nat := (s.data.toList.getD i 0).toNat
theorem bn_lt (s : ByteArray) (i : Nat) : bn s i < 256 := (s.data.toList.getD i 0).toNat_lt
theorem bt_bn (s : ByteArray) (i : Nat) : bt s (i : Int) = (bn s i : Int) := by
  unfold bt bn
  split
  · rename_i h
    have h' : i < s.data.toList.length := by rw [data_length]; simpa using h
    rw [List.getD_eq_getElem?_getD, List.getElem?_eq_getElem h']; rfl
  · rename_i h
    have h' : s.data.toList.length ≤ i := by rw [data_length]; simpa using h
    rw [List.getD_eq_getElem?_getD, List.getElem?_eq_none h']; rfl
theorem bt_bn' (s : ByteArray) (i : Int) (h : 0 ≤ i) : bt s i = (bn s i.toNat : Int) := by
  obtain ⟨n, rfl⟩ := Int.eq_ofNat_of_zero_le h
  exact bt_bn s n
theorem toList_eq' (s : ByteArray) : s.toList = s.data.toList := ByteArray.toList_eq s
/-- Two strings of one length are one where their bytes are. -/
theorem bytes_ext {s t : ByteArray} (hl : s.size = t.size) (h : ∀ i, i < s.size → bn s i = bn t i) : s.data.toList = t.data.toList := by
  apply List.ext_getElem (by rw [data_length, data_length, hl])
  intro i h1 h2
  have := h i (by rw [← data_length]; exact h1)
  unfold bn at this
  rw [List.getD_eq_getElem?_getD, List.getD_eq_getElem?_getD, List.getElem?_eq_getElem h1, List.getElem?_eq_getElem h2] at this
  exact UInt8.toNat_inj.1 this
theorem strOf_data (xs : List Int) : (strOfNums xs).data.toList = xs.map fun n => UInt8.ofNat n.toNat := by simp [strOfNums]
theorem strOf_toList (xs : List Int) : (strOfNums xs).toList = xs.map fun n => UInt8.ofNat n.toNat := by rw [toList_eq', strOf_data]
theorem strOf_size (xs : List Int) : (strOfNums xs).size = xs.length := by rw [← data_length, strOf_data, List.length_map]
/-- A list of n numbers written cell by cell is the list of what was written. -/
theorem tab_set (f : Nat → Int) (n i : Nat) (rest : List Int) (h : i < n) (hr : rest.length = n - i) :
    (((List.range i).map f) ++ rest).set i (f i) = ((List.range (i + 1)).map f) ++ rest.tail := by
  cases rest with
  | nil => simp at hr; omega
  | cons a rest =>
    rw [List.set_append_right _ _ (by simp)]
    simp [List.range_succ]
theorem xor_zero_iff {a b : Nat} : a ^^^ b = 0 ↔ a = b := by
  constructor
  · intro h
    have := congrArg (· ^^^ b) h
    simpa [Nat.xor_assoc] using this
  · rintro rfl; exact Nat.xor_self a
theorem rounds_of {P : Nat → Prop} (n : Nat) (h : ∀ k, n ≤ k → P k) : ∃ k, P k := ⟨n, h n (Nat.le_refl n)⟩
/-- As Option.bind_some, but not by reduction: the kernel is not led into what follows. -/
theorem ob {α β : Type} (a : α) (f : α → Option β) : (some a).bind f = f a := by
  cases h : f a with
  | none => rw [Option.bind_some, h]
  | some b => rw [Option.bind_some, h]

/-- The w bytes of m, the greatest first. -/
def nb (m w i : Nat) : Int := ((m / 2 ^ (8 * (w - 1 - i)) % 256 : Nat) : Int)
def numBytes (m w : Nat) : List Int := (List.range w).map (nb m w)
theorem numBytes_length (m w : Nat) : (numBytes m w).length = w := by simp [numBytes]
theorem shr_nat (m c : Nat) (hc : c ≤ 64) (y : Int) (hy : y = c) : shr .i64 (m : Int) y = ((m / 2 ^ c : Nat) : Int) := by
  subst hy
  unfold shr
  rw [show min ((c : Int)).toNat IntKind.i64.bits = c by simp [IntKind.bits]; omega]
  simp
theorem shl_one (c : Nat) (hc : c ≤ 56) (y : Int) (hy : y = c) : shl .i64 1 y = ((2 ^ c : Nat) : Int) := by
  subst hy
  unfold shl
  rw [show min ((c : Int)).toNat IntKind.i64.bits = c by simp [IntKind.bits]; omega]
  have h : (2 : Nat) ^ c ≤ 2 ^ 56 := Nat.pow_le_pow_right (by decide) hc
  rw [show (1 : Int) * 2 ^ c = ((2 ^ c : Nat) : Int) by simp]
  exact wr_i64 _ (Int.natCast_nonneg _) (by have : (2 : Nat) ^ 56 = 72057594037927936 := by decide
                                            omega)
theorem spec_numText_loop (m w : Nat) (hw : w ≤ 7) (d : Nat) : ∀ (k j : Nat), j + d = w → d < k →
    spec_NumText.l0 k (m : Int) ((List.range j).map (nb m w)) ((w : Int) - 1 - j) = some (strOfNums (numBytes m w)) := by
  induction d with
  | zero =>
    intro k j hd hk
    obtain ⟨k, rfl⟩ : ∃ q, k = q + 1 := ⟨k - 1, by omega⟩
    obtain rfl : j = w := by omega
    simp only [spec_NumText.l0]
    rw [if_neg (by omega)]; rfl
  | succ d ih =>
    intro k j hd hk
    obtain ⟨k, rfl⟩ : ∃ q, k = q + 1 := ⟨k - 1, by omega⟩
    have e := ih k (j + 1) (by omega) (by omega)
    simp only [spec_NumText.l0]
    rw [wr_u64 ((w : Int) - 1 - j) (by omega) (by omega), wr_u64 (8 * ((w : Int) - 1 - j)) (by omega) (by omega), if_pos (by omega), if_pos (by omega), if_pos (by simp; omega), shr_nat m (8 * (w - 1 - j)) (by omega) _ (by omega), w64 (by omega) (by omega)]
    rw [show (((m / 2 ^ (8 * (w - 1 - j)) : Nat) : Int) % 256) = nb m w j by unfold nb; omega]
    rw [List.range_succ, List.map_append] at e
    rw [show (w : Int) - 1 - j - 1 = (w : Int) - 1 - ((j + 1 : Nat) : Int) by omega]
    exact e
theorem impl_numText_loop (m w : Nat) (hw : w ≤ 7) (d : Nat) : ∀ (k j : Nat), j + d = w → d < k →
    impl_NumText.l0 k (m : Int) (w : Int) ((List.range j).map (nb m w) ++ List.replicate d 0) (w : Int) (j : Int) = some (strOfNums (numBytes m w)) := by
  induction d with
  | zero =>
    intro k j hd hk
    obtain ⟨k, rfl⟩ : ∃ q, k = q + 1 := ⟨k - 1, by omega⟩
    obtain rfl : j = w := by omega
    simp only [impl_NumText.l0]
    rw [if_neg (by omega)]; simp [numBytes]
  | succ d ih =>
    intro k j hd hk
    obtain ⟨k, rfl⟩ : ∃ q, k = q + 1 := ⟨k - 1, by omega⟩
    have e := ih k (j + 1) (by omega) (by omega)
    simp only [impl_NumText.l0]
    rw [w64 (n := (w : Int) - 1) (by omega) (by omega), w64 (n := (w : Int) - 1 - j) (by omega) (by omega), w64 (n := 8 * ((w : Int) - 1 - j)) (by omega) (by omega), if_pos (by omega), if_pos (by omega), if_pos (by omega), if_pos (by simp; omega), shr_nat m (8 * (w - 1 - j)) (by omega) _ (by omega), w64 (by omega) (by omega)]
    rw [show (((m / 2 ^ (8 * (w - 1 - j)) : Nat) : Int) % 256) = nb m w j by unfold nb; omega]
    rw [show ((j : Int)).toNat = j from rfl, tab_set (nb m w) w j (List.replicate (d + 1) 0) (by omega) (by simp; omega)]
    exact e
/-- What NumText comes to. -/
def numTextOf (n w : Int) : ByteArray := if 0 ≤ n ∧ 1 ≤ w ∧ w ≤ 7 ∧ n.toNat < 2 ^ (8 * w.toNat) then strOfNums (numBytes n.toNat w.toNat) else ⟨#[]⟩
theorem numTextOf_size (n w : Int) : (numTextOf n w).size ≤ 7 := by
  unfold numTextOf
  split
  · rw [strOf_size, numBytes_length]; omega
  · simp [ByteArray.size]
theorem spec_numText (k : Nat) (hk : 9 ≤ k) (n w : Int) (n1 : n ≤ 9223372036854775807) : spec_NumText.f k n w = some (numTextOf n w) := by
  obtain ⟨k, rfl⟩ : ∃ q, k = q + 1 := ⟨k - 1, by omega⟩
  unfold numTextOf
  by_cases hn : 0 ≤ n
  · obtain ⟨m, rfl⟩ := Int.eq_ofNat_of_zero_le hn
    by_cases hw : 1 ≤ w
    · obtain ⟨v, rfl⟩ := Int.eq_ofNat_of_zero_le (show 0 ≤ w by omega)
      by_cases hw7 : (v : Int) ≤ 7
      · have e0 : IntKind.u64.wrap (v : Int) = v := wr_u64 _ (by omega) (by omega)
        have e1 : IntKind.u64.wrap (8 * (v : Int)) = 8 * v := wr_u64 _ (by omega) (by omega)
        have e2 := shr_nat m (8 * v) (by omega) (8 * (v : Int)) (by omega)
        have hc : (0 : Int) ≤ 8 * v := by omega
        simp only [spec_NumText.f, spec_l01In.f, ge_iff_le, if_neg (show ¬ ((m : Int) < 0) by omega), if_pos hw, hw7, decide_true, Option.bind_some, if_true, e0, e1, e2, if_pos hc, spec_NumText.j0]
        by_cases h : m < 2 ^ (8 * v)
        · rw [if_neg, if_pos ⟨hn, hw, trivial, h⟩]
          · have e := spec_numText_loop m v (by omega) v k 0 (by omega) (by omega)
            rw [Int.natCast_zero, Int.sub_zero] at e
            rw [w64 (by omega) (by omega)]
            exact e
          · have := Nat.div_eq_of_lt h
            simp [this]
        · rw [if_pos, if_neg (fun hh => h hh.2.2.2)]
          have := Nat.div_pos (show 2 ^ (8 * v) ≤ m by omega) (Nat.two_pow_pos _)
          simp only [decide_eq_true_eq]; omega
      · simp only [spec_NumText.f, spec_l01In.f, ge_iff_le, if_neg (show ¬ ((m : Int) < 0) by omega), if_pos hw, hw7, decide_false, Option.bind_some, Bool.false_eq_true, if_false, if_true, spec_NumText.j0, false_and, and_false]
    · simp only [spec_NumText.f, spec_l01In.f, ge_iff_le, if_neg (show ¬ ((m : Int) < 0) by omega), if_neg hw, Option.bind_some, Bool.false_eq_true, if_false, if_true, spec_NumText.j0, hw, false_and, and_false]
  · simp only [spec_NumText.f, if_pos (show n < 0 by omega), if_true, spec_NumText.j0, hn, false_and, if_false]
theorem impl_numText (k : Nat) (hk : 9 ≤ k) (n w : Int) (n1 : n ≤ 9223372036854775807) : impl_NumText.f k n w = some (numTextOf n w) := by
  obtain ⟨k, rfl⟩ : ∃ q, k = q + 1 := ⟨k - 1, by omega⟩
  unfold numTextOf
  by_cases hn : 0 ≤ n
  · obtain ⟨m, rfl⟩ := Int.eq_ofNat_of_zero_le hn
    by_cases hw : 1 ≤ w
    · obtain ⟨v, rfl⟩ := Int.eq_ofNat_of_zero_le (show 0 ≤ w by omega)
      by_cases hw7 : (v : Int) ≤ 7
      · have e1 : wrap64 (8 * (v : Int)) = 8 * v := w64 (by omega) (by omega)
        have e2 := shl_one (8 * v) (by omega) (8 * (v : Int)) (by omega)
        have hc : (0 : Int) ≤ 8 * v := by omega
        simp only [impl_NumText.f, impl_within.f, ge_iff_le, if_neg (show ¬ ((m : Int) < 0) by omega), if_pos hw, hw7, decide_true, Option.bind_some, if_true, e1, e2, if_pos hc, impl_NumText.j0]
        by_cases h : m < 2 ^ (8 * v)
        · have h' : ¬ ((2 ^ (8 * v) : Nat) : Int) ≤ (m : Int) := by omega
          have e := impl_numText_loop m v (by omega) v k 0 (by omega) (by omega)
          rw [Int.natCast_zero] at e
          simp only [h', decide_false, Bool.false_eq_true, if_false]
          rw [if_pos (show ((v : Int)).toNat ≤ 281474976710656 by omega)]
          simp only [List.length_replicate, Int.toNat_natCast]
          have hh : 0 ≤ (m : Int) ∧ 1 ≤ (v : Int) ∧ True ∧ m < 2 ^ (8 * v) := ⟨hn, hw, trivial, h⟩
          simp only [if_pos hh]
          exact e
        · have h' : ((2 ^ (8 * v) : Nat) : Int) ≤ (m : Int) := by omega
          simp only [h', decide_true, if_true]
          rw [if_neg (fun hh => h hh.2.2.2)]
      · simp only [impl_NumText.f, impl_within.f, ge_iff_le, if_neg (show ¬ ((m : Int) < 0) by omega), if_pos hw, hw7, decide_false, Option.bind_some, Bool.false_eq_true, if_false, if_true, impl_NumText.j0, false_and, and_false]
    · simp only [impl_NumText.f, impl_within.f, ge_iff_le, if_neg (show ¬ ((m : Int) < 0) by omega), if_neg hw, Option.bind_some, Bool.false_eq_true, if_false, if_true, impl_NumText.j0, hw, false_and, and_false]
  · simp only [impl_NumText.f, if_pos (show n < 0 by omega), if_true, impl_NumText.j0, hn, false_and, if_false]

/-- n zero bytes. -/
def zb (n : Nat) : ByteArray := strOfNums (List.replicate n 0)
theorem zb_size (n : Nat) : (zb n).size = n := by unfold zb; rw [strOf_size, List.length_replicate]
theorem zb_data (n : Nat) : (zb n).data.toList = List.replicate n 0 := by unfold zb; rw [strOf_data, List.map_replicate]; rfl
theorem ba_ext {s t : ByteArray} (h : s.data.toList = t.data.toList) : s = t := by
  cases s; cases t; simp only at h; congr; exact Array.toList_inj.1 h
theorem rep_zero (n : Nat) (hn : n ≤ 140737488355328) : strings_Repeat.f ⟨#[0]⟩ (n : Int) = some (zb n) := by
  unfold strings_Repeat.f rep_.f
  rw [if_pos ⟨by omega, by show 1 * n ≤ _; omega, by omega⟩]
  congr 1
  apply ba_ext
  rw [zb_data]
  show Lib.repeatL [0] n = _
  induction n with
  | zero => rfl
  | succ n ih => rw [Lib.repeatL, ih (by omega), List.replicate_succ]; rfl
theorem impl_pad (s : ByteArray) (n : Nat) (hs : s.size ≤ 140737488351300) (hn : n ≤ 100000) : impl_padded.f s (n : Int) = some (s ++ zb (n - s.size)) := by
  unfold impl_padded.f
  have e : mx 0 (wrap64 ((n : Int) - (s.size : Int))) = ((n - s.size : Nat) : Int) := by
    rw [w64 (by omega) (by omega)]
    unfold mx
    split <;> omega
  rw [e, rep_zero _ (by omega)]
  simp only [Option.bind_some]
  rw [if_pos (by rw [zb_size]; omega)]
theorem pad_empty (n : Nat) (hn : n ≤ 100000) : impl_padded.f ⟨#[]⟩ (n : Int) = some (zb n) := by
  rw [impl_pad _ n (Nat.zero_le _) hn]
  have e : (⟨#[]⟩ : ByteArray) ++ zb (n - (⟨#[]⟩ : ByteArray).size) = zb n := by
    apply ba_ext
    rw [show (⟨#[]⟩ : ByteArray).size = 0 from rfl, Nat.sub_zero, ByteArray.data_append, Array.toList_append]
    rfl
  rw [e]

theorem long_loop (n : Nat) (x : Int) (hn : n ≤ 100000) (d : Nat) : ∀ (k i : Nat), i + d = n → d < k → spec_l01Long.l0 k (n : Int) x ((List.range i).map (fun _ => x) ++ List.replicate d 0) (i : Int) = some (strOfNums (List.replicate n x)) := by
  induction d with
  | zero =>
    intro k i hi hk
    obtain ⟨k, rfl⟩ : ∃ q, k = q + 1 := ⟨k - 1, by omega⟩
    obtain rfl : i = n := by omega
    simp only [spec_l01Long.l0]
    rw [if_neg (by omega)]
    congr 2
    simp [List.map_const']
  | succ d ih =>
    intro k i hi hk
    obtain ⟨k, rfl⟩ : ∃ q, k = q + 1 := ⟨k - 1, by omega⟩
    have e := ih k (i + 1) (by omega) (by omega)
    have t := tab_set (fun _ => x) n i (List.replicate (d + 1) 0) (by omega) (by simp; omega)
    rw [show (List.replicate (d + 1) (0 : Int)).tail = List.replicate d 0 by simp [List.replicate_succ]] at t
    simp only [spec_l01Long.l0]
    rw [if_pos (by omega), if_pos (by omega), if_pos (by simp; omega), w64 (by omega) (by omega), show (i : Int) + 1 = ((i + 1 : Nat) : Int) by omega, show ((i : Int)).toNat = i from rfl, t]
    exact e
theorem spec_long (n : Nat) (x : Int) (hn : n ≤ 100000) (k : Nat) (hk : n < k) : spec_l01Long.f k (n : Int) x = some (strOfNums (List.replicate n x)) := by
  unfold spec_l01Long.f
  have e := long_loop n x hn n k 0 (by omega) hk
  rw [Int.natCast_zero] at e
  rw [if_pos (by omega), if_pos (by omega)]
  simpa using e
theorem spec_zero (n : Nat) (hn : n ≤ 20000) (k : Nat) (hk : n < k) : spec_ZeroText.f k (n : Int) = some (zb n) := by
  unfold spec_ZeroText.f spec_l01In.f
  rw [if_pos (by omega), decide_eq_true (by omega)]
  simp only [Option.bind_some, if_true, spec_long n 0 (by omega) k hk]
  rfl

theorem spec_wtext (s : ByteArray) (k : Nat) (hk : 9 ≤ k) : spec_WordText.f k s = some (if s.size ≤ 8 then s ++ zb (8 - s.size) else ⟨#[]⟩) := by
  unfold spec_WordText.f
  by_cases h : s.size ≤ 8
  · rw [if_neg (by omega), if_pos h]
    first
      | rw [show wrap64 (8 - (s.size : Int)) = ((8 - s.size : Nat) : Int) by rw [w64 (by omega) (by omega)]; omega]
      | rw [show (8 - (s.size : Int)) = ((8 - s.size : Nat) : Int) by omega]
    rw [spec_zero (8 - s.size) (by omega) k (by omega)]
    simp only [Option.bind_some]
    rw [if_pos (by rw [zb_size]; omega)]
  · rw [if_pos (by omega), if_neg h]

theorem impl_wtext (s : ByteArray) : impl_WordText.f s = some (if s.size ≤ 8 then s ++ zb (8 - s.size) else ⟨#[]⟩) := by
  unfold impl_WordText.f
  by_cases h : s.size ≤ 8
  · rw [if_neg (by omega), if_pos h, show (8 : Int) = ((8 : Nat) : Int) from rfl, impl_pad s 8 (by omega) (by omega)]
    rfl
  · rw [if_pos (by omega), if_neg h]

theorem name_loops (a : ByteArray) (hn : a.size ≤ 9223372036854775806) (d : Nat) : ∀ (k i : Nat), a.size - i = d → i ≤ a.size → d < k →
    ∃ r, spec_NameOk.l0 k a (i : Int) = some r ∧ impl_NameOk.l0 k a (a.size : Int) (i : Int) = some r ∧ (r = true → a.size ≤ 7) := by
  induction d with
  | zero =>
    intro k i hd hi hk
    obtain ⟨k, rfl⟩ : ∃ q, k = q + 1 := ⟨k - 1, by omega⟩
    simp only [spec_NameOk.l0, impl_NameOk.l0]; rw [if_neg (by omega), if_neg (by omega)]
    simp only [spec_l01In.f, impl_within.f]
    split
    · refine ⟨_, rfl, rfl, ?_⟩
      intro h; simp only [decide_eq_true_eq] at h; omega
    · exact ⟨false, rfl, rfl, fun h => by cases h⟩
  | succ d ih =>
    intro k i hd hi hk
    obtain ⟨k, rfl⟩ : ∃ q, k = q + 1 := ⟨k - 1, by omega⟩
    have hb := bn_lt a i
    obtain ⟨r, e1, e2, e3⟩ := ih k (i + 1) (by omega) (by omega) (by omega)
    rw [show ((i + 1 : Nat) : Int) = (i : Int) + 1 by omega] at e1 e2
    have c0 : (i : Int) < (a.size : Int) := by omega
    have c0' : 0 ≤ (i : Int) := by omega
    have hw : wrap64 (bn a i : Int) = (bn a i : Int) := w64 (by omega) (by omega)
    have hi' : wrap64 ((i : Int) + 1) = (i : Int) + 1 := w64 (by omega) (by omega)
    simp only [spec_NameOk.l0, impl_NameOk.l0, spec_l01In.f, bt_bn, hw, hi', if_pos c0, if_pos c0', e1, e2]
    by_cases c1 : (bn a i : Int) ≥ 97 <;> by_cases c2 : (bn a i : Int) ≤ 122 <;> by_cases c3 : (bn a i : Int) ≥ 48 <;> by_cases c4 : (bn a i : Int) ≤ 57 <;>
      first | (exfalso; omega) | (simp only [c1, c2, c3, c4, if_true, if_false, decide_true, decide_false, Option.bind_some, Bool.false_eq_true]; first | exact ⟨_, rfl, rfl, e3⟩ | exact ⟨_, rfl, rfl, fun h => by cases h⟩)
theorem name_both (a : ByteArray) (hn : a.size ≤ 9223372036854775806) (k : Nat) (hk : a.size < k) : ∃ r, spec_NameOk.f k a = some r ∧ impl_NameOk.f k a = some r ∧ (r = true → a.size ≤ 7) := by
  obtain ⟨r, e1, e2, e3⟩ := name_loops a hn a.size k 0 (by omega) (by omega) hk
  rw [Int.natCast_zero] at e1 e2
  exact ⟨r, by unfold spec_NameOk.f; exact e1, by unfold impl_NameOk.f; exact e2, e3⟩

theorem entry_both (i : Int) (s : ByteArray) (hs : s.size ≤ 140737488351300) (k : Nat) (hk : s.size + 20 < k) : ∃ r, spec_EntryWord.f k i s = some r ∧ impl_EntryWord.f k i s = some r := by
  obtain ⟨k, rfl⟩ : ∃ q, k = q + 1 := ⟨k - 1, by omega⟩
  obtain ⟨b, b1, b2, b3⟩ := name_both s (by omega) (k + 1) (by omega)
  have no : ∀ b : Bool, b = true → ∃ r, spec_EntryWord.j0 (k + 1) b i s = some r ∧ impl_EntryWord.j0 (k + 1) b i s = some r := by
    rintro b rfl
    exact ⟨⟨#[]⟩, by simp only [spec_EntryWord.j0, if_true], by simp only [impl_EntryWord.j0, if_true]⟩
  simp only [spec_EntryWord.f, impl_EntryWord.f, spec_l01In.f, impl_within.f, b1, b2]
  by_cases h1 : i ≥ 1
  · by_cases h2 : i ≤ 5
    · simp only [if_pos h1, h2, decide_true, Option.bind_some, if_true]
      cases b
      · exact no true rfl
      · have hs7 := b3 rfl
        have z := numTextOf_size i 1
        refine ⟨(if (numTextOf i 1 ++ s).size ≤ 8 then (numTextOf i 1 ++ s) ++ zb (8 - (numTextOf i 1 ++ s).size) else ⟨#[]⟩), ?_, ?_⟩
        rotate_left
        · simp only [impl_EntryWord.j0, Bool.not_true, Bool.false_eq_true, if_false, impl_numText k (by omega) i 1 (by omega), Option.bind_some]
          rw [if_pos (by omega), impl_wtext]; rfl
        · simp only [spec_EntryWord.j0, Bool.not_true, Bool.false_eq_true, if_false, spec_numText k (by omega) i 1 (by omega), Option.bind_some]
          rw [if_pos (by omega), spec_wtext _ k (by omega)]; rfl
    · simp only [if_pos h1, h2, decide_false, Option.bind_some, Bool.false_eq_true, if_false]
      exact no true rfl
  · simp only [if_neg h1, Option.bind_some, Bool.false_eq_true, if_false]
    exact no true rfl

theorem entry_all (i : Int) (s : ByteArray) (hs : s.size ≤ 8) : ∃ r, ∀ k, 100 ≤ k → spec_EntryWord.f k i s = some r ∧ impl_EntryWord.f k i s = some r := by
  obtain ⟨r, e1, e2⟩ := entry_both i s (by omega) 100 (by omega)
  refine ⟨r, fun k hk => ?_⟩
  obtain ⟨n, rfl⟩ : ∃ n, k = 100 + n := ⟨k - 100, by omega⟩
  clear hk
  induction n with
  | zero => exact ⟨e1, e2⟩
  | succ n ih => exact ⟨spec_EntryWord.mono _ _ (100 + n) _ ih.1, impl_EntryWord.mono _ _ (100 + n) _ ih.2⟩
def mkE (l : List UInt8) : ByteArray := ⟨l.toArray⟩
theorem extract_mkE (a : ByteArray) (i j : Nat) : a.extract i j = mkE ((a.data.toList.drop i).take (j - i)) := by
  have h := Lib.extract_toList a i j
  rw [ByteArray.toList_eq] at h
  unfold mkE
  rw [← h]
theorem trim_zero (l : List UInt8) : Lib.trimRightB (l ++ [0]) 0 = Lib.trimRightB l 0 := by
  simp [Lib.trimRightB]
theorem trim_ne (l : List UInt8) (c : UInt8) (h : c ≠ 0) : Lib.trimRightB (l ++ [c]) 0 = l ++ [c] := by
  simp [Lib.trimRightB, h]
theorem byteE (a : ByteArray) (i : Nat) (h : i < a.data.toList.length) : bt a (i : Int) = ((a.data.toList[i]'h).toNat : Int) := by
  have h_ : i < a.size := h
  rw [← bt_at a (i : Int) (by simpa using h_)]
  rfl
def nameE (a : ByteArray) (e : Nat) : ByteArray := mkE (Lib.trimRightB ((a.data.toList.drop 1).take (e - 1)) 0)
def resE (a : ByteArray) (nm r : ByteArray) : Int × ByteArray × Bool := if r.toList = a.toList then (wrap64 (bt a 0), nm, true) else (0, (⟨#[]⟩ : ByteArray), false)
theorem read_loop (a : ByteArray) (h8 : a.size = 8) (nm r : ByteArray) (hr : ∀ k, 100 ≤ k → spec_EntryWord.f k (wrap64 (bt a 0)) nm = some r) (d : Nat) : ∀ (k e : Nat), e = d + 1 → e ≤ 8 → nameE a e = nm → 120 + d < k →
    spec_ReadEntry.l0 k a (e : Int) = some (resE a nm r) := by
  have hn : a.data.toList.length = a.size := rfl
  induction d with
  | zero =>
    intro k e he h1 hnm hk
    subst he
    obtain ⟨k, rfl⟩ : ∃ q, k = q + 1 := ⟨k - 1, by omega⟩
    have hex : a.extract 1 (((0 + 1 : Nat) : Int)).toNat = nm := by
      rw [← hnm, extract_mkE]; simp [nameE, Lib.trimRightB]
    simp only [spec_ReadEntry.l0]
    rw [if_neg (by omega), if_pos (by omega), if_pos (by omega), if_pos (by omega), hex, hr k (by omega)]
    simp only [Option.bind_some]
    unfold resE
    split <;> rfl
  | succ d ih =>
    intro k e he h1 hnm hk
    subst he
    obtain ⟨k, rfl⟩ : ∃ q, k = q + 1 := ⟨k - 1, by omega⟩
    have hil : d + 1 < a.data.toList.length := by omega
    have hb := byteE a (d + 1) hil
    have hw : wrap64 (((d + 1 + 1 : Nat) : Int) - 1) = ((d + 1 : Nat) : Int) := by rw [w64 (by omega) (by omega)]; omega
    have ht : (a.data.toList.drop 1).take (d + 1 + 1 - 1) = (a.data.toList.drop 1).take (d + 1 - 1) ++ [a.data.toList[d + 1]] := by
      rw [show d + 1 + 1 - 1 = d + 1 by omega, show d + 1 - 1 = d by omega, List.take_add_one]
      congr 1
      rw [List.getElem?_drop, show 1 + d = d + 1 by omega, List.getElem?_eq_getElem hil]; rfl
    simp only [spec_ReadEntry.l0]
    rw [if_pos (by omega), hw, if_pos (by omega), if_pos (by omega), hb]
    by_cases c : a.data.toList[d + 1] = 0
    · rw [if_pos (by rw [c]; rfl)]
      refine ih k (d + 1) rfl (by omega) ?_ (by omega)
      rw [← hnm]
      unfold nameE
      rw [ht, c, trim_zero]
    · have c0 : ¬ ((a.data.toList[d + 1].toNat : Nat) : Int) = 0 := fun h => c (UInt8.toNat_inj.1 (by have h_ : (0 : UInt8).toNat = 0 := rfl; omega))
      have hex : a.extract 1 (((d + 1 + 1 : Nat) : Int)).toNat = nm := by
        rw [← hnm, extract_mkE]
        unfold nameE
        rw [Int.toNat_natCast, ht, trim_ne _ _ c]
      rw [if_neg c0, if_pos (by omega), if_pos (by omega), if_pos (by omega), hex, hr k (by omega)]
      simp only [Option.bind_some]
      unfold resE
      split <;> rfl
theorem trim_size (l : List UInt8) : (Lib.trimRightB l 0).length ≤ l.length := by
  unfold Lib.trimRightB
  rw [List.length_reverse]
  have := (List.dropWhile_sublist (l := l.reverse) (p := fun x => x == (0 : UInt8))).length_le
  simpa using this
theorem FnExactReadEntry : laws_FnExactReadEntry.Pure := by
  intro s _
  refine rounds_of 1000 fun k hk => ?_
  unfold laws_FnExactReadEntry.f
  split
  · rfl
  · have key : ∃ x : Int × ByteArray × Bool, spec_ReadEntry.f k s = some x ∧ impl_ReadEntry.f k s = some x := by
      unfold spec_ReadEntry.f impl_ReadEntry.f
      by_cases h8 : s.size = 8
      · have hn : s.data.toList.length = s.size := rfl
        have hsz : (nameE s 8).size ≤ 8 := by
          have h1 := trim_size ((s.data.toList.drop 1).take (8 - 1))
          have h2 : (nameE s 8).size = (Lib.trimRightB ((s.data.toList.drop 1).take (8 - 1)) 0).length := rfl
          have h3 : ((s.data.toList.drop 1).take (8 - 1)).length ≤ 7 := by rw [List.length_take]; omega
          rw [h2]
          omega
        obtain ⟨r, hr⟩ := entry_all (wrap64 (bt s 0)) (nameE s 8) hsz
        refine ⟨resE s (nameE s 8) r, ?_, ?_⟩
        · rw [if_pos (by omega)]
          exact read_loop s h8 (nameE s 8) r (fun k hk => (hr k hk).1) 7 k 8 rfl (by omega) rfl (by omega)
        · have ht : strings_TrimRight.f (s.extract 1 s.size) (⟨#[0]⟩ : ByteArray) = some (nameE s 8) := by
            unfold strings_TrimRight.f
            rw [if_pos ⟨rfl, by rw [ByteArray.size_extract]; omega⟩, extract_mkE, h8]
            rfl
          rw [if_pos (by omega), if_pos (by omega), if_pos (by omega), ht]
          simp only [Option.bind_some]
          rw [(hr k (by omega)).2]
          simp only [Option.bind_some]
          unfold resE
          split <;> rfl
      · exact ⟨_, by rw [if_neg (by omega)], by rw [if_neg (by omega)]⟩
    obtain ⟨⟨x0, x1, x2⟩, e1, e2⟩ := key
    rw [e1, e2]
    simp [laws_eqEntry.f]
end Go.Proofs.YtkkadcpgjniojaaDoor.Pure
