/- The law FnTwice answers true at every draw: the two packages agree on the drawn list, and two different texts under one key and nonce are found; no condition. -/
import Derived.Test.YtcmemppkllgkmaaMFnTwicex3
namespace Go.Proofs.Ytcmemppkllgkmaa.Pure
open Go.RowKit Go.Proofs.Ytcmemppkllgkmaa.PFnTwice Go.Proofs.YtcmemppkllgkmaaW.PrintWords Go.Proofs.YtcmemppkllgkmaaW.PrintLast Go.Proofs.YtcmemppkllgkmaaW.PrintMore
set_option linter.unusedVariables false
set_option linter.unusedSimpArgs false

theorem w64 {n : Int} (h0 : -9223372036854775808 ≤ n) (h1 : n ≤ 9223372036854775807) : wrap64 n = n := by
  unfold wrap64; omega
theorem bits_nat3 (k : IntKind) (j : Nat) (hj : j ≤ k.bits) (hk : ∀ n : Int, 0 ≤ n → n < 2 ^ j → k.wrap n = n) (a b : Nat) (ha : a < 2 ^ j) (hb : b < 2 ^ j) :
    Go.bits .and k a b = ((a &&& b : Nat) : Int) ∧ Go.bits .or k a b = ((a ||| b : Nat) : Int) ∧ Go.bits .xor k a b = ((a ^^^ b : Nat) : Int) := by
  have hp : 2 ^ j ≤ 2 ^ k.bits := Nat.pow_le_pow_right (by decide) hj
  have ha' : a % 2 ^ k.bits = a := Nat.mod_eq_of_lt (Nat.lt_of_lt_of_le ha hp)
  have hb' : b % 2 ^ k.bits = b := Nat.mod_eq_of_lt (Nat.lt_of_lt_of_le hb hp)
  have cast : ∀ n : Nat, n < 2 ^ j → ((n : Nat) : Int) < 2 ^ j := fun n h => by exact_mod_cast h
  refine ⟨?_, ?_, ?_⟩
  · simp only [Go.bits, BitVec.ofInt_natCast, BitVec.toNat_and, BitVec.toNat_ofNat, ha', hb']
    exact hk _ (Int.natCast_nonneg _) (cast _ (Nat.and_lt_two_pow _ hb))
  · simp only [Go.bits, BitVec.ofInt_natCast, BitVec.toNat_or, BitVec.toNat_ofNat, ha', hb']
    exact hk _ (Int.natCast_nonneg _) (cast _ (Nat.or_lt_two_pow ha hb))
  · simp only [Go.bits, BitVec.ofInt_natCast, BitVec.toNat_xor, BitVec.toNat_ofNat, ha', hb']
    exact hk _ (Int.natCast_nonneg _) (cast _ (Nat.xor_lt_two_pow ha hb))
theorem wr_i64 (n : Int) (h0 : 0 ≤ n) (h1 : n < 2 ^ 62) : IntKind.i64.wrap n = n := by rw [IntKind.wrap_i64]; omega
theorem wr_u64 (n : Int) (h0 : 0 ≤ n) (h1 : n < 2 ^ 64) : IntKind.u64.wrap n = n := by
  simp [IntKind.wrap, IntKind.bits, IntKind.signed]; omega
theorem or_i64 (a b : Nat) (ha : a < 2 ^ 62) (hb : b < 2 ^ 62) : Go.bits .or .i64 a b = ((a ||| b : Nat) : Int) := (bits_nat3 .i64 62 (by decide) wr_i64 a b ha hb).2.1
theorem xor_i64 (a b : Nat) (ha : a < 2 ^ 62) (hb : b < 2 ^ 62) : Go.bits .xor .i64 a b = ((a ^^^ b : Nat) : Int) := (bits_nat3 .i64 62 (by decide) wr_i64 a b ha hb).2.2
theorem and_i64 (a b : Nat) (ha : a < 2 ^ 62) (hb : b < 2 ^ 62) : Go.bits .and .i64 a b = ((a &&& b : Nat) : Int) := (bits_nat3 .i64 62 (by decide) wr_i64 a b ha hb).1
theorem xor_u8 (a b : Nat) (ha : a < 2 ^ 8) (hb : b < 2 ^ 8) : Go.bits .xor .u8 a b = ((a ^^^ b : Nat) : Int) := (bits_nat3 .u8 8 (by decide) wraps_u8 a b ha hb).2.2
/-- Byte i of s as a natural number. -/
def bn (s : ByteArray) (i : Nat) : Nat := (s.data.toList.getD i 0).toNat
theorem bn_lt (s : ByteArray) (i : Nat) : bn s i < 256 := (s.data.toList.getD i 0).toNat_lt
theorem bt_bn (s : ByteArray) (i : Nat) : bt s (i : Int) = (bn s i : Int) := by
  unfold bt bn
  split
  · rename_i h
    have h' : i < s.data.toList.length := by rw [data_length]; simpa using h
    rw [List.getD_eq_getElem?_getD, List.getElem?_eq_getElem h']; rfl
  · rename_i h
    have h' : s.data.toList.length ≤ i := by rw [data_length]; simpa using h
    rw [List.getD_eq_getElem?_getD, List.getElem?_eq_none h']; rfl
theorem bt_bn' (s : ByteArray) (i : Int) (h : 0 ≤ i) : bt s i = (bn s i.toNat : Int) := by
  obtain ⟨n, rfl⟩ := Int.eq_ofNat_of_zero_le h
  exact bt_bn s n
theorem toList_eq' (s : ByteArray) : s.toList = s.data.toList := ByteArray.toList_eq s
/-- Two strings of one length are one where their bytes are. -/
theorem bytes_ext {s t : ByteArray} (hl : s.size = t.size) (h : ∀ i, i < s.size → bn s i = bn t i) : s.data.toList = t.data.toList := by
  apply List.ext_getElem (by rw [data_length, data_length, hl])
  intro i h1 h2
  have := h i (by rw [← data_length]; exact h1)
  unfold bn at this
  rw [List.getD_eq_getElem?_getD, List.getD_eq_getElem?_getD, List.getElem?_eq_getElem h1, List.getElem?_eq_getElem h2] at this
  exact UInt8.toNat_inj.1 this
theorem strOf_data (xs : List Int) : (strOfNums xs).data.toList = xs.map fun n => UInt8.ofNat n.toNat := by simp [strOfNums]
theorem strOf_toList (xs : List Int) : (strOfNums xs).toList = xs.map fun n => UInt8.ofNat n.toNat := by rw [toList_eq', strOf_data]
theorem strOf_size (xs : List Int) : (strOfNums xs).size = xs.length := by rw [← data_length, strOf_data, List.length_map]
/-- A list of n numbers written cell by cell is the list of what was written. -/
theorem tab_set (f : Nat → Int) (n i : Nat) (rest : List Int) (h : i < n) (hr : rest.length = n - i) :
    (((List.range i).map f) ++ rest).set i (f i) = ((List.range (i + 1)).map f) ++ rest.tail := by
  cases rest with
  | nil => simp at hr; omega
  | cons a rest =>
    rw [List.set_append_right _ _ (by simp)]
    simp [List.range_succ]
theorem xor_zero_iff {a b : Nat} : a ^^^ b = 0 ↔ a = b := by
  constructor
  · intro h
    have := congrArg (· ^^^ b) h
    simpa [Nat.xor_assoc] using this
  · rintro rfl; exact Nat.xor_self a
theorem rounds_of {P : Nat → Prop} (n : Nat) (h : ∀ k, n ≤ k → P k) : ∃ k, P k := ⟨n, h n (Nat.le_refl n)⟩
/-- As Option.bind_some, but not by reduction: the kernel is not led into what follows. -/
theorem ob {α β : Type} (a : α) (f : α → Option β) : (some a).bind f = f a := by
  cases h : f a with
  | none => rw [Option.bind_some, h]
  | some b => rw [Option.bind_some, h]

/-- Is the text among these? -/
def hasB (l : List ByteArray) (s : ByteArray) (d i : Nat) : Bool :=
  match d with
  | 0 => false
  | d + 1 => decide ((rdOf ByteArray.empty l (i : Int)).toList = s.toList) || hasB l s d (i + 1)
theorem specHas_loop (l : List ByteArray) (s : ByteArray) (hl : l.length ≤ 9000000) (d : Nat) : ∀ (k i : Nat), i + d = l.length → d < k → spec_l09Has.l0 k l s (i : Int) = some (hasB l s d i) := by
  induction d with
  | zero =>
    intro k i hi hk
    obtain ⟨k, rfl⟩ : ∃ z, k = z + 1 := ⟨k - 1, by omega⟩
    unfold spec_l09Has.l0 hasB
    rw [if_neg (by omega)]
  | succ d ih =>
    intro k i hi hk
    obtain ⟨k, rfl⟩ : ∃ z, k = z + 1 := ⟨k - 1, by omega⟩
    unfold spec_l09Has.l0 hasB
    rw [if_pos (by omega), if_pos (by omega)]
    by_cases e : (rdOf ByteArray.empty l (i : Int)).toList = s.toList
    · rw [if_pos e, decide_eq_true e]; rfl
    · rw [if_neg e, w64 (n := (i : Int) + 1) (by omega) (by omega), show (i : Int) + 1 = ((i + 1 : Nat) : Int) by omega, ih k (i + 1) (by omega) (by omega), decide_eq_false e]; rfl
theorem implIdx_loop (l : List ByteArray) (s : ByteArray) (hl : l.length ≤ 9000000) (d : Nat) : ∀ (k i : Nat), i + d = l.length → d < k →
    ∃ x, slices_Index_string_string.l0 k l s (l.length : Int) (i : Int) = some x ∧ decide (x ≥ 0) = hasB l s d i := by
  induction d with
  | zero =>
    intro k i hi hk
    obtain ⟨k, rfl⟩ : ∃ z, k = z + 1 := ⟨k - 1, by omega⟩
    unfold slices_Index_string_string.l0 hasB
    rw [if_neg (by omega)]
    exact ⟨_, rfl, by decide⟩
  | succ d ih =>
    intro k i hi hk
    obtain ⟨k, rfl⟩ : ∃ z, k = z + 1 := ⟨k - 1, by omega⟩
    unfold slices_Index_string_string.l0 hasB
    rw [if_pos (by omega), if_pos (by omega), if_pos (by omega)]
    by_cases e : s.toList = (rdOf ByteArray.empty l (i : Int)).toList
    · rw [if_pos e, decide_eq_true e.symm]
      exact ⟨_, rfl, by simp⟩
    · rw [if_neg e, w64 (n := (i : Int) + 1) (by omega) (by omega), show (i : Int) + 1 = ((i + 1 : Nat) : Int) by omega, decide_eq_false (fun h => e h.symm), Bool.false_or]
      exact ih k (i + 1) (by omega) (by omega)
theorem specHas (l : List ByteArray) (s : ByteArray) (hl : l.length ≤ 9000000) (k : Nat) (hk : l.length < k) : spec_l09Has.f k l s = some (hasB l s l.length 0) := by
  have := specHas_loop l s hl l.length k 0 (by omega) hk
  rw [Int.natCast_zero] at this
  exact this
theorem implHas (l : List ByteArray) (s : ByteArray) (hl : l.length ≤ 9000000) (k : Nat) (hk : l.length < k) : slices_Contains_string_string.f k l s = some (hasB l s l.length 0) := by
  obtain ⟨x, e, h⟩ := implIdx_loop l s hl l.length k 0 (by omega) hk
  rw [Int.natCast_zero] at e
  unfold slices_Contains_string_string.f slices_Index_string_string.f
  rw [e, ob, h]
/-- The nonces behind i, each once. -/
def noncesL (l : List S38) : Nat → Nat → List ByteArray → List ByteArray
  | 0, _, out => out
  | d + 1, i, out => noncesL l d (i + 1) (if hasB out (rd_T38 l (i : Int)).f1 out.length 0 then out else out ++ [(rd_T38 l (i : Int)).f1])
theorem noncesL_len (l : List S38) (d : Nat) : ∀ (i : Nat) (out : List ByteArray), (noncesL l d i out).length ≤ out.length + d := by
  induction d with
  | zero => intro i out; exact Nat.le_refl _
  | succ d ih =>
    intro i out
    have := ih (i + 1) (if hasB out (rd_T38 l (i : Int)).f1 out.length 0 then out else out ++ [(rd_T38 l (i : Int)).f1])
    simp only [noncesL]
    split at this
    · rename_i h; rw [if_pos h]; omega
    · rename_i h; rw [if_neg h]; simp only [List.length_append, List.length_singleton] at this; omega
theorem nonces_loop (l : List S38) (hl : l.length ≤ 2000000) (d : Nat) : ∀ (k i : Nat) (out : List ByteArray), i + d = l.length → out.length ≤ i → l.length + d + 1 < k →
    spec_NoncesOf.l0 k l out (i : Int) = some (noncesL l d i out) ∧ impl_NoncesOf.l0 k out l (l.length : Int) (i : Int) = some (noncesL l d i out) := by
  induction d with
  | zero =>
    intro k i out hi ho hk
    obtain ⟨k, rfl⟩ : ∃ z, k = z + 1 := ⟨k - 1, by omega⟩
    constructor
    · unfold spec_NoncesOf.l0
      rw [if_neg (by omega)]; rfl
    · unfold impl_NoncesOf.l0
      rw [if_neg (by omega)]; rfl
  | succ d ih =>
    intro k i out hi ho hk
    obtain ⟨k, rfl⟩ : ∃ z, k = z + 1 := ⟨k - 1, by omega⟩
    have e1 : wrap64 ((i : Int) + 1) = ((i + 1 : Nat) : Int) := by rw [w64 (by omega) (by omega)]; omega
    obtain ⟨a1, a2⟩ := ih k (i + 1) (if hasB out (rd_T38 l (i : Int)).f1 out.length 0 then out else out ++ [(rd_T38 l (i : Int)).f1]) (by omega) (by
      split
      · omega
      · simp only [List.length_append, List.length_singleton]; omega) (by omega)
    constructor
    · unfold spec_NoncesOf.l0
      rw [if_pos (by omega), if_pos (by omega), specHas out _ (by omega) k (by omega), ob, e1]
      cases hb : hasB out (rd_T38 l (i : Int)).f1 out.length 0
      · rw [hb] at a1
        simp only [Bool.false_eq_true, if_false] at a1 ⊢
        rw [if_pos (by omega), a1]
        simp only [noncesL, hb, Bool.false_eq_true, if_false]
      · rw [hb] at a1
        simp only [if_true] at a1 ⊢
        rw [a1]
        simp only [noncesL, hb, if_true]
    · unfold impl_NoncesOf.l0
      rw [if_pos (by omega), if_pos (by omega), if_pos (by omega), implHas out _ (by omega) k (by omega), ob, e1]
      cases hb : hasB out (rd_T38 l (i : Int)).f1 out.length 0
      · rw [hb] at a2
        simp only [Bool.false_eq_true, if_false] at a2 ⊢
        rw [if_pos (by omega), a2]
        simp only [noncesL, hb, Bool.false_eq_true, if_false]
      · rw [hb] at a2
        simp only [if_true] at a2 ⊢
        rw [a2]
        simp only [noncesL, hb, if_true]
theorem nonces_both (l : List S38) (hl : l.length ≤ 2000000) (k : Nat) (hk : 2 * l.length + 1 < k) :
    spec_NoncesOf.f k l = some (noncesL l l.length 0 []) ∧ impl_NoncesOf.f k l = some (noncesL l l.length 0 []) := by
  obtain ⟨a, b⟩ := nonces_loop l hl l.length k 0 [] (by omega) (by simp) (by omega)
  rw [Int.natCast_zero] at a b
  exact ⟨a, b⟩

def anyFrom (l : List S38) (i : Nat) : Nat → Nat → Bool
  | 0, _ => false
  | d + 1, j => conf l i j || anyFrom l i d (j + 1)
def anyRows (l : List S38) : Nat → Nat → Bool
  | 0, _ => false
  | d + 1, i => anyFrom l i i 0 || anyRows l d (i + 1)
theorem anyFrom_iff (l : List S38) (i : Nat) : ∀ (d j : Nat), anyFrom l i d j = true ↔ ∃ q, j ≤ q ∧ q < j + d ∧ conf l i q = true
  | 0, j => by
    unfold anyFrom
    constructor
    · intro h; cases h
    · rintro ⟨q, h1, h2, _⟩; omega
  | d + 1, j => by
    unfold anyFrom
    rw [Bool.or_eq_true, anyFrom_iff l i d (j + 1)]
    constructor
    · rintro (h | ⟨q, h1, h2, h3⟩)
      · exact ⟨j, by omega, by omega, h⟩
      · exact ⟨q, by omega, by omega, h3⟩
    · rintro ⟨q, h1, h2, h3⟩
      by_cases e : q = j
      · subst e; exact .inl h3
      · exact .inr ⟨q, by omega, by omega, h3⟩
theorem anyRows_iff (l : List S38) : ∀ (d i : Nat), anyRows l d i = true ↔ ∃ q, i ≤ q ∧ q < i + d ∧ twiceAt l q = true
  | 0, i => by
    unfold anyRows
    constructor
    · intro h; cases h
    · rintro ⟨q, h1, h2, _⟩; omega
  | d + 1, i => by
    have ht : anyFrom l i i 0 = twiceAt l i := by
      rw [Bool.eq_iff_iff, anyFrom_iff]
      unfold twiceAt
      rw [List.any_eq_true]
      constructor
      · rintro ⟨q, _, h2, h3⟩; exact ⟨q, List.mem_range.2 (by omega), h3⟩
      · rintro ⟨q, h2, h3⟩; exact ⟨q, by omega, by have := List.mem_range.1 h2; omega, h3⟩
    unfold anyRows
    rw [Bool.or_eq_true, ht, anyRows_iff l d (i + 1)]
    constructor
    · rintro (h | ⟨q, h1, h2, h3⟩)
      · exact ⟨i, by omega, by omega, h⟩
      · exact ⟨q, by omega, by omega, h3⟩
    · rintro ⟨q, h1, h2, h3⟩
      by_cases e : q = i
      · subst e; exact .inl h3
      · exact .inr ⟨q, by omega, by omega, h3⟩
theorem twice_rows (l : List S38) : anyRows l l.length 0 = twiceB l := by
  rw [Bool.eq_iff_iff, anyRows_iff]
  unfold twiceB
  rw [List.any_eq_true]
  constructor
  · rintro ⟨q, _, h2, h3⟩; exact ⟨q, List.mem_range.2 (by omega), h3⟩
  · rintro ⟨q, h2, h3⟩; exact ⟨q, by omega, by have := List.mem_range.1 h2; omega, h3⟩
theorem specTwice_inner (l : List S38) (hl : l.length ≤ 2000000) (i : Nat) (hi : i < l.length) (k : Nat) (r : Bool) (hr : spec_SealedTwice.l0 k l ((i + 1 : Nat) : Int) = some r) (d : Nat) : ∀ j, j + d = i →
    spec_SealedTwice.l1 (k + d + 1) l (i : Int) (j : Int) = some (anyFrom l i d j || r) := by
  induction d with
  | zero =>
    intro j hj
    unfold spec_SealedTwice.l1
    rw [if_neg (by omega), w64 (n := (i : Int) + 1) (by omega) (by omega), show (i : Int) + 1 = ((i + 1 : Nat) : Int) by omega]
    rw [hr]
    rfl
  | succ d ih =>
    intro j hj
    have e := ih (j + 1) (by omega)
    rw [show k + (d + 1) + 1 = (k + d + 1) + 1 by omega]
    unfold spec_SealedTwice.l1 anyFrom
    rw [if_pos (by omega), if_pos (by omega), if_pos (by omega), if_pos (by omega), if_pos (by omega), w64 (n := (j : Int) + 1) (by omega) (by omega), show (j : Int) + 1 = ((j + 1 : Nat) : Int) by omega, e]
    unfold conf
    by_cases h0 : (rd_T38 l (i : Int)).f0.toList = (rd_T38 l (j : Int)).f0.toList
    · rw [if_pos h0, decide_eq_true h0]
      by_cases h1 : (rd_T38 l (i : Int)).f1.toList = (rd_T38 l (j : Int)).f1.toList
      · rw [if_pos h1, decide_eq_true h1]
        by_cases h2 : (rd_T38 l (i : Int)).f2.toList = (rd_T38 l (j : Int)).f2.toList
        · rw [if_pos h2, decide_eq_true h2]; simp
        · rw [if_neg h2, decide_eq_false h2]; simp
      · rw [if_neg h1, decide_eq_false h1]; simp
    · rw [if_neg h0, decide_eq_false h0]; simp
theorem specTwice_outer (l : List S38) (hl : l.length ≤ 2000000) (d : Nat) : ∀ i, i + d = l.length → ∃ k, spec_SealedTwice.l0 k l (i : Int) = some (anyRows l d i) := by
  induction d with
  | zero =>
    intro i hi
    refine ⟨1, ?_⟩
    unfold spec_SealedTwice.l0
    rw [if_neg (by omega)]
    rfl
  | succ d ih =>
    intro i hi
    obtain ⟨k, e⟩ := ih (i + 1) (by omega)
    refine ⟨k + i + 2, ?_⟩
    unfold spec_SealedTwice.l0
    rw [if_pos (by omega)]
    have := specTwice_inner l hl i (by omega) k _ e i 0 (by omega)
    rw [Int.natCast_zero] at this
    rw [this]
    rfl
theorem specTwice (l : List S38) (hl : l.length ≤ 2000000) : ∃ K, ∀ k, K ≤ k → spec_SealedTwice.f k l = some (twiceB l) := by
  obtain ⟨K, e⟩ := specTwice_outer l hl l.length 0 (by omega)
  rw [Int.natCast_zero, twice_rows] at e
  refine ⟨K, fun k hk => ?_⟩
  exact at_rounds (g := fun k => spec_SealedTwice.f k l) (fun k => spec_SealedTwice.mono l k) hk e
theorem implTwice (l : List S38) (hl : l.length ≤ 2000000) (hs : ∀ x ∈ l, (x.f0.size ≤ 9223372036854775807 ∧ x.f1.size ≤ 9223372036854775807 ∧ x.f2.size ≤ 9223372036854775807)) : impl_SealedTwice.f l = some (twiceB l) := by
  have hall : l.all smallS = true := by
    rw [List.all_eq_true]
    intro x hx
    obtain ⟨a, b, c⟩ := hs x hx
    unfold smallS
    rw [decide_eq_true a, decide_eq_true b, decide_eq_true c]
    rfl
  unfold impl_SealedTwice.f
  rw [if_pos ⟨hl, hall⟩]

theorem and255 (x : Int) : 0 ≤ Go.bits .and .i64 x 255 ∧ Go.bits .and .i64 x 255 ≤ 255 := by
  have h : (BitVec.ofInt 64 x &&& BitVec.ofInt 64 255).toNat ≤ 255 := by
    rw [BitVec.toNat_and]
    exact Nat.le_trans Nat.and_le_right (by decide)
  have e : Go.bits .and .i64 x 255 = (((BitVec.ofInt 64 x &&& BitVec.ofInt 64 255).toNat : Nat) : Int) := by
    show IntKind.i64.wrap (((BitVec.ofInt 64 x &&& BitVec.ofInt 64 255).toNat : Nat) : Int) = _
    exact wr_i64 _ (Int.natCast_nonneg _) (by omega)
  omega
/-- A reader's state: its place lies in the draw. -/
def Cur (s : List Int) (i : Int) : Prop := 0 ≤ i ∧ i ≤ s.length ∧ s.length ≤ 9223372036854775806
theorem new_loop (s : List Int) (hs : s.length ≤ 9223372036854775806) (d : Nat) : ∀ (k i : Nat) (h : Int), i + d = s.length → d < k → ∃ h', spec_l01New.l0 k s h (i : Int) = some (s, 0, h') := by
  induction d with
  | zero =>
    intro k i h hi hk
    obtain ⟨k, rfl⟩ : ∃ q, k = q + 1 := ⟨k - 1, by omega⟩
    exact ⟨h, by simp only [spec_l01New.l0]; rw [if_neg (by omega)]⟩
  | succ d ih =>
    intro k i h hi hk
    obtain ⟨k, rfl⟩ : ∃ q, k = q + 1 := ⟨k - 1, by omega⟩
    by_cases h4 : (i : Int) < 4000
    · obtain ⟨h', e⟩ := ih k (i + 1) (Go.bits .and .i64 (wrap64 ((wrap64 ((wrap64 (h * 131)) + (wrap64 (rd s i)))) + 7)) 1073741823) (by omega) (by omega)
      refine ⟨h', ?_⟩
      simp only [spec_l01New.l0]
      rw [if_pos (by omega), if_pos h4, if_pos (by omega), w64 (n := (i : Int) + 1) (by omega) (by omega), show (i : Int) + 1 = ((i + 1 : Nat) : Int) by omega]
      exact e
    · exact ⟨h, by simp only [spec_l01New.l0]; rw [if_pos (by omega), if_neg h4]⟩
theorem new_some (s : List Int) (hs : s.length ≤ 9223372036854775806) (k : Nat) (hk : s.length < k) : ∃ h', spec_l01New.f k s = some (s, 0, h') := by
  obtain ⟨h', e⟩ := new_loop s hs s.length k 0 (wrap64 (94701 + (s.length : Int))) (by omega) hk
  exact ⟨h', by unfold spec_l01New.f; exact e⟩
theorem cur_new {s : List Int} (hs : s.length ≤ 9223372036854775806) : Cur s 0 := ⟨by omega, by omega, hs⟩
theorem byte_some {s : List Int} {i : Int} (h : Int) (hc : Cur s i) : ∃ r, spec_l01Byte.f s i h = some r ∧ 0 ≤ r.1 ∧ r.1 ≤ 255 ∧ Cur s r.2.1 := by
  obtain ⟨h0, h1, h2⟩ := hc
  unfold spec_l01Byte.f
  by_cases hl : i < (s.length : Int)
  · rw [if_pos hl, if_pos h0]
    refine ⟨_, rfl, (and255 _).1, (and255 _).2, ?_⟩
    show Cur s (wrap64 (i + 1))
    rw [w64 (by omega) (by omega)]
    exact ⟨by omega, by omega, h2⟩
  · rw [if_neg hl]
    exact ⟨_, rfl, (and255 _).1, (and255 _).2, h0, h1, h2⟩
theorem below_some {s : List Int} {i : Int} (h n : Int) (hn : 1 ≤ n) (hc : Cur s i) : ∃ r, spec_l01Below.f s i h n = some r ∧ 0 ≤ r.1 ∧ r.1 < n ∧ Cur s r.2.1 := by
  unfold spec_l01Below.f
  rw [if_neg (by omega)]
  by_cases h256 : n ≤ 256
  · rw [if_pos h256]
    obtain ⟨r, e, r0, r1, c⟩ := byte_some h hc
    rw [e]; simp only [Option.bind_some]; rw [if_neg (by omega)]
    have hm : Int.tmod r.1 n = r.1 % n := Int.tmod_eq_emod_of_nonneg r0
    refine ⟨_, rfl, ?_, ?_, c⟩
    · show 0 ≤ Int.tmod r.1 n
      rw [hm]; exact Int.emod_nonneg _ (by omega)
    · show Int.tmod r.1 n < n
      rw [hm]; exact Int.emod_lt_of_pos _ (by omega)
  · rw [if_neg h256]
    obtain ⟨a, ea, a0, a1, ca⟩ := byte_some h hc
    obtain ⟨b, eb, b0, b1, cb⟩ := byte_some a.2.2 ca
    obtain ⟨c, ec, c0, c1, cc⟩ := byte_some b.2.2 cb
    obtain ⟨d, ed, d0, d1, cd⟩ := byte_some c.2.2 cc
    rw [ea]; simp only [Option.bind_some]; rw [eb]; simp only [Option.bind_some]; rw [ec]; simp only [Option.bind_some]; rw [ed]; simp only [Option.bind_some]; rw [if_neg (by omega)]
    have e : wrap64 ((wrap64 ((wrap64 ((wrap64 (a.1 * 16777216)) + (wrap64 (b.1 * 65536)))) + (wrap64 (c.1 * 256)))) + d.1) = a.1 * 16777216 + b.1 * 65536 + c.1 * 256 + d.1 := by
      rw [w64 (n := a.1 * 16777216) (by omega) (by omega), w64 (n := b.1 * 65536) (by omega) (by omega), w64 (n := c.1 * 256) (by omega) (by omega), w64 (n := a.1 * 16777216 + b.1 * 65536) (by omega) (by omega), w64 (n := a.1 * 16777216 + b.1 * 65536 + c.1 * 256) (by omega) (by omega), w64 (by omega) (by omega)]
    rw [e]
    have hm : Int.tmod (a.1 * 16777216 + b.1 * 65536 + c.1 * 256 + d.1) n = (a.1 * 16777216 + b.1 * 65536 + c.1 * 256 + d.1) % n := Int.tmod_eq_emod_of_nonneg (by omega)
    refine ⟨_, rfl, ?_, ?_, cd⟩
    · show 0 ≤ Int.tmod _ n
      rw [hm]; exact Int.emod_nonneg _ (by omega)
    · show Int.tmod _ n < n
      rw [hm]; exact Int.emod_lt_of_pos _ (by omega)

theorem pickS_some {s : List Int} {c : Int} (h : Int) (l : List ByteArray) (hl : 1 ≤ l.length) (hc : Cur s c) : ∃ r, spec_l01Pick.f s c h l = some r ∧ r.1 ∈ l ∧ Cur s r.2.1 := by
  obtain ⟨b, e, b0, b1, hb⟩ := below_some (s := s) (i := c) h (l.length : Int) (by omega) hc
  refine ⟨(rdOf ByteArray.empty l b.1, b.2.1, b.2.2), ?_, ?_, hb⟩
  · unfold spec_l01Pick.f
    rw [e]
    simp only [ob]
    rw [if_pos b0, if_pos b1]
  · show rdOf ByteArray.empty l b.1 ∈ l
    unfold rdOf
    have hlt : b.1.toNat < l.length := by omega
    rw [List.getD_eq_getElem?_getD, List.getElem?_eq_getElem hlt]
    exact List.getElem_mem hlt
/-- A drawn sealing: small texts, no nonce "z". -/
def Drawn3 (x : S38) : Prop := x.f0.size ≤ 1 ∧ x.f1.size ≤ 1 ∧ x.f2.size ≤ 1 ∧ x.f1.toList ≠ (⟨#[122]⟩ : ByteArray).toList
theorem list_loop (s : List Int) (d : Nat) : ∀ (k i : Nat) (out : List S38) (c h : Int), i + d = 6 → d < k → out.length ≤ i → (∀ x ∈ out, Drawn3 x) → Cur s c → ∃ l, spec_l09List.l0 k out (i : Int) s c h = some l ∧ l.length ≤ 6 ∧ ∀ x ∈ l, Drawn3 x := by
  induction d with
  | zero =>
    intro k i out c h hi hk ho hx hc
    obtain ⟨k, rfl⟩ : ∃ q, k = q + 1 := ⟨k - 1, by omega⟩
    obtain ⟨b, e, b0, b1, hb⟩ := below_some (s := s) (i := c) h 6 (by omega) hc
    unfold spec_l09List.l0
    rw [e]; simp only [ob]
    rw [if_neg (by omega)]
    exact ⟨out, rfl, by omega, hx⟩
  | succ d ih =>
    intro k i out c h hi hk ho hx hc
    obtain ⟨k, rfl⟩ : ∃ q, k = q + 1 := ⟨k - 1, by omega⟩
    obtain ⟨b, e, b0, b1, hb⟩ := below_some (s := s) (i := c) h 6 (by omega) hc
    unfold spec_l09List.l0
    rw [e]; simp only [ob]
    by_cases hlt : (i : Int) < b.1
    · rw [if_pos hlt]
      obtain ⟨p, ep, hp, cp⟩ := pickS_some b.2.2 [(⟨#[97]⟩ : ByteArray), (⟨#[98]⟩ : ByteArray)] (by simp) hb
      obtain ⟨q, eq, hq, cq⟩ := pickS_some p.2.2 [(⟨#[49]⟩ : ByteArray), (⟨#[50]⟩ : ByteArray), (⟨#[51]⟩ : ByteArray)] (by simp) cp
      obtain ⟨r, er, hr, cr⟩ := pickS_some q.2.2 [(⟨#[120]⟩ : ByteArray), (⟨#[121]⟩ : ByteArray)] (by simp) cq
      rw [ep]; simp only [ob]
      rw [eq]; simp only [ob]
      rw [er]; simp only [ob]
      rw [if_pos (by omega), w64 (n := (i : Int) + 1) (by omega) (by omega), show (i : Int) + 1 = ((i + 1 : Nat) : Int) by omega]
      refine ih k (i + 1) _ _ _ (by omega) (by omega) (by simp only [List.length_append, List.length_singleton]; omega) ?_ cr
      intro x hx'
      rcases List.mem_append.1 hx' with hx' | hx'
      · exact hx x hx'
      · obtain rfl := List.mem_singleton.1 hx'
        have h1 : p.1.size ≤ 1 := by
          simp only [List.mem_cons, List.not_mem_nil, or_false] at hp
          rcases hp with hp | hp <;> rw [hp] <;> decide
        have h2 : q.1.size ≤ 1 ∧ q.1.toList ≠ (⟨#[122]⟩ : ByteArray).toList := by
          simp only [List.mem_cons, List.not_mem_nil, or_false] at hq
          rcases hq with hq | hq | hq <;> rw [hq, toList_eq', toList_eq'] <;> decide
        have h3 : r.1.size ≤ 1 := by
          simp only [List.mem_cons, List.not_mem_nil, or_false] at hr
          rcases hr with hr | hr <;> rw [hr] <;> decide
        exact ⟨h1, h2.1, h3, h2.2⟩
    · rw [if_neg hlt]
      exact ⟨out, rfl, by omega, hx⟩
theorem list_some (s : List Int) (hs : s.length ≤ 9223372036854775806) (k : Nat) (hk : s.length + 10 < k) : ∃ l, spec_DrawSealedTwice.f k s = some l ∧ l.length ≤ 6 ∧ ∀ x ∈ l, Drawn3 x := by
  obtain ⟨h', e⟩ := new_some s hs k (by omega)
  obtain ⟨l, el, h1, h2⟩ := list_loop s 6 k 0 [] 0 h' (by omega) (by omega) (by simp) (fun x hx => by cases hx) (cur_new hs)
  rw [Int.natCast_zero] at el
  refine ⟨l, ?_, h1, h2⟩
  unfold spec_DrawSealedTwice.f spec_l09List.f
  rw [e]; simp only [ob]
  rw [el, ob]
theorem sameTexts_loop (n : List ByteArray) (hn : n.length ≤ 9000000) (d : Nat) : ∀ (k i : Nat), i + d = n.length → d < k → laws_sameTexts.l0 k n n (i : Int) = some true := by
  induction d with
  | zero =>
    intro k i hi hk
    obtain ⟨k, rfl⟩ : ∃ q, k = q + 1 := ⟨k - 1, by omega⟩
    unfold laws_sameTexts.l0
    rw [if_neg (by omega)]
  | succ d ih =>
    intro k i hi hk
    obtain ⟨k, rfl⟩ : ∃ q, k = q + 1 := ⟨k - 1, by omega⟩
    unfold laws_sameTexts.l0
    rw [if_pos (by omega), if_pos (by omega), if_pos (by omega), if_pos rfl, w64 (n := (i : Int) + 1) (by omega) (by omega), show (i : Int) + 1 = ((i + 1 : Nat) : Int) by omega]
    exact ih k (i + 1) (by omega) (by omega)
theorem sameTexts_self (n : List ByteArray) (hn : n.length ≤ 9000000) (k : Nat) (hk : n.length < k) : laws_sameTexts.f k n n = some true := by
  unfold laws_sameTexts.f
  rw [if_pos rfl]
  have := sameTexts_loop n hn n.length k 0 (by omega) hk
  rw [Int.natCast_zero] at this
  exact this
theorem noncesL_add (l : List S38) (e : Nat) (d : Nat) : ∀ (i : Nat) (out : List ByteArray), noncesL l (d + e) i out = noncesL l e (i + d) (noncesL l d i out) := by
  induction d with
  | zero => intro i out; rw [Nat.zero_add]; rfl
  | succ d ih =>
    intro i out
    rw [show d + 1 + e = (d + e) + 1 by omega]
    show noncesL l (d + e) (i + 1) _ = noncesL l e (i + (d + 1)) (noncesL l d (i + 1) _)
    rw [ih (i + 1), show i + 1 + d = i + (d + 1) by omega]
theorem rd38_app (l m : List S38) (i : Nat) (hi : i < l.length) : rd_T38 (l ++ m) (i : Int) = rd_T38 l (i : Int) := by
  unfold rd_T38
  rw [Int.toNat_natCast, List.getD_eq_getElem?_getD, List.getD_eq_getElem?_getD, List.getElem?_append_left hi]
theorem rd38_app2 (l m : List S38) (j : Nat) : rd_T38 (l ++ m) ((l.length + j : Nat) : Int) = rd_T38 m (j : Int) := by
  unfold rd_T38
  rw [Int.toNat_natCast, Int.toNat_natCast, List.getD_eq_getElem?_getD, List.getD_eq_getElem?_getD, List.getElem?_append_right (by omega), Nat.add_sub_cancel_left]
theorem noncesL_app (l m : List S38) (d : Nat) : ∀ (i : Nat) (out : List ByteArray), i + d ≤ l.length → noncesL (l ++ m) d i out = noncesL l d i out := by
  induction d with
  | zero => intro i out _; rfl
  | succ d ih =>
    intro i out h
    unfold noncesL
    rw [rd38_app l m i (by omega), ih (i + 1) _ (by omega)]
theorem hasB_iff (n : List ByteArray) (s : ByteArray) (d : Nat) : ∀ i, i + d = n.length → (hasB n s d i = true ↔ ∃ y ∈ n.drop i, y.toList = s.toList) := by
  induction d with
  | zero =>
    intro i hi
    unfold hasB
    rw [List.drop_eq_nil_of_le (by omega)]
    constructor
    · intro h; cases h
    · rintro ⟨y, hy, _⟩; cases hy
  | succ d ih =>
    intro i hi
    have hlt : i < n.length := by omega
    unfold hasB
    rw [Bool.or_eq_true, ih (i + 1) (by omega), List.drop_eq_getElem_cons hlt]
    have e : rdOf ByteArray.empty n (i : Int) = n[i] := by
      unfold rdOf
      rw [Int.toNat_natCast, List.getD_eq_getElem?_getD, List.getElem?_eq_getElem hlt]; rfl
    rw [e, decide_eq_true_eq]
    constructor
    · rintro (h | ⟨y, hy, h⟩)
      · exact ⟨_, List.mem_cons_self, h⟩
      · exact ⟨y, List.mem_cons_of_mem _ hy, h⟩
    · rintro ⟨y, hy, h⟩
      rcases List.mem_cons.1 hy with rfl | hy
      · exact .inl h
      · exact .inr ⟨y, hy, h⟩
theorem noncesL_mem (l : List S38) (d : Nat) : ∀ (i : Nat) (out : List ByteArray), i + d ≤ l.length → ∀ y ∈ noncesL l d i out, y ∈ out ∨ ∃ x ∈ l, y = x.f1 := by
  induction d with
  | zero => intro i out _ y hy; exact .inl hy
  | succ d ih =>
    intro i out h y hy
    unfold noncesL at hy
    rcases ih (i + 1) _ (by omega) y hy with hy | hy
    · split at hy
      · exact .inl hy
      · rcases List.mem_append.1 hy with hy | hy
        · exact .inl hy
        · refine .inr ⟨rd_T38 l (i : Int), ?_, List.mem_singleton.1 hy⟩
          unfold rd_T38
          rw [Int.toNat_natCast, List.getD_eq_getElem?_getD, List.getElem?_eq_getElem (by omega)]
          exact List.getElem_mem _
    · exact .inr hy
theorem nonces_two (l : List S38) (z x y : ByteArray) (h : ∀ q ∈ l, q.f1.toList ≠ z.toList) (kk : ByteArray) :
    (noncesL (l ++ [(⟨kk, z, x⟩ : S38), (⟨kk, z, y⟩ : S38)]) (l ++ [(⟨kk, z, x⟩ : S38), (⟨kk, z, y⟩ : S38)]).length 0 []).length = (noncesL l l.length 0 []).length + 1 := by
  have hl : (l ++ [(⟨kk, z, x⟩ : S38), (⟨kk, z, y⟩ : S38)]).length = l.length + 2 := by simp
  rw [hl, noncesL_add, noncesL_app l _ l.length 0 [] (by omega), Nat.zero_add]
  have hm := noncesL_mem l l.length 0 [] (by omega)
  generalize noncesL l l.length 0 [] = N at hm ⊢
  have h0 : hasB N z N.length 0 = false := by
    rw [Bool.eq_false_iff]
    intro hh
    obtain ⟨q, hq, e⟩ := (hasB_iff N z N.length 0 (by omega)).1 hh
    rw [List.drop_zero] at hq
    rcases hm q hq with hq | ⟨p, hp, rfl⟩
    · cases hq
    · exact h p hp e
  have r0 : rd_T38 (l ++ [(⟨kk, z, x⟩ : S38), (⟨kk, z, y⟩ : S38)]) (l.length : Int) = ⟨kk, z, x⟩ := rd38_app2 l [(⟨kk, z, x⟩ : S38), (⟨kk, z, y⟩ : S38)] 0
  have r1 : rd_T38 (l ++ [(⟨kk, z, x⟩ : S38), (⟨kk, z, y⟩ : S38)]) ((l.length + 1 : Nat) : Int) = ⟨kk, z, y⟩ := rd38_app2 l [(⟨kk, z, x⟩ : S38), (⟨kk, z, y⟩ : S38)] 1
  have h1 : hasB (N ++ [z]) z (N ++ [z]).length 0 = true := (hasB_iff (N ++ [z]) z (N ++ [z]).length 0 (by omega)).2 ⟨z, by rw [List.drop_zero]; exact List.mem_append_right _ List.mem_cons_self, rfl⟩
  have h2 : (N ++ [z]).length = N.length + 1 := by simp
  simp only [noncesL, r0, r1, h0, h1, if_true, Bool.false_eq_true, if_false]
  exact h2
theorem twice_two (l : List S38) (kk z x y : ByteArray) (h : x.toList ≠ y.toList) : twiceB (l ++ [(⟨kk, z, x⟩ : S38), (⟨kk, z, y⟩ : S38)]) = true := by
  have r0 : rd_T38 (l ++ [(⟨kk, z, x⟩ : S38), (⟨kk, z, y⟩ : S38)]) (l.length : Int) = ⟨kk, z, x⟩ := rd38_app2 l [(⟨kk, z, x⟩ : S38), (⟨kk, z, y⟩ : S38)] 0
  have r1 : rd_T38 (l ++ [(⟨kk, z, x⟩ : S38), (⟨kk, z, y⟩ : S38)]) ((l.length + 1 : Nat) : Int) = ⟨kk, z, y⟩ := rd38_app2 l [(⟨kk, z, x⟩ : S38), (⟨kk, z, y⟩ : S38)] 1
  refine twiceB_of (i := l.length + 1) (by simp) ?_
  unfold twiceAt
  rw [List.any_eq_true]
  refine ⟨l.length, List.mem_range.2 (by omega), ?_⟩
  unfold conf
  rw [r0, r1]
  rw [decide_eq_true rfl, decide_eq_true rfl, decide_eq_false (fun e => h e.symm)]
  rfl
theorem FnTwice : laws_FnTwice.Pure := by
  intro s hs0 hs1 hw
  by_cases hbig : s.length ≤ 1048576
  · have hs : s.length ≤ 9223372036854775806 := by omega
    obtain ⟨l, el, hl, hx⟩ := list_some s hs (s.length + 100) (by omega)
    have hsz : ∀ x ∈ l, (x.f0.size ≤ 9223372036854775807 ∧ x.f1.size ≤ 9223372036854775807 ∧ x.f2.size ≤ 9223372036854775807) := fun x hxl => by
      obtain ⟨a, b, c, _⟩ := hx x hxl
      exact ⟨by omega, by omega, by omega⟩
    have hsz2 : ∀ x ∈ l ++ [(⟨(⟨#[107]⟩ : ByteArray), (⟨#[122]⟩ : ByteArray), (⟨#[120]⟩ : ByteArray)⟩ : S38), (⟨(⟨#[107]⟩ : ByteArray), (⟨#[122]⟩ : ByteArray), (⟨#[121]⟩ : ByteArray)⟩ : S38)], (x.f0.size ≤ 9223372036854775807 ∧ x.f1.size ≤ 9223372036854775807 ∧ x.f2.size ≤ 9223372036854775807) := fun x hxl => by
      rcases List.mem_append.1 hxl with hxl | hxl
      · exact hsz x hxl
      · simp only [List.mem_cons, List.not_mem_nil, or_false] at hxl
        rcases hxl with rfl | rfl <;> exact ⟨by decide, by decide, by decide⟩
    obtain ⟨K, hK⟩ := specTwice l (by omega)
    have hi := implTwice l (by omega) hsz
    have hi2 := implTwice _ (by simp; omega) hsz2
    rw [twice_two l _ _ _ _ (by rw [toList_eq', toList_eq']; decide)] at hi2
    have hlen := nonces_two l (⟨#[122]⟩ : ByteArray) (⟨#[120]⟩ : ByteArray) (⟨#[121]⟩ : ByteArray) (fun q hq => (hx q hq).2.2.2) (⟨#[107]⟩ : ByteArray)
    have hN := noncesL_len l l.length 0 []
    rw [List.length_nil, Nat.zero_add] at hN
    refine rounds_of (s.length + 200 + K) fun k hk => ?_
    have ed : spec_DrawSealedTwice.f k s = some l := by
      obtain ⟨l2, el2, _, _⟩ := list_some s hs k (by omega)
      rw [el2]
      have := at_rounds (g := fun k => spec_DrawSealedTwice.f k s) (fun k => spec_DrawSealedTwice.mono s k) (show s.length + 100 ≤ k by omega) el
      exact el2.symm.trans this
    obtain ⟨es, ei⟩ := nonces_both l (by omega) k (by omega)
    obtain ⟨_, ei2⟩ := nonces_both (l ++ [(⟨(⟨#[107]⟩ : ByteArray), (⟨#[122]⟩ : ByteArray), (⟨#[120]⟩ : ByteArray)⟩ : S38), (⟨(⟨#[107]⟩ : ByteArray), (⟨#[122]⟩ : ByteArray), (⟨#[121]⟩ : ByteArray)⟩ : S38)]) (by simp; omega) k (by simp; omega)
    unfold laws_FnTwice.f laws_big.f
    simp only [ob]
    rw [decide_eq_false (by omega)]
    simp only [Bool.false_eq_true, if_false]
    rw [ed]; simp only [ob]
    rw [ei]; simp only [ob]
    rw [if_pos (by simp; omega)]; simp only [ob, List.nil_append]
    rw [if_pos (by simp; omega)]; try simp only [ob]
    rw [hi]; simp only [ob]
    rw [hK k (by omega)]; simp only [ob]
    rw [if_pos (by simp), es]; simp only [ob]
    rw [sameTexts_self _ (by omega) k (by omega)]; simp only [ob, if_true]
    rw [hi2]; simp only [ob, if_true]
    rw [ei2]; simp only [ob]
    rw [hlen, w64 (by omega) (by omega)]
    simp
  · refine rounds_of 1 fun k hk => ?_
    unfold laws_FnTwice.f laws_big.f
    simp only [ob]
    rw [decide_eq_true (by omega)]
    simp
end Go.Proofs.Ytcmemppkllgkmaa.Pure
