/- The law FnExactSealedTwice answers true: spec.SealedTwice and impl.SealedTwice give the same answer, and the list is unchanged; no condition. -/
import Derived.Test.YtcmemppkllgkmaaMFnExactSealedTwicex2
namespace Go.Proofs.Ytcmemppkllgkmaa.Pure
open Go.RowKit Go.Proofs.Ytcmemppkllgkmaa.PFnExactSealedTwice Go.Proofs.YtcmemppkllgkmaaW.PrintWords Go.Proofs.YtcmemppkllgkmaaW.PrintLast Go.Proofs.YtcmemppkllgkmaaW.PrintMore
set_option linter.unusedVariables false
set_option linter.unusedSimpArgs false

theorem w64 {n : Int} (h0 : -9223372036854775808 ≤ n) (h1 : n ≤ 9223372036854775807) : wrap64 n = n := by
  unfold wrap64; omega
theorem bits_nat3 (k : IntKind) (j : Nat) (hj : j ≤ k.bits) (hk : ∀ n : Int, 0 ≤ n → n < 2 ^ j → k.wrap n = n) (a b : Nat) (ha : a < 2 ^ j) (hb : b < 2 ^ j) :
    Go.bits .and k a b = ((a &&& b : Nat) : Int) ∧ Go.bits .or k a b = ((a ||| b : Nat) : Int) ∧ Go.bits .xor k a b = ((a ^^^ b : Nat) : Int) := by
  have hp : 2 ^ j ≤ 2 ^ k.bits := Nat.pow_le_pow_right (by decide) hj
  have ha' : a % 2 ^ k.bits = a := Nat.mod_eq_of_lt (Nat.lt_of_lt_of_le ha hp)
  have hb' : b % 2 ^ k.bits = b := Nat.mod_eq_of_lt (Nat.lt_of_lt_of_le hb hp)
  have cast : ∀ n : Nat, n < 2 ^ j → ((n : Nat) : Int) < 2 ^ j := fun n h => by exact_mod_cast h
  refine ⟨?_, ?_, ?_⟩
  · simp only [Go.bits, BitVec.ofInt_natCast, BitVec.toNat_and, BitVec.toNat_ofNat, ha', hb']
    exact hk _ (Int.natCast_nonneg _) (cast _ (Nat.and_lt_two_pow _ hb))
  · simp only [Go.bits, BitVec.ofInt_natCast, BitVec.toNat_or, BitVec.toNat_ofNat, ha', hb']
    exact hk _ (Int.natCast_nonneg _) (cast _ (Nat.or_lt_two_pow ha hb))
  · simp only [Go.bits, BitVec.ofInt_natCast, BitVec.toNat_xor, BitVec.toNat_ofNat, ha', hb']
    exact hk _ (Int.natCast_nonneg _) (cast _ (Nat.xor_lt_two_pow ha hb))
theorem wr_i64 (n : Int) (h0 : 0 ≤ n) (h1 : n < 2 ^ 62) : IntKind.i64.wrap n = n := by rw [IntKind.wrap_i64]; omega
theorem wr_u64 (n : Int) (h0 : 0 ≤ n) (h1 : n < 2 ^ 64) : IntKind.u64.wrap n = n := by
  simp [IntKind.wrap, IntKind.bits, IntKind.signed]; omega
theorem or_i64 (a b : Nat) (ha : a < 2 ^ 62) (hb : b < 2 ^ 62) : Go.bits .or .i64 a b = ((a ||| b : Nat) : Int) := (bits_nat3 .i64 62 (by decide) wr_i64 a b ha hb).2.1
theorem xor_i64 (a b : Nat) (ha : a < 2 ^ 62) (hb : b < 2 ^ 62) : Go.bits .xor .i64 a b = ((a ^^^ b : Nat) : Int) := (bits_nat3 .i64 62 (by decide) wr_i64 a b ha hb).2.2
theorem and_i64 (a b : Nat) (ha : a < 2 ^ 62) (hb : b < 2 ^ 62) : Go.bits .and .i64 a b = ((a &&& b : Nat) : Int) := (bits_nat3 .i64 62 (by decide) wr_i64 a b ha hb).1
theorem xor_u8 (a b : Nat) (ha : a < 2 ^ 8) (hb : b < 2 ^ 8) : Go.bits .xor .u8 a b = ((a ^^^ b : Nat) : Int) := (bits_nat3 .u8 8 (by decide) wraps_u8 a b ha hb).2.2
/-- Byte i of s as a natural number. -/
def bn (s : ByteArray) (i : Nat) : Nat := (s.data.toList.getD i 0).toNat
theorem bn_lt (s : ByteArray) (i : Nat) : bn s i < 256 := (s.data.toList.getD i 0).toNat_lt
theorem bt_bn (s : ByteArray) (i : Nat) : bt s (i : Int) = (bn s i : Int) := by
  unfold bt bn
  split
  · rename_i h
    have h' : i < s.data.toList.length := by rw [data_length]; simpa using h
    rw [List.getD_eq_getElem?_getD, List.getElem?_eq_getElem h']; rfl
  · rename_i h
    have h' : s.data.toList.length ≤ i := by rw [data_length]; simpa using h
    rw [List.getD_eq_getElem?_getD, List.getElem?_eq_none h']; rfl
theorem bt_bn' (s : ByteArray) (i : Int) (h : 0 ≤ i) : bt s i = (bn s i.toNat : Int) := by
  obtain ⟨n, rfl⟩ := Int.eq_ofNat_of_zero_le h
  exact bt_bn s n
theorem toList_eq' (s : ByteArray) : s.toList = s.data.toList := ByteArray.toList_eq s
/-- Two strings of one length are one where their bytes are. -/
theorem bytes_ext {s t : ByteArray} (hl : s.size = t.size) (h : ∀ i, i < s.size → bn s i = bn t i) : s.data.toList = t.data.toList := by
  apply List.ext_getElem (by rw [data_length, data_length, hl])
  intro i h1 h2
  have := h i (by rw [← data_length]; exact h1)
  unfold bn at this
  rw [List.getD_eq_getElem?_getD, List.getD_eq_getElem?_getD, List.getElem?_eq_getElem h1, List.getElem?_eq_getElem h2] at this
  exact UInt8.toNat_inj.1 this
theorem strOf_data (xs : List Int) : (strOfNums xs).data.toList = xs.map fun n => UInt8.ofNat n.toNat := by simp [strOfNums]
theorem strOf_toList (xs : List Int) : (strOfNums xs).toList = xs.map fun n => UInt8.ofNat n.toNat := by rw [toList_eq', strOf_data]
theorem strOf_size (xs : List Int) : (strOfNums xs).size = xs.length := by rw [← data_length, strOf_data, List.length_map]
/-- A list of n numbers written cell by cell is the list of what was written. -/
theorem tab_set (f : Nat → Int) (n i : Nat) (rest : List Int) (h : i < n) (hr : rest.length = n - i) :
    (((List.range i).map f) ++ rest).set i (f i) = ((List.range (i + 1)).map f) ++ rest.tail := by
  cases rest with
  | nil => simp at hr; omega
  | cons a rest =>
    rw [List.set_append_right _ _ (by simp)]
    simp [List.range_succ]
theorem xor_zero_iff {a b : Nat} : a ^^^ b = 0 ↔ a = b := by
  constructor
  · intro h
    have := congrArg (· ^^^ b) h
    simpa [Nat.xor_assoc] using this
  · rintro rfl; exact Nat.xor_self a
theorem rounds_of {P : Nat → Prop} (n : Nat) (h : ∀ k, n ≤ k → P k) : ∃ k, P k := ⟨n, h n (Nat.le_refl n)⟩
/-- As Option.bind_some, but not by reduction: the kernel is not led into what follows. -/
theorem ob {α β : Type} (a : α) (f : α → Option β) : (some a).bind f = f a := by
  cases h : f a with
  | none => rw [Option.bind_some, h]
  | some b => rw [Option.bind_some, h]

/-- A sealing as the program's own type. -/
def conv (x : S46) : S38 := ⟨x.f0, x.f1, x.f2⟩
theorem tab_setG {α : Type} (f : Nat → α) (n i : Nat) (rest : List α) (h : i < n) (hr : rest.length = n - i) :
    (((List.range i).map f) ++ rest).set i (f i) = ((List.range (i + 1)).map f) ++ rest.tail := by
  cases rest with
  | nil => simp at hr; omega
  | cons a rest =>
    rw [List.set_append_right _ _ (by simp)]
    simp [List.range_succ]
theorem rd46_mem (l : List S46) (i : Nat) (h : i < l.length) : rd_T46 l (i : Int) ∈ l := by
  unfold rd_T46
  rw [List.getD_eq_getElem?_getD, Int.toNat_natCast, List.getElem?_eq_getElem h]
  exact List.getElem_mem h
theorem range_conv (l : List S46) : (List.range l.length).map (fun j : Nat => conv (rd_T46 l (j : Int))) = l.map conv := by
  apply List.ext_getElem (by simp)
  intro i h1 h2
  simp only [List.length_map, List.length_range] at h1
  simp only [List.getElem_map, List.getElem_range]
  unfold rd_T46
  rw [List.getD_eq_getElem?_getD, Int.toNat_natCast, List.getElem?_eq_getElem h1]
  rfl
def Wf (l : List S46) : Prop := ∀ x ∈ l, (x.f0.size ≤ 9223372036854775807 ∧ x.f1.size ≤ 9223372036854775807 ∧ x.f2.size ≤ 9223372036854775807)
theorem szSealing_some (a b c : ByteArray) (x : Int) (h0 : 0 ≤ x) (h1 : x ≤ 1048576) (ha : a.size ≤ 9223372036854775807) (hb : b.size ≤ 9223372036854775807) (hc : c.size ≤ 9223372036854775807) :
    ∃ v, laws_szSealing.f a b c x = some v ∧ (v < 0 ∨ 0 ≤ v ∧ v ≤ x) := by
  unfold laws_szSealing.f
  rw [w64 (n := x - (a.size : Int)) (by omega) (by omega)]
  by_cases h2 : x - (a.size : Int) < 0
  · rw [if_pos h2]; exact ⟨_, rfl, .inl (by omega)⟩
  · rw [if_neg h2, w64 (n := x - (a.size : Int) - (b.size : Int)) (by omega) (by omega)]
    by_cases h3 : x - (a.size : Int) - (b.size : Int) < 0
    · rw [if_pos h3]; exact ⟨_, rfl, .inl (by omega)⟩
    · rw [if_neg h3, w64 (n := x - (a.size : Int) - (b.size : Int) - (c.size : Int)) (by omega) (by omega)]
      by_cases h4 : x - (a.size : Int) - (b.size : Int) - (c.size : Int) < 0
      · rw [if_pos h4]; exact ⟨_, rfl, .inl (by omega)⟩
      · rw [if_neg h4]; exact ⟨_, rfl, .inr (by omega)⟩
theorem szSealingS_loop (l : List S46) (hw : Wf l) (hl : l.length ≤ 1048576) (d : Nat) : ∀ (k i : Nat) (x : Int), i + d = l.length → d < k → 0 ≤ x → x ≤ 1048576 →
    ∃ v, laws_szSealingS.l0 k l x (i : Int) = some v := by
  induction d with
  | zero =>
    intro k i x hi hk h0 h1
    obtain ⟨k, rfl⟩ : ∃ z, k = z + 1 := ⟨k - 1, by omega⟩
    unfold laws_szSealingS.l0
    rw [if_neg (by omega)]
    exact ⟨x, rfl⟩
  | succ d ih =>
    intro k i x hi hk h0 h1
    obtain ⟨k, rfl⟩ : ∃ z, k = z + 1 := ⟨k - 1, by omega⟩
    obtain ⟨s0, s1, s2⟩ := hw _ (rd46_mem l i (by omega))
    obtain ⟨v, e, h⟩ := szSealing_some _ _ _ x h0 h1 s0 s1 s2
    unfold laws_szSealingS.l0
    rw [if_pos (by omega), if_pos (by omega), e, ob]
    rcases h with h | ⟨h, h2⟩
    · rw [if_pos h]; exact ⟨_, rfl⟩
    · rw [if_neg (by omega), w64 (n := (i : Int) + 1) (by omega) (by omega), show (i : Int) + 1 = ((i + 1 : Nat) : Int) by omega]
      exact ih k (i + 1) _ (by omega) (by omega) (by omega) (by omega)
theorem szSealingS_some (l : List S46) (hl : l.length ≤ 9223372036854775807) (hw : Wf l) (k : Nat) (hk : l.length < k) :
    ∃ v, laws_szSealingS.f k l 1048576 = some v ∧ (v < 0 ∨ l.length ≤ 1048576) := by
  unfold laws_szSealingS.f
  rw [w64 (n := 1048576 - (l.length : Int)) (by omega) (by omega)]
  by_cases h1 : 1048576 - (l.length : Int) < 0
  · rw [if_pos h1]; exact ⟨_, rfl, .inl (by omega)⟩
  · rw [if_neg h1]
    obtain ⟨v, e⟩ := szSealingS_loop l hw (by omega) l.length k 0 (1048576 - (l.length : Int)) (by omega) hk (by omega) (by omega)
    rw [Int.natCast_zero] at e
    exact ⟨v, e, .inr (by omega)⟩
theorem toSealingS_loop (l : List S46) (hl : l.length ≤ 1048576) (d : Nat) : ∀ (k i : Nat) (rest : List S38), i + d = l.length → rest.length = d → d < k →
    laws_toSealingS.l0 k l ((List.range i).map (fun j : Nat => conv (rd_T46 l (j : Int))) ++ rest) (i : Int) = some (l.map conv) := by
  induction d with
  | zero =>
    intro k i rest hi hr hk
    obtain ⟨k, rfl⟩ : ∃ z, k = z + 1 := ⟨k - 1, by omega⟩
    obtain rfl : rest = [] := List.length_eq_zero_iff.1 hr
    obtain rfl : i = l.length := by omega
    unfold laws_toSealingS.l0
    rw [if_neg (by omega), List.append_nil, range_conv]
  | succ d ih =>
    intro k i rest hi hr hk
    obtain ⟨k, rfl⟩ : ∃ z, k = z + 1 := ⟨k - 1, by omega⟩
    have hlen : ((List.range i).map (fun j : Nat => conv (rd_T46 l (j : Int))) ++ rest).length = l.length := by
      rw [List.length_append, List.length_map, List.length_range, hr]; exact hi
    unfold laws_toSealingS.l0 laws_toSealing.f
    rw [if_pos (by omega), if_pos (by omega), ob, if_pos (by rw [hlen]; omega), w64 (n := (i : Int) + 1) (by omega) (by omega), show (i : Int) + 1 = ((i + 1 : Nat) : Int) by omega, Int.toNat_natCast]
    have ht := tab_setG (fun j : Nat => conv (rd_T46 l (j : Int))) l.length i rest (by omega) (by omega)
    have e := ih k (i + 1) rest.tail (by omega) (by rw [List.length_tail]; omega) (by omega)
    rw [← ht] at e
    exact e
theorem toSealingS_some (l : List S46) (hl : l.length ≤ 1048576) (k : Nat) (hk : l.length < k) : laws_toSealingS.f k l = some (l.map conv) := by
  unfold laws_toSealingS.f
  rw [if_pos (by omega), if_pos (by omega), Int.toNat_natCast]
  have e := toSealingS_loop l hl l.length k 0 (List.replicate l.length z38) (by omega) (by simp) hk
  rw [Int.natCast_zero, List.range_zero, List.map_nil, List.nil_append] at e
  exact e
theorem eqSealing_self (a b c : ByteArray) : laws_eqSealing.f a b c a b c = some true := by
  unfold laws_eqSealing.f
  rw [if_pos rfl, if_pos rfl, if_pos rfl]
theorem eqSealingS_loop (l : List S38) (hl : l.length ≤ 1048577) (d : Nat) : ∀ (k i : Nat), i + d = l.length → d < k → laws_eqSealingS.l0 k l l (i : Int) = some true := by
  induction d with
  | zero =>
    intro k i hi hk
    obtain ⟨k, rfl⟩ : ∃ z, k = z + 1 := ⟨k - 1, by omega⟩
    unfold laws_eqSealingS.l0
    rw [if_neg (by omega)]
  | succ d ih =>
    intro k i hi hk
    obtain ⟨k, rfl⟩ : ∃ z, k = z + 1 := ⟨k - 1, by omega⟩
    unfold laws_eqSealingS.l0
    rw [if_pos (by omega), if_pos (by omega), if_pos (by omega), eqSealing_self, ob, if_pos rfl, w64 (n := (i : Int) + 1) (by omega) (by omega), show (i : Int) + 1 = ((i + 1 : Nat) : Int) by omega]
    exact ih k (i + 1) (by omega) (by omega)
theorem eqSealingS_self (l : List S38) (hl : l.length ≤ 1048577) (k : Nat) (hk : l.length < k) : laws_eqSealingS.f k l l = some true := by
  unfold laws_eqSealingS.f
  rw [if_pos rfl]
  have := eqSealingS_loop l hl l.length k 0 (by omega) hk
  rw [Int.natCast_zero] at this
  exact this

def anyFrom (l : List S38) (i : Nat) : Nat → Nat → Bool
  | 0, _ => false
  | d + 1, j => conf l i j || anyFrom l i d (j + 1)
def anyRows (l : List S38) : Nat → Nat → Bool
  | 0, _ => false
  | d + 1, i => anyFrom l i i 0 || anyRows l d (i + 1)
theorem anyFrom_iff (l : List S38) (i : Nat) : ∀ (d j : Nat), anyFrom l i d j = true ↔ ∃ q, j ≤ q ∧ q < j + d ∧ conf l i q = true
  | 0, j => by
    unfold anyFrom
    constructor
    · intro h; cases h
    · rintro ⟨q, h1, h2, _⟩; omega
  | d + 1, j => by
    unfold anyFrom
    rw [Bool.or_eq_true, anyFrom_iff l i d (j + 1)]
    constructor
    · rintro (h | ⟨q, h1, h2, h3⟩)
      · exact ⟨j, by omega, by omega, h⟩
      · exact ⟨q, by omega, by omega, h3⟩
    · rintro ⟨q, h1, h2, h3⟩
      by_cases e : q = j
      · subst e; exact .inl h3
      · exact .inr ⟨q, by omega, by omega, h3⟩
theorem anyRows_iff (l : List S38) : ∀ (d i : Nat), anyRows l d i = true ↔ ∃ q, i ≤ q ∧ q < i + d ∧ twiceAt l q = true
  | 0, i => by
    unfold anyRows
    constructor
    · intro h; cases h
    · rintro ⟨q, h1, h2, _⟩; omega
  | d + 1, i => by
    have ht : anyFrom l i i 0 = twiceAt l i := by
      rw [Bool.eq_iff_iff, anyFrom_iff]
      unfold twiceAt
      rw [List.any_eq_true]
      constructor
      · rintro ⟨q, _, h2, h3⟩; exact ⟨q, List.mem_range.2 (by omega), h3⟩
      · rintro ⟨q, h2, h3⟩; exact ⟨q, by omega, by have := List.mem_range.1 h2; omega, h3⟩
    unfold anyRows
    rw [Bool.or_eq_true, ht, anyRows_iff l d (i + 1)]
    constructor
    · rintro (h | ⟨q, h1, h2, h3⟩)
      · exact ⟨i, by omega, by omega, h⟩
      · exact ⟨q, by omega, by omega, h3⟩
    · rintro ⟨q, h1, h2, h3⟩
      by_cases e : q = i
      · subst e; exact .inl h3
      · exact .inr ⟨q, by omega, by omega, h3⟩
theorem twice_rows (l : List S38) : anyRows l l.length 0 = twiceB l := by
  rw [Bool.eq_iff_iff, anyRows_iff]
  unfold twiceB
  rw [List.any_eq_true]
  constructor
  · rintro ⟨q, _, h2, h3⟩; exact ⟨q, List.mem_range.2 (by omega), h3⟩
  · rintro ⟨q, h2, h3⟩; exact ⟨q, by omega, by have := List.mem_range.1 h2; omega, h3⟩
theorem specTwice_inner (l : List S38) (hl : l.length ≤ 2000000) (i : Nat) (hi : i < l.length) (k : Nat) (r : Bool) (hr : spec_SealedTwice.l0 k l ((i + 1 : Nat) : Int) = some r) (d : Nat) : ∀ j, j + d = i →
    spec_SealedTwice.l1 (k + d + 1) l (i : Int) (j : Int) = some (anyFrom l i d j || r) := by
  induction d with
  | zero =>
    intro j hj
    unfold spec_SealedTwice.l1
    rw [if_neg (by omega), w64 (n := (i : Int) + 1) (by omega) (by omega), show (i : Int) + 1 = ((i + 1 : Nat) : Int) by omega]
    rw [hr]
    rfl
  | succ d ih =>
    intro j hj
    have e := ih (j + 1) (by omega)
    rw [show k + (d + 1) + 1 = (k + d + 1) + 1 by omega]
    unfold spec_SealedTwice.l1 anyFrom
    rw [if_pos (by omega), if_pos (by omega), if_pos (by omega), if_pos (by omega), if_pos (by omega), w64 (n := (j : Int) + 1) (by omega) (by omega), show (j : Int) + 1 = ((j + 1 : Nat) : Int) by omega, e]
    unfold conf
    by_cases h0 : (rd_T38 l (i : Int)).f0.toList = (rd_T38 l (j : Int)).f0.toList
    · rw [if_pos h0, decide_eq_true h0]
      by_cases h1 : (rd_T38 l (i : Int)).f1.toList = (rd_T38 l (j : Int)).f1.toList
      · rw [if_pos h1, decide_eq_true h1]
        by_cases h2 : (rd_T38 l (i : Int)).f2.toList = (rd_T38 l (j : Int)).f2.toList
        · rw [if_pos h2, decide_eq_true h2]; simp
        · rw [if_neg h2, decide_eq_false h2]; simp
      · rw [if_neg h1, decide_eq_false h1]; simp
    · rw [if_neg h0, decide_eq_false h0]; simp
theorem specTwice_outer (l : List S38) (hl : l.length ≤ 2000000) (d : Nat) : ∀ i, i + d = l.length → ∃ k, spec_SealedTwice.l0 k l (i : Int) = some (anyRows l d i) := by
  induction d with
  | zero =>
    intro i hi
    refine ⟨1, ?_⟩
    unfold spec_SealedTwice.l0
    rw [if_neg (by omega)]
    rfl
  | succ d ih =>
    intro i hi
    obtain ⟨k, e⟩ := ih (i + 1) (by omega)
    refine ⟨k + i + 2, ?_⟩
    unfold spec_SealedTwice.l0
    rw [if_pos (by omega)]
    have := specTwice_inner l hl i (by omega) k _ e i 0 (by omega)
    rw [Int.natCast_zero] at this
    rw [this]
    rfl
theorem specTwice (l : List S38) (hl : l.length ≤ 2000000) : ∃ K, ∀ k, K ≤ k → spec_SealedTwice.f k l = some (twiceB l) := by
  obtain ⟨K, e⟩ := specTwice_outer l hl l.length 0 (by omega)
  rw [Int.natCast_zero, twice_rows] at e
  refine ⟨K, fun k hk => ?_⟩
  exact at_rounds (g := fun k => spec_SealedTwice.f k l) (fun k => spec_SealedTwice.mono l k) hk e
theorem implTwice (l : List S38) (hl : l.length ≤ 2000000) (hs : ∀ x ∈ l, (x.f0.size ≤ 9223372036854775807 ∧ x.f1.size ≤ 9223372036854775807 ∧ x.f2.size ≤ 9223372036854775807)) : impl_SealedTwice.f l = some (twiceB l) := by
  have hall : l.all smallS = true := by
    rw [List.all_eq_true]
    intro x hx
    obtain ⟨a, b, c⟩ := hs x hx
    unfold smallS
    rw [decide_eq_true a, decide_eq_true b, decide_eq_true c]
    rfl
  unfold impl_SealedTwice.f
  rw [if_pos ⟨hl, hall⟩]

theorem FnExactSealedTwice : laws_FnExactSealedTwice.Pure := by
  intro l h1 hw
  by_cases hlen : l.length ≤ 1048576
  · have hl' : (l.map conv).length = l.length := List.length_map _
    obtain ⟨K, hK⟩ := specTwice (l.map conv) (by omega)
    have hi := implTwice (l.map conv) (by omega) (by
      intro x hx
      obtain ⟨y, hy, rfl⟩ := List.mem_map.1 hx
      exact hw y hy)
    refine rounds_of (2 * l.length + 60 + K) fun k hk => ?_
    obtain ⟨v, e, h⟩ := szSealingS_some l h1 hw k (by omega)
    unfold laws_FnExactSealedTwice.f
    rw [e]; simp only [ob]
    by_cases hv : v < 0
    · rw [if_pos hv]
    · rw [if_neg hv]
      have et := toSealingS_some l hlen k (by omega)
      rw [et]; simp only [ob]
      rw [hK k (by omega)]; simp only [ob]
      rw [hi]; simp only [ob]
      rw [eqSealingS_self (l.map conv) (by omega) _ (by omega)]
      all_goals simp
  · refine rounds_of (2 * l.length + 60) fun k hk => ?_
    obtain ⟨v, e, h⟩ := szSealingS_some l h1 hw k (by omega)
    unfold laws_FnExactSealedTwice.f
    rw [e]; simp only [ob]
    rcases h with h | h
    · rw [if_pos h]
    · exact absurd h hlen
end Go.Proofs.Ytcmemppkllgkmaa.Pure
