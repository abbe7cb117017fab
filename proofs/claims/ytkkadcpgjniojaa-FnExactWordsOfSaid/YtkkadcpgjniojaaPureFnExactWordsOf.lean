/- The law FnExactWordsOf answers true at every string; no condition. -/
import Derived.Test.YtkkadcpgjniojaaMFnExactWordsOfx2
namespace Go.Proofs.Ytkkadcpgjniojaa.Pure
open Go.RowKit Go.Proofs.Ytkkadcpgjniojaa.PFnExactWordsOf Go.Proofs.YtkkadcpgjniojaaW.PrintWords Go.Proofs.YtkkadcpgjniojaaW.PrintLast Go.Proofs.YtkkadcpgjniojaaW.PrintMore
set_option linter.unusedVariables false
set_option linter.unusedSimpArgs false

theorem w64 {n : Int} (h0 : -9223372036854775808 ≤ n) (h1 : n ≤ 9223372036854775807) : wrap64 n = n := by
  unfold wrap64; omega
theorem bits_nat3 (k : IntKind) (j : Nat) (hj : j ≤ k.bits) (hk : ∀ n : Int, 0 ≤ n → n < 2 ^ j → k.wrap n = n) (a b : Nat) (ha : a < 2 ^ j) (hb : b < 2 ^ j) :
    Go.bits .and k a b = ((a &&& b : Nat) : Int) ∧ Go.bits .or k a b = ((a ||| b : Nat) : Int) ∧ Go.bits .xor k a b = ((a ^^^ b : Nat) : Int) := by
  have hp : 2 ^ j ≤ 2 ^ k.bits := Nat.pow_le_pow_right (by decide) hj
  have ha' : a % 2 ^ k.bits = a := Nat.mod_eq_of_lt (Nat.lt_of_lt_of_le ha hp)
  have hb' : b % 2 ^ k.bits = b := Nat.mod_eq_of_lt (Nat.lt_of_lt_of_le hb hp)
  have cast : ∀ n : Nat, n < 2 ^ j → ((n : Nat) : Int) < 2 ^ j := fun n h => by exact_mod_cast h
  refine ⟨?_, ?_, ?_⟩
  · simp only [Go.bits, BitVec.ofInt_natCast, BitVec.toNat_and, BitVec.toNat_ofNat, ha', hb']
    exact hk _ (Int.natCast_nonneg _) (cast _ (Nat.and_lt_two_pow _ hb))
  · simp only [Go.bits, BitVec.ofInt_natCast, BitVec.toNat_or, BitVec.toNat_ofNat, ha', hb']
    exact hk _ (Int.natCast_nonneg _) (cast _ (Nat.or_lt_two_pow ha hb))
  · simp only [Go.bits, BitVec.ofInt_natCast, BitVec.toNat_xor, BitVec.toNat_ofNat, ha', hb']
    exact hk _ (Int.natCast_nonneg _) (cast _ (Nat.xor_lt_two_pow ha hb))
theorem wr_i64 (n : Int) (h0 : 0 ≤ n) (h1 : n < 2 ^ 62) : IntKind.i64.wrap n = n := by rw [IntKind.wrap_i64]; omega
theorem wr_u64 (n : Int) (h0 : 0 ≤ n) (h1 : n < 2 ^ 64) : IntKind.u64.wrap n = n := by
  simp [IntKind.wrap, IntKind.bits, IntKind.signed]; omega
theorem or_i64 (a b : Nat) (ha : a < 2 ^ 62) (hb : b < 2 ^ 62) : Go.bits .or .i64 a b = ((a ||| b : Nat) : Int) := (bits_nat3 .i64 62 (by decide) wr_i64 a b ha hb).2.1
theorem xor_i64 (a b : Nat) (ha : a < 2 ^ 62) (hb : b < 2 ^ 62) : Go.bits .xor .i64 a b = ((a ^^^ b : Nat) : Int) := (bits_nat3 .i64 62 (by decide) wr_i64 a b ha hb).2.2
theorem and_i64 (a b : Nat) (ha : a < 2 ^ 62) (hb : b < 2 ^ 62) : Go.bits .and .i64 a b = ((a &&& b : Nat) : Int) := (bits_nat3 .i64 62 (by decide) wr_i64 a b ha hb).1
theorem xor_u8 (a b : Nat) (ha : a < 2 ^ 8) (hb : b < 2 ^ 8) : Go.bits .xor .u8 a b = ((a ^^^ b : Nat) : Int) := (bits_nat3 .u8 8 (by decide) wraps_u8 a b ha hb).2.2
/-- Byte i of s as a natural number. -/
def bn (s : ByteArray) (i : Nat) : Nat := (s.data.toList.getD i 0).toNat
theorem bn_lt (s : ByteArray) (i : Nat) : bn s i < 256 := (s.data.toList.getD i 0).toNat_lt
theorem bt_bn (s : ByteArray) (i : Nat) : bt s (i : Int) = (bn s i : Int) := by
  unfold bt bn
  split
  · rename_i h
    have h' : i < s.data.toList.length := by rw [data_length]; simpa using h
    rw [List.getD_eq_getElem?_getD, List.getElem?_eq_getElem h']; rfl
  · rename_i h
    have h' : s.data.toList.length ≤ i := by rw [data_length]; simpa using h
    rw [List.getD_eq_getElem?_getD, List.getElem?_eq_none h']; rfl
theorem bt_bn' (s : ByteArray) (i : Int) (h : 0 ≤ i) : bt s i = (bn s i.toNat : Int) := by
  obtain ⟨n, rfl⟩ := Int.eq_ofNat_of_zero_le h
  exact bt_bn s n
theorem toList_eq' (s : ByteArray) : s.toList = s.data.toList := ByteArray.toList_eq s
/-- Two strings of one length are one where their bytes are. -/
theorem bytes_ext {s t : ByteArray} (hl : s.size = t.size) (h : ∀ i, i < s.size → bn s i = bn t i) : s.data.toList = t.data.toList := by
  apply List.ext_getElem (by rw [data_length, data_length, hl])
  intro i h1 h2
  have := h i (by rw [← data_length]; exact h1)
  unfold bn at this
  rw [List.getD_eq_getElem?_getD, List.getD_eq_getElem?_getD, List.getElem?_eq_getElem h1, List.getElem?_eq_getElem h2] at this
  exact UInt8.toNat_inj.1 this
theorem strOf_data (xs : List Int) : (strOfNums xs).data.toList = xs.map fun n => UInt8.ofNat n.toNat := by simp [strOfNums]
theorem strOf_toList (xs : List Int) : (strOfNums xs).toList = xs.map fun n => UInt8.ofNat n.toNat := by rw [toList_eq', strOf_data]
theorem strOf_size (xs : List Int) : (strOfNums xs).size = xs.length := by rw [← data_length, strOf_data, List.length_map]
/-- A list of n numbers written cell by cell is the list of what was written. -/
theorem tab_set (f : Nat → Int) (n i : Nat) (rest : List Int) (h : i < n) (hr : rest.length = n - i) :
    (((List.range i).map f) ++ rest).set i (f i) = ((List.range (i + 1)).map f) ++ rest.tail := by
  cases rest with
  | nil => simp at hr; omega
  | cons a rest =>
    rw [List.set_append_right _ _ (by simp)]
    simp [List.range_succ]
theorem xor_zero_iff {a b : Nat} : a ^^^ b = 0 ↔ a = b := by
  constructor
  · intro h
    have := congrArg (· ^^^ b) h
    simpa [Nat.xor_assoc] using this
  · rintro rfl; exact Nat.xor_self a
theorem rounds_of {P : Nat → Prop} (n : Nat) (h : ∀ k, n ≤ k → P k) : ∃ k, P k := ⟨n, h n (Nat.le_refl n)⟩
/-- As Option.bind_some, but not by reduction: the kernel is not led into what follows. -/
theorem ob {α β : Type} (a : α) (f : α → Option β) : (some a).bind f = f a := by
  cases h : f a with
  | none => rw [Option.bind_some, h]
  | some b => rw [Option.bind_some, h]

/-- n zero bytes. -/
def zb (n : Nat) : ByteArray := strOfNums (List.replicate n 0)
theorem zb_size (n : Nat) : (zb n).size = n := by unfold zb; rw [strOf_size, List.length_replicate]
theorem zb_data (n : Nat) : (zb n).data.toList = List.replicate n 0 := by unfold zb; rw [strOf_data, List.map_replicate]; rfl
theorem ba_ext {s t : ByteArray} (h : s.data.toList = t.data.toList) : s = t := by
  cases s; cases t; simp only at h; congr; exact Array.toList_inj.1 h
theorem long_loop (n : Nat) (x : Int) (hn : n ≤ 100000) (d : Nat) : ∀ (k i : Nat), i + d = n → d < k → spec_l01Long.l0 k (n : Int) x ((List.range i).map (fun _ => x) ++ List.replicate d 0) (i : Int) = some (strOfNums (List.replicate n x)) := by
  induction d with
  | zero =>
    intro k i hi hk
    obtain ⟨k, rfl⟩ : ∃ q, k = q + 1 := ⟨k - 1, by omega⟩
    obtain rfl : i = n := by omega
    simp only [spec_l01Long.l0]
    rw [if_neg (by omega)]
    congr 2
    simp [List.map_const']
  | succ d ih =>
    intro k i hi hk
    obtain ⟨k, rfl⟩ : ∃ q, k = q + 1 := ⟨k - 1, by omega⟩
    have e := ih k (i + 1) (by omega) (by omega)
    have t := tab_set (fun _ => x) n i (List.replicate (d + 1) 0) (by omega) (by simp; omega)
    rw [show (List.replicate (d + 1) (0 : Int)).tail = List.replicate d 0 by simp [List.replicate_succ]] at t
    simp only [spec_l01Long.l0]
    rw [if_pos (by omega), if_pos (by omega), if_pos (by simp; omega), w64 (by omega) (by omega), show (i : Int) + 1 = ((i + 1 : Nat) : Int) by omega, show ((i : Int)).toNat = i from rfl, t]
    exact e
theorem spec_long (n : Nat) (x : Int) (hn : n ≤ 100000) (k : Nat) (hk : n < k) : spec_l01Long.f k (n : Int) x = some (strOfNums (List.replicate n x)) := by
  unfold spec_l01Long.f
  have e := long_loop n x hn n k 0 (by omega) hk
  rw [Int.natCast_zero] at e
  rw [if_pos (by omega), if_pos (by omega)]
  simpa using e
theorem spec_zero (n : Nat) (hn : n ≤ 20000) (k : Nat) (hk : n < k) : spec_ZeroText.f k (n : Int) = some (zb n) := by
  unfold spec_ZeroText.f spec_l01In.f
  rw [if_pos (by omega), decide_eq_true (by omega)]
  simp only [Option.bind_some, if_true, spec_long n 0 (by omega) k hk]
  rfl
theorem rep_zero (n : Nat) (hn : n ≤ 140737488355328) : strings_Repeat.f ⟨#[0]⟩ (n : Int) = some (zb n) := by
  unfold strings_Repeat.f rep_.f
  rw [if_pos ⟨by omega, by show 1 * n ≤ _; omega, by omega⟩]
  congr 1
  apply ba_ext
  rw [zb_data]
  show Lib.repeatL [0] n = _
  induction n with
  | zero => rfl
  | succ n ih => rw [Lib.repeatL, ih (by omega), List.replicate_succ]; rfl
theorem impl_pad (s : ByteArray) (n : Nat) (hs : s.size ≤ 140737488351300) (hn : n ≤ 100000) : impl_padded.f s (n : Int) = some (s ++ zb (n - s.size)) := by
  unfold impl_padded.f
  have e : mx 0 (wrap64 ((n : Int) - (s.size : Int))) = ((n - s.size : Nat) : Int) := by
    rw [w64 (by omega) (by omega)]
    unfold mx
    split <;> omega
  rw [e, rep_zero _ (by omega)]
  simp only [Option.bind_some]
  rw [if_pos (by rw [zb_size]; omega)]
theorem pad_empty (n : Nat) (hn : n ≤ 100000) : impl_padded.f ⟨#[]⟩ (n : Int) = some (zb n) := by
  rw [impl_pad _ n (Nat.zero_le _) hn]
  have e : (⟨#[]⟩ : ByteArray) ++ zb (n - (⟨#[]⟩ : ByteArray).size) = zb n := by
    apply ba_ext
    rw [show (⟨#[]⟩ : ByteArray).size = 0 from rfl, Nat.sub_zero, ByteArray.data_append, Array.toList_append]
    rfl
  rw [e]

theorem spec_wtext (s : ByteArray) (k : Nat) (hk : 9 ≤ k) : spec_WordText.f k s = some (if s.size ≤ 8 then s ++ zb (8 - s.size) else ⟨#[]⟩) := by
  unfold spec_WordText.f
  by_cases h : s.size ≤ 8
  · rw [if_neg (by omega), if_pos h]
    first
      | rw [show wrap64 (8 - (s.size : Int)) = ((8 - s.size : Nat) : Int) by rw [w64 (by omega) (by omega)]; omega]
      | rw [show (8 - (s.size : Int)) = ((8 - s.size : Nat) : Int) by omega]
    rw [spec_zero (8 - s.size) (by omega) k (by omega)]
    simp only [Option.bind_some]
    rw [if_pos (by rw [zb_size]; omega)]
  · rw [if_pos (by omega), if_neg h]

theorem mark_loop (d : Nat) : ∀ (k : Nat) (x : Int) (s : ByteArray), 0 ≤ x → x.toNat < 10 ^ d → d ≤ 18 → s.size + d ≤ 1000 → d < k → ∃ r, laws_markText.l0 k x s = some r := by
  induction d with
  | zero =>
    intro k x s h0 hx _ hs hk
    obtain ⟨k, rfl⟩ : ∃ q, k = q + 1 := ⟨k - 1, by omega⟩
    have : x = 0 := by simp at hx; omega
    subst this
    exact ⟨_, by simp only [laws_markText.l0]; rw [if_neg (by omega), if_pos (by omega)]⟩
  | succ d ih =>
    intro k x s h0 hx h18 hs hk
    obtain ⟨k, rfl⟩ : ∃ q, k = q + 1 := ⟨k - 1, by omega⟩
    by_cases hp : x > 0
    · have hd : Int.tdiv x 10 = x / 10 := Int.tdiv_eq_ediv_of_nonneg h0
      have hle : (10 : Nat) ^ (d + 1) ≤ 10 ^ 18 := Nat.pow_le_pow_right (by decide) h18
      have h18' : (10 : Nat) ^ 18 = 1000000000000000000 := by decide
      have hps : (10 : Nat) ^ (d + 1) = 10 * 10 ^ d := by rw [Nat.pow_succ]; omega
      have hw : wrap64 (Int.tdiv x 10) = x / 10 := by rw [hd, w64 (by omega) (by omega)]
      obtain ⟨r, e⟩ := ih k (x / 10) (strOfNums [(wrap64 (48 + (Int.tmod x 10))) % 256] ++ s) (by omega) (by omega) (by omega) (by rw [ByteArray.size_append, strOf_size]; simp only [List.length_cons, List.length_nil]; omega) (by omega)
      refine ⟨r, ?_⟩
      simp only [laws_markText.l0]
      rw [if_pos hp, hw]
      simp only [Option.bind_some]
      rw [if_pos (by rw [strOf_size]; simp only [List.length_cons, List.length_nil]; omega)]
      exact e
    · exact ⟨_, by simp only [laws_markText.l0]; rw [if_neg hp, if_pos (by omega)]⟩
/-- A mark is told, and is the same at all rounds. -/
theorem mark_some (x : Int) (hx : x ≤ 999999999999999999) : ∃ r, ∀ k, 20 ≤ k → laws_markText.f k x = some r := by
  have key : ∃ r, laws_markText.f 20 x = some r := by
    unfold laws_markText.f
    split
    · exact ⟨_, rfl⟩
    · have h18' : (10 : Nat) ^ 18 = 1000000000000000000 := by decide
      exact mark_loop 18 20 x ⟨#[]⟩ (by omega) (by omega) (by omega) (by show 0 + 18 ≤ 1000; omega) (by omega)
  obtain ⟨r, e⟩ := key
  exact ⟨r, fun k hk => at_rounds (fun k => laws_markText.mono x k) hk e⟩

theorem eqStr_loop (xs : List ByteArray) (d : Nat) : ∀ (k i : Nat), i + d = xs.length → xs.length ≤ 9223372036854775806 → d < k → laws_eqStringS.l0 k xs xs (i : Int) = some true := by
  induction d with
  | zero =>
    intro k i hi _ hk
    obtain ⟨k, rfl⟩ : ∃ q, k = q + 1 := ⟨k - 1, by omega⟩
    simp only [laws_eqStringS.l0]; rw [if_neg (by omega)]
  | succ d ih =>
    intro k i hi hl hk
    obtain ⟨k, rfl⟩ : ∃ q, k = q + 1 := ⟨k - 1, by omega⟩
    simp only [laws_eqStringS.l0]
    rw [if_pos (by omega), if_pos (by omega), if_pos (by omega)]
    simp only [if_true]
    rw [w64 (by omega) (by omega), show (i : Int) + 1 = ((i + 1 : Nat) : Int) by omega]
    exact ih k (i + 1) (by omega) hl (by omega)
theorem eqStr_same (xs : List ByteArray) (hl : xs.length ≤ 9223372036854775806) (k : Nat) (hk : xs.length < k) : laws_eqStringS.f k xs xs = some true := by
  unfold laws_eqStringS.f
  rw [if_pos rfl]
  exact eqStr_loop xs xs.length k 0 (by omega) hl hk
/-- What is marked from m on is held from m on. -/
theorem markStr_loop (n : Nat) (hn : n ≤ 100000000) (d : Nat) : ∀ (k i : Nat) (xs : List ByteArray) (m : Int), xs.length = n → i + d = n → 0 ≤ m → m + d ≤ 200000000 → d + 20 < k →
    ∃ ys, laws_markStringS.l0 k xs m (i : Int) = some (m + d, ys) ∧ ys.length = n ∧ (∀ j, j < i → ys.getD j ByteArray.empty = xs.getD j ByteArray.empty) ∧
      ∀ j, i ≤ j → j < n → ∀ k, 20 ≤ k → laws_markText.f k (m + ((j - i : Nat) : Int)) = some (ys.getD j ByteArray.empty) := by
  induction d with
  | zero =>
    intro k i xs m hl hi h0 hm hk
    obtain ⟨k, rfl⟩ : ∃ q, k = q + 1 := ⟨k - 1, by omega⟩
    refine ⟨xs, ?_, hl, fun _ _ => rfl, fun j h1 h2 => by omega⟩
    simp only [laws_markStringS.l0]; rw [if_neg (by omega)]
    congr 2; omega
  | succ d ih =>
    intro k i xs m hl hi h0 hm hk
    obtain ⟨k, rfl⟩ : ∃ q, k = q + 1 := ⟨k - 1, by omega⟩
    obtain ⟨r, hr⟩ := mark_some m (by omega)
    obtain ⟨ys, e, yl, yb, ya⟩ := ih k (i + 1) (xs.set i r) (m + 1) (by simp [hl]) (by omega) (by omega) (by omega) (by omega)
    refine ⟨ys, ?_, yl, ?_, ?_⟩
    · simp only [laws_markStringS.l0]
      rw [if_pos (by omega), hr k (by omega)]
      simp only [Option.bind_some]
      rw [if_pos (by omega), w64 (by omega) (by omega), w64 (by omega) (by omega), show (i : Int) + 1 = ((i + 1 : Nat) : Int) by omega, show ((i : Int)).toNat = i from rfl, e]
      congr 2; omega
    · intro j hj
      rw [yb j (by omega), List.getD_eq_getElem?_getD, List.getD_eq_getElem?_getD, List.getElem?_set_ne (by omega)]
    · intro j h1 h2 k hk
      by_cases hj : j = i
      · subst hj
        rw [yb j (by omega), List.getD_eq_getElem?_getD, List.getElem?_set_self (by omega)]
        simpa using hr k hk
      · have := ya j (by omega) h2 k hk
        rw [show m + ((j - i : Nat) : Int) = m + 1 + ((j - (i + 1) : Nat) : Int) by omega]
        exact this
theorem heldStr_loop (n : Nat) (ys : List ByteArray) (hy : ys.length = n) (hn : n ≤ 100000000) (d : Nat) : ∀ (k i : Nat) (m : Int), i + d = n → 0 ≤ m → m + d ≤ 200000000 →
    (∀ j, i ≤ j → j < n → ∀ k, 20 ≤ k → laws_markText.f k (m + ((j - i : Nat) : Int)) = some (ys.getD j ByteArray.empty)) → d + 20 < k → laws_heldStringS.l0 k ys m (i : Int) = some (m + d) := by
  induction d with
  | zero =>
    intro k i m hi h0 hm _ hk
    obtain ⟨k, rfl⟩ : ∃ q, k = q + 1 := ⟨k - 1, by omega⟩
    simp only [laws_heldStringS.l0]; rw [if_neg (by omega)]
    congr 1; omega
  | succ d ih =>
    intro k i m hi h0 hm ha hk
    obtain ⟨k, rfl⟩ : ∃ q, k = q + 1 := ⟨k - 1, by omega⟩
    have h1 := ha i (by omega) (by omega) k (by omega)
    rw [show m + ((i - i : Nat) : Int) = m by omega] at h1
    have e := ih k (i + 1) (m + 1) (by omega) (by omega) (by omega) (fun j j1 j2 k hk => by
      have := ha j (by omega) j2 k hk
      rw [show m + 1 + ((j - (i + 1) : Nat) : Int) = m + ((j - i : Nat) : Int) by omega]
      exact this) (by omega)
    simp only [laws_heldStringS.l0]
    rw [if_pos (by omega), if_pos (by omega), h1]
    simp only [Option.bind_some]
    rw [if_pos (by unfold rdOf; rfl), w64 (by omega) (by omega), w64 (by omega) (by omega), show (i : Int) + 1 = ((i + 1 : Nat) : Int) by omega, e]
    congr 1; omega
theorem marked (xs : List ByteArray) (hn : xs.length ≤ 100000000) (k : Nat) (hk : xs.length + 20 < k) : ∃ ys, laws_markStringS.f k xs 1 = some (1 + (xs.length : Int), ys) ∧ laws_heldStringS.f k ys 1 = some (1 + (xs.length : Int)) := by
  obtain ⟨ys, e, yl, _, ya⟩ := markStr_loop xs.length hn xs.length k 0 xs 1 rfl (by omega) (by omega) (by omega) (by omega)
  have e2 := heldStr_loop xs.length ys yl hn xs.length k 0 1 (by omega) (by omega) (by omega) (fun j h1 h2 k hk => ya j h1 h2 k hk) (by omega)
  rw [Int.natCast_zero] at e e2
  exact ⟨ys, by unfold laws_markStringS.f; exact e, by unfold laws_heldStringS.f; exact e2⟩

theorem words_loop (s : ByteArray) (hs : s.size ≤ 20000) (d : Nat) : ∀ (k at_ : Nat) (l : List ByteArray), s.size ≤ at_ + 8 * d → at_ ≤ 30000 → l.length + d ≤ 8000 → d + 10 < k →
    ∃ r, spec_WordsOf.l0 k s l (at_ : Int) = some r ∧ impl_wordsOf.l0 k s l (at_ : Int) = some r ∧ r.length ≤ 8000 := by
  induction d with
  | zero =>
    intro k a l ha h3 hl hk
    obtain ⟨k, rfl⟩ : ∃ q, k = q + 1 := ⟨k - 1, by omega⟩
    refine ⟨l, ?_, ?_, by omega⟩
    · simp only [spec_WordsOf.l0]; rw [if_neg (by omega)]
    · simp only [impl_wordsOf.l0]; rw [if_neg (by omega)]
  | succ d ih =>
    intro k a l ha h3 hl hk
    obtain ⟨k, rfl⟩ : ∃ q, k = q + 1 := ⟨k - 1, by omega⟩
    by_cases hlt : a < s.size
    · have w8 : wrap64 ((a : Int) + 8) = ((a + 8 : Nat) : Int) := by rw [w64 (by omega) (by omega)]; omega
      have hmn : ∃ e : Nat, mn ((a + 8 : Nat) : Int) (s.size : Int) = (e : Int) ∧ a ≤ e ∧ e ≤ s.size ∧ e ≤ a + 8 ∧ (e = a + 8 ∨ e = s.size) ∧ (((a + 8 : Nat) : Int) > (s.size : Int) → e = s.size) ∧ (¬ ((a + 8 : Nat) : Int) > (s.size : Int) → e = a + 8) := by
        unfold mn
        split
        · exact ⟨s.size, rfl, by omega, by omega, by omega, .inr rfl, fun _ => rfl, fun h => by omega⟩
        · exact ⟨a + 8, rfl, by omega, by omega, by omega, .inl rfl, fun h => by omega, fun _ => rfl⟩
      obtain ⟨e, he, e1, e2, e3, e4, e5, e6⟩ := hmn
      have hsz : (s.extract a e).size ≤ 8 := by rw [ByteArray.size_extract]; omega
      have hw := spec_wtext (s.extract a e) k (by omega)
      rw [if_pos hsz] at hw
      have hp := impl_pad (s.extract a e) 8 (by omega) (by omega)
      obtain ⟨r, r1, r2, r3⟩ := ih k (a + 8) (l ++ [s.extract a e ++ zb (8 - (s.extract a e).size)]) (by omega) (by omega) (by simp; omega) (by omega)
      refine ⟨r, ?_, ?_, r3⟩
      · simp only [spec_WordsOf.l0]
        rw [if_pos (by omega), w8]
        by_cases hgt : ((a + 8 : Nat) : Int) > (s.size : Int)
        · have := e5 hgt
          subst this
          rw [if_pos hgt, if_pos (by omega), if_pos (by omega), if_pos (by omega), show ((a : Int)).toNat = a from rfl, show ((s.size : Int)).toNat = s.size from rfl, hw]
          simp only [Option.bind_some]
          rw [if_pos (by omega)]
          exact r1
        · have := e6 hgt
          subst this
          rw [if_neg hgt, if_pos (by omega), if_pos (by omega), if_pos (by omega), show ((a : Int)).toNat = a from rfl, show (((a + 8 : Nat) : Int)).toNat = a + 8 from rfl, hw]
          simp only [Option.bind_some]
          rw [if_pos (by omega)]
          exact r1
      · simp only [impl_wordsOf.l0]
        rw [if_pos (by omega), w8, he, if_pos (by omega), if_pos (by omega), if_pos (by omega), show ((a : Int)).toNat = a from rfl, show ((e : Int)).toNat = e from rfl, show (8 : Int) = ((8 : Nat) : Int) from rfl, hp]
        simp only [Option.bind_some]
        rw [if_pos (by omega)]
        exact r2
    · refine ⟨l, ?_, ?_, by omega⟩
      · simp only [spec_WordsOf.l0]; rw [if_neg (by omega)]
      · simp only [impl_wordsOf.l0]; rw [if_neg (by omega)]
theorem FnExactWordsOf : laws_FnExactWordsOf.Pure := by
  intro s _
  refine rounds_of 20000 fun k hk => ?_
  unfold laws_FnExactWordsOf.f
  split
  · rfl
  · have key : ∃ r, spec_WordsOf.f k s = some r ∧ impl_WordsOf.f k s = some r ∧ r.length ≤ 8000 := by
      by_cases h : s.size ≤ 20000
      · obtain ⟨r, r1, r2, r3⟩ := words_loop s h 2501 k 0 [] (by omega) (by omega) (by simp) (by omega)
        rw [Int.natCast_zero] at r1 r2
        refine ⟨r, ?_, ?_, r3⟩
        · unfold spec_WordsOf.f; simp only [Option.bind_some]; rw [if_neg (by omega)]; exact r1
        · unfold impl_WordsOf.f impl_wordsOf.f; rw [if_neg (by omega), r2]; rfl
      · refine ⟨[], ?_, ?_, by simp⟩
        · unfold spec_WordsOf.f; simp only [Option.bind_some]; rw [if_pos (by omega)]
        · unfold impl_WordsOf.f; rw [if_pos (by omega)]
    obtain ⟨r, r1, r2, r3⟩ := key
    obtain ⟨ys, m1, m2⟩ := marked r (by omega) k (by omega)
    simp only [r1, r2, Option.bind_some, eqStr_same r (by omega) k (by omega), if_true, m1, m2]
    simp only [if_neg (show ¬ (1 + (r.length : Int) < 0) by omega)]
end Go.Proofs.Ytkkadcpgjniojaa.Pure
