/- The law FnExactNoncesOf answers true: spec.NoncesOf and impl.NoncesOf give the same nonces in the same order; the list is unchanged and shares nothing; no condition. -/
import Derived.Test.YtcmemppkllgkmaaMFnExactNoncesOfx3
namespace Go.Proofs.Ytcmemppkllgkmaa.Pure
open Go.RowKit Go.Proofs.Ytcmemppkllgkmaa.PFnExactNoncesOf Go.Proofs.YtcmemppkllgkmaaW.PrintWords Go.Proofs.YtcmemppkllgkmaaW.PrintLast Go.Proofs.YtcmemppkllgkmaaW.PrintMore
set_option linter.unusedVariables false
set_option linter.unusedSimpArgs false

theorem w64 {n : Int} (h0 : -9223372036854775808 ≤ n) (h1 : n ≤ 9223372036854775807) : wrap64 n = n := by
  unfold wrap64; omega
theorem bits_nat3 (k : IntKind) (j : Nat) (hj : j ≤ k.bits) (hk : ∀ n : Int, 0 ≤ n → n < 2 ^ j → k.wrap n = n) (a b : Nat) (ha : a < 2 ^ j) (hb : b < 2 ^ j) :
    Go.bits .and k a b = ((a &&& b : Nat) : Int) ∧ Go.bits .or k a b = ((a ||| b : Nat) : Int) ∧ Go.bits .xor k a b = ((a ^^^ b : Nat) : Int) := by
  have hp : 2 ^ j ≤ 2 ^ k.bits := Nat.pow_le_pow_right (by decide) hj
  have ha' : a % 2 ^ k.bits = a := Nat.mod_eq_of_lt (Nat.lt_of_lt_of_le ha hp)
  have hb' : b % 2 ^ k.bits = b := Nat.mod_eq_of_lt (Nat.lt_of_lt_of_le hb hp)
  have cast : ∀ n : Nat, n < 2 ^ j → ((n : Nat) : Int) < 2 ^ j := fun n h => by exact_mod_cast h
  refine ⟨?_, ?_, ?_⟩
  · simp only [Go.bits, BitVec.ofInt_natCast, BitVec.toNat_and, BitVec.toNat_ofNat, ha', hb']
    exact hk _ (Int.natCast_nonneg _) (cast _ (Nat.and_lt_two_pow _ hb))
  · simp only [Go.bits, BitVec.ofInt_natCast, BitVec.toNat_or, BitVec.toNat_ofNat, ha', hb']
    exact hk _ (Int.natCast_nonneg _) (cast _ (Nat.or_lt_two_pow ha hb))
  · simp only [Go.bits, BitVec.ofInt_natCast, BitVec.toNat_xor, BitVec.toNat_ofNat, ha', hb']
    exact hk _ (Int.natCast_nonneg _) (cast _ (Nat.xor_lt_two_pow ha hb))
theorem wr_i64 (n : Int) (h0 : 0 ≤ n) (h1 : n < 2 ^ 62) : IntKind.i64.wrap n = n := by rw [IntKind.wrap_i64]; omega
theorem wr_u64 (n : Int) (h0 : 0 ≤ n) (h1 : n < 2 ^ 64) : IntKind.u64.wrap n = n := by
  simp [IntKind.wrap, IntKind.bits, IntKind.signed]; omega
theorem or_i64 (a b : Nat) (ha : a < 2 ^ 62) (hb : b < 2 ^ 62) : Go.bits .or .i64 a b = ((a ||| b : Nat) : Int) := (bits_nat3 .i64 62 (by decide) wr_i64 a b ha hb).2.1
theorem xor_i64 (a b : Nat) (ha : a < 2 ^ 62) (hb : b < 2 ^ 62) : Go.bits .xor .i64 a b = ((a ^^^ b : Nat) : Int) := (bits_nat3 .i64 62 (by decide) wr_i64 a b ha hb).2.2
theorem and_i64 (a b : Nat) (ha : a < 2 ^ 62) (hb : b < 2 ^ 62) : Go.bits .and .i64 a b = ((a &&& b : Nat) : Int) := (bits_nat3 .i64 62 (by decide) wr_i64 a b ha hb).1
theorem xor_u8 (a b : Nat) (ha : a < 2 ^ 8) (hb : b < 2 ^ 8) : Go.bits .xor .u8 a b = ((a ^^^ b : Nat) : Int) := (bits_nat3 .u8 8 (by decide) wraps_u8 a b ha hb).2.2
/-- Byte i of s as a natural number. -/
def bn (s : ByteArray) (i : Nat) : Nat := (s.data.toList.getD i 0).toNat
theorem bn_lt (s : ByteArray) (i : Nat) : bn s i < 256 := (s.data.toList.getD i 0).toNat_lt
theorem bt_bn (s : ByteArray) (i : Nat) : bt s (i : Int) = (bn s i : Int) := by
  unfold bt bn
  split
  · rename_i h
    have h' : i < s.data.toList.length := by rw [data_length]; simpa using h
    rw [List.getD_eq_getElem?_getD, List.getElem?_eq_getElem h']; rfl
  · rename_i h
    have h' : s.data.toList.length ≤ i := by rw [data_length]; simpa using h
    rw [List.getD_eq_getElem?_getD, List.getElem?_eq_none h']; rfl
theorem bt_bn' (s : ByteArray) (i : Int) (h : 0 ≤ i) : bt s i = (bn s i.toNat : Int) := by
  obtain ⟨n, rfl⟩ := Int.eq_ofNat_of_zero_le h
  exact bt_bn s n
theorem toList_eq' (s : ByteArray) : s.toList = s.data.toList := ByteArray.toList_eq s
/-- Two strings of one length are one where their bytes are. -/
theorem bytes_ext {s t : ByteArray} (hl : s.size = t.size) (h : ∀ i, i < s.size → bn s i = bn t i) : s.data.toList = t.data.toList := by
  apply List.ext_getElem (by rw [data_length, data_length, hl])
  intro i h1 h2
  have := h i (by rw [← data_length]; exact h1)
  unfold bn at this
  rw [List.getD_eq_getElem?_getD, List.getD_eq_getElem?_getD, List.getElem?_eq_getElem h1, List.getElem?_eq_getElem h2] at this
  exact UInt8.toNat_inj.1 this
theorem strOf_data (xs : List Int) : (strOfNums xs).data.toList = xs.map fun n => UInt8.ofNat n.toNat := by simp [strOfNums]
theorem strOf_toList (xs : List Int) : (strOfNums xs).toList = xs.map fun n => UInt8.ofNat n.toNat := by rw [toList_eq', strOf_data]
theorem strOf_size (xs : List Int) : (strOfNums xs).size = xs.length := by rw [← data_length, strOf_data, List.length_map]
/-- A list of n numbers written cell by cell is the list of what was written. -/
theorem tab_set (f : Nat → Int) (n i : Nat) (rest : List Int) (h : i < n) (hr : rest.length = n - i) :
    (((List.range i).map f) ++ rest).set i (f i) = ((List.range (i + 1)).map f) ++ rest.tail := by
  cases rest with
  | nil => simp at hr; omega
  | cons a rest =>
    rw [List.set_append_right _ _ (by simp)]
    simp [List.range_succ]
theorem xor_zero_iff {a b : Nat} : a ^^^ b = 0 ↔ a = b := by
  constructor
  · intro h
    have := congrArg (· ^^^ b) h
    simpa [Nat.xor_assoc] using this
  · rintro rfl; exact Nat.xor_self a
theorem rounds_of {P : Nat → Prop} (n : Nat) (h : ∀ k, n ≤ k → P k) : ∃ k, P k := ⟨n, h n (Nat.le_refl n)⟩
/-- As Option.bind_some, but not by reduction: the kernel is not led into what follows. -/
theorem ob {α β : Type} (a : α) (f : α → Option β) : (some a).bind f = f a := by
  cases h : f a with
  | none => rw [Option.bind_some, h]
  | some b => rw [Option.bind_some, h]

/-- A sealing as the program's own type. -/
def conv (x : S46) : S38 := ⟨x.f0, x.f1, x.f2⟩
theorem tab_setG {α : Type} (f : Nat → α) (n i : Nat) (rest : List α) (h : i < n) (hr : rest.length = n - i) :
    (((List.range i).map f) ++ rest).set i (f i) = ((List.range (i + 1)).map f) ++ rest.tail := by
  cases rest with
  | nil => simp at hr; omega
  | cons a rest =>
    rw [List.set_append_right _ _ (by simp)]
    simp [List.range_succ]
theorem rd46_mem (l : List S46) (i : Nat) (h : i < l.length) : rd_T46 l (i : Int) ∈ l := by
  unfold rd_T46
  rw [List.getD_eq_getElem?_getD, Int.toNat_natCast, List.getElem?_eq_getElem h]
  exact List.getElem_mem h
theorem range_conv (l : List S46) : (List.range l.length).map (fun j : Nat => conv (rd_T46 l (j : Int))) = l.map conv := by
  apply List.ext_getElem (by simp)
  intro i h1 h2
  simp only [List.length_map, List.length_range] at h1
  simp only [List.getElem_map, List.getElem_range]
  unfold rd_T46
  rw [List.getD_eq_getElem?_getD, Int.toNat_natCast, List.getElem?_eq_getElem h1]
  rfl
def Wf (l : List S46) : Prop := ∀ x ∈ l, (x.f0.size ≤ 9223372036854775807 ∧ x.f1.size ≤ 9223372036854775807 ∧ x.f2.size ≤ 9223372036854775807)
theorem szSealing_some (a b c : ByteArray) (x : Int) (h0 : 0 ≤ x) (h1 : x ≤ 1048576) (ha : a.size ≤ 9223372036854775807) (hb : b.size ≤ 9223372036854775807) (hc : c.size ≤ 9223372036854775807) :
    ∃ v, laws_szSealing.f a b c x = some v ∧ (v < 0 ∨ 0 ≤ v ∧ v ≤ x) := by
  unfold laws_szSealing.f
  rw [w64 (n := x - (a.size : Int)) (by omega) (by omega)]
  by_cases h2 : x - (a.size : Int) < 0
  · rw [if_pos h2]; exact ⟨_, rfl, .inl (by omega)⟩
  · rw [if_neg h2, w64 (n := x - (a.size : Int) - (b.size : Int)) (by omega) (by omega)]
    by_cases h3 : x - (a.size : Int) - (b.size : Int) < 0
    · rw [if_pos h3]; exact ⟨_, rfl, .inl (by omega)⟩
    · rw [if_neg h3, w64 (n := x - (a.size : Int) - (b.size : Int) - (c.size : Int)) (by omega) (by omega)]
      by_cases h4 : x - (a.size : Int) - (b.size : Int) - (c.size : Int) < 0
      · rw [if_pos h4]; exact ⟨_, rfl, .inl (by omega)⟩
      · rw [if_neg h4]; exact ⟨_, rfl, .inr (by omega)⟩
theorem szSealingS_loop (l : List S46) (hw : Wf l) (hl : l.length ≤ 1048576) (d : Nat) : ∀ (k i : Nat) (x : Int), i + d = l.length → d < k → 0 ≤ x → x ≤ 1048576 →
    ∃ v, laws_szSealingS.l0 k l x (i : Int) = some v := by
  induction d with
  | zero =>
    intro k i x hi hk h0 h1
    obtain ⟨k, rfl⟩ : ∃ z, k = z + 1 := ⟨k - 1, by omega⟩
    unfold laws_szSealingS.l0
    rw [if_neg (by omega)]
    exact ⟨x, rfl⟩
  | succ d ih =>
    intro k i x hi hk h0 h1
    obtain ⟨k, rfl⟩ : ∃ z, k = z + 1 := ⟨k - 1, by omega⟩
    obtain ⟨s0, s1, s2⟩ := hw _ (rd46_mem l i (by omega))
    obtain ⟨v, e, h⟩ := szSealing_some _ _ _ x h0 h1 s0 s1 s2
    unfold laws_szSealingS.l0
    rw [if_pos (by omega), if_pos (by omega), e, ob]
    rcases h with h | ⟨h, h2⟩
    · rw [if_pos h]; exact ⟨_, rfl⟩
    · rw [if_neg (by omega), w64 (n := (i : Int) + 1) (by omega) (by omega), show (i : Int) + 1 = ((i + 1 : Nat) : Int) by omega]
      exact ih k (i + 1) _ (by omega) (by omega) (by omega) (by omega)
theorem szSealingS_some (l : List S46) (hl : l.length ≤ 9223372036854775807) (hw : Wf l) (k : Nat) (hk : l.length < k) :
    ∃ v, laws_szSealingS.f k l 1048576 = some v ∧ (v < 0 ∨ l.length ≤ 1048576) := by
  unfold laws_szSealingS.f
  rw [w64 (n := 1048576 - (l.length : Int)) (by omega) (by omega)]
  by_cases h1 : 1048576 - (l.length : Int) < 0
  · rw [if_pos h1]; exact ⟨_, rfl, .inl (by omega)⟩
  · rw [if_neg h1]
    obtain ⟨v, e⟩ := szSealingS_loop l hw (by omega) l.length k 0 (1048576 - (l.length : Int)) (by omega) hk (by omega) (by omega)
    rw [Int.natCast_zero] at e
    exact ⟨v, e, .inr (by omega)⟩
theorem toSealingS_loop (l : List S46) (hl : l.length ≤ 1048576) (d : Nat) : ∀ (k i : Nat) (rest : List S38), i + d = l.length → rest.length = d → d < k →
    laws_toSealingS.l0 k l ((List.range i).map (fun j : Nat => conv (rd_T46 l (j : Int))) ++ rest) (i : Int) = some (l.map conv) := by
  induction d with
  | zero =>
    intro k i rest hi hr hk
    obtain ⟨k, rfl⟩ : ∃ z, k = z + 1 := ⟨k - 1, by omega⟩
    obtain rfl : rest = [] := List.length_eq_zero_iff.1 hr
    obtain rfl : i = l.length := by omega
    unfold laws_toSealingS.l0
    rw [if_neg (by omega), List.append_nil, range_conv]
  | succ d ih =>
    intro k i rest hi hr hk
    obtain ⟨k, rfl⟩ : ∃ z, k = z + 1 := ⟨k - 1, by omega⟩
    have hlen : ((List.range i).map (fun j : Nat => conv (rd_T46 l (j : Int))) ++ rest).length = l.length := by
      rw [List.length_append, List.length_map, List.length_range, hr]; exact hi
    unfold laws_toSealingS.l0 laws_toSealing.f
    rw [if_pos (by omega), if_pos (by omega), ob, if_pos (by rw [hlen]; omega), w64 (n := (i : Int) + 1) (by omega) (by omega), show (i : Int) + 1 = ((i + 1 : Nat) : Int) by omega, Int.toNat_natCast]
    have ht := tab_setG (fun j : Nat => conv (rd_T46 l (j : Int))) l.length i rest (by omega) (by omega)
    have e := ih k (i + 1) rest.tail (by omega) (by rw [List.length_tail]; omega) (by omega)
    rw [← ht] at e
    exact e
theorem toSealingS_some (l : List S46) (hl : l.length ≤ 1048576) (k : Nat) (hk : l.length < k) : laws_toSealingS.f k l = some (l.map conv) := by
  unfold laws_toSealingS.f
  rw [if_pos (by omega), if_pos (by omega), Int.toNat_natCast]
  have e := toSealingS_loop l hl l.length k 0 (List.replicate l.length z38) (by omega) (by simp) hk
  rw [Int.natCast_zero, List.range_zero, List.map_nil, List.nil_append] at e
  exact e
theorem eqSealing_self (a b c : ByteArray) : laws_eqSealing.f a b c a b c = some true := by
  unfold laws_eqSealing.f
  rw [if_pos rfl, if_pos rfl, if_pos rfl]
theorem eqSealingS_loop (l : List S38) (hl : l.length ≤ 1048577) (d : Nat) : ∀ (k i : Nat), i + d = l.length → d < k → laws_eqSealingS.l0 k l l (i : Int) = some true := by
  induction d with
  | zero =>
    intro k i hi hk
    obtain ⟨k, rfl⟩ : ∃ z, k = z + 1 := ⟨k - 1, by omega⟩
    unfold laws_eqSealingS.l0
    rw [if_neg (by omega)]
  | succ d ih =>
    intro k i hi hk
    obtain ⟨k, rfl⟩ : ∃ z, k = z + 1 := ⟨k - 1, by omega⟩
    unfold laws_eqSealingS.l0
    rw [if_pos (by omega), if_pos (by omega), if_pos (by omega), eqSealing_self, ob, if_pos rfl, w64 (n := (i : Int) + 1) (by omega) (by omega), show (i : Int) + 1 = ((i + 1 : Nat) : Int) by omega]
    exact ih k (i + 1) (by omega) (by omega)
theorem eqSealingS_self (l : List S38) (hl : l.length ≤ 1048577) (k : Nat) (hk : l.length < k) : laws_eqSealingS.f k l l = some true := by
  unfold laws_eqSealingS.f
  rw [if_pos rfl]
  have := eqSealingS_loop l hl l.length k 0 (by omega) hk
  rw [Int.natCast_zero] at this
  exact this

theorem mark_loop (d : Nat) : ∀ (k : Nat) (x : Int) (s : ByteArray), 0 ≤ x → x.toNat < 10 ^ d → d ≤ 18 → s.size + d ≤ 1000 → d < k → ∃ r, laws_markText.l0 k x s = some r := by
  induction d with
  | zero =>
    intro k x s h0 hx _ hs hk
    obtain ⟨k, rfl⟩ : ∃ q, k = q + 1 := ⟨k - 1, by omega⟩
    have : x = 0 := by simp at hx; omega
    subst this
    exact ⟨_, by simp only [laws_markText.l0]; rw [if_neg (by omega), if_pos (by omega)]⟩
  | succ d ih =>
    intro k x s h0 hx h18 hs hk
    obtain ⟨k, rfl⟩ : ∃ q, k = q + 1 := ⟨k - 1, by omega⟩
    by_cases hp : x > 0
    · have hd : Int.tdiv x 10 = x / 10 := Int.tdiv_eq_ediv_of_nonneg h0
      have hle : (10 : Nat) ^ (d + 1) ≤ 10 ^ 18 := Nat.pow_le_pow_right (by decide) h18
      have h18' : (10 : Nat) ^ 18 = 1000000000000000000 := by decide
      have hps : (10 : Nat) ^ (d + 1) = 10 * 10 ^ d := by rw [Nat.pow_succ]; omega
      have hw : wrap64 (Int.tdiv x 10) = x / 10 := by rw [hd, w64 (by omega) (by omega)]
      obtain ⟨r, e⟩ := ih k (x / 10) (strOfNums [(wrap64 (48 + (Int.tmod x 10))) % 256] ++ s) (by omega) (by omega) (by omega) (by rw [ByteArray.size_append, strOf_size]; simp only [List.length_cons, List.length_nil]; omega) (by omega)
      refine ⟨r, ?_⟩
      simp only [laws_markText.l0]
      rw [if_pos hp, hw]
      simp only [Option.bind_some]
      rw [if_pos (by rw [strOf_size]; simp only [List.length_cons, List.length_nil]; omega)]
      exact e
    · exact ⟨_, by simp only [laws_markText.l0]; rw [if_neg hp, if_pos (by omega)]⟩
/-- A mark is told, and is the same at all rounds. -/
theorem mark_some (x : Int) (hx : x ≤ 999999999999999999) : ∃ r, ∀ k, 20 ≤ k → laws_markText.f k x = some r := by
  have key : ∃ r, laws_markText.f 20 x = some r := by
    unfold laws_markText.f
    split
    · exact ⟨_, rfl⟩
    · have h18' : (10 : Nat) ^ 18 = 1000000000000000000 := by decide
      exact mark_loop 18 20 x ⟨#[]⟩ (by omega) (by omega) (by omega) (by show 0 + 18 ≤ 1000; omega) (by omega)
  obtain ⟨r, e⟩ := key
  exact ⟨r, fun k hk => at_rounds (fun k => laws_markText.mono x k) hk e⟩

theorem eqStr_loop (xs : List ByteArray) (d : Nat) : ∀ (k i : Nat), i + d = xs.length → xs.length ≤ 9223372036854775806 → d < k → laws_eqStringS.l0 k xs xs (i : Int) = some true := by
  induction d with
  | zero =>
    intro k i hi _ hk
    obtain ⟨k, rfl⟩ : ∃ q, k = q + 1 := ⟨k - 1, by omega⟩
    simp only [laws_eqStringS.l0]; rw [if_neg (by omega)]
  | succ d ih =>
    intro k i hi hl hk
    obtain ⟨k, rfl⟩ : ∃ q, k = q + 1 := ⟨k - 1, by omega⟩
    simp only [laws_eqStringS.l0]
    rw [if_pos (by omega), if_pos (by omega), if_pos (by omega)]
    simp only [if_true]
    rw [w64 (by omega) (by omega), show (i : Int) + 1 = ((i + 1 : Nat) : Int) by omega]
    exact ih k (i + 1) (by omega) hl (by omega)
theorem eqStr_same (xs : List ByteArray) (hl : xs.length ≤ 9223372036854775806) (k : Nat) (hk : xs.length < k) : laws_eqStringS.f k xs xs = some true := by
  unfold laws_eqStringS.f
  rw [if_pos rfl]
  exact eqStr_loop xs xs.length k 0 (by omega) hl hk
/-- What is marked from m on is held from m on. -/
theorem markStr_loop (n : Nat) (hn : n ≤ 100000000) (d : Nat) : ∀ (k i : Nat) (xs : List ByteArray) (m : Int), xs.length = n → i + d = n → 0 ≤ m → m + d ≤ 200000000 → d + 20 < k →
    ∃ ys, laws_markStringS.l0 k xs m (i : Int) = some (m + d, ys) ∧ ys.length = n ∧ (∀ j, j < i → ys.getD j ByteArray.empty = xs.getD j ByteArray.empty) ∧
      ∀ j, i ≤ j → j < n → ∀ k, 20 ≤ k → laws_markText.f k (m + ((j - i : Nat) : Int)) = some (ys.getD j ByteArray.empty) := by
  induction d with
  | zero =>
    intro k i xs m hl hi h0 hm hk
    obtain ⟨k, rfl⟩ : ∃ q, k = q + 1 := ⟨k - 1, by omega⟩
    refine ⟨xs, ?_, hl, fun _ _ => rfl, fun j h1 h2 => by omega⟩
    simp only [laws_markStringS.l0]; rw [if_neg (by omega)]
    congr 2; omega
  | succ d ih =>
    intro k i xs m hl hi h0 hm hk
    obtain ⟨k, rfl⟩ : ∃ q, k = q + 1 := ⟨k - 1, by omega⟩
    obtain ⟨r, hr⟩ := mark_some m (by omega)
    obtain ⟨ys, e, yl, yb, ya⟩ := ih k (i + 1) (xs.set i r) (m + 1) (by simp [hl]) (by omega) (by omega) (by omega) (by omega)
    refine ⟨ys, ?_, yl, ?_, ?_⟩
    · simp only [laws_markStringS.l0]
      rw [if_pos (by omega), hr k (by omega)]
      simp only [Option.bind_some]
      rw [if_pos (by omega), w64 (by omega) (by omega), w64 (by omega) (by omega), show (i : Int) + 1 = ((i + 1 : Nat) : Int) by omega, show ((i : Int)).toNat = i from rfl, e]
      congr 2; omega
    · intro j hj
      rw [yb j (by omega), List.getD_eq_getElem?_getD, List.getD_eq_getElem?_getD, List.getElem?_set_ne (by omega)]
    · intro j h1 h2 k hk
      by_cases hj : j = i
      · subst hj
        rw [yb j (by omega), List.getD_eq_getElem?_getD, List.getElem?_set_self (by omega)]
        simpa using hr k hk
      · have := ya j (by omega) h2 k hk
        rw [show m + ((j - i : Nat) : Int) = m + 1 + ((j - (i + 1) : Nat) : Int) by omega]
        exact this
theorem heldStr_loop (n : Nat) (ys : List ByteArray) (hy : ys.length = n) (hn : n ≤ 100000000) (d : Nat) : ∀ (k i : Nat) (m : Int), i + d = n → 0 ≤ m → m + d ≤ 200000000 →
    (∀ j, i ≤ j → j < n → ∀ k, 20 ≤ k → laws_markText.f k (m + ((j - i : Nat) : Int)) = some (ys.getD j ByteArray.empty)) → d + 20 < k → laws_heldStringS.l0 k ys m (i : Int) = some (m + d) := by
  induction d with
  | zero =>
    intro k i m hi h0 hm _ hk
    obtain ⟨k, rfl⟩ : ∃ q, k = q + 1 := ⟨k - 1, by omega⟩
    simp only [laws_heldStringS.l0]; rw [if_neg (by omega)]
    congr 1; omega
  | succ d ih =>
    intro k i m hi h0 hm ha hk
    obtain ⟨k, rfl⟩ : ∃ q, k = q + 1 := ⟨k - 1, by omega⟩
    have h1 := ha i (by omega) (by omega) k (by omega)
    rw [show m + ((i - i : Nat) : Int) = m by omega] at h1
    have e := ih k (i + 1) (m + 1) (by omega) (by omega) (by omega) (fun j j1 j2 k hk => by
      have := ha j (by omega) j2 k hk
      rw [show m + 1 + ((j - (i + 1) : Nat) : Int) = m + ((j - i : Nat) : Int) by omega]
      exact this) (by omega)
    simp only [laws_heldStringS.l0]
    rw [if_pos (by omega), if_pos (by omega), h1]
    simp only [Option.bind_some]
    rw [if_pos (by unfold rdOf; rfl), w64 (by omega) (by omega), w64 (by omega) (by omega), show (i : Int) + 1 = ((i + 1 : Nat) : Int) by omega, e]
    congr 1; omega
theorem marked (xs : List ByteArray) (hn : xs.length ≤ 100000000) (k : Nat) (hk : xs.length + 20 < k) : ∃ ys, laws_markStringS.f k xs 1 = some (1 + (xs.length : Int), ys) ∧ laws_heldStringS.f k ys 1 = some (1 + (xs.length : Int)) := by
  obtain ⟨ys, e, yl, _, ya⟩ := markStr_loop xs.length hn xs.length k 0 xs 1 rfl (by omega) (by omega) (by omega) (by omega)
  have e2 := heldStr_loop xs.length ys yl hn xs.length k 0 1 (by omega) (by omega) (by omega) (fun j h1 h2 k hk => ya j h1 h2 k hk) (by omega)
  rw [Int.natCast_zero] at e e2
  exact ⟨ys, by unfold laws_markStringS.f; exact e, by unfold laws_heldStringS.f; exact e2⟩

/-- Is the text among these? -/
def hasB (l : List ByteArray) (s : ByteArray) (d i : Nat) : Bool :=
  match d with
  | 0 => false
  | d + 1 => decide ((rdOf ByteArray.empty l (i : Int)).toList = s.toList) || hasB l s d (i + 1)
theorem specHas_loop (l : List ByteArray) (s : ByteArray) (hl : l.length ≤ 9000000) (d : Nat) : ∀ (k i : Nat), i + d = l.length → d < k → spec_l09Has.l0 k l s (i : Int) = some (hasB l s d i) := by
  induction d with
  | zero =>
    intro k i hi hk
    obtain ⟨k, rfl⟩ : ∃ z, k = z + 1 := ⟨k - 1, by omega⟩
    unfold spec_l09Has.l0 hasB
    rw [if_neg (by omega)]
  | succ d ih =>
    intro k i hi hk
    obtain ⟨k, rfl⟩ : ∃ z, k = z + 1 := ⟨k - 1, by omega⟩
    unfold spec_l09Has.l0 hasB
    rw [if_pos (by omega), if_pos (by omega)]
    by_cases e : (rdOf ByteArray.empty l (i : Int)).toList = s.toList
    · rw [if_pos e, decide_eq_true e]; rfl
    · rw [if_neg e, w64 (n := (i : Int) + 1) (by omega) (by omega), show (i : Int) + 1 = ((i + 1 : Nat) : Int) by omega, ih k (i + 1) (by omega) (by omega), decide_eq_false e]; rfl
theorem implIdx_loop (l : List ByteArray) (s : ByteArray) (hl : l.length ≤ 9000000) (d : Nat) : ∀ (k i : Nat), i + d = l.length → d < k →
    ∃ x, slices_Index_string_string.l0 k l s (l.length : Int) (i : Int) = some x ∧ decide (x ≥ 0) = hasB l s d i := by
  induction d with
  | zero =>
    intro k i hi hk
    obtain ⟨k, rfl⟩ : ∃ z, k = z + 1 := ⟨k - 1, by omega⟩
    unfold slices_Index_string_string.l0 hasB
    rw [if_neg (by omega)]
    exact ⟨_, rfl, by decide⟩
  | succ d ih =>
    intro k i hi hk
    obtain ⟨k, rfl⟩ : ∃ z, k = z + 1 := ⟨k - 1, by omega⟩
    unfold slices_Index_string_string.l0 hasB
    rw [if_pos (by omega), if_pos (by omega), if_pos (by omega)]
    by_cases e : s.toList = (rdOf ByteArray.empty l (i : Int)).toList
    · rw [if_pos e, decide_eq_true e.symm]
      exact ⟨_, rfl, by simp⟩
    · rw [if_neg e, w64 (n := (i : Int) + 1) (by omega) (by omega), show (i : Int) + 1 = ((i + 1 : Nat) : Int) by omega, decide_eq_false (fun h => e h.symm), Bool.false_or]
      exact ih k (i + 1) (by omega) (by omega)
theorem specHas (l : List ByteArray) (s : ByteArray) (hl : l.length ≤ 9000000) (k : Nat) (hk : l.length < k) : spec_l09Has.f k l s = some (hasB l s l.length 0) := by
  have := specHas_loop l s hl l.length k 0 (by omega) hk
  rw [Int.natCast_zero] at this
  exact this
theorem implHas (l : List ByteArray) (s : ByteArray) (hl : l.length ≤ 9000000) (k : Nat) (hk : l.length < k) : slices_Contains_string_string.f k l s = some (hasB l s l.length 0) := by
  obtain ⟨x, e, h⟩ := implIdx_loop l s hl l.length k 0 (by omega) hk
  rw [Int.natCast_zero] at e
  unfold slices_Contains_string_string.f slices_Index_string_string.f
  rw [e, ob, h]
/-- The nonces behind i, each once. -/
def noncesL (l : List S38) : Nat → Nat → List ByteArray → List ByteArray
  | 0, _, out => out
  | d + 1, i, out => noncesL l d (i + 1) (if hasB out (rd_T38 l (i : Int)).f1 out.length 0 then out else out ++ [(rd_T38 l (i : Int)).f1])
theorem noncesL_len (l : List S38) (d : Nat) : ∀ (i : Nat) (out : List ByteArray), (noncesL l d i out).length ≤ out.length + d := by
  induction d with
  | zero => intro i out; exact Nat.le_refl _
  | succ d ih =>
    intro i out
    have := ih (i + 1) (if hasB out (rd_T38 l (i : Int)).f1 out.length 0 then out else out ++ [(rd_T38 l (i : Int)).f1])
    simp only [noncesL]
    split at this
    · rename_i h; rw [if_pos h]; omega
    · rename_i h; rw [if_neg h]; simp only [List.length_append, List.length_singleton] at this; omega
theorem nonces_loop (l : List S38) (hl : l.length ≤ 2000000) (d : Nat) : ∀ (k i : Nat) (out : List ByteArray), i + d = l.length → out.length ≤ i → l.length + d + 1 < k →
    spec_NoncesOf.l0 k l out (i : Int) = some (noncesL l d i out) ∧ impl_NoncesOf.l0 k out l (l.length : Int) (i : Int) = some (noncesL l d i out) := by
  induction d with
  | zero =>
    intro k i out hi ho hk
    obtain ⟨k, rfl⟩ : ∃ z, k = z + 1 := ⟨k - 1, by omega⟩
    constructor
    · unfold spec_NoncesOf.l0
      rw [if_neg (by omega)]; rfl
    · unfold impl_NoncesOf.l0
      rw [if_neg (by omega)]; rfl
  | succ d ih =>
    intro k i out hi ho hk
    obtain ⟨k, rfl⟩ : ∃ z, k = z + 1 := ⟨k - 1, by omega⟩
    have e1 : wrap64 ((i : Int) + 1) = ((i + 1 : Nat) : Int) := by rw [w64 (by omega) (by omega)]; omega
    obtain ⟨a1, a2⟩ := ih k (i + 1) (if hasB out (rd_T38 l (i : Int)).f1 out.length 0 then out else out ++ [(rd_T38 l (i : Int)).f1]) (by omega) (by
      split
      · omega
      · simp only [List.length_append, List.length_singleton]; omega) (by omega)
    constructor
    · unfold spec_NoncesOf.l0
      rw [if_pos (by omega), if_pos (by omega), specHas out _ (by omega) k (by omega), ob, e1]
      cases hb : hasB out (rd_T38 l (i : Int)).f1 out.length 0
      · rw [hb] at a1
        simp only [Bool.false_eq_true, if_false] at a1 ⊢
        rw [if_pos (by omega), a1]
        simp only [noncesL, hb, Bool.false_eq_true, if_false]
      · rw [hb] at a1
        simp only [if_true] at a1 ⊢
        rw [a1]
        simp only [noncesL, hb, if_true]
    · unfold impl_NoncesOf.l0
      rw [if_pos (by omega), if_pos (by omega), if_pos (by omega), implHas out _ (by omega) k (by omega), ob, e1]
      cases hb : hasB out (rd_T38 l (i : Int)).f1 out.length 0
      · rw [hb] at a2
        simp only [Bool.false_eq_true, if_false] at a2 ⊢
        rw [if_pos (by omega), a2]
        simp only [noncesL, hb, Bool.false_eq_true, if_false]
      · rw [hb] at a2
        simp only [if_true] at a2 ⊢
        rw [a2]
        simp only [noncesL, hb, if_true]
theorem nonces_both (l : List S38) (hl : l.length ≤ 2000000) (k : Nat) (hk : 2 * l.length + 1 < k) :
    spec_NoncesOf.f k l = some (noncesL l l.length 0 []) ∧ impl_NoncesOf.f k l = some (noncesL l l.length 0 []) := by
  obtain ⟨a, b⟩ := nonces_loop l hl l.length k 0 [] (by omega) (by simp) (by omega)
  rw [Int.natCast_zero] at a b
  exact ⟨a, b⟩

theorem markSealingS_loop (n : Nat) (hn : n ≤ 100000000) (d : Nat) : ∀ (k i : Nat) (l : List S38) (m : Int), l.length = n → i + d = n → 0 ≤ m → m + 3 * d ≤ 400000000 → d + 20 < k →
    ∃ r, laws_markSealingS.l0 k l m (i : Int) = some r ∧ 0 ≤ r.1 := by
  induction d with
  | zero =>
    intro k i l m hl hi h0 h1 hk
    obtain ⟨k, rfl⟩ : ∃ z, k = z + 1 := ⟨k - 1, by omega⟩
    unfold laws_markSealingS.l0
    rw [if_neg (by omega)]
    exact ⟨_, rfl, h0⟩
  | succ d ih =>
    intro k i l m hl hi h0 h1 hk
    obtain ⟨k, rfl⟩ : ∃ z, k = z + 1 := ⟨k - 1, by omega⟩
    obtain ⟨s, hs⟩ := mark_some m (by omega)
    obtain ⟨s1, hs1⟩ := mark_some (m + 1) (by omega)
    obtain ⟨s2, hs2⟩ := mark_some (m + 1 + 1) (by omega)
    unfold laws_markSealingS.l0
    rw [if_pos (by omega), hs k (by omega), ob, if_pos (by omega), w64 (n := m + 1) (by omega) (by omega), w64 (n := m + 1 + 1) (by omega) (by omega), w64 (n := m + 1 + 1 + 1) (by omega) (by omega), w64 (n := (i : Int) + 1) (by omega) (by omega), show (i : Int) + 1 = ((i + 1 : Nat) : Int) by omega]
    simp only [ob]
    rw [hs1 k (by omega)]
    simp only [ob]
    rw [hs2 k (by omega)]
    simp only [ob]
    exact ih k (i + 1) _ (m + 1 + 1 + 1) (by simp only [List.length_set]; exact hl) (by omega) (by omega) (by omega) (by omega)
theorem markSealingS_some (l : List S38) (hl : l.length ≤ 100000000) (k : Nat) (hk : l.length + 20 < k) : ∃ r, laws_markSealingS.f k l 1 = some r ∧ 0 ≤ r.1 := by
  obtain ⟨r, e, h⟩ := markSealingS_loop l.length hl l.length k 0 l 1 rfl (by omega) (by omega) (by omega) hk
  rw [Int.natCast_zero] at e
  unfold laws_markSealingS.f
  exact ⟨_, e, h⟩
theorem FnExactNoncesOf : laws_FnExactNoncesOf.Pure := by
  intro l h1 hw
  refine rounds_of (2 * l.length + 60) fun k hk => ?_
  obtain ⟨v, e, h⟩ := szSealingS_some l h1 hw k (by omega)
  unfold laws_FnExactNoncesOf.f
  rw [e]; simp only [ob]
  by_cases hv : v < 0
  · rw [if_pos hv]
  · rw [if_neg hv]
    rcases h with h | hl
    · exact absurd h hv
    have hl' : (l.map conv).length = l.length := List.length_map _
    have et := toSealingS_some l hl k (by omega)
    obtain ⟨es, ei⟩ := nonces_both (l.map conv) (by omega) k (by omega)
    have hlen := noncesL_len (l.map conv) (l.map conv).length 0 []
    rw [List.length_nil] at hlen
    obtain ⟨r, em, hr⟩ := markSealingS_some (l.map conv) (by omega) k (by omega)
    obtain ⟨k', rfl⟩ : ∃ z, k = z + 1 := ⟨k - 1, by omega⟩
    have et' := toSealingS_some l hl k' (by omega)
    obtain ⟨_, ei'⟩ := nonces_both (l.map conv) (by omega) k' (by omega)
    generalize noncesL (l.map conv) (l.map conv).length 0 [] = N at es ei ei' hlen
    obtain ⟨ys, m1, m2⟩ := marked N (by omega) k' (by omega)
    rw [et]; simp only [ob]
    rw [es]; simp only [ob]
    rw [ei]; simp only [ob]
    rw [eqStr_same N (by omega) _ (by omega)]; simp only [ob, if_true]
    rw [eqSealingS_self (l.map conv) (by omega) _ (by omega)]; simp only [ob, if_true]
    rw [em]; simp only [ob]
    rw [if_neg (by omega)]
    unfold laws_FnExactNoncesOf.j0
    simp only [Bool.not_true, Bool.false_eq_true, if_false]
    rw [m1]; simp only [ob]
    rw [m2]; simp only [ob]
    rw [if_neg (by omega), if_pos trivial, et']; simp only [ob]
    rw [ei']; simp only [ob]
    rw [eqStr_same N (by omega) _ (by omega)]; simp only [ob, if_true]
    rw [if_neg (by omega)]
end Go.Proofs.Ytcmemppkllgkmaa.Pure
