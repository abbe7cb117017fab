/- The law FnExactPartsOf answers true at every string; no condition. -/
import Derived.Test.YtmlleefmkmelmaaDoorMFnExactPartsOfx2
namespace Go.Proofs.YtmlleefmkmelmaaDoor.Pure
open Go.RowKit Go.Proofs.YtmlleefmkmelmaaDoor.PFnExactPartsOf Go.Proofs.YtmlleefmkmelmaaDoorW.PrintWords Go.Proofs.YtmlleefmkmelmaaDoorW.PrintLast Go.Proofs.YtmlleefmkmelmaaDoorW.PrintMore
set_option linter.unusedVariables false
set_option linter.unusedSimpArgs false

theorem w64 {n : Int} (h0 : -9223372036854775808 ≤ n) (h1 : n ≤ 9223372036854775807) : wrap64 n = n := by
  unfold wrap64; omega
theorem bits_nat3 (k : IntKind) (j : Nat) (hj : j ≤ k.bits) (hk : ∀ n : Int, 0 ≤ n → n < 2 ^ j → k.wrap n = n) (a b : Nat) (ha : a < 2 ^ j) (hb : b < 2 ^ j) :
    Go.bits .and k a b = ((a &&& b : Nat) : Int) ∧ Go.bits .or k a b = ((a ||| b : Nat) : Int) ∧ Go.bits .xor k a b = ((a ^^^ b : Nat) : Int) := by
  have hp : 2 ^ j ≤ 2 ^ k.bits := Nat.pow_le_pow_right (by decide) hj
  have ha' : a % 2 ^ k.bits = a := Nat.mod_eq_of_lt (Nat.lt_of_lt_of_le ha hp)
  have hb' : b % 2 ^ k.bits = b := Nat.mod_eq_of_lt (Nat.lt_of_lt_of_le hb hp)
  have cast : ∀ n : Nat, n < 2 ^ j → ((n : Nat) : Int) < 2 ^ j := fun n h => by exact_mod_cast h
  refine ⟨?_, ?_, ?_⟩
  · simp only [Go.bits, BitVec.ofInt_natCast, BitVec.toNat_and, BitVec.toNat_ofNat, ha', hb']
    exact hk _ (Int.natCast_nonneg _) (cast _ (Nat.and_lt_two_pow _ hb))
  · simp only [Go.bits, BitVec.ofInt_natCast, BitVec.toNat_or, BitVec.toNat_ofNat, ha', hb']
    exact hk _ (Int.natCast_nonneg _) (cast _ (Nat.or_lt_two_pow ha hb))
  · simp only [Go.bits, BitVec.ofInt_natCast, BitVec.toNat_xor, BitVec.toNat_ofNat, ha', hb']
    exact hk _ (Int.natCast_nonneg _) (cast _ (Nat.xor_lt_two_pow ha hb))
theorem wr_i64 (n : Int) (h0 : 0 ≤ n) (h1 : n < 2 ^ 62) : IntKind.i64.wrap n = n := by rw [IntKind.wrap_i64]; omega
theorem wr_u64 (n : Int) (h0 : 0 ≤ n) (h1 : n < 2 ^ 64) : IntKind.u64.wrap n = n := by
  simp [IntKind.wrap, IntKind.bits, IntKind.signed]; omega
theorem or_i64 (a b : Nat) (ha : a < 2 ^ 62) (hb : b < 2 ^ 62) : Go.bits .or .i64 a b = ((a ||| b : Nat) : Int) := (bits_nat3 .i64 62 (by decide) wr_i64 a b ha hb).2.1
theorem xor_i64 (a b : Nat) (ha : a < 2 ^ 62) (hb : b < 2 ^ 62) : Go.bits .xor .i64 a b = ((a ^^^ b : Nat) : Int) := (bits_nat3 .i64 62 (by decide) wr_i64 a b ha hb).2.2
theorem and_i64 (a b : Nat) (ha : a < 2 ^ 62) (hb : b < 2 ^ 62) : Go.bits .and .i64 a b = ((a &&& b : Nat) : Int) := (bits_nat3 .i64 62 (by decide) wr_i64 a b ha hb).1
theorem xor_u8 (a b : Nat) (ha : a < 2 ^ 8) (hb : b < 2 ^ 8) : Go.bits .xor .u8 a b = ((a ^^^ b : Nat) : Int) := (bits_nat3 .u8 8 (by decide) wraps_u8 a b ha hb).2.2
/-- Byte i of s as a natural number. -/
def bn (s : ByteArray) (i : Nat) : Nat := (s.data.toList.getD i 0).toNat
theorem bn_lt (s : ByteArray) (i : Nat) : bn s i < 256 := (s.data.toList.getD i 0).toNat_lt
theorem bt_bn (s : ByteArray) (i : Nat) : bt s (i : Int) = (bn s i : Int) := by
  unfold bt bn
  split
  · rename_i h
    have h' : i < s.data.toList.length := by rw [data_length]; simpa using h
    rw [List.getD_eq_getElem?_getD, List.getElem?_eq_getElem h']; rfl
  · rename_i h
    have h' : s.data.toList.length ≤ i := by rw [data_length]; simpa using h
    rw [List.getD_eq_getElem?_getD, List.getElem?_eq_none h']; rfl
theorem bt_bn' (s : ByteArray) (i : Int) (h : 0 ≤ i) : bt s i = (bn s i.toNat : Int) := by
  obtain ⟨n, rfl⟩ := Int.eq_ofNat_of_zero_le h
  exact bt_bn s n
theorem toList_eq' (s : ByteArray) : s.toList = s.data.toList := ByteArray.toList_eq s
/-- Two strings of one length are one where their bytes are. -/
theorem bytes_ext {s t : ByteArray} (hl : s.size = t.size) (h : ∀ i, i < s.size → bn s i = bn t i) : s.data.toList = t.data.toList := by
  apply List.ext_getElem (by rw [data_length, data_length, hl])
  intro i h1 h2
  have := h i (by rw [← data_length]; exact h1)
  unfold bn at this
  rw [List.getD_eq_getElem?_getD, List.getD_eq_getElem?_getD, List.getElem?_eq_getElem h1, List.getElem?_eq_getElem h2] at this
  exact UInt8.toNat_inj.1 this
theorem strOf_data (xs : List Int) : (strOfNums xs).data.toList = xs.map fun n => UInt8.ofNat n.toNat := by simp [strOfNums]
theorem strOf_toList (xs : List Int) : (strOfNums xs).toList = xs.map fun n => UInt8.ofNat n.toNat := by rw [toList_eq', strOf_data]
theorem strOf_size (xs : List Int) : (strOfNums xs).size = xs.length := by rw [← data_length, strOf_data, List.length_map]
/-- A list of n numbers written cell by cell is the list of what was written. -/
theorem tab_set (f : Nat → Int) (n i : Nat) (rest : List Int) (h : i < n) (hr : rest.length = n - i) :
    (((List.range i).map f) ++ rest).set i (f i) = ((List.range (i + 1)).map f) ++ rest.tail := by
  cases rest with
  | nil => simp at hr; omega
  | cons a rest =>
    rw [List.set_append_right _ _ (by simp)]
    simp [List.range_succ]
theorem xor_zero_iff {a b : Nat} : a ^^^ b = 0 ↔ a = b := by
  constructor
  · intro h
    have := congrArg (· ^^^ b) h
    simpa [Nat.xor_assoc] using this
  · rintro rfl; exact Nat.xor_self a
theorem rounds_of {P : Nat → Prop} (n : Nat) (h : ∀ k, n ≤ k → P k) : ∃ k, P k := ⟨n, h n (Nat.le_refl n)⟩
/-- As Option.bind_some, but not by reduction: the kernel is not led into what follows. -/
theorem ob {α β : Type} (a : α) (f : α → Option β) : (some a).bind f = f a := by
  cases h : f a with
  | none => rw [Option.bind_some, h]
  | some b => rw [Option.bind_some, h]

theorem mark_loop (d : Nat) : ∀ (k : Nat) (x : Int) (s : ByteArray), 0 ≤ x → x.toNat < 10 ^ d → d ≤ 18 → s.size + d ≤ 1000 → d < k → ∃ r, laws_markText.l0 k x s = some r := by
  induction d with
  | zero =>
    intro k x s h0 hx _ hs hk
    obtain ⟨k, rfl⟩ : ∃ q, k = q + 1 := ⟨k - 1, by omega⟩
    have : x = 0 := by simp at hx; omega
    subst this
    exact ⟨_, by simp only [laws_markText.l0]; rw [if_neg (by omega), if_pos (by omega)]⟩
  | succ d ih =>
    intro k x s h0 hx h18 hs hk
    obtain ⟨k, rfl⟩ : ∃ q, k = q + 1 := ⟨k - 1, by omega⟩
    by_cases hp : x > 0
    · have hd : Int.tdiv x 10 = x / 10 := Int.tdiv_eq_ediv_of_nonneg h0
      have hle : (10 : Nat) ^ (d + 1) ≤ 10 ^ 18 := Nat.pow_le_pow_right (by decide) h18
      have h18' : (10 : Nat) ^ 18 = 1000000000000000000 := by decide
      have hps : (10 : Nat) ^ (d + 1) = 10 * 10 ^ d := by rw [Nat.pow_succ]; omega
      have hw : wrap64 (Int.tdiv x 10) = x / 10 := by rw [hd, w64 (by omega) (by omega)]
      obtain ⟨r, e⟩ := ih k (x / 10) (strOfNums [(wrap64 (48 + (Int.tmod x 10))) % 256] ++ s) (by omega) (by omega) (by omega) (by rw [ByteArray.size_append, strOf_size]; simp only [List.length_cons, List.length_nil]; omega) (by omega)
      refine ⟨r, ?_⟩
      simp only [laws_markText.l0]
      rw [if_pos hp, hw]
      simp only [Option.bind_some]
      rw [if_pos (by rw [strOf_size]; simp only [List.length_cons, List.length_nil]; omega)]
      exact e
    · exact ⟨_, by simp only [laws_markText.l0]; rw [if_neg hp, if_pos (by omega)]⟩
/-- A mark is told, and is the same at all rounds. -/
theorem mark_some (x : Int) (hx : x ≤ 999999999999999999) : ∃ r, ∀ k, 20 ≤ k → laws_markText.f k x = some r := by
  have key : ∃ r, laws_markText.f 20 x = some r := by
    unfold laws_markText.f
    split
    · exact ⟨_, rfl⟩
    · have h18' : (10 : Nat) ^ 18 = 1000000000000000000 := by decide
      exact mark_loop 18 20 x ⟨#[]⟩ (by omega) (by omega) (by omega) (by show 0 + 18 ≤ 1000; omega) (by omega)
  obtain ⟨r, e⟩ := key
  exact ⟨r, fun k hk => at_rounds (fun k => laws_markText.mono x k) hk e⟩

theorem eqStr_loop (xs : List ByteArray) (d : Nat) : ∀ (k i : Nat), i + d = xs.length → xs.length ≤ 9223372036854775806 → d < k → laws_eqStringS.l0 k xs xs (i : Int) = some true := by
  induction d with
  | zero =>
    intro k i hi _ hk
    obtain ⟨k, rfl⟩ : ∃ q, k = q + 1 := ⟨k - 1, by omega⟩
    simp only [laws_eqStringS.l0]; rw [if_neg (by omega)]
  | succ d ih =>
    intro k i hi hl hk
    obtain ⟨k, rfl⟩ : ∃ q, k = q + 1 := ⟨k - 1, by omega⟩
    simp only [laws_eqStringS.l0]
    rw [if_pos (by omega), if_pos (by omega), if_pos (by omega)]
    simp only [if_true]
    rw [w64 (by omega) (by omega), show (i : Int) + 1 = ((i + 1 : Nat) : Int) by omega]
    exact ih k (i + 1) (by omega) hl (by omega)
theorem eqStr_same (xs : List ByteArray) (hl : xs.length ≤ 9223372036854775806) (k : Nat) (hk : xs.length < k) : laws_eqStringS.f k xs xs = some true := by
  unfold laws_eqStringS.f
  rw [if_pos rfl]
  exact eqStr_loop xs xs.length k 0 (by omega) hl hk
/-- What is marked from m on is held from m on. -/
theorem markStr_loop (n : Nat) (hn : n ≤ 100000000) (d : Nat) : ∀ (k i : Nat) (xs : List ByteArray) (m : Int), xs.length = n → i + d = n → 0 ≤ m → m + d ≤ 200000000 → d + 20 < k →
    ∃ ys, laws_markStringS.l0 k xs m (i : Int) = some (m + d, ys) ∧ ys.length = n ∧ (∀ j, j < i → ys.getD j ByteArray.empty = xs.getD j ByteArray.empty) ∧
      ∀ j, i ≤ j → j < n → ∀ k, 20 ≤ k → laws_markText.f k (m + ((j - i : Nat) : Int)) = some (ys.getD j ByteArray.empty) := by
  induction d with
  | zero =>
    intro k i xs m hl hi h0 hm hk
    obtain ⟨k, rfl⟩ : ∃ q, k = q + 1 := ⟨k - 1, by omega⟩
    refine ⟨xs, ?_, hl, fun _ _ => rfl, fun j h1 h2 => by omega⟩
    simp only [laws_markStringS.l0]; rw [if_neg (by omega)]
    congr 2; omega
  | succ d ih =>
    intro k i xs m hl hi h0 hm hk
    obtain ⟨k, rfl⟩ : ∃ q, k = q + 1 := ⟨k - 1, by omega⟩
    obtain ⟨r, hr⟩ := mark_some m (by omega)
    obtain ⟨ys, e, yl, yb, ya⟩ := ih k (i + 1) (xs.set i r) (m + 1) (by simp [hl]) (by omega) (by omega) (by omega) (by omega)
    refine ⟨ys, ?_, yl, ?_, ?_⟩
    · simp only [laws_markStringS.l0]
      rw [if_pos (by omega), hr k (by omega)]
      simp only [Option.bind_some]
      rw [if_pos (by omega), w64 (by omega) (by omega), w64 (by omega) (by omega), show (i : Int) + 1 = ((i + 1 : Nat) : Int) by omega, show ((i : Int)).toNat = i from rfl, e]
      congr 2; omega
    · intro j hj
      rw [yb j (by omega), List.getD_eq_getElem?_getD, List.getD_eq_getElem?_getD, List.getElem?_set_ne (by omega)]
    · intro j h1 h2 k hk
      by_cases hj : j = i
      · subst hj
        rw [yb j (by omega), List.getD_eq_getElem?_getD, List.getElem?_set_self (by omega)]
        simpa using hr k hk
      · have := ya j (by omega) h2 k hk
        rw [show m + ((j - i : Nat) : Int) = m + 1 + ((j - (i + 1) : Nat) : Int) by omega]
        exact this
theorem heldStr_loop (n : Nat) (ys : List ByteArray) (hy : ys.length = n) (hn : n ≤ 100000000) (d : Nat) : ∀ (k i : Nat) (m : Int), i + d = n → 0 ≤ m → m + d ≤ 200000000 →
    (∀ j, i ≤ j → j < n → ∀ k, 20 ≤ k → laws_markText.f k (m + ((j - i : Nat) : Int)) = some (ys.getD j ByteArray.empty)) → d + 20 < k → laws_heldStringS.l0 k ys m (i : Int) = some (m + d) := by
  induction d with
  | zero =>
    intro k i m hi h0 hm _ hk
    obtain ⟨k, rfl⟩ : ∃ q, k = q + 1 := ⟨k - 1, by omega⟩
    simp only [laws_heldStringS.l0]; rw [if_neg (by omega)]
    congr 1; omega
  | succ d ih =>
    intro k i m hi h0 hm ha hk
    obtain ⟨k, rfl⟩ : ∃ q, k = q + 1 := ⟨k - 1, by omega⟩
    have h1 := ha i (by omega) (by omega) k (by omega)
    rw [show m + ((i - i : Nat) : Int) = m by omega] at h1
    have e := ih k (i + 1) (m + 1) (by omega) (by omega) (by omega) (fun j j1 j2 k hk => by
      have := ha j (by omega) j2 k hk
      rw [show m + 1 + ((j - (i + 1) : Nat) : Int) = m + ((j - i : Nat) : Int) by omega]
      exact this) (by omega)
    simp only [laws_heldStringS.l0]
    rw [if_pos (by omega), if_pos (by omega), h1]
    simp only [Option.bind_some]
    rw [if_pos (by unfold rdOf; rfl), w64 (by omega) (by omega), w64 (by omega) (by omega), show (i : Int) + 1 = ((i + 1 : Nat) : Int) by omega, e]
    congr 1; omega
theorem marked (xs : List ByteArray) (hn : xs.length ≤ 100000000) (k : Nat) (hk : xs.length + 20 < k) : ∃ ys, laws_markStringS.f k xs 1 = some (1 + (xs.length : Int), ys) ∧ laws_heldStringS.f k ys 1 = some (1 + (xs.length : Int)) := by
  obtain ⟨ys, e, yl, _, ya⟩ := markStr_loop xs.length hn xs.length k 0 xs 1 rfl (by omega) (by omega) (by omega) (by omega)
  have e2 := heldStr_loop xs.length ys yl hn xs.length k 0 1 (by omega) (by omega) (by omega) (fun j h1 h2 k hk => ya j h1 h2 k hk) (by omega)
  rw [Int.natCast_zero] at e e2
  exact ⟨ys, by unfold laws_markStringS.f; exact e, by unfold laws_heldStringS.f; exact e2⟩

def allB (n : Nat) (p : Nat → Bool) : Bool := (List.range n).all p
theorem of_all {n : Nat} {p : Nat → Bool} (h : allB n p = true) (a : Nat) (ha : a < n) : p a = true := by
  unfold allB at h
  rw [List.all_eq_true] at h
  exact h a (List.mem_range.2 ha)
theorem sp_ok : allB 256 (fun n => let b := UInt8.ofNat n; !(okB b) || (Lib.isSp b == decide (b.toNat = 32))) = true := by decide +kernel
theorem isSp_of (b : UInt8) (h : okB b = true) : Lib.isSp b = decide (b.toNat = 32) := by
  have e := of_all sp_ok b.toNat b.toNat_lt
  simp only [UInt8.ofNat_toNat, h] at e
  simpa using e
def finP (r : List ByteArray) : List ByteArray × Bool := if r.length ≤ 12 then (r, true) else ([], false)
theorem extract_mk (a : ByteArray) (i j : Nat) : a.extract i j = mkB ((a.data.toList.drop i).take (j - i)) := by
  have h := Lib.extract_toList a i j
  rw [ByteArray.toList_eq] at h
  unfold mkB
  rw [← h]
theorem exit_l0 (a : ByteArray) (k : Nat) (r : List ByteArray) (x : Int) (hk : 0 < k) : spec_PartsOf.l0 k a r x ((a.size + 1 : Nat) : Int) = some (finP r) := by
  obtain ⟨k, rfl⟩ : ∃ q, k = q + 1 := ⟨k - 1, by omega⟩
  simp only [spec_PartsOf.l0]
  rw [if_neg (by omega)]
  unfold finP
  by_cases c : r.length ≤ 12
  · rw [if_neg (by omega), if_pos c]
  · rw [if_pos (by omega), if_neg c]
theorem take_ne (l : List UInt8) (b i : Nat) (h : b < i) (hi : i ≤ l.length) : ((l.drop b).take (i - b)).isEmpty = false := by
  rw [List.isEmpty_eq_false_iff]
  intro e
  have := congrArg List.length e
  simp at this
  omega
theorem parts_loop (a : ByteArray) (hs : a.size ≤ 600) (d : Nat) : ∀ (k b i : Nat) (out : List ByteArray), i + d = a.size → b ≤ i → out.length ≤ i → 3 * d + 10 < k →
    spec_PartsOf.l0 k a out (b : Int) (i : Int) = some (if (a.data.toList.drop i).all okB then finP (out ++ (Lib.fieldsGo ((a.data.toList.drop b).take (i - b)) (a.data.toList.drop i)).map mkB) else ([], false)) := by
  have hn : a.data.toList.length = a.size := rfl
  induction d with
  | zero =>
    intro k b i out hi hb ho hk
    obtain ⟨k, rfl⟩ : ∃ q, k = q + 1 := ⟨k - 1, by omega⟩
    simp only [spec_PartsOf.l0]
    rw [if_pos (by omega), if_neg (by omega)]
    obtain ⟨k, rfl⟩ : ∃ q, k = q + 1 := ⟨k - 1, by omega⟩
    simp only [spec_PartsOf.j1]
    rw [if_neg (by decide), if_neg (by omega)]
    obtain ⟨k, rfl⟩ : ∃ q, k = q + 1 := ⟨k - 1, by omega⟩
    simp only [spec_PartsOf.j2]
    rw [if_neg (by decide), List.drop_of_length_le (show a.data.toList.length ≤ i by omega)]
    have wi : wrap64 ((i : Int) + 1) = ((a.size + 1 : Nat) : Int) := by rw [w64 (by omega) (by omega)]; omega
    rw [wi]
    simp only [List.all_nil, if_true, Lib.fieldsGo]
    by_cases c : b < i
    · rw [if_pos (by omega), if_pos (by omega), if_pos (by omega), if_pos (by omega), if_pos (by omega), exit_l0 a k _ _ (by omega), take_ne _ b i c (by omega)]
      simp [extract_mk]
    · obtain rfl : b = i := by omega
      rw [if_neg (by omega), exit_l0 a k _ _ (by omega)]
      simp
  | succ d ih =>
    intro k b i out hi hb ho hk
    have hil : i < a.data.toList.length := by omega
    have hbt := bt_byte a i hil
    have hcur : (a.data.toList.drop b).take (i + 1 - b) = (a.data.toList.drop b).take (i - b) ++ [a.data.toList[i]] := by
      rw [show i + 1 - b = (i - b) + 1 by omega, List.take_add_one]
      congr 1
      rw [List.getElem?_drop, show b + (i - b) = i by omega, List.getElem?_eq_getElem hil]; rfl
    have e1 := fun (b : Nat) (out : List ByteArray) (k : Nat) => ih k b (i + 1) out (by omega)
    have htk := take_ne a.data.toList b i
    rw [List.drop_eq_getElem_cons hil]
    generalize hc : a.data.toList[i] = c at *
    have hlt := c.toNat_lt
    obtain ⟨k, rfl⟩ : ∃ q, k = q + 1 := ⟨k - 1, by omega⟩
    simp only [spec_PartsOf.l0]
    rw [if_pos (by omega), if_pos (by omega), if_pos (by omega), hbt]
    obtain ⟨k, rfl⟩ : ∃ q, k = q + 1 := ⟨k - 1, by omega⟩
    have wi : wrap64 ((i : Int) + 1) = ((i + 1 : Nat) : Int) := by rw [w64 (by omega) (by omega)]; omega
    by_cases c1 : c.toNat < 32
    · have ho0 : okB c = false := by rw [okB, decide_eq_false (by omega)]; rfl
      have hF : (c :: a.data.toList.drop (i + 1)).all okB = false := by rw [List.all_cons, ho0]; rfl
      rw [if_pos (by omega), if_neg (by rw [hF]; decide)]
      simp [spec_PartsOf.j1]
    · rw [if_neg (by omega)]
      by_cases c2 : 126 < c.toNat
      · have ho0 : okB c = false := by rw [okB, decide_eq_false (show ¬ c.toNat ≤ 126 by omega), Bool.and_false]
        have hF : (c :: a.data.toList.drop (i + 1)).all okB = false := by rw [List.all_cons, ho0]; rfl
        rw [decide_eq_true (show (c.toNat : Int) > 126 by omega), if_neg (by rw [hF]; decide)]
        simp [spec_PartsOf.j1]
      · have ho1 : okB c = true := by rw [okB, decide_eq_true (show 32 ≤ c.toNat by omega), decide_eq_true (show c.toNat ≤ 126 by omega)]; rfl
        have hsp := isSp_of c ho1
        have hT : (c :: a.data.toList.drop (i + 1)).all okB = (a.data.toList.drop (i + 1)).all okB := by rw [List.all_cons, ho1]; rfl
        rw [decide_eq_false (show ¬ (c.toNat : Int) > 126 by omega)]
        simp only [spec_PartsOf.j1, hT]
        rw [if_neg (by decide), if_pos (by omega), if_pos (by omega), hbt]
        obtain ⟨k, rfl⟩ : ∃ q, k = q + 1 := ⟨k - 1, by omega⟩
        simp only [spec_PartsOf.j2, Lib.fieldsGo]
        rw [wi]
        by_cases c3 : c.toNat = 32
        · have hb0 : ((c.toNat : Int) != 32) = false := by rw [bne_eq_false_iff_eq]; omega
          rw [hb0, if_neg (by decide), hsp, decide_eq_true c3, if_pos rfl]
          by_cases c4 : b < i
          · rw [if_pos (by omega), if_pos (by omega), if_pos (by omega), if_pos (by omega), if_pos (by omega), htk c4 (by omega)]
            have e := e1 (i + 1) (out ++ [a.extract ((b : Int)).toNat ((i : Int)).toNat]) k (Nat.le_refl _) (by simp; omega) (by omega)
            rw [e]
            simp [extract_mk]
          · obtain rfl : b = i := by omega
            rw [if_neg (by omega)]
            have e := e1 (b + 1) out k (Nat.le_refl _) (by omega) (by omega)
            rw [e]
            simp
        · have hb0 : ((c.toNat : Int) != 32) = true := by rw [bne_iff_ne]; omega
          rw [hb0, if_pos rfl, hsp, decide_eq_false c3]
          have e := e1 b out k (by omega) (by omega) (by omega)
          rw [e, hcur]
          simp
theorem spec_parts (a : ByteArray) (k : Nat) (hk : 3 * a.size + 10 < k ∨ 2000 < k) (hk2 : 2000 < k) : spec_PartsOf.f k a = some (impl_PartsOf.w a) := by
  unfold spec_PartsOf.f impl_PartsOf.w
  simp only [Option.bind_some]
  by_cases h : a.size ≤ 600
  · rw [if_neg (by omega), if_pos h]
    have e := parts_loop a h a.size k 0 0 [] (by omega) (Nat.le_refl _) (Nat.le_refl _) (by omega)
    rw [Int.natCast_zero] at e
    rw [e]
    simp only [List.drop_zero, Nat.sub_zero, List.take_zero, List.nil_append]
    refine congrArg some ?_
    unfold finP Lib.fields
    simp only [List.length_map]
  · rw [if_pos (by omega), if_neg h]
theorem w_len (a : ByteArray) : (impl_PartsOf.w a).1.length ≤ 12 := by
  unfold impl_PartsOf.w
  split
  · split
    · split
      · simpa using by assumption
      · simp
    · simp
  · simp
theorem FnExactPartsOf : laws_FnExactPartsOf.Pure := by
  intro s _
  refine rounds_of 20000 fun k hk => ?_
  have hl := w_len s
  unfold laws_FnExactPartsOf.f
  split
  · rfl
  · rw [spec_parts s k (.inr (by omega)) (by omega)]
    unfold impl_PartsOf.f
    simp only [Option.bind_some]
    obtain ⟨k, rfl⟩ : ∃ q, k = q + 2 := ⟨k - 2, by omega⟩
    obtain ⟨ys, m1', m2'⟩ := marked (impl_PartsOf.w s).1 (by omega) k (by omega)
    have m1 : laws_markStringS.f (k + 1) (impl_PartsOf.w s).1 1 = _ := laws_markStringS.mono _ _ k _ m1'
    have m2 : laws_heldStringS.f (k + 1) ys 1 = _ := laws_heldStringS.mono _ _ k _ m2'
    rw [eqStr_same _ (by omega) _ (by omega)]
    simp only [Option.bind_some, if_true]
    have hb : ((impl_PartsOf.w s).2 != (impl_PartsOf.w s).2) = false := by simp
    rw [hb]
    simp only [laws_FnExactPartsOf.j0]
    rw [if_neg (by decide), m1]
    simp only [Option.bind_some]
    rw [m2]
    simp only [Option.bind_some]
    rw [if_neg (by omega), if_pos trivial]
    unfold impl_PartsOf.f
    simp only [Option.bind_some]
    rw [eqStr_same _ (by omega) _ (by omega)]
    simp only [Option.bind_some]
    rw [if_pos trivial, hb]
    simp only [laws_FnExactPartsOf.j1]
    rw [if_neg (by decide)]
    rw [m2']
    simp only [Option.bind_some]
    rw [if_neg (by omega), if_pos trivial]
end Go.Proofs.YtmlleefmkmelmaaDoor.Pure
