/- The law FnFigures answers true at every draw: a text comes back from Hex, a number from Decimal, and what is brought between two numbers is between them and stays; no condition. -/
import Derived.Test.YtmlleefmkmelmaaDoorMFnFiguresx4
import Derived.Lib.ItoaLen
namespace Go.Proofs.YtmlleefmkmelmaaDoor.Pure
open Go.RowKit Go.Proofs.YtmlleefmkmelmaaDoor.PFnFigures Go.Proofs.YtmlleefmkmelmaaDoorW.PrintWords Go.Proofs.YtmlleefmkmelmaaDoorW.PrintLast Go.Proofs.YtmlleefmkmelmaaDoorW.PrintMore
set_option linter.unusedVariables false
set_option linter.unusedSimpArgs false

theorem w64 {n : Int} (h0 : -9223372036854775808 ≤ n) (h1 : n ≤ 9223372036854775807) : wrap64 n = n := by
  unfold wrap64; omega
theorem bits_nat3 (k : IntKind) (j : Nat) (hj : j ≤ k.bits) (hk : ∀ n : Int, 0 ≤ n → n < 2 ^ j → k.wrap n = n) (a b : Nat) (ha : a < 2 ^ j) (hb : b < 2 ^ j) :
    Go.bits .and k a b = ((a &&& b : Nat) : Int) ∧ Go.bits .or k a b = ((a ||| b : Nat) : Int) ∧ Go.bits .xor k a b = ((a ^^^ b : Nat) : Int) := by
  have hp : 2 ^ j ≤ 2 ^ k.bits := Nat.pow_le_pow_right (by decide) hj
  have ha' : a % 2 ^ k.bits = a := Nat.mod_eq_of_lt (Nat.lt_of_lt_of_le ha hp)
  have hb' : b % 2 ^ k.bits = b := Nat.mod_eq_of_lt (Nat.lt_of_lt_of_le hb hp)
  have cast : ∀ n : Nat, n < 2 ^ j → ((n : Nat) : Int) < 2 ^ j := fun n h => by exact_mod_cast h
  refine ⟨?_, ?_, ?_⟩
  · simp only [Go.bits, BitVec.ofInt_natCast, BitVec.toNat_and, BitVec.toNat_ofNat, ha', hb']
    exact hk _ (Int.natCast_nonneg _) (cast _ (Nat.and_lt_two_pow _ hb))
  · simp only [Go.bits, BitVec.ofInt_natCast, BitVec.toNat_or, BitVec.toNat_ofNat, ha', hb']
    exact hk _ (Int.natCast_nonneg _) (cast _ (Nat.or_lt_two_pow ha hb))
  · simp only [Go.bits, BitVec.ofInt_natCast, BitVec.toNat_xor, BitVec.toNat_ofNat, ha', hb']
    exact hk _ (Int.natCast_nonneg _) (cast _ (Nat.xor_lt_two_pow ha hb))
theorem wr_i64 (n : Int) (h0 : 0 ≤ n) (h1 : n < 2 ^ 62) : IntKind.i64.wrap n = n := by rw [IntKind.wrap_i64]; omega
theorem wr_u64 (n : Int) (h0 : 0 ≤ n) (h1 : n < 2 ^ 64) : IntKind.u64.wrap n = n := by
  simp [IntKind.wrap, IntKind.bits, IntKind.signed]; omega
theorem or_i64 (a b : Nat) (ha : a < 2 ^ 62) (hb : b < 2 ^ 62) : Go.bits .or .i64 a b = ((a ||| b : Nat) : Int) := (bits_nat3 .i64 62 (by decide) wr_i64 a b ha hb).2.1
theorem xor_i64 (a b : Nat) (ha : a < 2 ^ 62) (hb : b < 2 ^ 62) : Go.bits .xor .i64 a b = ((a ^^^ b : Nat) : Int) := (bits_nat3 .i64 62 (by decide) wr_i64 a b ha hb).2.2
theorem and_i64 (a b : Nat) (ha : a < 2 ^ 62) (hb : b < 2 ^ 62) : Go.bits .and .i64 a b = ((a &&& b : Nat) : Int) := (bits_nat3 .i64 62 (by decide) wr_i64 a b ha hb).1
theorem xor_u8 (a b : Nat) (ha : a < 2 ^ 8) (hb : b < 2 ^ 8) : Go.bits .xor .u8 a b = ((a ^^^ b : Nat) : Int) := (bits_nat3 .u8 8 (by decide) wraps_u8 a b ha hb).2.2
/-- Byte i of s as a natural number. -/
def bn (s : ByteArray) (i : Nat) : Nat := (s.data.toList.getD i 0).toNat
theorem bn_lt (s : ByteArray) (i : Nat) : bn s i < 256 := (s.data.toList.getD i 0).toNat_lt
theorem bt_bn (s : ByteArray) (i : Nat) : bt s (i : Int) = (bn s i : Int) := by
  unfold bt bn
  split
  · rename_i h
    have h' : i < s.data.toList.length := by rw [data_length]; simpa using h
    rw [List.getD_eq_getElem?_getD, List.getElem?_eq_getElem h']; rfl
  · rename_i h
    have h' : s.data.toList.length ≤ i := by rw [data_length]; simpa using h
    rw [List.getD_eq_getElem?_getD, List.getElem?_eq_none h']; rfl
theorem bt_bn' (s : ByteArray) (i : Int) (h : 0 ≤ i) : bt s i = (bn s i.toNat : Int) := by
  obtain ⟨n, rfl⟩ := Int.eq_ofNat_of_zero_le h
  exact bt_bn s n
theorem toList_eq' (s : ByteArray) : s.toList = s.data.toList := ByteArray.toList_eq s
/-- Two strings of one length are one where their bytes are. -/
theorem bytes_ext {s t : ByteArray} (hl : s.size = t.size) (h : ∀ i, i < s.size → bn s i = bn t i) : s.data.toList = t.data.toList := by
  apply List.ext_getElem (by rw [data_length, data_length, hl])
  intro i h1 h2
  have := h i (by rw [← data_length]; exact h1)
  unfold bn at this
  rw [List.getD_eq_getElem?_getD, List.getD_eq_getElem?_getD, List.getElem?_eq_getElem h1, List.getElem?_eq_getElem h2] at this
  exact UInt8.toNat_inj.1 this
theorem strOf_data (xs : List Int) : (strOfNums xs).data.toList = xs.map fun n => UInt8.ofNat n.toNat := by simp [strOfNums]
theorem strOf_toList (xs : List Int) : (strOfNums xs).toList = xs.map fun n => UInt8.ofNat n.toNat := by rw [toList_eq', strOf_data]
theorem strOf_size (xs : List Int) : (strOfNums xs).size = xs.length := by rw [← data_length, strOf_data, List.length_map]
/-- A list of n numbers written cell by cell is the list of what was written. -/
theorem tab_set (f : Nat → Int) (n i : Nat) (rest : List Int) (h : i < n) (hr : rest.length = n - i) :
    (((List.range i).map f) ++ rest).set i (f i) = ((List.range (i + 1)).map f) ++ rest.tail := by
  cases rest with
  | nil => simp at hr; omega
  | cons a rest =>
    rw [List.set_append_right _ _ (by simp)]
    simp [List.range_succ]
theorem xor_zero_iff {a b : Nat} : a ^^^ b = 0 ↔ a = b := by
  constructor
  · intro h
    have := congrArg (· ^^^ b) h
    simpa [Nat.xor_assoc] using this
  · rintro rfl; exact Nat.xor_self a
theorem rounds_of {P : Nat → Prop} (n : Nat) (h : ∀ k, n ≤ k → P k) : ∃ k, P k := ⟨n, h n (Nat.le_refl n)⟩
/-- As Option.bind_some, but not by reduction: the kernel is not led into what follows. -/
theorem ob {α β : Type} (a : α) (f : α → Option β) : (some a).bind f = f a := by
  cases h : f a with
  | none => rw [Option.bind_some, h]
  | some b => rw [Option.bind_some, h]

theorem and255 (x : Int) : 0 ≤ Go.bits .and .i64 x 255 ∧ Go.bits .and .i64 x 255 ≤ 255 := by
  have h : (BitVec.ofInt 64 x &&& BitVec.ofInt 64 255).toNat ≤ 255 := by
    rw [BitVec.toNat_and]
    exact Nat.le_trans Nat.and_le_right (by decide)
  have e : Go.bits .and .i64 x 255 = (((BitVec.ofInt 64 x &&& BitVec.ofInt 64 255).toNat : Nat) : Int) := by
    show IntKind.i64.wrap (((BitVec.ofInt 64 x &&& BitVec.ofInt 64 255).toNat : Nat) : Int) = _
    exact wr_i64 _ (Int.natCast_nonneg _) (by omega)
  omega
/-- A reader's state: its place lies in the draw. -/
def Cur (s : List Int) (i : Int) : Prop := 0 ≤ i ∧ i ≤ s.length ∧ s.length ≤ 9223372036854775806
theorem new_loop (s : List Int) (hs : s.length ≤ 9223372036854775806) (d : Nat) : ∀ (k i : Nat) (h : Int), i + d = s.length → d < k → ∃ h', spec_l01New.l0 k s h (i : Int) = some (s, 0, h') := by
  induction d with
  | zero =>
    intro k i h hi hk
    obtain ⟨k, rfl⟩ : ∃ q, k = q + 1 := ⟨k - 1, by omega⟩
    exact ⟨h, by simp only [spec_l01New.l0]; rw [if_neg (by omega)]⟩
  | succ d ih =>
    intro k i h hi hk
    obtain ⟨k, rfl⟩ : ∃ q, k = q + 1 := ⟨k - 1, by omega⟩
    by_cases h4 : (i : Int) < 4000
    · obtain ⟨h', e⟩ := ih k (i + 1) (Go.bits .and .i64 (wrap64 ((wrap64 ((wrap64 (h * 131)) + (wrap64 (rd s i)))) + 7)) 1073741823) (by omega) (by omega)
      refine ⟨h', ?_⟩
      simp only [spec_l01New.l0]
      rw [if_pos (by omega), if_pos h4, if_pos (by omega), w64 (n := (i : Int) + 1) (by omega) (by omega), show (i : Int) + 1 = ((i + 1 : Nat) : Int) by omega]
      exact e
    · exact ⟨h, by simp only [spec_l01New.l0]; rw [if_pos (by omega), if_neg h4]⟩
theorem new_some (s : List Int) (hs : s.length ≤ 9223372036854775806) (k : Nat) (hk : s.length < k) : ∃ h', spec_l01New.f k s = some (s, 0, h') := by
  obtain ⟨h', e⟩ := new_loop s hs s.length k 0 (wrap64 (94701 + (s.length : Int))) (by omega) hk
  exact ⟨h', by unfold spec_l01New.f; exact e⟩
theorem cur_new {s : List Int} (hs : s.length ≤ 9223372036854775806) : Cur s 0 := ⟨by omega, by omega, hs⟩
theorem byte_some {s : List Int} {i : Int} (h : Int) (hc : Cur s i) : ∃ r, spec_l01Byte.f s i h = some r ∧ 0 ≤ r.1 ∧ r.1 ≤ 255 ∧ Cur s r.2.1 := by
  obtain ⟨h0, h1, h2⟩ := hc
  unfold spec_l01Byte.f
  by_cases hl : i < (s.length : Int)
  · rw [if_pos hl, if_pos h0]
    refine ⟨_, rfl, (and255 _).1, (and255 _).2, ?_⟩
    show Cur s (wrap64 (i + 1))
    rw [w64 (by omega) (by omega)]
    exact ⟨by omega, by omega, h2⟩
  · rw [if_neg hl]
    exact ⟨_, rfl, (and255 _).1, (and255 _).2, h0, h1, h2⟩
theorem below_some {s : List Int} {i : Int} (h n : Int) (hn : 1 ≤ n) (hc : Cur s i) : ∃ r, spec_l01Below.f s i h n = some r ∧ 0 ≤ r.1 ∧ r.1 < n ∧ Cur s r.2.1 := by
  unfold spec_l01Below.f
  rw [if_neg (by omega)]
  by_cases h256 : n ≤ 256
  · rw [if_pos h256]
    obtain ⟨r, e, r0, r1, c⟩ := byte_some h hc
    rw [e]; simp only [Option.bind_some]; rw [if_neg (by omega)]
    have hm : Int.tmod r.1 n = r.1 % n := Int.tmod_eq_emod_of_nonneg r0
    refine ⟨_, rfl, ?_, ?_, c⟩
    · show 0 ≤ Int.tmod r.1 n
      rw [hm]; exact Int.emod_nonneg _ (by omega)
    · show Int.tmod r.1 n < n
      rw [hm]; exact Int.emod_lt_of_pos _ (by omega)
  · rw [if_neg h256]
    obtain ⟨a, ea, a0, a1, ca⟩ := byte_some h hc
    obtain ⟨b, eb, b0, b1, cb⟩ := byte_some a.2.2 ca
    obtain ⟨c, ec, c0, c1, cc⟩ := byte_some b.2.2 cb
    obtain ⟨d, ed, d0, d1, cd⟩ := byte_some c.2.2 cc
    rw [ea]; simp only [Option.bind_some]; rw [eb]; simp only [Option.bind_some]; rw [ec]; simp only [Option.bind_some]; rw [ed]; simp only [Option.bind_some]; rw [if_neg (by omega)]
    have e : wrap64 ((wrap64 ((wrap64 ((wrap64 (a.1 * 16777216)) + (wrap64 (b.1 * 65536)))) + (wrap64 (c.1 * 256)))) + d.1) = a.1 * 16777216 + b.1 * 65536 + c.1 * 256 + d.1 := by
      rw [w64 (n := a.1 * 16777216) (by omega) (by omega), w64 (n := b.1 * 65536) (by omega) (by omega), w64 (n := c.1 * 256) (by omega) (by omega), w64 (n := a.1 * 16777216 + b.1 * 65536) (by omega) (by omega), w64 (n := a.1 * 16777216 + b.1 * 65536 + c.1 * 256) (by omega) (by omega), w64 (by omega) (by omega)]
    rw [e]
    have hm : Int.tmod (a.1 * 16777216 + b.1 * 65536 + c.1 * 256 + d.1) n = (a.1 * 16777216 + b.1 * 65536 + c.1 * 256 + d.1) % n := Int.tmod_eq_emod_of_nonneg (by omega)
    refine ⟨_, rfl, ?_, ?_, cd⟩
    · show 0 ≤ Int.tmod _ n
      rw [hm]; exact Int.emod_nonneg _ (by omega)
    · show Int.tmod _ n < n
      rw [hm]; exact Int.emod_lt_of_pos _ (by omega)

theorem places_loop (s : List Int) (d : Nat) : ∀ (k : Nat) (l : List Int) (i : Nat) (c h : Int), i + d = 12 → l.length = i → (∀ x ∈ l, 0 ≤ x ∧ x < 10000) → Cur s c → d < k → ∃ p, spec_DrawPlaces.l0 k l (i : Int) s c h = some p ∧ p.length = 12 ∧ ∀ x ∈ p, 0 ≤ x ∧ x < 10000 := by
  induction d with
  | zero =>
    intro k l i c h hi hl hx hc hk
    obtain ⟨k, rfl⟩ : ∃ q, k = q + 1 := ⟨k - 1, by omega⟩
    exact ⟨l, by simp only [spec_DrawPlaces.l0]; rw [if_neg (by omega)], by omega, hx⟩
  | succ d ih =>
    intro k l i c h hi hl hx hc hk
    obtain ⟨k, rfl⟩ : ∃ q, k = q + 1 := ⟨k - 1, by omega⟩
    obtain ⟨r, e, r0, r1, hr⟩ := below_some (s := s) (i := c) h 10000 (by omega) hc
    obtain ⟨p, ep, pl, px⟩ := ih k (l ++ [r.1]) (i + 1) r.2.1 r.2.2 (by omega) (by simp [hl]) (by
      intro x hm
      rcases List.mem_append.1 hm with hm | hm
      · exact hx x hm
      · rw [List.mem_singleton.1 hm]; exact ⟨r0, r1⟩) hr (by omega)
    refine ⟨p, ?_, pl, px⟩
    simp only [spec_DrawPlaces.l0]
    rw [if_pos (by omega), e]; simp only [Option.bind_some]; rw [if_pos (by omega), w64 (by omega) (by omega), show (i : Int) + 1 = ((i + 1 : Nat) : Int) by omega]
    exact ep
theorem places_some (s : List Int) (hs : s.length ≤ 9223372036854775806) (k : Nat) (hk : s.length + 13 < k) : ∃ p, spec_DrawPlaces.f k s = some p ∧ p.length = 12 ∧ ∀ x ∈ p, 0 ≤ x ∧ x < 10000 := by
  obtain ⟨h', e⟩ := new_some s hs k (by omega)
  obtain ⟨p, ep, pl, px⟩ := places_loop s 12 k [] 0 0 h' (by omega) rfl (by simp) (cur_new hs) (by omega)
  refine ⟨p, ?_, pl, px⟩
  unfold spec_DrawPlaces.f
  rw [e]; simp only [Option.bind_some]; exact ep
theorem rd_mem {p : List Int} {P : Int → Prop} (h : ∀ x ∈ p, P x) (i : Nat) (hi : i < p.length) : P (rd p (i : Int)) := by
  unfold rd
  rw [List.getD_eq_getElem?_getD, show ((i : Int)).toNat = i from rfl, List.getElem?_eq_getElem hi]
  exact h _ (List.getElem_mem hi)
theorem mod256 {x : Int} (h : 0 ≤ x) : ∃ n : Nat, n < 256 ∧ Int.tmod x 256 = n := by
  rw [Int.tmod_eq_emod_of_nonneg h]
  exact ⟨(x % 256).toNat, by omega, by omega⟩

theorem v_digit : ∀ n, n < 16 → Go.Lib.Hx.v (Go.Lib.Hx.digit n) = n := by decide +kernel
theorem dec_enc : ∀ l : List UInt8, Go.Lib.Hx.decode (Go.Lib.Hx.encode l) = (l, .ok)
  | [] => Go.Lib.Hx.decode_nil
  | b :: t => by
    have hb := b.toNat_lt
    rw [Go.Lib.Hx.encode_cons, Go.Lib.Hx.decode_two, v_digit _ (by omega), v_digit _ (Nat.mod_lt _ (by decide)), if_neg (by omega), if_neg (by omega), dec_enc t, Nat.div_add_mod', UInt8.ofNat_toNat]
theorem unhex_hex (t : ByteArray) (h : t.size ≤ 20000) : impl_Unhex.f (⟨(Go.Lib.Hx.encode t.data.toList).toArray⟩ : ByteArray) = some (t, true) := by
  have hl : t.data.toList.length = t.size := rfl
  have hs : (⟨(Go.Lib.Hx.encode t.data.toList).toArray⟩ : ByteArray).size = 2 * t.size := by
    show (Go.Lib.Hx.encode t.data.toList).toArray.size = _
    rw [List.size_toArray, Go.Lib.Hx.encode_length, hl]
  unfold impl_Unhex.f
  rw [if_pos (by omega)]
  have e := want_eq (⟨(Go.Lib.Hx.encode t.data.toList).toArray⟩ : ByteArray)
  simp only [] at e
  rw [dec_enc] at e
  rw [e rfl (by rw [hl]; exact h) rfl]
theorem dec_some (c : Int) (h0 : -9223372036854775808 ≤ c) (h1 : c ≤ 9223372036854775807) : impl_Decimal.f c = some (⟨(Lib.itoa c).toArray⟩ : ByteArray) := by
  unfold impl_Decimal.f
  rw [if_pos ⟨h0, h1⟩]
theorem read_dec (n : Nat) (h : n ≤ 1000000000) : impl_ReadDecimal.f (⟨(Lib.itoa (n : Int)).toArray⟩ : ByteArray) = some ((n : Int), true) := by
  have hl : (Lib.itoa (n : Int)).length ≤ 21 := Lib.itoa_length_le n (by omega) (by omega)
  have hs : (⟨(Lib.itoa (n : Int)).toArray⟩ : ByteArray).size ≤ 21 := hl
  unfold impl_ReadDecimal.f
  rw [if_pos (by omega)]
  show some (wantD (Lib.itoa (n : Int))) = _
  rw [Lib.itoa_nonneg, want_yes n h]
theorem brought_some (x l m : Int) (h : l ≤ m) : ∃ b, impl_Brought.f x l m = some b ∧ l ≤ b ∧ b ≤ m ∧ impl_Brought.f b l m = some b := by
  refine ⟨mn (mx x l) m, ?_, ?_, ?_, ?_⟩
  · unfold impl_Brought.f
    rw [if_neg (by omega)]
  · unfold mn mx; split <;> split <;> omega
  · unfold mn mx; split <;> split <;> omega
  · unfold impl_Brought.f
    rw [if_neg (by omega)]
    congr 1
    unfold mn mx
    repeat' split
    all_goals omega
theorem FnFigures : laws_FnFigures.Pure := by
  intro l h1 h2 _
  refine rounds_of (l.length + 6000) fun k hk => ?_
  unfold laws_FnFigures.f laws_big.f
  rw [ob]
  by_cases hb : (l.length : Int) > 1048576
  · rw [decide_eq_true hb, if_pos rfl]
  · rw [decide_eq_false hb, if_neg (by decide)]
    obtain ⟨p, e, pl, px⟩ := places_some l (by omega) k (by omega)
    rw [e, ob]
    have q0 := rd_mem (P := fun x => 0 ≤ x ∧ x < 10000) px 0 (by omega)
    have q1 := rd_mem (P := fun x => 0 ≤ x ∧ x < 10000) px 1 (by omega)
    have q2 := rd_mem (P := fun x => 0 ≤ x ∧ x < 10000) px 2 (by omega)
    have q3 := rd_mem (P := fun x => 0 ≤ x ∧ x < 10000) px 3 (by omega)
    have q4 := rd_mem (P := fun x => 0 ≤ x ∧ x < 10000) px 4 (by omega)
    have q5 := rd_mem (P := fun x => 0 ≤ x ∧ x < 10000) px 5 (by omega)
    rw [show rd p 0 = rd p ((0 : Nat) : Int) from rfl, show rd p 1 = rd p ((1 : Nat) : Int) from rfl, show rd p 2 = rd p ((2 : Nat) : Int) from rfl, show rd p 3 = rd p ((3 : Nat) : Int) from rfl, show rd p 4 = rd p ((4 : Nat) : Int) from rfl, show rd p 5 = rd p ((5 : Nat) : Int) from rfl]
    generalize rd p ((0 : Nat) : Int) = a at *
    generalize rd p ((1 : Nat) : Int) = b at *
    generalize rd p ((2 : Nat) : Int) = c at *
    generalize rd p ((3 : Nat) : Int) = d at *
    generalize rd p ((4 : Nat) : Int) = z at *
    generalize rd p ((5 : Nat) : Int) = f at *
    generalize hy : ([(rd p 6) % 256, (rd p 7) % 256] : List Int) = y
    have hyl : (strOfNums y).size = 2 := by rw [strOf_size, ← hy]; rfl
    have hwn : wrap64 (wrap64 (a * 10000) + b) = a * 10000 + b := by rw [w64 (n := a * 10000) (by omega) (by omega), w64 (n := a * 10000 + b) (by omega) (by omega)]
    have hwc : wrap64 (c - 5000) = c - 5000 := w64 (by omega) (by omega)
    have hwd : wrap64 (-d) = -d := w64 (by omega) (by omega)
    obtain ⟨n, hn⟩ : ∃ n : Nat, a * 10000 + b = (n : Int) := ⟨(a * 10000 + b).toNat, by omega⟩
    have hn2 : n ≤ 1000000000 := by omega
    obtain ⟨w, hw1, hw2, hw3, hw4⟩ := brought_some (c - 5000) (-d) z (by omega)
    have hdl : (Lib.itoa f).length ≤ 21 := Lib.itoa_length_le f (by omega) (by omega)
    obtain ⟨dt, hdt⟩ : ∃ dt : ByteArray, dt = ⟨(Lib.itoa f).toArray⟩ := ⟨_, rfl⟩
    have hds : dt.size ≤ 21 := by rw [hdt]; exact hdl
    obtain ⟨t, ht⟩ : ∃ t, t = dt ++ strOfNums y := ⟨_, rfl⟩
    have hts : t.size ≤ 23 := by rw [ht, ByteArray.size_append]; omega
    have hhs : (⟨(Go.Lib.Hx.encode t.data.toList).toArray⟩ : ByteArray).size = 2 * t.size := by
      show (Go.Lib.Hx.encode t.data.toList).toArray.size = _
      rw [List.size_toArray, Go.Lib.Hx.encode_length]; rfl
    have hhex : impl_Hex.f t = some ((⟨(Go.Lib.Hx.encode t.data.toList).toArray⟩ : ByteArray), true) := by
      unfold impl_Hex.f
      rw [if_pos (by omega)]
    have hun := unhex_hex t (by omega)
    generalize (⟨(Go.Lib.Hx.encode t.data.toList).toArray⟩ : ByteArray) = hx at hhs hhex hun
    have hw2s : wrap64 (2 * (t.size : Int)) = 2 * (t.size : Int) := w64 (by omega) (by omega)
    rw [if_pos (by omega), dec_some f (by omega) (by omega), ob, if_pos (by omega), if_pos (by omega), ob, ← hdt, if_pos (by omega), ← ht, hhex, ob]
    rw [show (hx, true).1 = hx from rfl, hun, ob, if_pos (by omega), if_pos (by omega), hwn, hn, dec_some (n : Int) (by omega) (by omega), ob, read_dec n hn2, ob, if_pos (by omega), if_pos (by omega), if_pos (by omega), hwc, hwd, hw1, ob]
    rw [if_pos rfl, if_pos rfl, if_pos rfl, hw2s, if_pos (by show (hx.size : Int) = _; omega), if_pos rfl, if_pos rfl, if_pos hw2, if_pos hw3, hw4, ob, beq_self_eq_true]
end Go.Proofs.YtmlleefmkmelmaaDoor.Pure
