/- The law FnXor answers true at every draw: XorText twice is the identity, of a text with itself it is zero; no condition. -/
import Derived.Test.YtkkadcpgjniojaaMFnXorx2
namespace Go.Proofs.Ytkkadcpgjniojaa.Pure
open Go.RowKit Go.Proofs.Ytkkadcpgjniojaa.PFnXor Go.Proofs.YtkkadcpgjniojaaW.PrintWords Go.Proofs.YtkkadcpgjniojaaW.PrintLast Go.Proofs.YtkkadcpgjniojaaW.PrintMore
set_option linter.unusedVariables false
set_option linter.unusedSimpArgs false

theorem w64 {n : Int} (h0 : -9223372036854775808 ≤ n) (h1 : n ≤ 9223372036854775807) : wrap64 n = n := by
  unfold wrap64; omega
theorem bits_nat3 (k : IntKind) (j : Nat) (hj : j ≤ k.bits) (hk : ∀ n : Int, 0 ≤ n → n < 2 ^ j → k.wrap n = n) (a b : Nat) (ha : a < 2 ^ j) (hb : b < 2 ^ j) :
    Go.bits .and k a b = ((a &&& b : Nat) : Int) ∧ Go.bits .or k a b = ((a ||| b : Nat) : Int) ∧ Go.bits .xor k a b = ((a ^^^ b : Nat) : Int) := by
  have hp : 2 ^ j ≤ 2 ^ k.bits := Nat.pow_le_pow_right (by decide) hj
  have ha' : a % 2 ^ k.bits = a := Nat.mod_eq_of_lt (Nat.lt_of_lt_of_le ha hp)
  have hb' : b % 2 ^ k.bits = b := Nat.mod_eq_of_lt (Nat.lt_of_lt_of_le hb hp)
  have cast : ∀ n : Nat, n < 2 ^ j → ((n : Nat) : Int) < 2 ^ j := fun n h => by exact_mod_cast h
  refine ⟨?_, ?_, ?_⟩
  · simp only [Go.bits, BitVec.ofInt_natCast, BitVec.toNat_and, BitVec.toNat_ofNat, ha', hb']
    exact hk _ (Int.natCast_nonneg _) (cast _ (Nat.and_lt_two_pow _ hb))
  · simp only [Go.bits, BitVec.ofInt_natCast, BitVec.toNat_or, BitVec.toNat_ofNat, ha', hb']
    exact hk _ (Int.natCast_nonneg _) (cast _ (Nat.or_lt_two_pow ha hb))
  · simp only [Go.bits, BitVec.ofInt_natCast, BitVec.toNat_xor, BitVec.toNat_ofNat, ha', hb']
    exact hk _ (Int.natCast_nonneg _) (cast _ (Nat.xor_lt_two_pow ha hb))
theorem wr_i64 (n : Int) (h0 : 0 ≤ n) (h1 : n < 2 ^ 62) : IntKind.i64.wrap n = n := by rw [IntKind.wrap_i64]; omega
theorem wr_u64 (n : Int) (h0 : 0 ≤ n) (h1 : n < 2 ^ 64) : IntKind.u64.wrap n = n := by
  simp [IntKind.wrap, IntKind.bits, IntKind.signed]; omega
theorem or_i64 (a b : Nat) (ha : a < 2 ^ 62) (hb : b < 2 ^ 62) : Go.bits .or .i64 a b = ((a ||| b : Nat) : Int) := (bits_nat3 .i64 62 (by decide) wr_i64 a b ha hb).2.1
theorem xor_i64 (a b : Nat) (ha : a < 2 ^ 62) (hb : b < 2 ^ 62) : Go.bits .xor .i64 a b = ((a ^^^ b : Nat) : Int) := (bits_nat3 .i64 62 (by decide) wr_i64 a b ha hb).2.2
theorem and_i64 (a b : Nat) (ha : a < 2 ^ 62) (hb : b < 2 ^ 62) : Go.bits .and .i64 a b = ((a &&& b : Nat) : Int) := (bits_nat3 .i64 62 (by decide) wr_i64 a b ha hb).1
theorem xor_u8 (a b : Nat) (ha : a < 2 ^ 8) (hb : b < 2 ^ 8) : Go.bits .xor .u8 a b = ((a ^^^ b : Nat) : Int) := (bits_nat3 .u8 8 (by decide) wraps_u8 a b ha hb).2.2
/-- Byte i of s as a natural number. -/
def bn (s : ByteArray) (i : Nat) : Nat := (s.data.toList.getD i 0).toNat
theorem bn_lt (s : ByteArray) (i : Nat) : bn s i < 256 := (s.data.toList.getD i 0).toNat_lt
theorem bt_bn (s : ByteArray) (i : Nat) : bt s (i : Int) = (bn s i : Int) := by
  unfold bt bn
  split
  · rename_i h
    have h' : i < s.data.toList.length := by rw [data_length]; simpa using h
    rw [List.getD_eq_getElem?_getD, List.getElem?_eq_getElem h']; rfl
  · rename_i h
    have h' : s.data.toList.length ≤ i := by rw [data_length]; simpa using h
    rw [List.getD_eq_getElem?_getD, List.getElem?_eq_none h']; rfl
theorem bt_bn' (s : ByteArray) (i : Int) (h : 0 ≤ i) : bt s i = (bn s i.toNat : Int) := by
  obtain ⟨n, rfl⟩ := Int.eq_ofNat_of_zero_le h
  exact bt_bn s n
theorem toList_eq' (s : ByteArray) : s.toList = s.data.toList := ByteArray.toList_eq s
/-- Two strings of one length are one where their bytes are. -/
theorem bytes_ext {s t : ByteArray} (hl : s.size = t.size) (h : ∀ i, i < s.size → bn s i = bn t i) : s.data.toList = t.data.toList := by
  apply List.ext_getElem (by rw [data_length, data_length, hl])
  intro i h1 h2
  have := h i (by rw [← data_length]; exact h1)
  unfold bn at this
  rw [List.getD_eq_getElem?_getD, List.getD_eq_getElem?_getD, List.getElem?_eq_getElem h1, List.getElem?_eq_getElem h2] at this
  exact UInt8.toNat_inj.1 this
theorem strOf_data (xs : List Int) : (strOfNums xs).data.toList = xs.map fun n => UInt8.ofNat n.toNat := by simp [strOfNums]
theorem strOf_toList (xs : List Int) : (strOfNums xs).toList = xs.map fun n => UInt8.ofNat n.toNat := by rw [toList_eq', strOf_data]
theorem strOf_size (xs : List Int) : (strOfNums xs).size = xs.length := by rw [← data_length, strOf_data, List.length_map]
/-- A list of n numbers written cell by cell is the list of what was written. -/
theorem tab_set (f : Nat → Int) (n i : Nat) (rest : List Int) (h : i < n) (hr : rest.length = n - i) :
    (((List.range i).map f) ++ rest).set i (f i) = ((List.range (i + 1)).map f) ++ rest.tail := by
  cases rest with
  | nil => simp at hr; omega
  | cons a rest =>
    rw [List.set_append_right _ _ (by simp)]
    simp [List.range_succ]
theorem xor_zero_iff {a b : Nat} : a ^^^ b = 0 ↔ a = b := by
  constructor
  · intro h
    have := congrArg (· ^^^ b) h
    simpa [Nat.xor_assoc] using this
  · rintro rfl; exact Nat.xor_self a
theorem rounds_of {P : Nat → Prop} (n : Nat) (h : ∀ k, n ≤ k → P k) : ∃ k, P k := ⟨n, h n (Nat.le_refl n)⟩
/-- As Option.bind_some, but not by reduction: the kernel is not led into what follows. -/
theorem ob {α β : Type} (a : α) (f : α → Option β) : (some a).bind f = f a := by
  cases h : f a with
  | none => rw [Option.bind_some, h]
  | some b => rw [Option.bind_some, h]

theorem and255 (x : Int) : 0 ≤ Go.bits .and .i64 x 255 ∧ Go.bits .and .i64 x 255 ≤ 255 := by
  have h : (BitVec.ofInt 64 x &&& BitVec.ofInt 64 255).toNat ≤ 255 := by
    rw [BitVec.toNat_and]
    exact Nat.le_trans Nat.and_le_right (by decide)
  have e : Go.bits .and .i64 x 255 = (((BitVec.ofInt 64 x &&& BitVec.ofInt 64 255).toNat : Nat) : Int) := by
    show IntKind.i64.wrap (((BitVec.ofInt 64 x &&& BitVec.ofInt 64 255).toNat : Nat) : Int) = _
    exact wr_i64 _ (Int.natCast_nonneg _) (by omega)
  omega
/-- A reader's state: its place lies in the draw. -/
def Cur (s : List Int) (i : Int) : Prop := 0 ≤ i ∧ i ≤ s.length ∧ s.length ≤ 9223372036854775806
theorem new_loop (s : List Int) (hs : s.length ≤ 9223372036854775806) (d : Nat) : ∀ (k i : Nat) (h : Int), i + d = s.length → d < k → ∃ h', spec_l01New.l0 k s h (i : Int) = some (s, 0, h') := by
  induction d with
  | zero =>
    intro k i h hi hk
    obtain ⟨k, rfl⟩ : ∃ q, k = q + 1 := ⟨k - 1, by omega⟩
    exact ⟨h, by simp only [spec_l01New.l0]; rw [if_neg (by omega)]⟩
  | succ d ih =>
    intro k i h hi hk
    obtain ⟨k, rfl⟩ : ∃ q, k = q + 1 := ⟨k - 1, by omega⟩
    by_cases h4 : (i : Int) < 4000
    · obtain ⟨h', e⟩ := ih k (i + 1) (Go.bits .and .i64 (wrap64 ((wrap64 ((wrap64 (h * 131)) + (wrap64 (rd s i)))) + 7)) 1073741823) (by omega) (by omega)
      refine ⟨h', ?_⟩
      simp only [spec_l01New.l0]
      rw [if_pos (by omega), if_pos h4, if_pos (by omega), w64 (n := (i : Int) + 1) (by omega) (by omega), show (i : Int) + 1 = ((i + 1 : Nat) : Int) by omega]
      exact e
    · exact ⟨h, by simp only [spec_l01New.l0]; rw [if_pos (by omega), if_neg h4]⟩
theorem new_some (s : List Int) (hs : s.length ≤ 9223372036854775806) (k : Nat) (hk : s.length < k) : ∃ h', spec_l01New.f k s = some (s, 0, h') := by
  obtain ⟨h', e⟩ := new_loop s hs s.length k 0 (wrap64 (94701 + (s.length : Int))) (by omega) hk
  exact ⟨h', by unfold spec_l01New.f; exact e⟩
theorem cur_new {s : List Int} (hs : s.length ≤ 9223372036854775806) : Cur s 0 := ⟨by omega, by omega, hs⟩
theorem byte_some {s : List Int} {i : Int} (h : Int) (hc : Cur s i) : ∃ r, spec_l01Byte.f s i h = some r ∧ 0 ≤ r.1 ∧ r.1 ≤ 255 ∧ Cur s r.2.1 := by
  obtain ⟨h0, h1, h2⟩ := hc
  unfold spec_l01Byte.f
  by_cases hl : i < (s.length : Int)
  · rw [if_pos hl, if_pos h0]
    refine ⟨_, rfl, (and255 _).1, (and255 _).2, ?_⟩
    show Cur s (wrap64 (i + 1))
    rw [w64 (by omega) (by omega)]
    exact ⟨by omega, by omega, h2⟩
  · rw [if_neg hl]
    exact ⟨_, rfl, (and255 _).1, (and255 _).2, h0, h1, h2⟩
theorem below_some {s : List Int} {i : Int} (h n : Int) (hn : 1 ≤ n) (hc : Cur s i) : ∃ r, spec_l01Below.f s i h n = some r ∧ 0 ≤ r.1 ∧ r.1 < n ∧ Cur s r.2.1 := by
  unfold spec_l01Below.f
  rw [if_neg (by omega)]
  by_cases h256 : n ≤ 256
  · rw [if_pos h256]
    obtain ⟨r, e, r0, r1, c⟩ := byte_some h hc
    rw [e]; simp only [Option.bind_some]; rw [if_neg (by omega)]
    have hm : Int.tmod r.1 n = r.1 % n := Int.tmod_eq_emod_of_nonneg r0
    refine ⟨_, rfl, ?_, ?_, c⟩
    · show 0 ≤ Int.tmod r.1 n
      rw [hm]; exact Int.emod_nonneg _ (by omega)
    · show Int.tmod r.1 n < n
      rw [hm]; exact Int.emod_lt_of_pos _ (by omega)
  · rw [if_neg h256]
    obtain ⟨a, ea, a0, a1, ca⟩ := byte_some h hc
    obtain ⟨b, eb, b0, b1, cb⟩ := byte_some a.2.2 ca
    obtain ⟨c, ec, c0, c1, cc⟩ := byte_some b.2.2 cb
    obtain ⟨d, ed, d0, d1, cd⟩ := byte_some c.2.2 cc
    rw [ea]; simp only [Option.bind_some]; rw [eb]; simp only [Option.bind_some]; rw [ec]; simp only [Option.bind_some]; rw [ed]; simp only [Option.bind_some]; rw [if_neg (by omega)]
    have e : wrap64 ((wrap64 ((wrap64 ((wrap64 (a.1 * 16777216)) + (wrap64 (b.1 * 65536)))) + (wrap64 (c.1 * 256)))) + d.1) = a.1 * 16777216 + b.1 * 65536 + c.1 * 256 + d.1 := by
      rw [w64 (n := a.1 * 16777216) (by omega) (by omega), w64 (n := b.1 * 65536) (by omega) (by omega), w64 (n := c.1 * 256) (by omega) (by omega), w64 (n := a.1 * 16777216 + b.1 * 65536) (by omega) (by omega), w64 (n := a.1 * 16777216 + b.1 * 65536 + c.1 * 256) (by omega) (by omega), w64 (by omega) (by omega)]
    rw [e]
    have hm : Int.tmod (a.1 * 16777216 + b.1 * 65536 + c.1 * 256 + d.1) n = (a.1 * 16777216 + b.1 * 65536 + c.1 * 256 + d.1) % n := Int.tmod_eq_emod_of_nonneg (by omega)
    refine ⟨_, rfl, ?_, ?_, cd⟩
    · show 0 ≤ Int.tmod _ n
      rw [hm]; exact Int.emod_nonneg _ (by omega)
    · show Int.tmod _ n < n
      rw [hm]; exact Int.emod_lt_of_pos _ (by omega)

theorem text_loop (s : List Int) (n : Int) (hn : n ≤ 5000) (d : Nat) : ∀ (k i : Nat) (l : List Int) (c h : Int), (i : Int) + d = n → l.length = i → Cur s c → d < k →
    ∃ r, spec_l01Text.l0 k n l (i : Int) s c h = some r ∧ (r.1.size : Int) = n ∧ Cur s r.2.1 := by
  induction d with
  | zero =>
    intro k i l c h hi hl hc hk
    obtain ⟨k, rfl⟩ : ∃ q, k = q + 1 := ⟨k - 1, by omega⟩
    refine ⟨(strOfNums l, c, h), ?_, ?_, hc⟩
    · simp only [spec_l01Text.l0]; rw [if_neg (by omega)]
    · simp only [strOf_size]; omega
  | succ d ih =>
    intro k i l c h hi hl hc hk
    obtain ⟨k, rfl⟩ : ∃ q, k = q + 1 := ⟨k - 1, by omega⟩
    obtain ⟨b, e, _, _, hb⟩ := byte_some h hc
    obtain ⟨r, er, rs, rc⟩ := ih k (i + 1) (l ++ [b.1 % 256]) b.2.1 b.2.2 (by omega) (by simp [hl]) hb (by omega)
    refine ⟨r, ?_, rs, rc⟩
    simp only [spec_l01Text.l0]
    rw [if_pos (by omega), e]
    simp only [ob]
    rw [if_pos (by omega), w64 (by omega) (by omega), show (i : Int) + 1 = ((i + 1 : Nat) : Int) by omega]
    exact er
theorem text_some {s : List Int} {c : Int} (h n : Int) (h0 : 0 ≤ n) (hn : n ≤ 5000) (hc : Cur s c) (k : Nat) (hk : 5002 < k) : ∃ r, spec_l01Text.f k s c h n = some r ∧ (r.1.size : Int) = n ∧ Cur s r.2.1 := by
  obtain ⟨k, rfl⟩ : ∃ q, k = q + 1 := ⟨k - 1, by omega⟩
  obtain ⟨r, e, rs, rc⟩ := text_loop s n hn n.toNat k 0 [] c h (by omega) rfl hc (by omega)
  rw [Int.natCast_zero] at e
  refine ⟨r, ?_, rs, rc⟩
  unfold spec_l01Text.f
  rw [if_neg (by omega)]
  simp only [spec_l01Text.j0]
  exact e

theorem pick_some {s : List Int} {c : Int} (h : Int) (l : List Int) (hl : 1 ≤ l.length) (hc : Cur s c) : ∃ r, spec_l01PickInt.f s c h l = some r ∧ r.1 ∈ l ∧ Cur s r.2.1 := by
  obtain ⟨b, e, b0, b1, hb⟩ := below_some (s := s) (i := c) h (l.length : Int) (by omega) hc
  refine ⟨(rd l b.1, b.2.1, b.2.2), ?_, ?_, hb⟩
  · unfold spec_l01PickInt.f
    rw [e]
    simp only [ob]
    rw [if_pos b0, if_pos b1]
  · show rd l b.1 ∈ l
    unfold rd
    have hlt : b.1.toNat < l.length := by omega
    rw [List.getD_eq_getElem?_getD, List.getElem?_eq_getElem hlt]
    exact List.getElem_mem hlt

theorem impl_xor (a b : ByteArray) (hn : a.size ≤ 281474976710656) : impl_XorText.f a b = some (if a.size = b.size then strOfNums ((List.range a.size).map (xorAt a b)) else ⟨#[]⟩) := by
  unfold impl_XorText.f
  by_cases h : a.size = b.size
  · rw [if_pos h, if_pos hn, if_pos h]
  · rw [if_neg h, if_neg h]

/-- n zero bytes. -/
def zb (n : Nat) : ByteArray := strOfNums (List.replicate n 0)
theorem zb_size (n : Nat) : (zb n).size = n := by unfold zb; rw [strOf_size, List.length_replicate]
theorem zb_data (n : Nat) : (zb n).data.toList = List.replicate n 0 := by unfold zb; rw [strOf_data, List.map_replicate]; rfl
theorem ba_ext {s t : ByteArray} (h : s.data.toList = t.data.toList) : s = t := by
  cases s; cases t; simp only at h; congr; exact Array.toList_inj.1 h
theorem rep_zero (n : Nat) (hn : n ≤ 140737488355328) : strings_Repeat.f ⟨#[0]⟩ (n : Int) = some (zb n) := by
  unfold strings_Repeat.f rep_.f
  rw [if_pos ⟨by omega, by show 1 * n ≤ _; omega, by omega⟩]
  congr 1
  apply ba_ext
  rw [zb_data]
  show Lib.repeatL [0] n = _
  induction n with
  | zero => rfl
  | succ n ih => rw [Lib.repeatL, ih (by omega), List.replicate_succ]; rfl
theorem impl_pad (s : ByteArray) (n : Nat) (hs : s.size ≤ 140737488351300) (hn : n ≤ 100000) : impl_padded.f s (n : Int) = some (s ++ zb (n - s.size)) := by
  unfold impl_padded.f
  have e : mx 0 (wrap64 ((n : Int) - (s.size : Int))) = ((n - s.size : Nat) : Int) := by
    rw [w64 (by omega) (by omega)]
    unfold mx
    split <;> omega
  rw [e, rep_zero _ (by omega)]
  simp only [Option.bind_some]
  rw [if_pos (by rw [zb_size]; omega)]
theorem pad_empty (n : Nat) (hn : n ≤ 100000) : impl_padded.f ⟨#[]⟩ (n : Int) = some (zb n) := by
  rw [impl_pad _ n (Nat.zero_le _) hn]
  have e : (⟨#[]⟩ : ByteArray) ++ zb (n - (⟨#[]⟩ : ByteArray).size) = zb n := by
    apply ba_ext
    rw [show (⟨#[]⟩ : ByteArray).size = 0 from rfl, Nat.sub_zero, ByteArray.data_append, Array.toList_append]
    rfl
  rw [e]

theorem impl_zero (n : Nat) (hn : n ≤ 20000) : impl_ZeroText.f (n : Int) = some (zb n) := by
  have h1 : impl_within.f (n : Int) 0 20000 = some true := by
    unfold impl_within.f; rw [if_pos (by omega), decide_eq_true (by omega)]
  simp only [impl_ZeroText.f, h1, ob, if_true, pad_empty n (by omega)]

theorem bn_strOf (xs : List Int) (j : Nat) (hj : j < xs.length) (h0 : 0 ≤ xs.getD j 0) (h1 : xs.getD j 0 < 256) : (bn (strOfNums xs) j : Int) = xs.getD j 0 := by
  unfold bn
  rw [strOf_data]
  rw [List.getD_eq_getElem?_getD, List.getElem?_map, List.getElem?_eq_getElem hj]
  rw [List.getD_eq_getElem?_getD, List.getElem?_eq_getElem hj] at h0 h1 ⊢
  simp only [Option.map_some, Option.getD_some] at h0 h1 ⊢
  rw [UInt8.toNat_ofNat']
  omega
theorem xorAt_val (a b : ByteArray) (j : Nat) : xorAt a b j = ((bn a j ^^^ bn b j : Nat) : Int) := by
  unfold xorAt
  rw [bt_bn, bt_bn]
  exact xor_u8 _ _ (bn_lt a j) (bn_lt b j)
/-- The exclusive or of two texts of one length. -/
def xr (a b : ByteArray) : ByteArray := strOfNums ((List.range a.size).map (xorAt a b))
theorem xr_size (a b : ByteArray) : (xr a b).size = a.size := by unfold xr; rw [strOf_size]; simp
theorem bn_xr (a b : ByteArray) (j : Nat) (hj : j < a.size) : bn (xr a b) j = bn a j ^^^ bn b j := by
  have hl : bn a j ^^^ bn b j < 256 := Nat.xor_lt_two_pow (n := 8) (bn_lt a j) (bn_lt b j)
  have hg : ((List.range a.size).map (xorAt a b)).getD j 0 = ((bn a j ^^^ bn b j : Nat) : Int) := by
    rw [← xorAt_val, List.getD_eq_getElem?_getD, List.getElem?_map, List.getElem?_range hj]; rfl
  have e := bn_strOf ((List.range a.size).map (xorAt a b)) j (by simpa using hj) (by rw [hg]; omega) (by rw [hg]; omega)
  rw [hg] at e
  unfold xr
  omega
theorem xr_back {a b : ByteArray} : (xr (xr a b) b).data.toList = a.data.toList := by
  apply bytes_ext (by rw [xr_size, xr_size])
  intro i hi
  rw [xr_size, xr_size] at hi
  rw [bn_xr _ _ _ (by rw [xr_size]; exact hi), bn_xr _ _ _ hi, Nat.xor_assoc, Nat.xor_self, Nat.xor_zero]

theorem bn_zb (n j : Nat) : bn (zb n) j = 0 := by
  unfold bn
  rw [zb_data, List.getD_eq_getElem?_getD, List.getElem?_replicate]
  split <;> rfl
theorem xr_self (a : ByteArray) : (xr a a).data.toList = (zb a.size).data.toList := by
  apply bytes_ext (by rw [xr_size, zb_size])
  intro i hi
  rw [xr_size] at hi
  rw [bn_xr _ _ _ hi, bn_zb, Nat.xor_self]
theorem impl_xor' (a b : ByteArray) (hn : a.size ≤ 281474976710656) : impl_XorText.f a b = some (if a.size = b.size then xr a b else ⟨#[]⟩) := impl_xor a b hn
theorem ab3 : (strOfNums ((List.range 1).map (xorAt ⟨#[97]⟩ ⟨#[98]⟩))).toList = [3] := by
  rw [strOf_toList]
  rfl
theorem FnXor : laws_FnXor.Pure := by
  intro l h1 h2 _
  refine rounds_of (l.length + 6000) fun k hk => ?_
  unfold laws_FnXor.f laws_big.f
  simp only [ob]
  by_cases hb : (l.length : Int) > 1048576
  · rw [if_pos (decide_eq_true hb)]
  · rw [if_neg (by simpa using hb)]
    have hc := cur_new (s := l) (by omega)
    obtain ⟨h', e0⟩ := new_some l (by omega) k (by omega)
    obtain ⟨n, en, n0, n1, cn⟩ := below_some (s := l) (i := 0) h' 9 (by omega) hc
    obtain ⟨a, ea, sa, ca⟩ := text_some n.2.2 n.1 n0 (by omega) cn k (by omega)
    obtain ⟨m, em, mm, cm⟩ := pick_some (s := l) (c := a.2.1) a.2.2 [n.1, n.1, n.1, wrap64 (n.1 + 1)] (by simp) ca
    have hm : 0 ≤ m.1 ∧ m.1 ≤ 9 := by
      have : wrap64 (n.1 + 1) = n.1 + 1 := w64 (by omega) (by omega)
      simp only [this, List.mem_cons, List.not_mem_nil, or_false] at mm
      omega
    obtain ⟨b, ebx, sb, cb⟩ := text_some m.2.2 m.1 hm.1 (by omega) cm k (by omega)
    have ed : spec_DrawXorText.f k l = some (a.1, b.1) := by
      unfold spec_DrawXorText.f
      rw [e0]; simp only [ob]
      rw [en]; simp only [ob]
      rw [ea]; simp only [ob]
      rw [em]; simp only [ob]
      rw [ebx]; simp only [ob]
    have za : a.1.size ≤ 9 := by omega
    rw [ed]
    simp only [ob]
    rw [impl_xor' a.1 b.1 (by omega)]
    simp only [ob]
    by_cases he : a.1.size = b.1.size
    · rw [if_pos he, if_pos (by omega), impl_xor' (xr a.1 b.1) b.1 (by rw [xr_size]; omega), if_pos (by rw [xr_size]; exact he)]
      simp only [ob]
      rw [if_pos (by rw [toList_eq', toList_eq']; exact xr_back), impl_xor' a.1 a.1 (by omega), if_pos rfl]
      simp only [ob]
      rw [impl_zero a.1.size (by omega)]
      simp only [ob]
      rw [if_pos (by rw [toList_eq', toList_eq']; exact xr_self _), if_pos (by rw [xr_size]), show (8 : Int) = ((8 : Nat) : Int) from rfl, impl_zero 8 (by omega)]
      simp only [ob]
      rw [zb_size]
      rfl
    · have e97 : impl_XorText.f ⟨#[97]⟩ ⟨#[98]⟩ = some (xr ⟨#[97]⟩ ⟨#[98]⟩) := by
        rw [impl_xor' _ _ (by decide)]
        rfl
      have e3 : (xr (⟨#[97]⟩ : ByteArray) ⟨#[98]⟩).toList = [3] := ab3
      rw [if_neg he, if_neg (by omega), if_pos (by rw [toList_eq']), e97]
      simp only [ob]
      rw [e3]
      rfl
end Go.Proofs.Ytkkadcpgjniojaa.Pure
