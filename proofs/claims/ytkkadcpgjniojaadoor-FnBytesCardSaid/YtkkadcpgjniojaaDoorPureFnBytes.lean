/- The law FnBytes answers true at every draw; no condition. -/
import Derived.Test.YtkkadcpgjniojaaDoorMFnBytesx3
import Derived.Lib.ItoaLen
namespace Go.Proofs.YtkkadcpgjniojaaDoor.Pure
open Go.RowKit Go.Proofs.YtkkadcpgjniojaaDoor.PFnBytes Go.Proofs.YtkkadcpgjniojaaDoorW.PrintWords Go.Proofs.YtkkadcpgjniojaaDoorW.PrintLast Go.Proofs.YtkkadcpgjniojaaDoorW.PrintMore
set_option linter.unusedVariables false
set_option linter.unusedSimpArgs false

theorem w64 {n : Int} (h0 : -9223372036854775808 ≤ n) (h1 : n ≤ 9223372036854775807) : wrap64 n = n := by
  unfold wrap64; omega
theorem bits_nat3 (k : IntKind) (j : Nat) (hj : j ≤ k.bits) (hk : ∀ n : Int, 0 ≤ n → n < 2 ^ j → k.wrap n = n) (a b : Nat) (ha : a < 2 ^ j) (hb : b < 2 ^ j) :
    Go.bits .and k a b = ((a &&& b : Nat) : Int) ∧ Go.bits .or k a b = ((a ||| b : Nat) : Int) ∧ Go.bits .xor k a b = ((a ^^^ b : Nat) : Int) := by
  have hp : 2 ^ j ≤ 2 ^ k.bits := Nat.pow_le_pow_right (by decide) hj
  have ha' : a % 2 ^ k.bits = a := Nat.mod_eq_of_lt (Nat.lt_of_lt_of_le ha hp)
  have hb' : b % 2 ^ k.bits = b := Nat.mod_eq_of_lt (Nat.lt_of_lt_of_le hb hp)
  have cast : ∀ n : Nat, n < 2 ^ j → ((n : Nat) : Int) < 2 ^ j := fun n h => by exact_mod_cast h
  refine ⟨?_, ?_, ?_⟩
  · simp only [Go.bits, BitVec.ofInt_natCast, BitVec.toNat_and, BitVec.toNat_ofNat, ha', hb']
    exact hk _ (Int.natCast_nonneg _) (cast _ (Nat.and_lt_two_pow _ hb))
  · simp only [Go.bits, BitVec.ofInt_natCast, BitVec.toNat_or, BitVec.toNat_ofNat, ha', hb']
    exact hk _ (Int.natCast_nonneg _) (cast _ (Nat.or_lt_two_pow ha hb))
  · simp only [Go.bits, BitVec.ofInt_natCast, BitVec.toNat_xor, BitVec.toNat_ofNat, ha', hb']
    exact hk _ (Int.natCast_nonneg _) (cast _ (Nat.xor_lt_two_pow ha hb))
theorem wr_i64 (n : Int) (h0 : 0 ≤ n) (h1 : n < 2 ^ 62) : IntKind.i64.wrap n = n := by rw [IntKind.wrap_i64]; omega
theorem wr_u64 (n : Int) (h0 : 0 ≤ n) (h1 : n < 2 ^ 64) : IntKind.u64.wrap n = n := by
  simp [IntKind.wrap, IntKind.bits, IntKind.signed]; omega
theorem or_i64 (a b : Nat) (ha : a < 2 ^ 62) (hb : b < 2 ^ 62) : Go.bits .or .i64 a b = ((a ||| b : Nat) : Int) := (bits_nat3 .i64 62 (by decide) wr_i64 a b ha hb).2.1
theorem xor_i64 (a b : Nat) (ha : a < 2 ^ 62) (hb : b < 2 ^ 62) : Go.bits .xor .i64 a b = ((a ^^^ b : Nat) : Int) := (bits_nat3 .i64 62 (by decide) wr_i64 a b ha hb).2.2
theorem and_i64 (a b : Nat) (ha : a < 2 ^ 62) (hb : b < 2 ^ 62) : Go.bits .and .i64 a b = ((a &&& b : Nat) : Int) := (bits_nat3 .i64 62 (by decide) wr_i64 a b ha hb).1
theorem xor_u8 (a b : Nat) (ha : a < 2 ^ 8) (hb : b < 2 ^ 8) : Go.bits .xor .u8 a b = ((a ^^^ b : Nat) : Int) := (bits_nat3 .u8 8 (by decide) wraps_u8 a b ha hb).2.2
/-- Byte i of s as a natural number. -/
def bn (s : ByteArray) (i : Nat) : Nat := (s.data.toList.getD i 0).toNat
theorem bn_lt (s : ByteArray) (i : Nat) : bn s i < 256 := (s.data.toList.getD i 0).toNat_lt
theorem bt_bn (s : ByteArray) (i : Nat) : bt s (i : Int) = (bn s i : Int) := by
  unfold bt bn
  split
  · rename_i h
    have h' : i < s.data.toList.length := by rw [data_length]; simpa using h
    rw [List.getD_eq_getElem?_getD, List.getElem?_eq_getElem h']; rfl
  · rename_i h
    have h' : s.data.toList.length ≤ i := by rw [data_length]; simpa using h
    rw [List.getD_eq_getElem?_getD, List.getElem?_eq_none h']; rfl
theorem bt_bn' (s : ByteArray) (i : Int) (h : 0 ≤ i) : bt s i = (bn s i.toNat : Int) := by
  obtain ⟨n, rfl⟩ := Int.eq_ofNat_of_zero_le h
  exact bt_bn s n
theorem toList_eq' (s : ByteArray) : s.toList = s.data.toList := ByteArray.toList_eq s
/-- Two strings of one length are one where their bytes are. -/
theorem bytes_ext {s t : ByteArray} (hl : s.size = t.size) (h : ∀ i, i < s.size → bn s i = bn t i) : s.data.toList = t.data.toList := by
  apply List.ext_getElem (by rw [data_length, data_length, hl])
  intro i h1 h2
  have := h i (by rw [← data_length]; exact h1)
  unfold bn at this
  rw [List.getD_eq_getElem?_getD, List.getD_eq_getElem?_getD, List.getElem?_eq_getElem h1, List.getElem?_eq_getElem h2] at this
  exact UInt8.toNat_inj.1 this
theorem strOf_data (xs : List Int) : (strOfNums xs).data.toList = xs.map fun n => UInt8.ofNat n.toNat := by simp [strOfNums]
theorem strOf_toList (xs : List Int) : (strOfNums xs).toList = xs.map fun n => UInt8.ofNat n.toNat := by rw [toList_eq', strOf_data]
theorem strOf_size (xs : List Int) : (strOfNums xs).size = xs.length := by rw [← data_length, strOf_data, List.length_map]
/-- A list of n numbers written cell by cell is the list of what was written. -/
theorem tab_set (f : Nat → Int) (n i : Nat) (rest : List Int) (h : i < n) (hr : rest.length = n - i) :
    (((List.range i).map f) ++ rest).set i (f i) = ((List.range (i + 1)).map f) ++ rest.tail := by
  cases rest with
  | nil => simp at hr; omega
  | cons a rest =>
    rw [List.set_append_right _ _ (by simp)]
    simp [List.range_succ]
theorem xor_zero_iff {a b : Nat} : a ^^^ b = 0 ↔ a = b := by
  constructor
  · intro h
    have := congrArg (· ^^^ b) h
    simpa [Nat.xor_assoc] using this
  · rintro rfl; exact Nat.xor_self a
theorem rounds_of {P : Nat → Prop} (n : Nat) (h : ∀ k, n ≤ k → P k) : ∃ k, P k := ⟨n, h n (Nat.le_refl n)⟩
/-- As Option.bind_some, but not by reduction: the kernel is not led into what follows. -/
theorem ob {α β : Type} (a : α) (f : α → Option β) : (some a).bind f = f a := by
  cases h : f a with
  | none => rw [Option.bind_some, h]
  | some b => rw [Option.bind_some, h]

theorem and255 (x : Int) : 0 ≤ Go.bits .and .i64 x 255 ∧ Go.bits .and .i64 x 255 ≤ 255 := by
  have h : (BitVec.ofInt 64 x &&& BitVec.ofInt 64 255).toNat ≤ 255 := by
    rw [BitVec.toNat_and]
    exact Nat.le_trans Nat.and_le_right (by decide)
  have e : Go.bits .and .i64 x 255 = (((BitVec.ofInt 64 x &&& BitVec.ofInt 64 255).toNat : Nat) : Int) := by
    show IntKind.i64.wrap (((BitVec.ofInt 64 x &&& BitVec.ofInt 64 255).toNat : Nat) : Int) = _
    exact wr_i64 _ (Int.natCast_nonneg _) (by omega)
  omega
/-- A reader's state: its place lies in the draw. -/
def Cur (s : List Int) (i : Int) : Prop := 0 ≤ i ∧ i ≤ s.length ∧ s.length ≤ 9223372036854775806
theorem new_loop (s : List Int) (hs : s.length ≤ 9223372036854775806) (d : Nat) : ∀ (k i : Nat) (h : Int), i + d = s.length → d < k → ∃ h', spec_l01New.l0 k s h (i : Int) = some (s, 0, h') := by
  induction d with
  | zero =>
    intro k i h hi hk
    obtain ⟨k, rfl⟩ : ∃ q, k = q + 1 := ⟨k - 1, by omega⟩
    exact ⟨h, by simp only [spec_l01New.l0]; rw [if_neg (by omega)]⟩
  | succ d ih =>
    intro k i h hi hk
    obtain ⟨k, rfl⟩ : ∃ q, k = q + 1 := ⟨k - 1, by omega⟩
    by_cases h4 : (i : Int) < 4000
    · obtain ⟨h', e⟩ := ih k (i + 1) (Go.bits .and .i64 (wrap64 ((wrap64 ((wrap64 (h * 131)) + (wrap64 (rd s i)))) + 7)) 1073741823) (by omega) (by omega)
      refine ⟨h', ?_⟩
      simp only [spec_l01New.l0]
      rw [if_pos (by omega), if_pos h4, if_pos (by omega), w64 (n := (i : Int) + 1) (by omega) (by omega), show (i : Int) + 1 = ((i + 1 : Nat) : Int) by omega]
      exact e
    · exact ⟨h, by simp only [spec_l01New.l0]; rw [if_pos (by omega), if_neg h4]⟩
theorem new_some (s : List Int) (hs : s.length ≤ 9223372036854775806) (k : Nat) (hk : s.length < k) : ∃ h', spec_l01New.f k s = some (s, 0, h') := by
  obtain ⟨h', e⟩ := new_loop s hs s.length k 0 (wrap64 (94701 + (s.length : Int))) (by omega) hk
  exact ⟨h', by unfold spec_l01New.f; exact e⟩
theorem cur_new {s : List Int} (hs : s.length ≤ 9223372036854775806) : Cur s 0 := ⟨by omega, by omega, hs⟩
theorem byte_some {s : List Int} {i : Int} (h : Int) (hc : Cur s i) : ∃ r, spec_l01Byte.f s i h = some r ∧ 0 ≤ r.1 ∧ r.1 ≤ 255 ∧ Cur s r.2.1 := by
  obtain ⟨h0, h1, h2⟩ := hc
  unfold spec_l01Byte.f
  by_cases hl : i < (s.length : Int)
  · rw [if_pos hl, if_pos h0]
    refine ⟨_, rfl, (and255 _).1, (and255 _).2, ?_⟩
    show Cur s (wrap64 (i + 1))
    rw [w64 (by omega) (by omega)]
    exact ⟨by omega, by omega, h2⟩
  · rw [if_neg hl]
    exact ⟨_, rfl, (and255 _).1, (and255 _).2, h0, h1, h2⟩
theorem below_some {s : List Int} {i : Int} (h n : Int) (hn : 1 ≤ n) (hc : Cur s i) : ∃ r, spec_l01Below.f s i h n = some r ∧ 0 ≤ r.1 ∧ r.1 < n ∧ Cur s r.2.1 := by
  unfold spec_l01Below.f
  rw [if_neg (by omega)]
  by_cases h256 : n ≤ 256
  · rw [if_pos h256]
    obtain ⟨r, e, r0, r1, c⟩ := byte_some h hc
    rw [e]; simp only [Option.bind_some]; rw [if_neg (by omega)]
    have hm : Int.tmod r.1 n = r.1 % n := Int.tmod_eq_emod_of_nonneg r0
    refine ⟨_, rfl, ?_, ?_, c⟩
    · show 0 ≤ Int.tmod r.1 n
      rw [hm]; exact Int.emod_nonneg _ (by omega)
    · show Int.tmod r.1 n < n
      rw [hm]; exact Int.emod_lt_of_pos _ (by omega)
  · rw [if_neg h256]
    obtain ⟨a, ea, a0, a1, ca⟩ := byte_some h hc
    obtain ⟨b, eb, b0, b1, cb⟩ := byte_some a.2.2 ca
    obtain ⟨c, ec, c0, c1, cc⟩ := byte_some b.2.2 cb
    obtain ⟨d, ed, d0, d1, cd⟩ := byte_some c.2.2 cc
    rw [ea]; simp only [Option.bind_some]; rw [eb]; simp only [Option.bind_some]; rw [ec]; simp only [Option.bind_some]; rw [ed]; simp only [Option.bind_some]; rw [if_neg (by omega)]
    have e : wrap64 ((wrap64 ((wrap64 ((wrap64 (a.1 * 16777216)) + (wrap64 (b.1 * 65536)))) + (wrap64 (c.1 * 256)))) + d.1) = a.1 * 16777216 + b.1 * 65536 + c.1 * 256 + d.1 := by
      rw [w64 (n := a.1 * 16777216) (by omega) (by omega), w64 (n := b.1 * 65536) (by omega) (by omega), w64 (n := c.1 * 256) (by omega) (by omega), w64 (n := a.1 * 16777216 + b.1 * 65536) (by omega) (by omega), w64 (n := a.1 * 16777216 + b.1 * 65536 + c.1 * 256) (by omega) (by omega), w64 (by omega) (by omega)]
    rw [e]
    have hm : Int.tmod (a.1 * 16777216 + b.1 * 65536 + c.1 * 256 + d.1) n = (a.1 * 16777216 + b.1 * 65536 + c.1 * 256 + d.1) % n := Int.tmod_eq_emod_of_nonneg (by omega)
    refine ⟨_, rfl, ?_, ?_, cd⟩
    · show 0 ≤ Int.tmod _ n
      rw [hm]; exact Int.emod_nonneg _ (by omega)
    · show Int.tmod _ n < n
      rw [hm]; exact Int.emod_lt_of_pos _ (by omega)

theorem places_loop (s : List Int) (d : Nat) : ∀ (k : Nat) (l : List Int) (i : Nat) (c h : Int), i + d = 12 → l.length = i → (∀ x ∈ l, 0 ≤ x ∧ x < 10000) → Cur s c → d < k → ∃ p, spec_DrawPlaces.l0 k l (i : Int) s c h = some p ∧ p.length = 12 ∧ ∀ x ∈ p, 0 ≤ x ∧ x < 10000 := by
  induction d with
  | zero =>
    intro k l i c h hi hl hx hc hk
    obtain ⟨k, rfl⟩ : ∃ q, k = q + 1 := ⟨k - 1, by omega⟩
    exact ⟨l, by simp only [spec_DrawPlaces.l0]; rw [if_neg (by omega)], by omega, hx⟩
  | succ d ih =>
    intro k l i c h hi hl hx hc hk
    obtain ⟨k, rfl⟩ : ∃ q, k = q + 1 := ⟨k - 1, by omega⟩
    obtain ⟨r, e, r0, r1, hr⟩ := below_some (s := s) (i := c) h 10000 (by omega) hc
    obtain ⟨p, ep, pl, px⟩ := ih k (l ++ [r.1]) (i + 1) r.2.1 r.2.2 (by omega) (by simp [hl]) (by
      intro x hm
      rcases List.mem_append.1 hm with hm | hm
      · exact hx x hm
      · rw [List.mem_singleton.1 hm]; exact ⟨r0, r1⟩) hr (by omega)
    refine ⟨p, ?_, pl, px⟩
    simp only [spec_DrawPlaces.l0]
    rw [if_pos (by omega), e]; simp only [Option.bind_some]; rw [if_pos (by omega), w64 (by omega) (by omega), show (i : Int) + 1 = ((i + 1 : Nat) : Int) by omega]
    exact ep
theorem places_some (s : List Int) (hs : s.length ≤ 9223372036854775806) (k : Nat) (hk : s.length + 13 < k) : ∃ p, spec_DrawPlaces.f k s = some p ∧ p.length = 12 ∧ ∀ x ∈ p, 0 ≤ x ∧ x < 10000 := by
  obtain ⟨h', e⟩ := new_some s hs k (by omega)
  obtain ⟨p, ep, pl, px⟩ := places_loop s 12 k [] 0 0 h' (by omega) rfl (by simp) (cur_new hs) (by omega)
  refine ⟨p, ?_, pl, px⟩
  unfold spec_DrawPlaces.f
  rw [e]; simp only [Option.bind_some]; exact ep
theorem rd_mem {p : List Int} {P : Int → Prop} (h : ∀ x ∈ p, P x) (i : Nat) (hi : i < p.length) : P (rd p (i : Int)) := by
  unfold rd
  rw [List.getD_eq_getElem?_getD, show ((i : Int)).toNat = i from rfl, List.getElem?_eq_getElem hi]
  exact h _ (List.getElem_mem hi)
theorem mod256 {x : Int} (h : 0 ≤ x) : ∃ n : Nat, n < 256 ∧ Int.tmod x 256 = n := by
  rw [Int.tmod_eq_emod_of_nonneg h]
  exact ⟨(x % 256).toNat, by omega, by omega⟩

theorem text_loop (s : List Int) (n : Int) (hn : n ≤ 5000) (d : Nat) : ∀ (k i : Nat) (l : List Int) (c h : Int), (i : Int) + d = n → l.length = i → Cur s c → d < k →
    ∃ r, spec_l01Text.l0 k n l (i : Int) s c h = some r ∧ (r.1.size : Int) = n ∧ Cur s r.2.1 := by
  induction d with
  | zero =>
    intro k i l c h hi hl hc hk
    obtain ⟨k, rfl⟩ : ∃ q, k = q + 1 := ⟨k - 1, by omega⟩
    refine ⟨(strOfNums l, c, h), ?_, ?_, hc⟩
    · simp only [spec_l01Text.l0]; rw [if_neg (by omega)]
    · simp only [strOf_size]; omega
  | succ d ih =>
    intro k i l c h hi hl hc hk
    obtain ⟨k, rfl⟩ : ∃ q, k = q + 1 := ⟨k - 1, by omega⟩
    obtain ⟨b, e, _, _, hb⟩ := byte_some h hc
    obtain ⟨r, er, rs, rc⟩ := ih k (i + 1) (l ++ [b.1 % 256]) b.2.1 b.2.2 (by omega) (by simp [hl]) hb (by omega)
    refine ⟨r, ?_, rs, rc⟩
    simp only [spec_l01Text.l0]
    rw [if_pos (by omega), e]
    simp only [ob]
    rw [if_pos (by omega), w64 (by omega) (by omega), show (i : Int) + 1 = ((i + 1 : Nat) : Int) by omega]
    exact er
theorem text_some {s : List Int} {c : Int} (h n : Int) (h0 : 0 ≤ n) (hn : n ≤ 5000) (hc : Cur s c) (k : Nat) (hk : 5002 < k) : ∃ r, spec_l01Text.f k s c h n = some r ∧ (r.1.size : Int) = n ∧ Cur s r.2.1 := by
  obtain ⟨k, rfl⟩ : ∃ q, k = q + 1 := ⟨k - 1, by omega⟩
  obtain ⟨r, e, rs, rc⟩ := text_loop s n hn n.toNat k 0 [] c h (by omega) rfl hc (by omega)
  rw [Int.natCast_zero] at e
  refine ⟨r, ?_, rs, rc⟩
  unfold spec_l01Text.f
  rw [if_neg (by omega)]
  simp only [spec_l01Text.j0]
  exact e

/-- n zero bytes. -/
def zb (n : Nat) : ByteArray := strOfNums (List.replicate n 0)
theorem zb_size (n : Nat) : (zb n).size = n := by unfold zb; rw [strOf_size, List.length_replicate]
theorem zb_data (n : Nat) : (zb n).data.toList = List.replicate n 0 := by unfold zb; rw [strOf_data, List.map_replicate]; rfl
theorem ba_ext {s t : ByteArray} (h : s.data.toList = t.data.toList) : s = t := by
  cases s; cases t; simp only at h; congr; exact Array.toList_inj.1 h
theorem rep_zero (n : Nat) (hn : n ≤ 140737488355328) : strings_Repeat.f ⟨#[0]⟩ (n : Int) = some (zb n) := by
  unfold strings_Repeat.f rep_.f
  rw [if_pos ⟨by omega, by show 1 * n ≤ _; omega, by omega⟩]
  congr 1
  apply ba_ext
  rw [zb_data]
  show Lib.repeatL [0] n = _
  induction n with
  | zero => rfl
  | succ n ih => rw [Lib.repeatL, ih (by omega), List.replicate_succ]; rfl
theorem impl_pad (s : ByteArray) (n : Nat) (hs : s.size ≤ 140737488351300) (hn : n ≤ 100000) : impl_padded.f s (n : Int) = some (s ++ zb (n - s.size)) := by
  unfold impl_padded.f
  have e : mx 0 (wrap64 ((n : Int) - (s.size : Int))) = ((n - s.size : Nat) : Int) := by
    rw [w64 (by omega) (by omega)]
    unfold mx
    split <;> omega
  rw [e, rep_zero _ (by omega)]
  simp only [Option.bind_some]
  rw [if_pos (by rw [zb_size]; omega)]
theorem pad_empty (n : Nat) (hn : n ≤ 100000) : impl_padded.f ⟨#[]⟩ (n : Int) = some (zb n) := by
  rw [impl_pad _ n (Nat.zero_le _) hn]
  have e : (⟨#[]⟩ : ByteArray) ++ zb (n - (⟨#[]⟩ : ByteArray).size) = zb n := by
    apply ba_ext
    rw [show (⟨#[]⟩ : ByteArray).size = 0 from rfl, Nat.sub_zero, ByteArray.data_append, Array.toList_append]
    rfl
  rw [e]

/-- The w bytes of m, the greatest first. -/
def nb (m w i : Nat) : Int := ((m / 2 ^ (8 * (w - 1 - i)) % 256 : Nat) : Int)
def numBytes (m w : Nat) : List Int := (List.range w).map (nb m w)
theorem numBytes_length (m w : Nat) : (numBytes m w).length = w := by simp [numBytes]
theorem shr_nat (m c : Nat) (hc : c ≤ 64) (y : Int) (hy : y = c) : shr .i64 (m : Int) y = ((m / 2 ^ c : Nat) : Int) := by
  subst hy
  unfold shr
  rw [show min ((c : Int)).toNat IntKind.i64.bits = c by simp [IntKind.bits]; omega]
  simp
theorem shl_one (c : Nat) (hc : c ≤ 56) (y : Int) (hy : y = c) : shl .i64 1 y = ((2 ^ c : Nat) : Int) := by
  subst hy
  unfold shl
  rw [show min ((c : Int)).toNat IntKind.i64.bits = c by simp [IntKind.bits]; omega]
  have h : (2 : Nat) ^ c ≤ 2 ^ 56 := Nat.pow_le_pow_right (by decide) hc
  rw [show (1 : Int) * 2 ^ c = ((2 ^ c : Nat) : Int) by simp]
  exact wr_i64 _ (Int.natCast_nonneg _) (by have : (2 : Nat) ^ 56 = 72057594037927936 := by decide
                                            omega)
theorem impl_numText_loop (m w : Nat) (hw : w ≤ 7) (d : Nat) : ∀ (k j : Nat), j + d = w → d < k →
    impl_NumText.l0 k (m : Int) (w : Int) ((List.range j).map (nb m w) ++ List.replicate d 0) (w : Int) (j : Int) = some (strOfNums (numBytes m w)) := by
  induction d with
  | zero =>
    intro k j hd hk
    obtain ⟨k, rfl⟩ : ∃ q, k = q + 1 := ⟨k - 1, by omega⟩
    obtain rfl : j = w := by omega
    simp only [impl_NumText.l0]
    rw [if_neg (by omega)]; simp [numBytes]
  | succ d ih =>
    intro k j hd hk
    obtain ⟨k, rfl⟩ : ∃ q, k = q + 1 := ⟨k - 1, by omega⟩
    have e := ih k (j + 1) (by omega) (by omega)
    simp only [impl_NumText.l0]
    rw [w64 (n := (w : Int) - 1) (by omega) (by omega), w64 (n := (w : Int) - 1 - j) (by omega) (by omega), w64 (n := 8 * ((w : Int) - 1 - j)) (by omega) (by omega), if_pos (by omega), if_pos (by omega), if_pos (by omega), if_pos (by simp; omega), shr_nat m (8 * (w - 1 - j)) (by omega) _ (by omega), w64 (by omega) (by omega)]
    rw [show (((m / 2 ^ (8 * (w - 1 - j)) : Nat) : Int) % 256) = nb m w j by unfold nb; omega]
    rw [show ((j : Int)).toNat = j from rfl, tab_set (nb m w) w j (List.replicate (d + 1) 0) (by omega) (by simp; omega)]
    exact e
/-- What NumText comes to. -/
def numTextOf (n w : Int) : ByteArray := if 0 ≤ n ∧ 1 ≤ w ∧ w ≤ 7 ∧ n.toNat < 2 ^ (8 * w.toNat) then strOfNums (numBytes n.toNat w.toNat) else ⟨#[]⟩
theorem numTextOf_size (n w : Int) : (numTextOf n w).size ≤ 7 := by
  unfold numTextOf
  split
  · rw [strOf_size, numBytes_length]; omega
  · simp [ByteArray.size]
theorem impl_numText (k : Nat) (hk : 9 ≤ k) (n w : Int) (n1 : n ≤ 9223372036854775807) : impl_NumText.f k n w = some (numTextOf n w) := by
  obtain ⟨k, rfl⟩ : ∃ q, k = q + 1 := ⟨k - 1, by omega⟩
  unfold numTextOf
  by_cases hn : 0 ≤ n
  · obtain ⟨m, rfl⟩ := Int.eq_ofNat_of_zero_le hn
    by_cases hw : 1 ≤ w
    · obtain ⟨v, rfl⟩ := Int.eq_ofNat_of_zero_le (show 0 ≤ w by omega)
      by_cases hw7 : (v : Int) ≤ 7
      · have e1 : wrap64 (8 * (v : Int)) = 8 * v := w64 (by omega) (by omega)
        have e2 := shl_one (8 * v) (by omega) (8 * (v : Int)) (by omega)
        have hc : (0 : Int) ≤ 8 * v := by omega
        simp only [impl_NumText.f, impl_within.f, ge_iff_le, if_neg (show ¬ ((m : Int) < 0) by omega), if_pos hw, hw7, decide_true, Option.bind_some, if_true, e1, e2, if_pos hc, impl_NumText.j0]
        by_cases h : m < 2 ^ (8 * v)
        · have h' : ¬ ((2 ^ (8 * v) : Nat) : Int) ≤ (m : Int) := by omega
          have e := impl_numText_loop m v (by omega) v k 0 (by omega) (by omega)
          rw [Int.natCast_zero] at e
          simp only [h', decide_false, Bool.false_eq_true, if_false]
          rw [if_pos (show ((v : Int)).toNat ≤ 281474976710656 by omega)]
          simp only [List.length_replicate, Int.toNat_natCast]
          have hh : 0 ≤ (m : Int) ∧ 1 ≤ (v : Int) ∧ True ∧ m < 2 ^ (8 * v) := ⟨hn, hw, trivial, h⟩
          simp only [if_pos hh]
          exact e
        · have h' : ((2 ^ (8 * v) : Nat) : Int) ≤ (m : Int) := by omega
          simp only [h', decide_true, if_true]
          rw [if_neg (fun hh => h hh.2.2.2)]
      · simp only [impl_NumText.f, impl_within.f, ge_iff_le, if_neg (show ¬ ((m : Int) < 0) by omega), if_pos hw, hw7, decide_false, Option.bind_some, Bool.false_eq_true, if_false, if_true, impl_NumText.j0, false_and, and_false]
    · simp only [impl_NumText.f, impl_within.f, ge_iff_le, if_neg (show ¬ ((m : Int) < 0) by omega), if_neg hw, Option.bind_some, Bool.false_eq_true, if_false, if_true, impl_NumText.j0, hw, false_and, and_false]
  · simp only [impl_NumText.f, if_pos (show n < 0 by omega), if_true, impl_NumText.j0, hn, false_and, if_false]

/-- The first w bytes from place p on, the greatest first, behind what is there. -/
def numOf (s : ByteArray) (p : Nat) : Nat → Nat → Nat
  | 0, acc => acc
  | w + 1, acc => numOf s (p + 1) w (256 * acc + bn s p)
theorem or_byte (a b : Nat) (ha : a < 2 ^ 54) (hb : b < 256) : Go.bits .or .i64 ((a : Int) * 256) (b : Int) = ((256 * a + b : Nat) : Int) := by
  have e := bits_join .i64 62 (by decide) wr_i64 8 ((a : Int) * 256) b (by omega) (by omega) (by omega) (by omega) (by omega) (by omega)
  rw [e]; omega
theorem impl_num_loop (s : ByteArray) (at_ w : Int) (_ : w ≤ 7) (_ : 0 ≤ at_) (hb : at_ + w ≤ s.size) (hs : s.size ≤ 140737488351232) (d : Nat) : ∀ (k : Nat) (i p acc : Nat), (i : Int) + d = w → (p : Int) = at_ + i → d < k → d ≤ 7 → acc < 256 ^ (7 - d) →
    impl_NumAt.l0 k s at_ (acc : Int) w (i : Int) = some (((numOf s p d acc : Nat) : Int), true) := by
  induction d with
  | zero =>
    intro k i p acc hd hp hk _ ha
    obtain ⟨k, rfl⟩ : ∃ q, k = q + 1 := ⟨k - 1, by omega⟩
    simp only [impl_NumAt.l0, numOf]
    rw [if_neg (by omega)]
  | succ d ih =>
    intro k i p acc hd hip hk hd7 ha
    obtain ⟨k, rfl⟩ : ∃ q, k = q + 1 := ⟨k - 1, by omega⟩
    have hb' := bn_lt s p
    have hp : 256 ^ (7 - d) = 256 * 256 ^ (7 - (d + 1)) := by rw [show 7 - d = (7 - (d + 1)) + 1 by omega, Nat.pow_succ]; omega
    have hq : 256 ^ (7 - (d + 1)) ≤ 256 ^ 6 := Nat.pow_le_pow_right (by decide) (by omega)
    have e := ih k (i + 1) (p + 1) (256 * acc + bn s p) (by omega) (by omega) (by omega) (by omega) (by omega)
    have hq' : (256 : Nat) ^ 6 = 281474976710656 := by decide
    simp only [impl_NumAt.l0, numOf]
    rw [w64 (n := at_ + i) (by omega) (by omega), if_pos (by omega), if_pos (by omega), if_pos (by omega), ← hip, bt_bn, w64 (n := (acc : Int) * 256) (by omega) (by omega), w64 (n := (bn s p : Int)) (by omega) (by omega), or_byte _ _ (by omega) hb', w64 (by omega) (by omega)]
    rw [show (i : Int) + 1 = ((i + 1 : Nat) : Int) by omega, e]
/-- NumAt of the program and of the reference are one: at 9 rounds or more. -/

theorem num_in (k : Nat) (hk : 9 ≤ k) (s : ByteArray) (p : Nat) (hb : p + 4 ≤ s.size) (hs : s.size ≤ 140737488351232) : impl_NumAt.f k s (p : Int) 4 = some (((numOf s p 4 0 : Nat) : Int), true) := by
  obtain ⟨k, rfl⟩ : ∃ q, k = q + 1 := ⟨k - 1, by omega⟩
  have e2 := impl_num_loop s p (4 : Nat) (by omega) (by omega) (by omega) hs 4 k 0 p 0 (by omega) (by omega) (by omega) (by omega) (Nat.pow_pos (by decide))
  have e0 : wrap64 ((s.size : Int) - 4) = (s.size : Int) - 4 := w64 (by omega) (by omega)
  have h3 : ¬ ((p : Int) > (s.size : Int) - 4) := by omega
  have hw : impl_within.f 4 1 7 = some true := by decide
  unfold impl_NumAt.f
  rw [if_neg (by omega), hw]
  simp only [Option.bind_some, if_true, e0, impl_NumAt.j0]
  rw [decide_eq_false h3, if_neg (by decide)]
  rw [Int.natCast_zero] at e2
  exact e2
theorem num_out (k : Nat) (hk : 9 ≤ k) (s : ByteArray) (p : Nat) (hb : s.size < p + 4) (hs : s.size ≤ 140737488351232) : impl_NumAt.f k s (p : Int) 4 = some (0, false) := by
  obtain ⟨k, rfl⟩ : ∃ q, k = q + 1 := ⟨k - 1, by omega⟩
  have e0 : wrap64 ((s.size : Int) - 4) = (s.size : Int) - 4 := w64 (by omega) (by omega)
  have h3 : ((p : Int) > (s.size : Int) - 4) := by omega
  have hw : impl_within.f 4 1 7 = some true := by decide
  unfold impl_NumAt.f
  rw [if_neg (by omega), hw]
  simp only [Option.bind_some, if_true, e0, impl_NumAt.j0]
  rw [decide_eq_true h3, if_pos rfl]
theorem data_app (a b : ByteArray) : (a ++ b).data.toList = a.data.toList ++ b.data.toList := by simp
theorem bn_app (a b : ByteArray) (i : Nat) : bn (a ++ b) (a.size + i) = bn b i := by
  have hl : a.data.toList.length = a.size := rfl
  unfold bn
  rw [data_app, List.getD_eq_getElem?_getD, List.getElem?_append_right (by omega), List.getD_eq_getElem?_getD, hl, Nat.add_sub_cancel_left]
theorem bytes4 (n : Nat) : numBytes n 4 = [((n / 16777216 % 256 : Nat) : Int), ((n / 65536 % 256 : Nat) : Int), ((n / 256 % 256 : Nat) : Int), ((n % 256 : Nat) : Int)] := by
  simp [numBytes, nb, List.range_succ]
theorem num_back (a : ByteArray) (n : Nat) (hn : n < 4294967296) : numOf (a ++ strOfNums (numBytes n 4)) a.size 4 0 = n := by
  have b := fun i => bn_app a (strOfNums (numBytes n 4)) i
  have b0 : bn (strOfNums (numBytes n 4)) 0 = n / 16777216 % 256 := by
    unfold bn; rw [strOf_data, bytes4]; simp; omega
  have b1 : bn (strOfNums (numBytes n 4)) 1 = n / 65536 % 256 := by
    unfold bn; rw [strOf_data, bytes4]; simp; omega
  have b2 : bn (strOfNums (numBytes n 4)) 2 = n / 256 % 256 := by
    unfold bn; rw [strOf_data, bytes4]; simp; omega
  have b3 : bn (strOfNums (numBytes n 4)) 3 = n % 256 := by
    unfold bn; rw [strOf_data, bytes4]; simp; omega
  have c0 := b 0
  have c1 := b 1
  have c2 := b 2
  have c3 := b 3
  rw [b0, Nat.add_zero] at c0
  rw [b1] at c1
  rw [b2] at c2
  rw [b3] at c3
  simp only [numOf, Nat.add_assoc, Nat.reduceAdd]
  rw [c0, c1, c2, c3]
  omega
theorem ext_size (t : ByteArray) (i j : Nat) (h : i ≤ j) (hj : j ≤ t.size) : (t.extract i j).size = j - i := by rw [ByteArray.size_extract]; omega
theorem words_step (t : ByteArray) (ht : t.size ≤ 10) (k a e : Nat) (xs : List ByteArray) (ha : a < t.size) (he : e = min (a + 8) t.size) (hx : xs.length ≤ 5) : impl_wordsOf.l0 (k + 1) t xs (a : Int) = impl_wordsOf.l0 k t (xs ++ [t.extract a e ++ zb (8 - (e - a))]) ((a + 8 : Nat) : Int) := by
  have w8 : wrap64 ((a : Int) + 8) = ((a + 8 : Nat) : Int) := by rw [w64 (by omega) (by omega)]; omega
  have hm : mn ((a + 8 : Nat) : Int) (t.size : Int) = (e : Int) := by unfold mn; split <;> omega
  have hp := impl_pad (t.extract a e) 8 (by rw [ByteArray.size_extract]; omega) (by omega)
  rw [ext_size t a e (by omega) (by omega)] at hp
  simp only [impl_wordsOf.l0]
  rw [if_pos (by omega), w8, hm, if_pos (by omega), if_pos (by omega), if_pos (by omega), show ((a : Int)).toNat = a from rfl, show ((e : Int)).toNat = e from rfl, show (8 : Int) = ((8 : Nat) : Int) from rfl, hp]
  simp only [Option.bind_some]
  rw [if_pos (by omega)]
theorem words_end (t : ByteArray) (k a : Nat) (xs : List ByteArray) (ha : t.size ≤ a) : impl_wordsOf.l0 (k + 1) t xs (a : Int) = some xs := by
  simp only [impl_wordsOf.l0]
  rw [if_neg (by omega)]
def wordsT (t : ByteArray) : List ByteArray := if t.size = 0 then [] else if t.size ≤ 8 then [t.extract 0 t.size ++ zb (8 - t.size)] else [t.extract 0 8 ++ zb 0, t.extract 8 t.size ++ zb (16 - t.size)]
theorem words_val (t : ByteArray) (ht : t.size ≤ 10) (k : Nat) (hk : 10 ≤ k) : impl_WordsOf.f k t = some (wordsT t) := by
  obtain ⟨k, rfl⟩ : ∃ q, k = q + 3 := ⟨k - 3, by omega⟩
  unfold impl_WordsOf.f impl_wordsOf.f wordsT
  rw [if_neg (by omega)]
  by_cases c0 : t.size = 0
  · have e := words_end t (k + 2) 0 [] (by omega)
    rw [Int.natCast_zero] at e
    rw [e, if_pos c0]; rfl
  · rw [if_neg c0]
    by_cases c1 : t.size ≤ 8
    · have e := words_step t ht (k + 2) 0 t.size [] (by omega) (by omega) (by simp)
      rw [Int.natCast_zero, words_end t (k + 1) _ _ (by omega)] at e
      rw [e, if_pos c1]; rfl
    · have e := words_step t ht (k + 2) 0 8 [] (by omega) (by omega) (by simp)
      have e2 := words_step t ht (k + 1) 8 t.size [t.extract 0 8 ++ zb 0] (by omega) (by omega) (by simp)
      rw [Int.natCast_zero] at e
      rw [e, if_neg c1]
      simp only [List.nil_append, Nat.zero_add, Nat.sub_zero, Nat.sub_self]
      rw [e2, words_end t k _ _ (by omega), show 8 - (t.size - 8) = 16 - t.size by omega]
      rfl
theorem bytes_end (k : Nat) (hk : 12 ≤ k) (n : Int) (s t all : ByteArray) (ws : List ByteArray) (hs : s.size = 4) (ht : t.size ≤ 10) (h1 : t.size ≤ all.size) (h2 : all.size < t.size + 8) (h3 : (all.extract 0 t.size).toList = t.toList) (h4 : t.size ≤ 8 → t.size ≠ 0 → all = t ++ zb (8 - t.size)) :
    laws_FnBytes.l0 k n s n true false t ws all (ws.length : Int) = some true := by
  obtain ⟨k, rfl⟩ : ∃ q, k = q + 1 := ⟨k - 1, by omega⟩
  have e : impl_NumText.f k 256 1 = some (⟨#[]⟩ : ByteArray) := by
    rw [impl_numText k (by omega) 256 1 (by omega)]
    unfold numTextOf
    rw [if_neg (by decide)]
  have e8 : wrap64 ((t.size : Int) + 8) = (t.size : Int) + 8 := w64 (by omega) (by omega)
  simp only [laws_FnBytes.l0]
  rw [if_neg (by omega), if_pos (by omega), if_pos trivial, if_pos trivial, if_neg (by decide), e]
  simp only [Option.bind_some]
  rw [if_pos (by simp [toList_eq']), if_pos (by omega), e8, if_pos (by omega), if_pos (by omega), if_pos (by omega), show ((t.size : Int)).toNat = t.size from rfl, if_pos h3]
  by_cases c : t.size ≤ 8
  · rw [if_neg (by omega)]
    by_cases c0 : t.size = 0
    · rw [if_pos (by omega)]
    · have hw : impl_WordText.f t = some (t ++ zb (8 - t.size)) := by
        unfold impl_WordText.f
        rw [if_neg (by omega), show (8 : Int) = ((8 : Nat) : Int) from rfl, impl_pad t 8 (by omega) (by omega)]
        rfl
      rw [if_neg (by omega), hw, h4 c c0]
      simp
  · rw [if_pos (by omega)]
theorem app_size (a b : ByteArray) : (a ++ b).size = a.size + b.size := by rw [ByteArray.size_append]
theorem ext_all (t : ByteArray) : t.extract 0 t.size = t := by simp
theorem toL (a b : ByteArray) (h : a.data.toList = b.data.toList) : a.toList = b.toList := by rw [toList_eq', toList_eq', h]
theorem ext_data (t : ByteArray) (i j : Nat) : (t.extract i j).data.toList = (t.data.toList.drop i).take (j - i) := by
  have := Lib.extract_toList t i j
  rwa [toList_eq'] at this
theorem bytes_tail (k : Nat) (hk : 20 ≤ k) (n : Int) (s t : ByteArray) (hs : s.size = 4) (ht : t.size ≤ 10) :
    laws_FnBytes.l0 k n s n true false t (wordsT t) (⟨#[]⟩ : ByteArray) 0 = some true := by
  have hl : t.data.toList.length = t.size := rfl
  have h0 : (⟨#[]⟩ : ByteArray).size = 0 := rfl
  obtain ⟨k, rfl⟩ : ∃ q, k = q + 2 := ⟨k - 2, by omega⟩
  unfold wordsT
  by_cases c0 : t.size = 0
  · rw [if_pos c0]
    exact bytes_end (k + 2) (by omega) n s t _ [] hs ht (by omega) (by omega) (toL _ _ (by rw [ext_data, List.eq_nil_of_length_eq_zero (hl.trans c0)]; simp)) (fun _ h => absurd c0 h)
  · rw [if_neg c0]
    by_cases c1 : t.size ≤ 8
    · rw [if_pos c1]
      have hz : (t.extract 0 t.size ++ zb (8 - t.size)).size = 8 := by rw [app_size, ext_all, zb_size]; omega
      have ha : (⟨#[]⟩ : ByteArray) ++ (t.extract 0 t.size ++ zb (8 - t.size)) = t ++ zb (8 - t.size) := by
        rw [ext_all]; apply ByteArray.ext; simp
      have hza : (t ++ zb (8 - t.size)).size = 8 := by rw [app_size, zb_size]; omega
      have w1 : wrap64 (0 + 1) = 1 := w64 (by omega) (by omega)
      rw [laws_FnBytes.l0, if_pos (by simp), if_pos (by omega)]
      have hr : rdOf ByteArray.empty [t.extract 0 t.size ++ zb (8 - t.size)] 0 = t.extract 0 t.size ++ zb (8 - t.size) := rfl
      rw [hr, if_pos (by omega), if_pos (by omega), ha, w1]
      exact bytes_end (k + 1) (by omega) n s t _ [t.extract 0 t.size ++ zb (8 - t.size)] hs ht (by omega) (by omega) (toL _ _ (by rw [ext_data, data_app, List.drop_zero, Nat.sub_zero, List.take_left' hl])) (fun _ _ => rfl)
    · rw [if_neg c1]
      have z1 : (t.extract 0 8 ++ zb 0).size = 8 := by rw [app_size, ext_size t 0 8 (by omega) (by omega), zb_size]
      have z2 : (t.extract 8 t.size ++ zb (16 - t.size)).size = 8 := by rw [app_size, ext_size t 8 t.size (by omega) (by omega), zb_size]; omega
      have ha : ((⟨#[]⟩ : ByteArray) ++ (t.extract 0 8 ++ zb 0)) ++ (t.extract 8 t.size ++ zb (16 - t.size)) = t ++ zb (16 - t.size) := by
        apply ByteArray.ext
        apply Array.toList_inj.1
        rw [data_app, data_app, data_app, data_app, data_app, ext_data, ext_data, zb_data 0]
        simp only [List.replicate_zero, List.append_nil, List.drop_zero, Nat.sub_zero]
        rw [← List.append_assoc]
        congr 1
        rw [List.take_of_length_le (l := t.data.toList.drop 8) (by rw [List.length_drop]; omega)]
        simp
      have hza : (t ++ zb (16 - t.size)).size = 16 := by rw [app_size, zb_size]; omega
      have w1 : wrap64 (0 + 1) = 1 := w64 (by omega) (by omega)
      have w2 : wrap64 (1 + 1) = 2 := w64 (by omega) (by omega)
      have h8 : ((⟨#[]⟩ : ByteArray) ++ (t.extract 0 8 ++ zb 0)).size = 8 := by rw [app_size, z1]; rfl
      have r0 : rdOf ByteArray.empty [t.extract 0 8 ++ zb 0, t.extract 8 t.size ++ zb (16 - t.size)] 0 = t.extract 0 8 ++ zb 0 := rfl
      have r1 : rdOf ByteArray.empty [t.extract 0 8 ++ zb 0, t.extract 8 t.size ++ zb (16 - t.size)] 1 = t.extract 8 t.size ++ zb (16 - t.size) := rfl
      rw [laws_FnBytes.l0, if_pos (by simp), if_pos (by omega), r0, if_pos (by omega), if_pos (by omega), w1]
      rw [laws_FnBytes.l0, if_pos (by simp), if_pos (by omega), r1, if_pos (by omega), if_pos (by omega), ha, w2]
      exact bytes_end k (by omega) n s t _ [t.extract 0 8 ++ zb 0, t.extract 8 t.size ++ zb (16 - t.size)] hs ht (by omega) (by omega) (toL _ _ (by rw [ext_data, data_app, List.drop_zero, Nat.sub_zero, List.take_left' hl])) (fun h => absurd h c1)
theorem FnBytes : laws_FnBytes.Pure := by
  intro l h1 h2 _
  refine rounds_of (l.length + 6000) fun k hk => ?_
  unfold laws_FnBytes.f laws_big.f
  simp only [ob]
  by_cases hb : (l.length : Int) > 1048576
  · rw [decide_eq_true hb, if_pos rfl]
  · rw [decide_eq_false hb, if_neg (by decide)]
    obtain ⟨p, e, pl, px⟩ := places_some l (by omega) k (by omega)
    rw [e]; simp only [ob]
    rw [if_pos (by omega), if_pos (by omega)]
    have q0 := rd_mem (P := fun x => 0 ≤ x ∧ x < 10000) px 0 (by omega)
    have q1 := rd_mem (P := fun x => 0 ≤ x ∧ x < 10000) px 1 (by omega)
    have q3 := rd_mem (P := fun x => 0 ≤ x ∧ x < 10000) px 3 (by omega)
    rw [show rd p 0 = rd p ((0 : Nat) : Int) from rfl, show rd p 1 = rd p ((1 : Nat) : Int) from rfl, show rd p 3 = rd p ((3 : Nat) : Int) from rfl]
    generalize rd p ((0 : Nat) : Int) = a at *
    generalize rd p ((1 : Nat) : Int) = b at *
    generalize rd p ((3 : Nat) : Int) = c at *
    rw [w64 (n := a * 10000) (by omega) (by omega), w64 (n := a * 10000 + b) (by omega) (by omega)]
    obtain ⟨n, hn⟩ : ∃ n : Nat, a * 10000 + b = (n : Int) := ⟨(a * 10000 + b).toNat, by omega⟩
    have hn2 : n < 4294967296 := by omega
    rw [hn, impl_numText k (by omega) (n : Int) 4 (by omega)]
    simp only [ob]
    have ht : numTextOf (n : Int) 4 = strOfNums (numBytes n 4) := by
      unfold numTextOf
      rw [if_pos ⟨by omega, by omega, by omega, by simpa using hn2⟩]; rfl
    have hs4 : (strOfNums (numBytes n 4)).size = 4 := by rw [strOf_size, numBytes_length]
    have hd : impl_Decimal.f c = some ⟨(Lib.itoa c).toArray⟩ := by
      unfold impl_Decimal.f
      rw [if_pos (by omega)]
    have hdl : (Lib.itoa c).length ≤ 21 := Lib.itoa_length_le c (by omega) (by omega)
    rw [ht, if_pos (by omega), hd]
    simp only [ob]
    obtain ⟨dt, hdt⟩ : ∃ dt : ByteArray, dt = ⟨(Lib.itoa c).toArray⟩ := ⟨_, rfl⟩
    have hds : dt.size ≤ 21 := by rw [hdt]; exact hdl
    rw [← hdt]
    clear hdt hd hdl
    rw [if_pos (by omega), num_in k (by omega) (dt ++ strOfNums (numBytes n 4)) dt.size (by rw [app_size]; omega) (by rw [app_size]; omega), num_back dt n hn2]
    simp only [ob]
    rw [w64 (n := (dt.size : Int) + 1) (by omega) (by omega), show (dt.size : Int) + 1 = ((dt.size + 1 : Nat) : Int) by omega, num_out k (by omega) (dt ++ strOfNums (numBytes n 4)) (dt.size + 1) (by rw [app_size]; omega) (by rw [app_size]; omega)]
    simp only [ob]
    have hw : ∃ t : ByteArray, spec_DrawWordText.f k l = some t ∧ t.size ≤ 10 := by
      obtain ⟨h', en⟩ := new_some l (by omega) k (by omega)
      obtain ⟨r, er, r0, r1, rc⟩ := below_some (s := l) (i := 0) h' 11 (by omega) (cur_new (by omega))
      obtain ⟨x, ex, x1, xc⟩ := text_some (s := l) (c := r.2.1) r.2.2 r.1 r0 (by omega) rc k (by omega)
      refine ⟨x.1, ?_, by omega⟩
      unfold spec_DrawWordText.f
      rw [en]; simp only [ob]
      rw [er]; simp only [ob]
      rw [ex]; simp only [ob]
    obtain ⟨t, et, htl⟩ := hw
    rw [et]; simp only [ob]
    rw [words_val t htl k (by omega)]
    simp only [ob]
    exact bytes_tail k (by omega) (n : Int) _ t hs4 htl
end Go.Proofs.YtkkadcpgjniojaaDoor.Pure
