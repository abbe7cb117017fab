/- The law FnPlaces answers true at every draw: the locations of all data are distinct and PartAt returns their tenant and kind; no condition. -/
import Derived.Test.YtenhfhkaemiohaaMFnPlacesx4
namespace Go.Proofs.Ytenhfhkaemiohaa.Pure
open Go.RowKit Go.Proofs.Ytenhfhkaemiohaa.PFnPlaces Go.Proofs.YtenhfhkaemiohaaW.PrintWords Go.Proofs.YtenhfhkaemiohaaW.PrintLast Go.Proofs.YtenhfhkaemiohaaW.PrintMore
set_option linter.unusedVariables false
set_option linter.unusedSimpArgs false

theorem w64 {n : Int} (h0 : -9223372036854775808 ≤ n) (h1 : n ≤ 9223372036854775807) : wrap64 n = n := by
  unfold wrap64; omega
theorem bits_nat3 (k : IntKind) (j : Nat) (hj : j ≤ k.bits) (hk : ∀ n : Int, 0 ≤ n → n < 2 ^ j → k.wrap n = n) (a b : Nat) (ha : a < 2 ^ j) (hb : b < 2 ^ j) :
    Go.bits .and k a b = ((a &&& b : Nat) : Int) ∧ Go.bits .or k a b = ((a ||| b : Nat) : Int) ∧ Go.bits .xor k a b = ((a ^^^ b : Nat) : Int) := by
  have hp : 2 ^ j ≤ 2 ^ k.bits := Nat.pow_le_pow_right (by decide) hj
  have ha' : a % 2 ^ k.bits = a := Nat.mod_eq_of_lt (Nat.lt_of_lt_of_le ha hp)
  have hb' : b % 2 ^ k.bits = b := Nat.mod_eq_of_lt (Nat.lt_of_lt_of_le hb hp)
  have cast : ∀ n : Nat, n < 2 ^ j → ((n : Nat) : Int) < 2 ^ j := fun n h => by exact_mod_cast h
  refine ⟨?_, ?_, ?_⟩
  · simp only [Go.bits, BitVec.ofInt_natCast, BitVec.toNat_and, BitVec.toNat_ofNat, ha', hb']
    exact hk _ (Int.natCast_nonneg _) (cast _ (Nat.and_lt_two_pow _ hb))
  · simp only [Go.bits, BitVec.ofInt_natCast, BitVec.toNat_or, BitVec.toNat_ofNat, ha', hb']
    exact hk _ (Int.natCast_nonneg _) (cast _ (Nat.or_lt_two_pow ha hb))
  · simp only [Go.bits, BitVec.ofInt_natCast, BitVec.toNat_xor, BitVec.toNat_ofNat, ha', hb']
    exact hk _ (Int.natCast_nonneg _) (cast _ (Nat.xor_lt_two_pow ha hb))
theorem wr_i64 (n : Int) (h0 : 0 ≤ n) (h1 : n < 2 ^ 62) : IntKind.i64.wrap n = n := by rw [IntKind.wrap_i64]; omega
theorem wr_u64 (n : Int) (h0 : 0 ≤ n) (h1 : n < 2 ^ 64) : IntKind.u64.wrap n = n := by
  simp [IntKind.wrap, IntKind.bits, IntKind.signed]; omega
theorem or_i64 (a b : Nat) (ha : a < 2 ^ 62) (hb : b < 2 ^ 62) : Go.bits .or .i64 a b = ((a ||| b : Nat) : Int) := (bits_nat3 .i64 62 (by decide) wr_i64 a b ha hb).2.1
theorem xor_i64 (a b : Nat) (ha : a < 2 ^ 62) (hb : b < 2 ^ 62) : Go.bits .xor .i64 a b = ((a ^^^ b : Nat) : Int) := (bits_nat3 .i64 62 (by decide) wr_i64 a b ha hb).2.2
theorem and_i64 (a b : Nat) (ha : a < 2 ^ 62) (hb : b < 2 ^ 62) : Go.bits .and .i64 a b = ((a &&& b : Nat) : Int) := (bits_nat3 .i64 62 (by decide) wr_i64 a b ha hb).1
theorem xor_u8 (a b : Nat) (ha : a < 2 ^ 8) (hb : b < 2 ^ 8) : Go.bits .xor .u8 a b = ((a ^^^ b : Nat) : Int) := (bits_nat3 .u8 8 (by decide) wraps_u8 a b ha hb).2.2
/-- Byte i of s as a natural number. -/
def bn (s : ByteArray) (i : Nat) : Nat := (s.data.toList.getD i 0).toNat
theorem bn_lt (s : ByteArray) (i : Nat) : bn s i < 256 := (s.data.toList.getD i 0).toNat_lt
theorem bt_bn (s : ByteArray) (i : Nat) : bt s (i : Int) = (bn s i : Int) := by
  unfold bt bn
  split
  · rename_i h
    have h' : i < s.data.toList.length := by rw [data_length]; simpa using h
    rw [List.getD_eq_getElem?_getD, List.getElem?_eq_getElem h']; rfl
  · rename_i h
    have h' : s.data.toList.length ≤ i := by rw [data_length]; simpa using h
    rw [List.getD_eq_getElem?_getD, List.getElem?_eq_none h']; rfl
theorem bt_bn' (s : ByteArray) (i : Int) (h : 0 ≤ i) : bt s i = (bn s i.toNat : Int) := by
  obtain ⟨n, rfl⟩ := Int.eq_ofNat_of_zero_le h
  exact bt_bn s n
theorem toList_eq' (s : ByteArray) : s.toList = s.data.toList := ByteArray.toList_eq s
/-- Two strings of one length are one where their bytes are. -/
theorem bytes_ext {s t : ByteArray} (hl : s.size = t.size) (h : ∀ i, i < s.size → bn s i = bn t i) : s.data.toList = t.data.toList := by
  apply List.ext_getElem (by rw [data_length, data_length, hl])
  intro i h1 h2
  have := h i (by rw [← data_length]; exact h1)
  unfold bn at this
  rw [List.getD_eq_getElem?_getD, List.getD_eq_getElem?_getD, List.getElem?_eq_getElem h1, List.getElem?_eq_getElem h2] at this
  exact UInt8.toNat_inj.1 this
theorem strOf_data (xs : List Int) : (strOfNums xs).data.toList = xs.map fun n => UInt8.ofNat n.toNat := by simp [strOfNums]
theorem strOf_toList (xs : List Int) : (strOfNums xs).toList = xs.map fun n => UInt8.ofNat n.toNat := by rw [toList_eq', strOf_data]
theorem strOf_size (xs : List Int) : (strOfNums xs).size = xs.length := by rw [← data_length, strOf_data, List.length_map]
/-- A list of n numbers written cell by cell is the list of what was written. -/
theorem tab_set (f : Nat → Int) (n i : Nat) (rest : List Int) (h : i < n) (hr : rest.length = n - i) :
    (((List.range i).map f) ++ rest).set i (f i) = ((List.range (i + 1)).map f) ++ rest.tail := by
  cases rest with
  | nil => simp at hr; omega
  | cons a rest =>
    rw [List.set_append_right _ _ (by simp)]
    simp [List.range_succ]
theorem xor_zero_iff {a b : Nat} : a ^^^ b = 0 ↔ a = b := by
  constructor
  · intro h
    have := congrArg (· ^^^ b) h
    simpa [Nat.xor_assoc] using this
  · rintro rfl; exact Nat.xor_self a
theorem rounds_of {P : Nat → Prop} (n : Nat) (h : ∀ k, n ≤ k → P k) : ∃ k, P k := ⟨n, h n (Nat.le_refl n)⟩
/-- As Option.bind_some, but not by reduction: the kernel is not led into what follows. -/
theorem ob {α β : Type} (a : α) (f : α → Option β) : (some a).bind f = f a := by
  cases h : f a with
  | none => rw [Option.bind_some, h]
  | some b => rw [Option.bind_some, h]

theorem lin (x lo hi : Int) : spec_l01In.f x lo hi = some (decide (lo ≤ x ∧ x ≤ hi)) := by
  unfold spec_l01In.f
  by_cases h : x ≥ lo
  · rw [if_pos h]; congr 1; simp; omega
  · rw [if_neg h]; congr 1; simp; omega
theorem win (x lo hi : Int) : impl_within.f x lo hi = some (decide (lo ≤ x ∧ x ≤ hi)) := lin x lo hi
def geoB (a b c d : Int) : Bool := decide (1 ≤ a ∧ a ≤ 3) && (decide (5 ≤ b ∧ b ≤ 12) && (decide (2 ≤ c ∧ c ≤ 6) && decide (1 ≤ d ∧ d ≤ wrap64 (b - 4))))
theorem geo_spec (a b c d : Int) : spec_GeoOk.f a b c d = some (geoB a b c d) := by
  simp only [spec_GeoOk.f, lin, Option.bind_some, geoB]
  cases decide (1 ≤ a ∧ a ≤ 3) <;> cases decide (5 ≤ b ∧ b ≤ 12) <;> cases decide (2 ≤ c ∧ c ≤ 6) <;> simp
theorem geo_impl (a b c d : Int) : impl_GeoOk.f a b c d = some (geoB a b c d) := by
  simp only [impl_GeoOk.f, win, Option.bind_some, geoB]
  cases decide (1 ≤ a ∧ a ≤ 3) <;> cases decide (5 ≤ b ∧ b ≤ 12) <;> cases decide (2 ≤ c ∧ c ≤ 6) <;> simp
theorem geo_bounds {a b c d : Int} (h : geoB a b c d = true) : (1 ≤ a ∧ a ≤ 3) ∧ (5 ≤ b ∧ b ≤ 12) ∧ (2 ≤ c ∧ c ≤ 6) ∧ 1 ≤ d ∧ d ≤ b - 4 := by
  simp only [geoB, Bool.and_eq_true, decide_eq_true_eq] at h
  obtain ⟨h1, h2, h3, h4⟩ := h
  rw [w64 (by omega) (by omega)] at h4
  exact ⟨h1, h2, h3, h4⟩

theorem and255 (x : Int) : 0 ≤ Go.bits .and .i64 x 255 ∧ Go.bits .and .i64 x 255 ≤ 255 := by
  have h : (BitVec.ofInt 64 x &&& BitVec.ofInt 64 255).toNat ≤ 255 := by
    rw [BitVec.toNat_and]
    exact Nat.le_trans Nat.and_le_right (by decide)
  have e : Go.bits .and .i64 x 255 = (((BitVec.ofInt 64 x &&& BitVec.ofInt 64 255).toNat : Nat) : Int) := by
    show IntKind.i64.wrap (((BitVec.ofInt 64 x &&& BitVec.ofInt 64 255).toNat : Nat) : Int) = _
    exact wr_i64 _ (Int.natCast_nonneg _) (by omega)
  omega
/-- A reader's state: its place lies in the draw. -/
def Cur (s : List Int) (i : Int) : Prop := 0 ≤ i ∧ i ≤ s.length ∧ s.length ≤ 9223372036854775806
theorem new_loop (s : List Int) (hs : s.length ≤ 9223372036854775806) (d : Nat) : ∀ (k i : Nat) (h : Int), i + d = s.length → d < k → ∃ h', spec_l01New.l0 k s h (i : Int) = some (s, 0, h') := by
  induction d with
  | zero =>
    intro k i h hi hk
    obtain ⟨k, rfl⟩ : ∃ q, k = q + 1 := ⟨k - 1, by omega⟩
    exact ⟨h, by simp only [spec_l01New.l0]; rw [if_neg (by omega)]⟩
  | succ d ih =>
    intro k i h hi hk
    obtain ⟨k, rfl⟩ : ∃ q, k = q + 1 := ⟨k - 1, by omega⟩
    by_cases h4 : (i : Int) < 4000
    · obtain ⟨h', e⟩ := ih k (i + 1) (Go.bits .and .i64 (wrap64 ((wrap64 ((wrap64 (h * 131)) + (wrap64 (rd s i)))) + 7)) 1073741823) (by omega) (by omega)
      refine ⟨h', ?_⟩
      simp only [spec_l01New.l0]
      rw [if_pos (by omega), if_pos h4, if_pos (by omega), w64 (n := (i : Int) + 1) (by omega) (by omega), show (i : Int) + 1 = ((i + 1 : Nat) : Int) by omega]
      exact e
    · exact ⟨h, by simp only [spec_l01New.l0]; rw [if_pos (by omega), if_neg h4]⟩
theorem new_some (s : List Int) (hs : s.length ≤ 9223372036854775806) (k : Nat) (hk : s.length < k) : ∃ h', spec_l01New.f k s = some (s, 0, h') := by
  obtain ⟨h', e⟩ := new_loop s hs s.length k 0 (wrap64 (94701 + (s.length : Int))) (by omega) hk
  exact ⟨h', by unfold spec_l01New.f; exact e⟩
theorem cur_new {s : List Int} (hs : s.length ≤ 9223372036854775806) : Cur s 0 := ⟨by omega, by omega, hs⟩
theorem byte_some {s : List Int} {i : Int} (h : Int) (hc : Cur s i) : ∃ r, spec_l01Byte.f s i h = some r ∧ 0 ≤ r.1 ∧ r.1 ≤ 255 ∧ Cur s r.2.1 := by
  obtain ⟨h0, h1, h2⟩ := hc
  unfold spec_l01Byte.f
  by_cases hl : i < (s.length : Int)
  · rw [if_pos hl, if_pos h0]
    refine ⟨_, rfl, (and255 _).1, (and255 _).2, ?_⟩
    show Cur s (wrap64 (i + 1))
    rw [w64 (by omega) (by omega)]
    exact ⟨by omega, by omega, h2⟩
  · rw [if_neg hl]
    exact ⟨_, rfl, (and255 _).1, (and255 _).2, h0, h1, h2⟩
theorem below_some {s : List Int} {i : Int} (h n : Int) (hn : 1 ≤ n) (hc : Cur s i) : ∃ r, spec_l01Below.f s i h n = some r ∧ 0 ≤ r.1 ∧ r.1 < n ∧ Cur s r.2.1 := by
  unfold spec_l01Below.f
  rw [if_neg (by omega)]
  by_cases h256 : n ≤ 256
  · rw [if_pos h256]
    obtain ⟨r, e, r0, r1, c⟩ := byte_some h hc
    rw [e]; simp only [Option.bind_some]; rw [if_neg (by omega)]
    have hm : Int.tmod r.1 n = r.1 % n := Int.tmod_eq_emod_of_nonneg r0
    refine ⟨_, rfl, ?_, ?_, c⟩
    · show 0 ≤ Int.tmod r.1 n
      rw [hm]; exact Int.emod_nonneg _ (by omega)
    · show Int.tmod r.1 n < n
      rw [hm]; exact Int.emod_lt_of_pos _ (by omega)
  · rw [if_neg h256]
    obtain ⟨a, ea, a0, a1, ca⟩ := byte_some h hc
    obtain ⟨b, eb, b0, b1, cb⟩ := byte_some a.2.2 ca
    obtain ⟨c, ec, c0, c1, cc⟩ := byte_some b.2.2 cb
    obtain ⟨d, ed, d0, d1, cd⟩ := byte_some c.2.2 cc
    rw [ea]; simp only [Option.bind_some]; rw [eb]; simp only [Option.bind_some]; rw [ec]; simp only [Option.bind_some]; rw [ed]; simp only [Option.bind_some]; rw [if_neg (by omega)]
    have e : wrap64 ((wrap64 ((wrap64 ((wrap64 (a.1 * 16777216)) + (wrap64 (b.1 * 65536)))) + (wrap64 (c.1 * 256)))) + d.1) = a.1 * 16777216 + b.1 * 65536 + c.1 * 256 + d.1 := by
      rw [w64 (n := a.1 * 16777216) (by omega) (by omega), w64 (n := b.1 * 65536) (by omega) (by omega), w64 (n := c.1 * 256) (by omega) (by omega), w64 (n := a.1 * 16777216 + b.1 * 65536) (by omega) (by omega), w64 (n := a.1 * 16777216 + b.1 * 65536 + c.1 * 256) (by omega) (by omega), w64 (by omega) (by omega)]
    rw [e]
    have hm : Int.tmod (a.1 * 16777216 + b.1 * 65536 + c.1 * 256 + d.1) n = (a.1 * 16777216 + b.1 * 65536 + c.1 * 256 + d.1) % n := Int.tmod_eq_emod_of_nonneg (by omega)
    refine ⟨_, rfl, ?_, ?_, cd⟩
    · show 0 ≤ Int.tmod _ n
      rw [hm]; exact Int.emod_nonneg _ (by omega)
    · show Int.tmod _ n < n
      rw [hm]; exact Int.emod_lt_of_pos _ (by omega)

theorem pick_some {s : List Int} {c : Int} (h : Int) (l : List Int) (hl : 1 ≤ l.length) (hc : Cur s c) : ∃ r, spec_l01PickInt.f s c h l = some r ∧ r.1 ∈ l ∧ Cur s r.2.1 := by
  obtain ⟨b, e, b0, b1, hb⟩ := below_some (s := s) (i := c) h (l.length : Int) (by omega) hc
  refine ⟨(rd l b.1, b.2.1, b.2.2), ?_, ?_, hb⟩
  · unfold spec_l01PickInt.f
    rw [e]
    simp only [ob]
    rw [if_pos b0, if_pos b1]
  · show rd l b.1 ∈ l
    unfold rd
    have hlt : b.1.toNat < l.length := by omega
    rw [List.getD_eq_getElem?_getD, List.getElem?_eq_getElem hlt]
    exact List.getElem_mem hlt

theorem geo_draw {s : List Int} {c : Int} (h : Int) (hc : Cur s c) : ∃ r, spec_l11Geo.f s c h = some r ∧ Cur s r.2.2.2.2.1 := by
  obtain ⟨a, ea, a0, a1, ca⟩ := below_some (s := s) (i := c) h 3 (by omega) hc
  obtain ⟨b, eb, b0, b1, cb⟩ := below_some (s := s) (i := a.2.1) a.2.2 7 (by omega) ca
  obtain ⟨d, ed, d0, d1, cd⟩ := below_some (s := s) (i := b.2.1) b.2.2 4 (by omega) cb
  have e6 : wrap64 (6 + b.1) = 6 + b.1 := w64 (by omega) (by omega)
  have e4 : wrap64 (wrap64 (6 + b.1) - 4) = 2 + b.1 := by rw [e6, w64 (by omega) (by omega)]; omega
  obtain ⟨q, eq, q0, q1, cq⟩ := below_some (s := s) (i := d.2.1) d.2.2 (2 + b.1) (by omega) cd
  refine ⟨(wrap64 (1 + a.1), wrap64 (6 + b.1), wrap64 (3 + d.1), wrap64 (1 + q.1), q.2.1, q.2.2), ?_, cq⟩
  · unfold spec_l11Geo.f
    rw [ea]; simp only [ob]
    rw [eb]; simp only [ob]
    rw [ed]; simp only [ob]
    rw [e4, eq]; simp only [ob]
theorem any_draw {s : List Int} {c : Int} (h : Int) (hc : Cur s c) : ∃ r, spec_l11Any.f s c h = some r := by
  obtain ⟨g, eg, cg⟩ := geo_draw h hc
  obtain ⟨b, eb, b0, b1, cb⟩ := below_some (s := s) (i := g.2.2.2.2.1) g.2.2.2.2.2 12 (by omega) cg
  unfold spec_l11Any.f
  rw [eg]; simp only [ob]
  rw [eb]; simp only [ob]
  split
  · obtain ⟨p, ep, _, _⟩ := pick_some (s := s) (c := b.2.1) b.2.2 [0, 4, (-1), 9223372036854775807] (by simp) cb
    rw [ep]; simp only [ob]; exact ⟨_, rfl⟩
  · split
    · obtain ⟨p, ep, _, _⟩ := pick_some (s := s) (c := b.2.1) b.2.2 [4, 5, 12, 13, (-1)] (by simp) cb
      rw [ep]; simp only [ob]; exact ⟨_, rfl⟩
    · split
      · obtain ⟨p, ep, _, _⟩ := pick_some (s := s) (c := b.2.1) b.2.2 [1, 2, 6, 7] (by simp) cb
        rw [ep]; simp only [ob]; exact ⟨_, rfl⟩
      · split
        · obtain ⟨p, ep, _, _⟩ := pick_some (s := s) (c := b.2.1) b.2.2 [0, 8, 9, wrap64 (g.2.1 - 4), wrap64 (g.2.1 - 3)] (by simp) cb
          rw [ep]; simp only [ob]; exact ⟨_, rfl⟩
        · exact ⟨_, rfl⟩
/-- The place of the q-th word of a tenant's part, and its kind. -/
def off (q : Nat) : Nat := if q = 0 then 0 else if q = 1 then 2 else if q < 34 then q + 2 else q + 4
def knd (I q : Nat) : Nat := if q = 0 then 1 else if q = 1 then 2 else if q < 34 then 3 else if q < 34 + 8 * I then 5 else 6
def atL (b m : Nat) : List Int := (List.range m).map fun q => ((b + off q : Nat) : Int)
def kdL (I m : Nat) : List Int := (List.range m).map fun q => ((knd I q : Nat) : Int)
theorem atL_length (b m : Nat) : (atL b m).length = m := by simp [atL]
theorem kdL_length (b m : Nat) : (kdL b m).length = m := by simp [kdL]
theorem atL_succ (b m : Nat) (x : Int) (h : x = ((b + off m : Nat) : Int)) : atL b m ++ [x] = atL b (m + 1) := by subst h; simp [atL, List.range_succ]
theorem kdL_succ (b m : Nat) (x : Int) (h : x = ((knd b m : Nat) : Int)) : kdL b m ++ [x] = kdL b (m + 1) := by subst h; simp [kdL, List.range_succ]
theorem atL_rd (b m q : Nat) (h : q < m) : rd (atL b m) (q : Int) = ((b + off q : Nat) : Int) := by
  unfold rd atL
  rw [List.getD_eq_getElem?_getD, show ((q : Int)).toNat = q from rfl, List.getElem?_map, List.getElem?_range h]; rfl
theorem kdL_rd (b m q : Nat) (h : q < m) : rd (kdL b m) (q : Int) = ((knd b q : Nat) : Int) := by
  unfold rd kdL
  rw [List.getD_eq_getElem?_getD, show ((q : Int)).toNat = q from rfl, List.getElem?_map, List.getElem?_range h]; rfl
/-- A geometry's facts. -/
structure G (T P I Q W : Nat) : Prop where
  w : W = 38 + 8 * I + 4 * P
  ok : geoB (T : Int) (P : Int) (I : Int) (Q : Int) = true
  t : 1 ≤ T ∧ T ≤ 3
  p : 5 ≤ P ∧ P ≤ 12
  i : 2 ≤ I ∧ I ≤ 6
theorem pw_val (T P I Q W : Nat) (g : G T P I Q W) : impl_Geo_partWords.f (T : Int) (P : Int) (I : Int) (Q : Int) = some (W : Int) := by
  have h1 := g.p
  have h2 := g.i
  have hW := g.w
  unfold impl_Geo_partWords.f
  rw [w64 (n := 8 * (I : Int)) (by omega) (by omega), w64 (n := 4 * (P : Int)) (by omega) (by omega), w64 (n := 38 + 8 * (I : Int)) (by omega) (by omega), w64 (by omega) (by omega), hW]
  congr 1
theorem in_part (T P I Q W t x : Nat) (g : G T P I Q W) (ht : t < T) (hx : x ≤ 1000) : impl_inPart.f (T : Int) (P : Int) (I : Int) (Q : Int) (t : Int) true (x : Int) = some ((t * W + x : Nat) : Int) := by
  have h0 := g.t
  have h1 := g.p
  have h2 := g.i
  have hW : W ≤ 134 := by have := g.w; omega
  have hm : t * W ≤ 2 * 134 := Nat.mul_le_mul (by omega) hW
  have e1 : wrap64 ((T : Int) - 1) = (T : Int) - 1 := w64 (by omega) (by omega)
  have e2 : wrap64 ((t : Int) * (W : Int)) = ((t * W : Nat) : Int) := by
    rw [show (t : Int) * (W : Int) = ((t * W : Nat) : Int) by simp, w64 (by omega) (by omega)]
  have e3 : wrap64 (((t * W : Nat) : Int) + (x : Int)) = ((t * W + x : Nat) : Int) := by rw [w64 (by omega) (by omega)]; omega
  simp only [impl_inPart.f, impl_isTenant.f, geo_impl, g.ok, win, e1, ob, if_true, decide_eq_true (show 0 ≤ (t : Int) ∧ (t : Int) ≤ (T : Int) - 1 by omega), pw_val T P I Q W g, e2, e3]
theorem j_at (T P I Q W t i : Nat) (g : G T P I Q W) (ht : t < T) (hi : i < 32) : impl_JournalAt.f (T : Int) (P : Int) (I : Int) (Q : Int) (t : Int) (wrap64 (Int.tdiv (i : Int) 2)) = some ((t * W + (4 + 2 * (i / 2)) : Nat) : Int) := by
  have e0 : wrap64 (Int.tdiv (i : Int) 2) = ((i / 2 : Nat) : Int) := by rw [Int.tdiv_eq_ediv_of_nonneg (by omega), w64 (by omega) (by omega)]; omega
  have e1 : wrap64 (4 + wrap64 (2 * ((i / 2 : Nat) : Int))) = ((4 + 2 * (i / 2) : Nat) : Int) := by rw [w64 (n := 2 * ((i / 2 : Nat) : Int)) (by omega) (by omega), w64 (by omega) (by omega)]; omega
  have e2 := in_part T P I Q W t (4 + 2 * (i / 2)) g ht (by omega)
  simp only [impl_JournalAt.f, e0, win, ob, decide_eq_true (show 0 ≤ ((i / 2 : Nat) : Int) ∧ ((i / 2 : Nat) : Int) ≤ 15 by omega), e1, e2]
theorem i_at (T P I Q W t i : Nat) (g : G T P I Q W) (ht : t < T) (hi : i < 8 * I) : impl_InodeAt.f (T : Int) (P : Int) (I : Int) (Q : Int) (t : Int) (wrap64 (Int.tdiv (i : Int) 8)) = some ((t * W + (38 + 8 * (i / 8)) : Nat) : Int) := by
  have h2 := g.i
  have e0 : wrap64 (Int.tdiv (i : Int) 8) = ((i / 8 : Nat) : Int) := by rw [Int.tdiv_eq_ediv_of_nonneg (by omega), w64 (by omega) (by omega)]; omega
  have e1 : wrap64 (38 + wrap64 (8 * ((i / 8 : Nat) : Int))) = ((38 + 8 * (i / 8) : Nat) : Int) := by rw [w64 (n := 8 * ((i / 8 : Nat) : Int)) (by omega) (by omega), w64 (by omega) (by omega)]; omega
  have e3 : wrap64 ((I : Int) - 1) = (I : Int) - 1 := w64 (by omega) (by omega)
  have e2 := in_part T P I Q W t (38 + 8 * (i / 8)) g ht (by omega)
  simp only [impl_InodeAt.f, e0, win, ob, e3, decide_eq_true (show 0 ≤ ((i / 8 : Nat) : Int) ∧ ((i / 8 : Nat) : Int) ≤ (I : Int) - 1 by omega), e1, e2]
theorem p_at (T P I Q W t i : Nat) (g : G T P I Q W) (ht : t < T) (hi : i < 4 * P) : impl_PageAt.f (T : Int) (P : Int) (I : Int) (Q : Int) (t : Int) (wrap64 (Int.tdiv (i : Int) 4)) = some ((t * W + (38 + 8 * I + 4 * (i / 4)) : Nat) : Int) := by
  have h1 := g.p
  have h2 := g.i
  have e0 : wrap64 (Int.tdiv (i : Int) 4) = ((i / 4 : Nat) : Int) := by rw [Int.tdiv_eq_ediv_of_nonneg (by omega), w64 (by omega) (by omega)]; omega
  have e1 : wrap64 (wrap64 (38 + wrap64 (8 * (I : Int))) + wrap64 (4 * ((i / 4 : Nat) : Int))) = ((38 + 8 * I + 4 * (i / 4) : Nat) : Int) := by
    rw [w64 (n := 8 * (I : Int)) (by omega) (by omega), w64 (n := 4 * ((i / 4 : Nat) : Int)) (by omega) (by omega), w64 (n := 38 + 8 * (I : Int)) (by omega) (by omega), w64 (by omega) (by omega)]; omega
  have e3 : wrap64 ((P : Int) - 1) = (P : Int) - 1 := w64 (by omega) (by omega)
  have e2 := in_part T P I Q W t (38 + 8 * I + 4 * (i / 4)) g ht (by omega)
  simp only [impl_PageAt.f, e0, win, ob, e3, decide_eq_true (show 0 ≤ ((i / 4 : Nat) : Int) ∧ ((i / 4 : Nat) : Int) ≤ (P : Int) - 1 by omega), e1, e2]
theorem part_at (T P I Q W t q : Nat) (g : G T P I Q W) (ht : t < T) (hq : q < 34 + 8 * I + 4 * P) (k : Nat) (hk : 1 ≤ k) : impl_PartAt.f k (T : Int) (P : Int) (I : Int) (Q : Int) ((t * W + off q : Nat) : Int) = some ((t : Int), ((knd I q : Nat) : Int)) := by
  obtain ⟨k, rfl⟩ : ∃ z, k = z + 1 := ⟨k - 1, by omega⟩
  have h0 := g.t
  have h1 := g.p
  have h2 := g.i
  have hW := g.w
  have ho : off q < W := by unfold off; split <;> (try split) <;> (try split) <;> omega
  have hb : (t + 1) * W ≤ T * W := Nat.mul_le_mul_right _ (by omega)
  have hT : T * W ≤ 3 * 134 := Nat.mul_le_mul (by omega) (by omega)
  have hs : (t + 1) * W = t * W + W := by rw [Nat.add_mul, Nat.one_mul]
  have e3 : wrap64 (((T * W : Nat) : Int) - 1) = ((T * W : Nat) : Int) - 1 := w64 (by omega) (by omega)
  have er : 0 ≤ ((t * W + off q : Nat) : Int) ∧ ((t * W + off q : Nat) : Int) ≤ ((T * W : Nat) : Int) - 1 := by clear e3; omega
  have e2 : wrap64 ((T : Int) * (W : Int)) = ((T * W : Nat) : Int) := by
    clear e3 er
    rw [show (T : Int) * (W : Int) = ((T * W : Nat) : Int) by simp, w64 (by omega) (by omega)]
  have em : Int.tmod ((t * W + off q : Nat) : Int) (W : Int) = ((off q : Nat) : Int) := by
    rw [Int.tmod_eq_emod_of_nonneg (by omega)]
    rw [← Int.natCast_emod, Nat.mul_comm t, Nat.mul_add_mod, Nat.mod_eq_of_lt ho]
  have ed : wrap64 (Int.tdiv ((t * W + off q : Nat) : Int) (W : Int)) = (t : Int) := by
    rw [Int.tdiv_eq_ediv_of_nonneg (by omega), ← Int.natCast_ediv, Nat.mul_comm t, Nat.mul_add_div (by omega), Nat.div_eq_of_lt ho, Nat.add_zero, w64 (by omega) (by omega)]
  have e8 : wrap64 (38 + wrap64 (8 * (I : Int))) = ((38 + 8 * I : Nat) : Int) := by rw [w64 (n := 8 * (I : Int)) (by omega) (by omega), w64 (by omega) (by omega)]; omega
  have hw0 : ¬ ((W : Int) = 0) := by omega
  simp only [impl_PartAt.f, geo_impl, g.ok, win, e2, e3, ob, if_true, decide_eq_true er, pw_val T P I Q W g, Bool.not_true, impl_PartAt.j0, Bool.false_eq_true, if_false, if_neg hw0, em, ed, e8]
  unfold off knd
  by_cases q0 : q = 0
  · simp [q0]
  · by_cases q1 : q = 1
    · simp [q1]
    · by_cases q2 : q < 34
      · simp only [if_neg q0, if_neg q1, if_pos q2]
        rw [if_neg (by omega), if_neg (by omega), if_neg (by omega), if_pos (by omega)]; rfl
      · by_cases q3 : q < 34 + 8 * I
        · simp only [if_neg q0, if_neg q1, if_neg q2, if_pos q3]
          rw [if_neg (by omega), if_neg (by omega), if_neg (by omega), if_neg (by omega), if_neg (by omega), if_pos (by omega)]; rfl
        · simp only [if_neg q0, if_neg q1, if_neg q2, if_neg q3]
          rw [if_neg (by omega), if_neg (by omega), if_neg (by omega), if_neg (by omega), if_neg (by omega), if_neg (by omega)]; rfl
theorem off_mono (q : Nat) : off q < off (q + 1) := by
  unfold off
  rw [if_neg (show ¬ q + 1 = 0 by omega)]
  by_cases q0 : q = 0
  · subst q0; simp
  · rw [if_neg q0, if_neg (show ¬ q + 1 = 1 by omega)]
    by_cases q1 : q = 1
    · subst q1; simp
    · rw [if_neg q1]
      by_cases q2 : q < 34
      · rw [if_pos q2]
        by_cases q3 : q + 1 < 34
        · rw [if_pos q3]; omega
        · rw [if_neg q3]; omega
      · rw [if_neg q2, if_neg (show ¬ q + 1 < 34 by omega)]; omega
/-- Nothing from x on is met yet. -/
def Met (n x : Nat) (met : List Bool) : Prop := met.length = n + 1 ∧ ∀ v, met.getD v false = true → v < x
theorem l4_loop (T P I Q W t : Nat) (g : G T P I Q W) (ht : t < T) (R : Nat)
    (hnext : ∀ met, Met (T * W) ((t + 1) * W) met → ∀ k, R < k → laws_FnPlaces.l0 k ((T * W : Nat) : Int) met ((t + 1 : Nat) : Int) (T : Int) (P : Int) (I : Int) (Q : Int) = some true) (d : Nat) :
    ∀ (k q : Nat) (met : List Bool), q + d = 34 + 8 * I + 4 * P → Met (T * W) (t * W + off q) met → R + 2 * d + 1 < k →
      laws_FnPlaces.l4 k ((T * W : Nat) : Int) met (t : Int) (atL (t * W) (34 + 8 * I + 4 * P)) (kdL I (34 + 8 * I + 4 * P)) (q : Int) (T : Int) (P : Int) (I : Int) (Q : Int) = some true := by
  have h0 := g.t
  have h1 := g.p
  have h2 := g.i
  have hW := g.w
  have hs : (t + 1) * W = t * W + W := by rw [Nat.add_mul, Nat.one_mul]
  have hb : (t + 1) * W ≤ T * W := Nat.mul_le_mul_right _ (by omega)
  have hT : T * W ≤ 3 * 134 := Nat.mul_le_mul (by omega) (by omega)
  induction d with
  | zero =>
    intro k q met hq hm hk
    obtain ⟨k, rfl⟩ : ∃ z, k = z + 1 := ⟨k - 1, by omega⟩
    simp only [laws_FnPlaces.l4, atL_length]
    rw [if_neg (by omega), w64 (by omega) (by omega), show (t : Int) + 1 = ((t + 1 : Nat) : Int) by omega]
    refine hnext met ⟨hm.1, fun v hv => ?_⟩ k (by omega)
    have := hm.2 v hv
    have ho : off q ≤ W := by unfold off; split <;> (try split) <;> (try split) <;> omega
    omega
  | succ d ih =>
    intro k q met hq hm hk
    obtain ⟨k, rfl⟩ : ∃ z, k = z + 2 := ⟨k - 2, by omega⟩
    have ho : off q < W := by unfold off; split <;> (try split) <;> (try split) <;> omega
    have hlt : t * W + off q < T * W := by omega
    have hr := atL_rd (t * W) (34 + 8 * I + 4 * P) q (by omega)
    have hkr := kdL_rd I (34 + 8 * I + 4 * P) q (by omega)
    have hno : met.getD (t * W + off q) false = false := by
      cases h : met.getD (t * W + off q) false
      · rfl
      · have := hm.2 _ h; omega
    have hml := hm.1
    have e := ih k (q + 1) (met.set (t * W + off q) true) (by omega) ⟨by simpa using hml, fun v hv => by
      by_cases h : t * W + off q = v
      · have := off_mono q; omega
      · rw [List.getD_eq_getElem?_getD, List.getElem?_set_ne h, ← List.getD_eq_getElem?_getD] at hv
        have := hm.2 v hv
        have := off_mono q
        omega⟩ (by omega)
    have ep := part_at T P I Q W t q g ht (by omega) k (by omega)
    simp only [laws_FnPlaces.l4, atL_length, hr]
    rw [if_pos (by omega), if_pos (by omega), if_neg (by omega), if_neg (by omega), if_pos (by omega), if_pos (by omega)]
    unfold rdOf
    rw [show (((t * W + off q : Nat) : Int)).toNat = t * W + off q from rfl, hno]
    simp only [laws_FnPlaces.j5, atL_length, kdL_length, hr, hkr, Bool.false_eq_true, if_false]
    rw [if_pos (by omega), if_pos (by omega), if_pos (by omega), if_pos (by omega), ep]
    simp only [ob, if_true]
    rw [if_pos (by omega), w64 (by omega) (by omega), show (q : Int) + 1 = ((q + 1 : Nat) : Int) by omega, show (((t * W + off q : Nat) : Int)).toNat = t * W + off q from rfl]
    exact e
theorem l3_loop (T P I Q W t n : Nat) (g : G T P I Q W) (ht : t < T) (met : List Bool) (R : Nat)
    (h4 : ∀ k, R < k → laws_FnPlaces.l4 k (n : Int) met (t : Int) (atL (t * W) (34 + 8 * I + 4 * P)) (kdL I (34 + 8 * I + 4 * P)) 0 (T : Int) (P : Int) (I : Int) (Q : Int) = some true) (d : Nat) :
    ∀ (k i : Nat), i + d = 4 * P → R + d + 1 < k → laws_FnPlaces.l3 k (n : Int) met (t : Int) (atL (t * W) (34 + 8 * I + i)) (kdL I (34 + 8 * I + i)) (i : Int) (T : Int) (P : Int) (I : Int) (Q : Int) = some true := by
  have h0 := g.t
  have h1 := g.p
  have h2 := g.i
  have hW := g.w
  have hm : t * W ≤ 2 * 134 := Nat.mul_le_mul (by omega) (by omega)
  have e4 : wrap64 (4 * (P : Int)) = 4 * (P : Int) := w64 (by omega) (by omega)
  induction d with
  | zero =>
    intro k i hi hk
    obtain ⟨k, rfl⟩ : ∃ z, k = z + 1 := ⟨k - 1, by omega⟩
    obtain rfl : i = 4 * P := by omega
    simp only [laws_FnPlaces.l3, e4]
    rw [if_neg (by omega)]
    exact h4 k (by omega)
  | succ d ih =>
    intro k i hi hk
    obtain ⟨k, rfl⟩ : ∃ z, k = z + 1 := ⟨k - 1, by omega⟩
    have hmod : Int.tmod (i : Int) 4 = ((i % 4 : Nat) : Int) := by rw [Int.tmod_eq_emod_of_nonneg (by omega)]; omega
    simp only [laws_FnPlaces.l3, e4, atL_length, kdL_length]
    rw [if_pos (by omega), p_at T P I Q W t i g ht (by omega)]
    simp only [ob]
    rw [if_pos (by omega), if_pos (by omega), hmod, w64 (n := (i : Int) + 1) (by omega) (by omega), show (i : Int) + 1 = ((i + 1 : Nat) : Int) by omega]
    rw [atL_succ (t * W) (34 + 8 * I + i) _ (by
      rw [w64 (by omega) (by omega)]
      have : off (34 + 8 * I + i) = 38 + 8 * I + i := by unfold off; rw [if_neg (by omega), if_neg (by omega), if_neg (by omega)]; omega
      rw [this]; omega), kdL_succ I (34 + 8 * I + i) 6 (by
      have : knd I (34 + 8 * I + i) = 6 := by unfold knd; rw [if_neg (by omega), if_neg (by omega), if_neg (by omega), if_neg (by omega)]
      rw [this]; rfl)]
    exact ih k (i + 1) (by omega) (by omega)
theorem l2_loop (T P I Q W t n : Nat) (g : G T P I Q W) (ht : t < T) (met : List Bool) (R : Nat)
    (h3 : ∀ k, R < k → laws_FnPlaces.l3 k (n : Int) met (t : Int) (atL (t * W) (34 + 8 * I)) (kdL I (34 + 8 * I)) 0 (T : Int) (P : Int) (I : Int) (Q : Int) = some true) (d : Nat) :
    ∀ (k i : Nat), i + d = 8 * I → R + d + 1 < k → laws_FnPlaces.l2 k (n : Int) met (t : Int) (atL (t * W) (34 + i)) (kdL I (34 + i)) (i : Int) (T : Int) (P : Int) (I : Int) (Q : Int) = some true := by
  have h0 := g.t
  have h1 := g.p
  have h2 := g.i
  have hW := g.w
  have hm : t * W ≤ 2 * 134 := Nat.mul_le_mul (by omega) (by omega)
  have e4 : wrap64 (8 * (I : Int)) = 8 * (I : Int) := w64 (by omega) (by omega)
  induction d with
  | zero =>
    intro k i hi hk
    obtain ⟨k, rfl⟩ : ∃ z, k = z + 1 := ⟨k - 1, by omega⟩
    obtain rfl : i = 8 * I := by omega
    simp only [laws_FnPlaces.l2, e4]
    rw [if_neg (by omega)]
    exact h3 k (by omega)
  | succ d ih =>
    intro k i hi hk
    obtain ⟨k, rfl⟩ : ∃ z, k = z + 1 := ⟨k - 1, by omega⟩
    have hmod : Int.tmod (i : Int) 8 = ((i % 8 : Nat) : Int) := by rw [Int.tmod_eq_emod_of_nonneg (by omega)]; omega
    simp only [laws_FnPlaces.l2, e4, atL_length, kdL_length]
    rw [if_pos (by omega), i_at T P I Q W t i g ht (by omega)]
    simp only [ob]
    rw [if_pos (by omega), if_pos (by omega), hmod, w64 (n := (i : Int) + 1) (by omega) (by omega), show (i : Int) + 1 = ((i + 1 : Nat) : Int) by omega]
    rw [atL_succ (t * W) (34 + i) _ (by
      rw [w64 (by omega) (by omega)]
      have : off (34 + i) = 38 + i := by unfold off; rw [if_neg (by omega), if_neg (by omega), if_neg (by omega)]; omega
      rw [this]; omega), kdL_succ I (34 + i) 5 (by
      have : knd I (34 + i) = 5 := by unfold knd; rw [if_neg (by omega), if_neg (by omega), if_neg (by omega), if_pos (by omega)]
      rw [this]; rfl)]
    exact ih k (i + 1) (by omega) (by omega)
theorem l1_loop (T P I Q W t n : Nat) (g : G T P I Q W) (ht : t < T) (met : List Bool) (R : Nat)
    (h2' : ∀ k, R < k → laws_FnPlaces.l2 k (n : Int) met (t : Int) (atL (t * W) 34) (kdL I 34) 0 (T : Int) (P : Int) (I : Int) (Q : Int) = some true) (d : Nat) :
    ∀ (k i : Nat), i + d = 32 → R + d + 1 < k → laws_FnPlaces.l1 k (n : Int) met (t : Int) (atL (t * W) (2 + i)) (kdL I (2 + i)) (i : Int) (T : Int) (P : Int) (I : Int) (Q : Int) = some true := by
  have h0 := g.t
  have h1 := g.p
  have h2 := g.i
  have hW := g.w
  have hm : t * W ≤ 2 * 134 := Nat.mul_le_mul (by omega) (by omega)
  induction d with
  | zero =>
    intro k i hi hk
    obtain ⟨k, rfl⟩ : ∃ z, k = z + 1 := ⟨k - 1, by omega⟩
    obtain rfl : i = 32 := by omega
    simp only [laws_FnPlaces.l1]
    rw [if_neg (by omega)]
    exact h2' k (by omega)
  | succ d ih =>
    intro k i hi hk
    obtain ⟨k, rfl⟩ : ∃ z, k = z + 1 := ⟨k - 1, by omega⟩
    have hmod : Int.tmod (i : Int) 2 = ((i % 2 : Nat) : Int) := by rw [Int.tmod_eq_emod_of_nonneg (by omega)]; omega
    simp only [laws_FnPlaces.l1, atL_length, kdL_length]
    rw [if_pos (by omega), j_at T P I Q W t i g ht (by omega)]
    simp only [ob]
    rw [if_pos (by omega), if_pos (by omega), hmod, w64 (n := (i : Int) + 1) (by omega) (by omega), show (i : Int) + 1 = ((i + 1 : Nat) : Int) by omega]
    rw [atL_succ (t * W) (2 + i) _ (by
      rw [w64 (by omega) (by omega)]
      have : off (2 + i) = 4 + i := by unfold off; rw [if_neg (by omega), if_neg (by omega), if_pos (by omega)]; omega
      rw [this]; omega), kdL_succ I (2 + i) 3 (by
      have : knd I (2 + i) = 3 := by unfold knd; rw [if_neg (by omega), if_neg (by omega), if_pos (by omega)]
      rw [this]; rfl)]
    exact ih k (i + 1) (by omega) (by omega)
theorem l0_loop (e : Nat) : ∃ R, ∀ (T P I Q W : Nat), G T P I Q W → ∀ (k t : Nat) (met : List Bool), t + e = T → Met (T * W) (t * W) met → R < k → laws_FnPlaces.l0 k ((T * W : Nat) : Int) met (t : Int) (T : Int) (P : Int) (I : Int) (Q : Int) = some true := by
  induction e with
  | zero =>
    refine ⟨1, fun T P I Q W g k t met ht hm hk => ?_⟩
    have h0 := g.t
    have h1 := g.p
    have h2 := g.i
    have hW := g.w
    have hT : T * W ≤ 3 * 134 := Nat.mul_le_mul (by omega) (by omega)
    have heven : T * W = 2 * (T * (19 + 4 * I + 2 * P)) := by rw [hW, ← Nat.mul_assoc, Nat.mul_comm 2 T, Nat.mul_assoc]; congr 1; omega
    obtain ⟨k, rfl⟩ : ∃ z, k = z + 1 := ⟨k - 1, by omega⟩
    obtain rfl : t = T := by omega
    have e2 : wrap64 ((t : Int) * (W : Int)) = ((t * W : Nat) : Int) := by
      rw [show (t : Int) * (W : Int) = ((t * W : Nat) : Int) by simp, w64 (by omega) (by omega)]
    have e3 : wrap64 (Int.tdiv ((t * W : Nat) : Int) 2) = ((t * (19 + 4 * I + 2 * P) : Nat) : Int) := by
      rw [Int.tdiv_eq_ediv_of_nonneg (by omega), w64 (by omega) (by omega)]; omega
    have el : impl_LinesIn.f (t : Int) (P : Int) (I : Int) (Q : Int) = some ((t * (19 + 4 * I + 2 * P) : Nat) : Int) := by
      simp only [impl_LinesIn.f, impl_Geo_lines.f, geo_impl, g.ok, ob, if_true, pw_val t P I Q W g, e2, e3]
    simp only [laws_FnPlaces.l0]
    rw [if_neg (by omega), el]
    simp only [ob]
    rw [if_pos (by rw [w64 (by omega) (by omega)]; omega)]
    simp only [geo_impl, g.ok, ob]
  | succ e ih =>
    obtain ⟨R, ih⟩ := ih
    obtain ⟨B, hB⟩ : ∃ x, x = 130 := ⟨_, rfl⟩
    obtain ⟨R4, hR4⟩ : ∃ x, x = R + 2 * B + 1 := ⟨_, rfl⟩
    obtain ⟨R3, hR3⟩ : ∃ x, x = R4 + B + 1 := ⟨_, rfl⟩
    obtain ⟨R2, hR2⟩ : ∃ x, x = R3 + B + 1 := ⟨_, rfl⟩
    refine ⟨R2 + 32 + 2, fun T P I Q W g k t met ht hm hk => ?_⟩
    have h0 := g.t
    have h1 := g.p
    have h2 := g.i
    have hW := g.w
    have hT : T * W ≤ 3 * 134 := Nat.mul_le_mul (by omega) (by omega)
    have heven : T * W = 2 * (T * (19 + 4 * I + 2 * P)) := by rw [hW, ← Nat.mul_assoc, Nat.mul_comm 2 T, Nat.mul_assoc]; congr 1; omega
    obtain ⟨k, rfl⟩ : ∃ z, k = z + 1 := ⟨k - 1, by omega⟩
    have c0 := in_part T P I Q W t 0 g (by omega) (by omega)
    have c2 := in_part T P I Q W t 2 g (by omega) (by omega)
    have ec : impl_CommitAt.f (T : Int) (P : Int) (I : Int) (Q : Int) (t : Int) = some ((t * W + 0 : Nat) : Int) := by
      simp only [impl_CommitAt.f, show impl_inPart.f (T : Int) (P : Int) (I : Int) (Q : Int) (t : Int) true 0 = _ from c0, ob]
    have es : impl_SerialAt.f (T : Int) (P : Int) (I : Int) (Q : Int) (t : Int) = some ((t * W + 2 : Nat) : Int) := by
      simp only [impl_SerialAt.f, show impl_inPart.f (T : Int) (P : Int) (I : Int) (Q : Int) (t : Int) true 2 = _ from c2, ob]
    simp only [laws_FnPlaces.l0]
    rw [if_pos (by omega), ec]
    simp only [ob]
    rw [es]
    simp only [ob]
    have ha : ([((t * W + 0 : Nat) : Int), ((t * W + 2 : Nat) : Int)] : List Int) = atL (t * W) (2 + 0) := rfl
    have hkd : ([1, 2] : List Int) = kdL I (2 + 0) := rfl
    rw [ha, hkd]
    have n4 := l4_loop T P I Q W t g (by omega) R (fun met' hm' k' hk' => ih T P I Q W g k' (t + 1) met' (by omega) hm' hk') (34 + 8 * I + 4 * P)
    have hm0 : Met (T * W) (t * W + off 0) met := by rw [show off 0 = 0 from rfl, Nat.add_zero]; exact hm
    have n3 := l3_loop T P I Q W t (T * W) g (by omega) met R4 (fun k' hk' => by
      have := n4 k' 0 met (by omega) hm0 (by omega)
      rw [Int.natCast_zero] at this
      exact this) (4 * P)
    have n2 := l2_loop T P I Q W t (T * W) g (by omega) met R3 (fun k' hk' => by
      have := n3 k' 0 (by omega) (by omega)
      rw [Int.natCast_zero, Nat.add_zero] at this
      exact this) (8 * I)
    have n1 := l1_loop T P I Q W t (T * W) g (by omega) met R2 (fun k' hk' => by
      have := n2 k' 0 (by omega) (by omega)
      rw [Int.natCast_zero, Nat.add_zero] at this
      exact this) 32 k 0 (by omega) (by omega)
    rw [Int.natCast_zero] at n1
    exact n1
theorem FnPlaces : laws_FnPlaces.Pure := by
  intro l h1 h2 _
  have hall : ∃ R, ∀ T P I Q W : Nat, G T P I Q W → ∀ (k : Nat) (met : List Bool), Met (T * W) 0 met → R ≤ k → laws_FnPlaces.l0 k ((T * W : Nat) : Int) met 0 (T : Int) (P : Int) (I : Int) (Q : Int) = some true := by
    obtain ⟨R1, a1⟩ := l0_loop 1
    obtain ⟨R2, a2⟩ := l0_loop 2
    obtain ⟨R3, a3⟩ := l0_loop 3
    refine ⟨R1 + R2 + R3 + 1, fun T P I Q W g k met hm hk => ?_⟩
    have hm' : Met (T * W) (0 * W) met := by rw [Nat.zero_mul]; exact hm
    have h0 := g.t
    have : laws_FnPlaces.l0 k ((T * W : Nat) : Int) met ((0 : Nat) : Int) (T : Int) (P : Int) (I : Int) (Q : Int) = some true := by
      rcases (show T = 1 ∨ T = 2 ∨ T = 3 by omega) with h | h | h
      · exact a1 T P I Q W g k 0 met (by omega) hm' (by omega)
      · exact a2 T P I Q W g k 0 met (by omega) hm' (by omega)
      · exact a3 T P I Q W g k 0 met (by omega) hm' (by omega)
    rw [Int.natCast_zero] at this
    exact this
  obtain ⟨R, hR⟩ := hall
  refine rounds_of (l.length + R + 100) fun k hk => ?_
  unfold laws_FnPlaces.f laws_big.f
  simp only [ob]
  by_cases hb : (l.length : Int) > 1048576
  · rw [if_pos (decide_eq_true hb)]
  · rw [if_neg (by simpa using hb)]
    obtain ⟨h', e0⟩ := new_some l (by omega) k (by omega)
    obtain ⟨r, er⟩ := any_draw (s := l) (c := 0) h' (cur_new (by omega))
    have ed : spec_DrawGeoOk.f k l = some (r.1, r.2.1, r.2.2.1, r.2.2.2.1) := by
      unfold spec_DrawGeoOk.f
      rw [e0]; simp only [ob]
      rw [er]; simp only [ob]
    rw [ed]
    simp only [ob]
    generalize r.1 = a
    generalize r.2.1 = b
    generalize r.2.2.1 = c
    generalize r.2.2.2.1 = q
    rw [geo_spec]
    simp only [ob]
    cases hg : geoB a b c q
    · simp only [Bool.false_eq_true, if_false, geo_impl, hg, ob, impl_PartWords.f, impl_CommitAt.f, impl_inPart.f, impl_isTenant.f, if_true]
      rfl
    · obtain ⟨ga, gb, gc, gq⟩ := geo_bounds hg
      obtain ⟨T, rfl⟩ := Int.eq_ofNat_of_zero_le (show 0 ≤ a by omega)
      obtain ⟨P, rfl⟩ := Int.eq_ofNat_of_zero_le (show 0 ≤ b by omega)
      obtain ⟨I, rfl⟩ := Int.eq_ofNat_of_zero_le (show 0 ≤ c by omega)
      obtain ⟨Q, rfl⟩ := Int.eq_ofNat_of_zero_le (show 0 ≤ q by omega)
      obtain ⟨W, hW⟩ : ∃ W, W = 38 + 8 * I + 4 * P := ⟨_, rfl⟩
      have g : G T P I Q W := ⟨hW, hg, by omega, by omega, by omega⟩
      have hT : T * W ≤ 3 * 134 := Nat.mul_le_mul (by omega) (by omega)
      have e4 : 0 ≤ ((T * W + 1 : Nat) : Int) ∧ ((T * W + 1 : Nat) : Int) ≤ 9000 := by omega
      have e3 : wrap64 (((T * W : Nat) : Int) + 1) = ((T * W + 1 : Nat) : Int) := by
        clear e4
        rw [w64 (by omega) (by omega)]; omega
      have e2 : wrap64 ((T : Int) * (W : Int)) = ((T * W : Nat) : Int) := by
        clear e3 e4
        rw [show (T : Int) * (W : Int) = ((T * W : Nat) : Int) by simp, w64 (by omega) (by omega)]
      have ep : impl_PartWords.f (T : Int) (P : Int) (I : Int) (Q : Int) = some (W : Int) := by
        simp only [impl_PartWords.f, geo_impl, hg, ob, if_true, pw_val T P I Q W g]
      simp only [if_true, ep, ob, e2, e3]
      rw [if_pos (by clear e2 e3 ep; omega), if_pos (by clear e2 e3 ep; omega), show (((T * W + 1 : Nat) : Int)).toNat = T * W + 1 from rfl]
      have := hR T P I Q W g k (List.replicate (T * W + 1) false) ⟨List.length_replicate, fun v hv => by
        rw [List.getD_eq_getElem?_getD, List.getElem?_replicate] at hv
        split at hv <;> simp at hv⟩ (by omega)
      exact this
end Go.Proofs.Ytenhfhkaemiohaa.Pure
