/- The law FnExactShaBlock answers true: spec.ShaBlock and impl.ShaBlock give the same list for every state and block, new at each call, and change no argument; no condition. -/
import Derived.Test.YtcmemppkllgkmaaMFnExactShaBlockx4
namespace Go.Proofs.Ytcmemppkllgkmaa.Pure
open Go.RowKit Go.Proofs.Ytcmemppkllgkmaa.PFnExactShaBlock Go.Proofs.YtcmemppkllgkmaaW.PrintWords Go.Proofs.YtcmemppkllgkmaaW.PrintLast Go.Proofs.YtcmemppkllgkmaaW.PrintMore
set_option linter.unusedVariables false
set_option linter.unusedSimpArgs false

theorem w64 {n : Int} (h0 : -9223372036854775808 ≤ n) (h1 : n ≤ 9223372036854775807) : wrap64 n = n := by
  unfold wrap64; omega
theorem bits_nat3 (k : IntKind) (j : Nat) (hj : j ≤ k.bits) (hk : ∀ n : Int, 0 ≤ n → n < 2 ^ j → k.wrap n = n) (a b : Nat) (ha : a < 2 ^ j) (hb : b < 2 ^ j) :
    Go.bits .and k a b = ((a &&& b : Nat) : Int) ∧ Go.bits .or k a b = ((a ||| b : Nat) : Int) ∧ Go.bits .xor k a b = ((a ^^^ b : Nat) : Int) := by
  have hp : 2 ^ j ≤ 2 ^ k.bits := Nat.pow_le_pow_right (by decide) hj
  have ha' : a % 2 ^ k.bits = a := Nat.mod_eq_of_lt (Nat.lt_of_lt_of_le ha hp)
  have hb' : b % 2 ^ k.bits = b := Nat.mod_eq_of_lt (Nat.lt_of_lt_of_le hb hp)
  have cast : ∀ n : Nat, n < 2 ^ j → ((n : Nat) : Int) < 2 ^ j := fun n h => by exact_mod_cast h
  refine ⟨?_, ?_, ?_⟩
  · simp only [Go.bits, BitVec.ofInt_natCast, BitVec.toNat_and, BitVec.toNat_ofNat, ha', hb']
    exact hk _ (Int.natCast_nonneg _) (cast _ (Nat.and_lt_two_pow _ hb))
  · simp only [Go.bits, BitVec.ofInt_natCast, BitVec.toNat_or, BitVec.toNat_ofNat, ha', hb']
    exact hk _ (Int.natCast_nonneg _) (cast _ (Nat.or_lt_two_pow ha hb))
  · simp only [Go.bits, BitVec.ofInt_natCast, BitVec.toNat_xor, BitVec.toNat_ofNat, ha', hb']
    exact hk _ (Int.natCast_nonneg _) (cast _ (Nat.xor_lt_two_pow ha hb))
theorem wr_i64 (n : Int) (h0 : 0 ≤ n) (h1 : n < 2 ^ 62) : IntKind.i64.wrap n = n := by rw [IntKind.wrap_i64]; omega
theorem wr_u64 (n : Int) (h0 : 0 ≤ n) (h1 : n < 2 ^ 64) : IntKind.u64.wrap n = n := by
  simp [IntKind.wrap, IntKind.bits, IntKind.signed]; omega
theorem or_i64 (a b : Nat) (ha : a < 2 ^ 62) (hb : b < 2 ^ 62) : Go.bits .or .i64 a b = ((a ||| b : Nat) : Int) := (bits_nat3 .i64 62 (by decide) wr_i64 a b ha hb).2.1
theorem xor_i64 (a b : Nat) (ha : a < 2 ^ 62) (hb : b < 2 ^ 62) : Go.bits .xor .i64 a b = ((a ^^^ b : Nat) : Int) := (bits_nat3 .i64 62 (by decide) wr_i64 a b ha hb).2.2
theorem and_i64 (a b : Nat) (ha : a < 2 ^ 62) (hb : b < 2 ^ 62) : Go.bits .and .i64 a b = ((a &&& b : Nat) : Int) := (bits_nat3 .i64 62 (by decide) wr_i64 a b ha hb).1
theorem xor_u8 (a b : Nat) (ha : a < 2 ^ 8) (hb : b < 2 ^ 8) : Go.bits .xor .u8 a b = ((a ^^^ b : Nat) : Int) := (bits_nat3 .u8 8 (by decide) wraps_u8 a b ha hb).2.2
/-- Byte i of s as a natural number. -/
def bn (s : ByteArray) (i : Nat) : Nat := (s.data.toList.getD i 0).toNat
theorem bn_lt (s : ByteArray) (i : Nat) : bn s i < 256 := (s.data.toList.getD i 0).toNat_lt
theorem bt_bn (s : ByteArray) (i : Nat) : bt s (i : Int) = (bn s i : Int) := by
  unfold bt bn
  split
  · rename_i h
    have h' : i < s.data.toList.length := by rw [data_length]; simpa using h
    rw [List.getD_eq_getElem?_getD, List.getElem?_eq_getElem h']; rfl
  · rename_i h
    have h' : s.data.toList.length ≤ i := by rw [data_length]; simpa using h
    rw [List.getD_eq_getElem?_getD, List.getElem?_eq_none h']; rfl
theorem bt_bn' (s : ByteArray) (i : Int) (h : 0 ≤ i) : bt s i = (bn s i.toNat : Int) := by
  obtain ⟨n, rfl⟩ := Int.eq_ofNat_of_zero_le h
  exact bt_bn s n
theorem toList_eq' (s : ByteArray) : s.toList = s.data.toList := ByteArray.toList_eq s
/-- Two strings of one length are one where their bytes are. -/
theorem bytes_ext {s t : ByteArray} (hl : s.size = t.size) (h : ∀ i, i < s.size → bn s i = bn t i) : s.data.toList = t.data.toList := by
  apply List.ext_getElem (by rw [data_length, data_length, hl])
  intro i h1 h2
  have := h i (by rw [← data_length]; exact h1)
  unfold bn at this
  rw [List.getD_eq_getElem?_getD, List.getD_eq_getElem?_getD, List.getElem?_eq_getElem h1, List.getElem?_eq_getElem h2] at this
  exact UInt8.toNat_inj.1 this
theorem strOf_data (xs : List Int) : (strOfNums xs).data.toList = xs.map fun n => UInt8.ofNat n.toNat := by simp [strOfNums]
theorem strOf_toList (xs : List Int) : (strOfNums xs).toList = xs.map fun n => UInt8.ofNat n.toNat := by rw [toList_eq', strOf_data]
theorem strOf_size (xs : List Int) : (strOfNums xs).size = xs.length := by rw [← data_length, strOf_data, List.length_map]
/-- A list of n numbers written cell by cell is the list of what was written. -/
theorem tab_set (f : Nat → Int) (n i : Nat) (rest : List Int) (h : i < n) (hr : rest.length = n - i) :
    (((List.range i).map f) ++ rest).set i (f i) = ((List.range (i + 1)).map f) ++ rest.tail := by
  cases rest with
  | nil => simp at hr; omega
  | cons a rest =>
    rw [List.set_append_right _ _ (by simp)]
    simp [List.range_succ]
theorem xor_zero_iff {a b : Nat} : a ^^^ b = 0 ↔ a = b := by
  constructor
  · intro h
    have := congrArg (· ^^^ b) h
    simpa [Nat.xor_assoc] using this
  · rintro rfl; exact Nat.xor_self a
theorem rounds_of {P : Nat → Prop} (n : Nat) (h : ∀ k, n ≤ k → P k) : ∃ k, P k := ⟨n, h n (Nat.le_refl n)⟩
/-- As Option.bind_some, but not by reduction: the kernel is not led into what follows. -/
theorem ob {α β : Type} (a : α) (f : α → Option β) : (some a).bind f = f a := by
  cases h : f a with
  | none => rw [Option.bind_some, h]
  | some b => rw [Option.bind_some, h]

theorem rd_ints (l : List Int) (i : Nat) (h : i < l.length) : rd l (i : Int) = l[i] := by
  unfold rd
  rw [List.getD_eq_getElem?_getD, Int.toNat_natCast, List.getElem?_eq_getElem h]; rfl
theorem eqIntS_loop (l : List Int) (hl : l.length ≤ 9223372036854775806) (d : Nat) : ∀ (k i : Nat), i + d = l.length → d < k → laws_eqIntS.l0 k l l (i : Int) = some true := by
  induction d with
  | zero =>
    intro k i hi hk
    obtain ⟨k, rfl⟩ : ∃ z, k = z + 1 := ⟨k - 1, by omega⟩
    unfold laws_eqIntS.l0
    rw [if_neg (by omega)]
  | succ d ih =>
    intro k i hi hk
    obtain ⟨k, rfl⟩ : ∃ z, k = z + 1 := ⟨k - 1, by omega⟩
    unfold laws_eqIntS.l0
    rw [if_pos (by omega), if_pos (by omega), if_pos (by omega), if_pos rfl, w64 (n := (i : Int) + 1) (by omega) (by omega), show (i : Int) + 1 = ((i + 1 : Nat) : Int) by omega]
    exact ih k (i + 1) (by omega) (by omega)
theorem eqIntS_self (l : List Int) (hl : l.length ≤ 9223372036854775806) (k : Nat) (hk : l.length < k) : laws_eqIntS.f k l l = some true := by
  unfold laws_eqIntS.f
  rw [if_pos rfl]
  have := eqIntS_loop l hl l.length k 0 (by omega) hk
  rw [Int.natCast_zero] at this
  exact this
theorem markIntS_loop (n : Nat) (hn : n ≤ 100000000) (d : Nat) : ∀ (k i : Nat) (rest : List Int) (m : Int), m = 1 + (i : Int) → rest.length = d → i + d = n → d < k →
    laws_markIntS.l0 k ((List.range i).map (fun j : Nat => 1 + (j : Int)) ++ rest) m (i : Int) = some (1 + (n : Int), (List.range n).map (fun j : Nat => 1 + (j : Int))) := by
  induction d with
  | zero =>
    intro k i rest m hm hr hi hk
    obtain ⟨k, rfl⟩ : ∃ z, k = z + 1 := ⟨k - 1, by omega⟩
    obtain rfl : rest = [] := List.length_eq_zero_iff.1 hr
    obtain rfl : i = n := by omega
    unfold laws_markIntS.l0
    rw [List.append_nil, List.length_map, List.length_range, if_neg (by omega), hm]
  | succ d ih =>
    intro k i rest m hm hr hi hk
    obtain ⟨k, rfl⟩ : ∃ z, k = z + 1 := ⟨k - 1, by omega⟩
    have hlen : ((List.range i).map (fun j : Nat => 1 + (j : Int)) ++ rest).length = n := by
      rw [List.length_append, List.length_map, List.length_range, hr]; exact hi
    unfold laws_markIntS.l0
    rw [if_pos (by rw [hlen]; omega), if_pos (by omega), w64 (n := (i : Int) + 1) (by omega) (by omega), show (i : Int) + 1 = ((i + 1 : Nat) : Int) by omega, w64 (n := m + 1) (by omega) (by omega), Int.toNat_natCast]
    have e := ih k (i + 1) rest.tail (m + 1) (by omega) (by rw [List.length_tail]; omega) (by omega) (by omega)
    rw [← tab_set (fun j : Nat => 1 + (j : Int)) n i rest (by omega) (by omega)] at e
    rw [hm]
    rw [hm] at e
    exact e
theorem markIntS_some (l : List Int) (hn : l.length ≤ 100000000) (k : Nat) (hk : l.length < k) : laws_markIntS.f k l 1 = some (1 + (l.length : Int), (List.range l.length).map (fun j : Nat => 1 + (j : Int))) := by
  unfold laws_markIntS.f
  have := markIntS_loop l.length hn l.length k 0 l 1 (by omega) rfl (by omega) hk
  rw [Int.natCast_zero, List.range_zero, List.map_nil, List.nil_append] at this
  exact this
theorem heldIntS_loop (n : Nat) (hn : n ≤ 100000000) (d : Nat) : ∀ (k i : Nat) (m : Int), m = 1 + (i : Int) → i + d = n → d < k →
    laws_heldIntS.l0 k ((List.range n).map (fun j : Nat => 1 + (j : Int))) m (i : Int) = some (1 + (n : Int)) := by
  induction d with
  | zero =>
    intro k i m hm hi hk
    obtain ⟨k, rfl⟩ : ∃ z, k = z + 1 := ⟨k - 1, by omega⟩
    obtain rfl : i = n := by omega
    unfold laws_heldIntS.l0
    rw [List.length_map, List.length_range, if_neg (by omega), hm]
  | succ d ih =>
    intro k i m hm hi hk
    obtain ⟨k, rfl⟩ : ∃ z, k = z + 1 := ⟨k - 1, by omega⟩
    have hr : rd ((List.range n).map (fun j : Nat => 1 + (j : Int))) (i : Int) = m := by
      rw [rd_ints _ i (by rw [List.length_map, List.length_range]; omega), List.getElem_map, List.getElem_range, hm]
    unfold laws_heldIntS.l0
    rw [List.length_map, List.length_range, if_pos (by omega), if_pos (by omega), if_pos hr, w64 (n := (i : Int) + 1) (by omega) (by omega), show (i : Int) + 1 = ((i + 1 : Nat) : Int) by omega, w64 (n := m + 1) (by omega) (by omega)]
    exact ih k (i + 1) (m + 1) (by omega) (by omega) (by omega)
theorem heldIntS_some (n : Nat) (hn : n ≤ 100000000) (k : Nat) (hk : n < k) : laws_heldIntS.f k ((List.range n).map (fun j : Nat => 1 + (j : Int))) 1 = some (1 + (n : Int)) := by
  unfold laws_heldIntS.f
  have := heldIntS_loop n hn n k 0 1 (by omega) (by omega) hk
  rw [Int.natCast_zero] at this
  exact this

theorem toIntS_loop (l : List Int) (hl : l.length ≤ 9223372036854775806) (d : Nat) : ∀ (k i : Nat) (rest : List Int), rest.length = d → i + d = l.length → d < k → laws_toIntS.l0 k l (l.take i ++ rest) (i : Int) = some l := by
  induction d with
  | zero =>
    intro k i rest hr hi hk
    obtain ⟨k, rfl⟩ : ∃ z, k = z + 1 := ⟨k - 1, by omega⟩
    obtain rfl : rest = [] := List.length_eq_zero_iff.1 hr
    unfold laws_toIntS.l0
    rw [if_neg (by omega), List.append_nil, List.take_of_length_le (by omega)]
  | succ d ih =>
    intro k i rest hr hi hk
    obtain ⟨k, rfl⟩ : ∃ z, k = z + 1 := ⟨k - 1, by omega⟩
    obtain ⟨y, ys, rfl⟩ : ∃ y ys, rest = y :: ys := by cases rest with | nil => simp at hr | cons y ys => exact ⟨y, ys, rfl⟩
    have h_ : i < l.length := by omega
    have hl1 : (l.take i ++ y :: ys).length = l.length := by rw [List.length_append, List.length_take, hr]; omega
    have e : (l.take i ++ y :: ys).set i (l[i]'h_) = l.take (i + 1) ++ ys := by
      rw [List.set_append_right _ _ (by rw [List.length_take]; omega), List.length_take, Nat.min_eq_left (by omega), Nat.sub_self, List.set_cons_zero, List.take_succ_eq_append_getElem h_, List.append_assoc]
      rfl
    unfold laws_toIntS.l0
    rw [hl1, if_pos (by omega), if_pos (by omega), if_pos (by omega), rd_ints l i h_, Int.toNat_natCast, e, w64 (n := (i : Int) + 1) (by omega) (by omega), show (i : Int) + 1 = ((i + 1 : Nat) : Int) by omega]
    exact ih k (i + 1) ys (by simpa using hr) (by omega) (by omega)
theorem toIntS_some (l : List Int) (hl : l.length ≤ 35184372088832) (k : Nat) (hk : l.length < k) : laws_toIntS.f k l = some l := by
  unfold laws_toIntS.f
  rw [if_pos (by omega), Int.toNat_natCast, if_pos hl]
  have := toIntS_loop l (by omega) l.length k 0 (List.replicate l.length 0) (by rw [List.length_replicate]) (by omega) hk
  rw [Int.natCast_zero, List.take_zero, List.nil_append] at this
  exact this

def okB (x : Int) : Bool := decide (0 ≤ x ∧ x ≤ 4294967295)
theorem within_some (x : Int) : impl_within.f x 0 4294967295 = some (okB x) := by
  unfold impl_within.f okB
  by_cases h : x ≥ 0
  · rw [if_pos h]
    by_cases h2 : x ≤ 4294967295
    · rw [decide_eq_true h2, decide_eq_true ⟨h, h2⟩]
    · rw [decide_eq_false h2, decide_eq_false (fun e => h2 e.2)]
  · rw [if_neg h, decide_eq_false (fun e => h e.1)]
theorem isState_loop (l : List Int) (hl : l.length ≤ 9223372036854775806) (d : Nat) : ∀ (k i : Nat), i + d = l.length → d < k → impl_isState.l0 k l l (l.length : Int) (i : Int) = some ((l.drop i).all okB && ((l.length : Int) == 8)) := by
  induction d with
  | zero =>
    intro k i hi hk
    obtain ⟨k, rfl⟩ : ∃ z, k = z + 1 := ⟨k - 1, by omega⟩
    unfold impl_isState.l0
    rw [if_neg (by omega), List.drop_of_length_le (by omega)]
    rfl
  | succ d ih =>
    intro k i hi hk
    obtain ⟨k, rfl⟩ : ∃ z, k = z + 1 := ⟨k - 1, by omega⟩
    unfold impl_isState.l0
    have h_ : i < l.length := by omega
    rw [if_pos (by omega), if_pos (by omega), if_pos (by omega), rd_ints l i h_, within_some, ob, List.drop_eq_getElem_cons h_, List.all_cons]
    cases hb : okB l[i] with
    | false => rw [if_neg (by simp)]; rfl
    | true =>
      rw [if_pos rfl, w64 (n := (i : Int) + 1) (by omega) (by omega), show (i : Int) + 1 = ((i + 1 : Nat) : Int) by omega, ih k (i + 1) (by omega) (by omega)]
      simp
theorem isState_some (l : List Int) (hl : l.length ≤ 9223372036854775806) (k : Nat) (hk : l.length < k) : impl_isState.f k l = some (l.all okB && ((l.length : Int) == 8)) := by
  unfold impl_isState.f
  have := isState_loop l hl l.length k 0 (by omega) hk
  rw [Int.natCast_zero, List.drop_zero] at this
  exact this
theorem impl_some (l : List Int) (a : ByteArray) (hl : l.length ≤ 1048576) (k : Nat) (hk : l.length < k) : impl_ShaBlock.f k l a = some (shaF l a) := by
  unfold impl_ShaBlock.f
  rw [if_pos (by omega), isState_some l (by omega) k hk, ob]
  unfold shaF
  by_cases h : l.length = 8 ∧ a.size = 64 ∧ ∀ x ∈ l, 0 ≤ x ∧ x ≤ 4294967295
  · have hb : (l.all okB && ((l.length : Int) == 8)) = true := by
      rw [Bool.and_eq_true]
      refine ⟨List.all_eq_true.2 fun x hx => decide_eq_true (h.2.2 x hx), ?_⟩
      rw [h.1]; rfl
    rw [if_pos ⟨hb, h.2.1⟩, if_pos h.1, if_pos h]
  · rw [if_neg h, if_neg]
    rintro ⟨hb, hs⟩
    rw [Bool.and_eq_true] at hb
    refine h ⟨?_, hs, fun x hx => of_decide_eq_true (List.all_eq_true.1 hb.1 x hx)⟩
    have := eq_of_beq hb.2
    omega
theorem shaF_len (l : List Int) (a : ByteArray) (hl : l.length ≤ 1048576) : (shaF l a).length ≤ 1048576 := by
  unfold shaF
  by_cases h : l.length = 8 ∧ a.size = 64 ∧ ∀ x ∈ l, 0 ≤ x ∧ x ≤ 4294967295
  · rw [if_pos h]
    unfold shaOut
    rw [List.length_map, List.length_range]
    omega
  · rw [if_neg h]; exact hl
theorem j0_some (l r : List Int) (a : ByteArray) (hl : l.length ≤ 1048576) (hr : r.length ≤ 1048576) (hi : ∀ k, 1048577 ≤ k → impl_ShaBlock.f k l a = some r) (k : Nat) (hk : 1048578 ≤ k) : laws_FnExactShaBlock.j0 k l a r r false = some true := by
  obtain ⟨k, rfl⟩ : ∃ z, k = z + 1 := ⟨k - 1, by omega⟩
  have hk : 1048577 ≤ k := by omega
  rw [laws_FnExactShaBlock.j0, if_neg (by simp), markIntS_some r (by omega) k (by omega), ob]
  rw [heldIntS_some r.length (by omega) k (by omega), ob]
  rw [if_neg (by omega), if_pos rfl, toIntS_some l (by omega) k (by omega), ob, hi k hk, ob, eqIntS_self r (by omega) k (by omega), ob, if_pos rfl]
  rw [ob, if_neg (by omega), if_pos rfl]
theorem FnExactShaBlock : laws_FnExactShaBlock.Pure := by
  intro l a _ _ _ _
  refine rounds_of 1048578 ?_
  intro k hk
  unfold laws_FnExactShaBlock.f
  by_cases h1 : (l.length : Int) > 1048576
  · rw [if_pos h1]
  rw [if_neg h1]
  by_cases h2 : (a.size : Int) > 1048576
  · rw [if_pos h2]
  rw [if_neg h2]
  have hl : l.length ≤ 1048576 := by omega
  clear h1 h2
  have hr := shaF_len l a hl
  have hi : ∀ k, 1048577 ≤ k → impl_ShaBlock.f k l a = some (shaF l a) := fun k hk => impl_some l a hl k (by omega)
  have hs : spec_ShaBlock.f l a = some (shaF l a) := by unfold spec_ShaBlock.f; rw [if_pos (by omega)]
  generalize shaF l a = r at hr hi hs
  rw [toIntS_some l (by omega) k (by omega), ob, hs, ob, ob, hi k (by omega), ob, eqIntS_self r (by omega) k (by omega), ob, if_pos rfl, ob, eqIntS_self l (by omega) k (by omega), ob, if_pos rfl, markIntS_some l (by omega) k (by omega), ob]
  rw [if_neg (by show ¬ (1 + (l.length : Int) < 0); omega), ob]
  exact j0_some l r a hl hr hi k hk
end Go.Proofs.Ytcmemppkllgkmaa.Pure
