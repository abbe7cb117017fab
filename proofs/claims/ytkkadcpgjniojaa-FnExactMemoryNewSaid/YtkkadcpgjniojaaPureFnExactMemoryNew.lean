/- The law FnExactMemoryNew answers true at every number; no condition. -/
import Derived.Test.YtkkadcpgjniojaaMFnExactMemoryNewx3
namespace Go.Proofs.Ytkkadcpgjniojaa.Pure
open Go.RowKit Go.Proofs.Ytkkadcpgjniojaa.PFnExactMemoryNew Go.Proofs.YtkkadcpgjniojaaW.PrintWords Go.Proofs.YtkkadcpgjniojaaW.PrintLast Go.Proofs.YtkkadcpgjniojaaW.PrintMore
set_option linter.unusedVariables false
set_option linter.unusedSimpArgs false

theorem w64 {n : Int} (h0 : -9223372036854775808 ≤ n) (h1 : n ≤ 9223372036854775807) : wrap64 n = n := by
  unfold wrap64; omega
theorem bits_nat3 (k : IntKind) (j : Nat) (hj : j ≤ k.bits) (hk : ∀ n : Int, 0 ≤ n → n < 2 ^ j → k.wrap n = n) (a b : Nat) (ha : a < 2 ^ j) (hb : b < 2 ^ j) :
    Go.bits .and k a b = ((a &&& b : Nat) : Int) ∧ Go.bits .or k a b = ((a ||| b : Nat) : Int) ∧ Go.bits .xor k a b = ((a ^^^ b : Nat) : Int) := by
  have hp : 2 ^ j ≤ 2 ^ k.bits := Nat.pow_le_pow_right (by decide) hj
  have ha' : a % 2 ^ k.bits = a := Nat.mod_eq_of_lt (Nat.lt_of_lt_of_le ha hp)
  have hb' : b % 2 ^ k.bits = b := Nat.mod_eq_of_lt (Nat.lt_of_lt_of_le hb hp)
  have cast : ∀ n : Nat, n < 2 ^ j → ((n : Nat) : Int) < 2 ^ j := fun n h => by exact_mod_cast h
  refine ⟨?_, ?_, ?_⟩
  · simp only [Go.bits, BitVec.ofInt_natCast, BitVec.toNat_and, BitVec.toNat_ofNat, ha', hb']
    exact hk _ (Int.natCast_nonneg _) (cast _ (Nat.and_lt_two_pow _ hb))
  · simp only [Go.bits, BitVec.ofInt_natCast, BitVec.toNat_or, BitVec.toNat_ofNat, ha', hb']
    exact hk _ (Int.natCast_nonneg _) (cast _ (Nat.or_lt_two_pow ha hb))
  · simp only [Go.bits, BitVec.ofInt_natCast, BitVec.toNat_xor, BitVec.toNat_ofNat, ha', hb']
    exact hk _ (Int.natCast_nonneg _) (cast _ (Nat.xor_lt_two_pow ha hb))
theorem wr_i64 (n : Int) (h0 : 0 ≤ n) (h1 : n < 2 ^ 62) : IntKind.i64.wrap n = n := by rw [IntKind.wrap_i64]; omega
theorem wr_u64 (n : Int) (h0 : 0 ≤ n) (h1 : n < 2 ^ 64) : IntKind.u64.wrap n = n := by
  simp [IntKind.wrap, IntKind.bits, IntKind.signed]; omega
theorem or_i64 (a b : Nat) (ha : a < 2 ^ 62) (hb : b < 2 ^ 62) : Go.bits .or .i64 a b = ((a ||| b : Nat) : Int) := (bits_nat3 .i64 62 (by decide) wr_i64 a b ha hb).2.1
theorem xor_i64 (a b : Nat) (ha : a < 2 ^ 62) (hb : b < 2 ^ 62) : Go.bits .xor .i64 a b = ((a ^^^ b : Nat) : Int) := (bits_nat3 .i64 62 (by decide) wr_i64 a b ha hb).2.2
theorem and_i64 (a b : Nat) (ha : a < 2 ^ 62) (hb : b < 2 ^ 62) : Go.bits .and .i64 a b = ((a &&& b : Nat) : Int) := (bits_nat3 .i64 62 (by decide) wr_i64 a b ha hb).1
theorem xor_u8 (a b : Nat) (ha : a < 2 ^ 8) (hb : b < 2 ^ 8) : Go.bits .xor .u8 a b = ((a ^^^ b : Nat) : Int) := (bits_nat3 .u8 8 (by decide) wraps_u8 a b ha hb).2.2
/-- Byte i of s as a natural number. -/
def bn (s : ByteArray) (i : Nat) : Nat := (s.data.toList.getD i 0).toNat
theorem bn_lt (s : ByteArray) (i : Nat) : bn s i < 256 := (s.data.toList.getD i 0).toNat_lt
theorem bt_bn (s : ByteArray) (i : Nat) : bt s (i : Int) = (bn s i : Int) := by
  unfold bt bn
  split
  · rename_i h
    have h' : i < s.data.toList.length := by rw [data_length]; simpa using h
    rw [List.getD_eq_getElem?_getD, List.getElem?_eq_getElem h']; rfl
  · rename_i h
    have h' : s.data.toList.length ≤ i := by rw [data_length]; simpa using h
    rw [List.getD_eq_getElem?_getD, List.getElem?_eq_none h']; rfl
theorem bt_bn' (s : ByteArray) (i : Int) (h : 0 ≤ i) : bt s i = (bn s i.toNat : Int) := by
  obtain ⟨n, rfl⟩ := Int.eq_ofNat_of_zero_le h
  exact bt_bn s n
theorem toList_eq' (s : ByteArray) : s.toList = s.data.toList := ByteArray.toList_eq s
/-- Two strings of one length are one where their bytes are. -/
theorem bytes_ext {s t : ByteArray} (hl : s.size = t.size) (h : ∀ i, i < s.size → bn s i = bn t i) : s.data.toList = t.data.toList := by
  apply List.ext_getElem (by rw [data_length, data_length, hl])
  intro i h1 h2
  have := h i (by rw [← data_length]; exact h1)
  unfold bn at this
  rw [List.getD_eq_getElem?_getD, List.getD_eq_getElem?_getD, List.getElem?_eq_getElem h1, List.getElem?_eq_getElem h2] at this
  exact UInt8.toNat_inj.1 this
theorem strOf_data (xs : List Int) : (strOfNums xs).data.toList = xs.map fun n => UInt8.ofNat n.toNat := by simp [strOfNums]
theorem strOf_toList (xs : List Int) : (strOfNums xs).toList = xs.map fun n => UInt8.ofNat n.toNat := by rw [toList_eq', strOf_data]
theorem strOf_size (xs : List Int) : (strOfNums xs).size = xs.length := by rw [← data_length, strOf_data, List.length_map]
/-- A list of n numbers written cell by cell is the list of what was written. -/
theorem tab_set (f : Nat → Int) (n i : Nat) (rest : List Int) (h : i < n) (hr : rest.length = n - i) :
    (((List.range i).map f) ++ rest).set i (f i) = ((List.range (i + 1)).map f) ++ rest.tail := by
  cases rest with
  | nil => simp at hr; omega
  | cons a rest =>
    rw [List.set_append_right _ _ (by simp)]
    simp [List.range_succ]
theorem xor_zero_iff {a b : Nat} : a ^^^ b = 0 ↔ a = b := by
  constructor
  · intro h
    have := congrArg (· ^^^ b) h
    simpa [Nat.xor_assoc] using this
  · rintro rfl; exact Nat.xor_self a
theorem rounds_of {P : Nat → Prop} (n : Nat) (h : ∀ k, n ≤ k → P k) : ∃ k, P k := ⟨n, h n (Nat.le_refl n)⟩
/-- As Option.bind_some, but not by reduction: the kernel is not led into what follows. -/
theorem ob {α β : Type} (a : α) (f : α → Option β) : (some a).bind f = f a := by
  cases h : f a with
  | none => rw [Option.bind_some, h]
  | some b => rw [Option.bind_some, h]

/-- n zero bytes. -/
def zb (n : Nat) : ByteArray := strOfNums (List.replicate n 0)
theorem zb_size (n : Nat) : (zb n).size = n := by unfold zb; rw [strOf_size, List.length_replicate]
theorem zb_data (n : Nat) : (zb n).data.toList = List.replicate n 0 := by unfold zb; rw [strOf_data, List.map_replicate]; rfl
theorem ba_ext {s t : ByteArray} (h : s.data.toList = t.data.toList) : s = t := by
  cases s; cases t; simp only at h; congr; exact Array.toList_inj.1 h
theorem long_loop (n : Nat) (x : Int) (hn : n ≤ 100000) (d : Nat) : ∀ (k i : Nat), i + d = n → d < k → spec_l01Long.l0 k (n : Int) x ((List.range i).map (fun _ => x) ++ List.replicate d 0) (i : Int) = some (strOfNums (List.replicate n x)) := by
  induction d with
  | zero =>
    intro k i hi hk
    obtain ⟨k, rfl⟩ : ∃ q, k = q + 1 := ⟨k - 1, by omega⟩
    obtain rfl : i = n := by omega
    simp only [spec_l01Long.l0]
    rw [if_neg (by omega)]
    congr 2
    simp [List.map_const']
  | succ d ih =>
    intro k i hi hk
    obtain ⟨k, rfl⟩ : ∃ q, k = q + 1 := ⟨k - 1, by omega⟩
    have e := ih k (i + 1) (by omega) (by omega)
    have t := tab_set (fun _ => x) n i (List.replicate (d + 1) 0) (by omega) (by simp; omega)
    rw [show (List.replicate (d + 1) (0 : Int)).tail = List.replicate d 0 by simp [List.replicate_succ]] at t
    simp only [spec_l01Long.l0]
    rw [if_pos (by omega), if_pos (by omega), if_pos (by simp; omega), w64 (by omega) (by omega), show (i : Int) + 1 = ((i + 1 : Nat) : Int) by omega, show ((i : Int)).toNat = i from rfl, t]
    exact e
theorem spec_long (n : Nat) (x : Int) (hn : n ≤ 100000) (k : Nat) (hk : n < k) : spec_l01Long.f k (n : Int) x = some (strOfNums (List.replicate n x)) := by
  unfold spec_l01Long.f
  have e := long_loop n x hn n k 0 (by omega) hk
  rw [Int.natCast_zero] at e
  rw [if_pos (by omega), if_pos (by omega)]
  simpa using e
theorem spec_zero (n : Nat) (hn : n ≤ 20000) (k : Nat) (hk : n < k) : spec_ZeroText.f k (n : Int) = some (zb n) := by
  unfold spec_ZeroText.f spec_l01In.f
  rw [if_pos (by omega), decide_eq_true (by omega)]
  simp only [Option.bind_some, if_true, spec_long n 0 (by omega) k hk]
  rfl
theorem rep_zero (n : Nat) (hn : n ≤ 140737488355328) : strings_Repeat.f ⟨#[0]⟩ (n : Int) = some (zb n) := by
  unfold strings_Repeat.f rep_.f
  rw [if_pos ⟨by omega, by show 1 * n ≤ _; omega, by omega⟩]
  congr 1
  apply ba_ext
  rw [zb_data]
  show Lib.repeatL [0] n = _
  induction n with
  | zero => rfl
  | succ n ih => rw [Lib.repeatL, ih (by omega), List.replicate_succ]; rfl
theorem impl_pad (s : ByteArray) (n : Nat) (hs : s.size ≤ 140737488351300) (hn : n ≤ 100000) : impl_padded.f s (n : Int) = some (s ++ zb (n - s.size)) := by
  unfold impl_padded.f
  have e : mx 0 (wrap64 ((n : Int) - (s.size : Int))) = ((n - s.size : Nat) : Int) := by
    rw [w64 (by omega) (by omega)]
    unfold mx
    split <;> omega
  rw [e, rep_zero _ (by omega)]
  simp only [Option.bind_some]
  rw [if_pos (by rw [zb_size]; omega)]
theorem pad_empty (n : Nat) (hn : n ≤ 100000) : impl_padded.f ⟨#[]⟩ (n : Int) = some (zb n) := by
  rw [impl_pad _ n (Nat.zero_le _) hn]
  have e : (⟨#[]⟩ : ByteArray) ++ zb (n - (⟨#[]⟩ : ByteArray).size) = zb n := by
    apply ba_ext
    rw [show (⟨#[]⟩ : ByteArray).size = 0 from rfl, Nat.sub_zero, ByteArray.data_append, Array.toList_append]
    rfl
  rw [e]

theorem eqCells_nil (k : Nat) (hk : 1 ≤ k) : laws_eqCellS.f k [] [] = some true := by
  obtain ⟨k, rfl⟩ : ∃ q, k = q + 1 := ⟨k - 1, by omega⟩
  unfold laws_eqCellS.f
  simp only [List.length_nil, if_true, laws_eqCellS.l0, show ¬ ((0 : Int) < ((0 : Nat) : Int)) by omega, if_false]

theorem mem_tail (k : Nat) (hk : 2 ≤ k) (s : ByteArray) (m : Option (ByteArray × List (S103))) (hm : m = some (s, [])) :
    (m.bind fun bt142 => (m.bind fun bt147 => ((laws_eqMemory.f k bt147.1 bt147.2 bt142.1 bt142.2).bind fun t152 => (if t152 = true then ((laws_markMemory.f k bt147.1 bt147.2 1).bind fun bt153 => ((laws_heldMemory.f k bt147.1 bt153.2 1).bind fun t155 => (if t155 < 0 then (some false) else (if t155 = bt153.1 then (m.bind fun bt156 => ((laws_eqMemory.f k bt156.1 bt156.2 bt142.1 bt142.2).bind fun t161 => (if t161 = true then ((laws_heldMemory.f k bt147.1 bt153.2 1).bind fun t162 => (if t162 < 0 then (some false) else (if t162 = bt153.1 then (some true) else (some false)))) else (some false)))) else (some false))))) else (some false))))) = some true := by
  subst hm
  obtain ⟨k, rfl⟩ : ∃ q, k = q + 1 := ⟨k - 1, by omega⟩
  have e1 : laws_eqMemory.f (k + 1) s [] s [] = some true := by
    unfold laws_eqMemory.f
    simp only [if_true, eqCells_nil (k + 1) (by omega), Option.bind_some]
  have e2 : laws_markMemory.f (k + 1) s [] 1 = some (1, []) := by
    unfold laws_markMemory.f laws_markCellS.f
    simp only [List.length_nil, laws_markCellS.l0, show ¬ ((0 : Int) < ((0 : Nat) : Int)) by omega, if_false, Option.bind_some]
  have e3 : laws_heldMemory.f (k + 1) s [] 1 = some 1 := by
    unfold laws_heldMemory.f laws_heldCellS.f
    simp only [List.length_nil, laws_heldCellS.l0, show ¬ ((0 : Int) < ((0 : Nat) : Int)) by omega, if_false, Option.bind_some, show ¬ ((1 : Int) < 0) by omega]
  simp only [Option.bind_some, e1, e2, e3, if_true, show ¬ ((1 : Int) < 0) by omega, if_false]
theorem spec_new (k m : Nat) (hk : 20000 < k) (hm : m ≤ 1000) : spec_MemoryNew.f k (m : Int) = some (zb (m * 16), []) := by
  have h1 : spec_l01In.f (m : Int) 0 1000 = some true := by
    unfold spec_l01In.f; rw [if_pos (by omega), decide_eq_true (by omega)]
  have h2 : wrap64 ((m : Int) * 16) = ((m * 16 : Nat) : Int) := by rw [w64 (by omega) (by omega)]; omega
  have h3 := spec_zero (m * 16) (by omega) k (by omega)
  simp only [spec_MemoryNew.f, h1, spec_l10Size.f, ob, if_true, h2, h3]
theorem impl_new (m : Nat) (hm : m ≤ 1000) : impl_MemoryNew.f (m : Int) = some (zb (m * 16), []) := by
  have h1 : impl_within.f (m : Int) 0 1000 = some true := by
    unfold impl_within.f; rw [if_pos (by omega), decide_eq_true (by omega)]
  have h2 : wrap64 ((m : Int) * 16) = ((m * 16 : Nat) : Int) := by rw [w64 (by omega) (by omega)]; omega
  have h3 := pad_empty (m * 16) (by omega)
  simp only [impl_MemoryNew.f, h1, ob, if_true, h2, h3]
theorem both_not (k : Nat) (n : Int) (h : ¬ (0 ≤ n ∧ n ≤ 1000)) : spec_MemoryNew.f k n = some (⟨#[]⟩, []) ∧ impl_MemoryNew.f n = some (⟨#[]⟩, []) := by
  have h1 : spec_l01In.f n 0 1000 = some false := by
    unfold spec_l01In.f
    by_cases h0 : n ≥ 0
    · rw [if_pos h0, decide_eq_false (by omega)]
    · rw [if_neg h0]
  have h2 : impl_within.f n 0 1000 = some false := h1
  constructor
  · simp only [spec_MemoryNew.f, h1, Option.bind_some, Bool.false_eq_true, if_false]
  · simp only [impl_MemoryNew.f, h2, Option.bind_some, Bool.false_eq_true, if_false]
theorem FnExactMemoryNew : laws_FnExactMemoryNew.Pure := by
  intro n _
  refine rounds_of 20001 fun k hk => ?_
  have key : ∃ s, spec_MemoryNew.f k n = some (s, []) ∧ impl_MemoryNew.f n = some (s, []) := by
    by_cases h : 0 ≤ n ∧ n ≤ 1000
    · obtain ⟨m, rfl⟩ := Int.eq_ofNat_of_zero_le h.1
      exact ⟨zb (m * 16), spec_new k m (by omega) (by omega), impl_new m (by omega)⟩
    · exact ⟨⟨#[]⟩, both_not k n h⟩
  obtain ⟨s, e1, e2⟩ := key
  unfold laws_FnExactMemoryNew.f
  rw [e1, e2]
  exact mem_tail k (by omega) s _ rfl
end Go.Proofs.Ytkkadcpgjniojaa.Pure
