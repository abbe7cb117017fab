/- The law FnExactStoreWord answers true: spec.StoreWord and impl.StoreWord give the same memory; the argument is unchanged and shares nothing with the result; no condition. -/
import Derived.Test.YtcfdabmeejfcoaaMFnExactStoreWordx11
namespace Go.Proofs.Ytcfdabmeejfcoaa.Pure
open Go.RowKit Go.Proofs.Ytcfdabmeejfcoaa.PFnExactStoreWord Go.Proofs.YtcfdabmeejfcoaaW.PrintWords Go.Proofs.YtcfdabmeejfcoaaW.PrintLast Go.Proofs.YtcfdabmeejfcoaaW.PrintMore
set_option linter.unusedVariables false
set_option linter.unusedSimpArgs false

theorem w64 {n : Int} (h0 : -9223372036854775808 ≤ n) (h1 : n ≤ 9223372036854775807) : wrap64 n = n := by
  unfold wrap64; omega
theorem bits_nat3 (k : IntKind) (j : Nat) (hj : j ≤ k.bits) (hk : ∀ n : Int, 0 ≤ n → n < 2 ^ j → k.wrap n = n) (a b : Nat) (ha : a < 2 ^ j) (hb : b < 2 ^ j) :
    Go.bits .and k a b = ((a &&& b : Nat) : Int) ∧ Go.bits .or k a b = ((a ||| b : Nat) : Int) ∧ Go.bits .xor k a b = ((a ^^^ b : Nat) : Int) := by
  have hp : 2 ^ j ≤ 2 ^ k.bits := Nat.pow_le_pow_right (by decide) hj
  have ha' : a % 2 ^ k.bits = a := Nat.mod_eq_of_lt (Nat.lt_of_lt_of_le ha hp)
  have hb' : b % 2 ^ k.bits = b := Nat.mod_eq_of_lt (Nat.lt_of_lt_of_le hb hp)
  have cast : ∀ n : Nat, n < 2 ^ j → ((n : Nat) : Int) < 2 ^ j := fun n h => by exact_mod_cast h
  refine ⟨?_, ?_, ?_⟩
  · simp only [Go.bits, BitVec.ofInt_natCast, BitVec.toNat_and, BitVec.toNat_ofNat, ha', hb']
    exact hk _ (Int.natCast_nonneg _) (cast _ (Nat.and_lt_two_pow _ hb))
  · simp only [Go.bits, BitVec.ofInt_natCast, BitVec.toNat_or, BitVec.toNat_ofNat, ha', hb']
    exact hk _ (Int.natCast_nonneg _) (cast _ (Nat.or_lt_two_pow ha hb))
  · simp only [Go.bits, BitVec.ofInt_natCast, BitVec.toNat_xor, BitVec.toNat_ofNat, ha', hb']
    exact hk _ (Int.natCast_nonneg _) (cast _ (Nat.xor_lt_two_pow ha hb))
theorem wr_i64 (n : Int) (h0 : 0 ≤ n) (h1 : n < 2 ^ 62) : IntKind.i64.wrap n = n := by rw [IntKind.wrap_i64]; omega
theorem wr_u64 (n : Int) (h0 : 0 ≤ n) (h1 : n < 2 ^ 64) : IntKind.u64.wrap n = n := by
  simp [IntKind.wrap, IntKind.bits, IntKind.signed]; omega
theorem or_i64 (a b : Nat) (ha : a < 2 ^ 62) (hb : b < 2 ^ 62) : Go.bits .or .i64 a b = ((a ||| b : Nat) : Int) := (bits_nat3 .i64 62 (by decide) wr_i64 a b ha hb).2.1
theorem xor_i64 (a b : Nat) (ha : a < 2 ^ 62) (hb : b < 2 ^ 62) : Go.bits .xor .i64 a b = ((a ^^^ b : Nat) : Int) := (bits_nat3 .i64 62 (by decide) wr_i64 a b ha hb).2.2
theorem and_i64 (a b : Nat) (ha : a < 2 ^ 62) (hb : b < 2 ^ 62) : Go.bits .and .i64 a b = ((a &&& b : Nat) : Int) := (bits_nat3 .i64 62 (by decide) wr_i64 a b ha hb).1
theorem xor_u8 (a b : Nat) (ha : a < 2 ^ 8) (hb : b < 2 ^ 8) : Go.bits .xor .u8 a b = ((a ^^^ b : Nat) : Int) := (bits_nat3 .u8 8 (by decide) wraps_u8 a b ha hb).2.2
/-- Byte i of s as a natural number. -/
def bn (s : ByteArray) (i : Nat) : Nat := (s.data.toList.getD i 0).toNat
theorem bn_lt (s : ByteArray) (i : Nat) : bn s i < 256 := (s.data.toList.getD i 0).toNat_lt
theorem bt_bn (s : ByteArray) (i : Nat) : bt s (i : Int) = (bn s i : Int) := by
  unfold bt bn
  split
  · rename_i h
    have h' : i < s.data.toList.length := by rw [data_length]; simpa using h
    rw [List.getD_eq_getElem?_getD, List.getElem?_eq_getElem h']; rfl
  · rename_i h
    have h' : s.data.toList.length ≤ i := by rw [data_length]; simpa using h
    rw [List.getD_eq_getElem?_getD, List.getElem?_eq_none h']; rfl
theorem bt_bn' (s : ByteArray) (i : Int) (h : 0 ≤ i) : bt s i = (bn s i.toNat : Int) := by
  obtain ⟨n, rfl⟩ := Int.eq_ofNat_of_zero_le h
  exact bt_bn s n
theorem toList_eq' (s : ByteArray) : s.toList = s.data.toList := ByteArray.toList_eq s
/-- Two strings of one length are one where their bytes are. -/
theorem bytes_ext {s t : ByteArray} (hl : s.size = t.size) (h : ∀ i, i < s.size → bn s i = bn t i) : s.data.toList = t.data.toList := by
  apply List.ext_getElem (by rw [data_length, data_length, hl])
  intro i h1 h2
  have := h i (by rw [← data_length]; exact h1)
  unfold bn at this
  rw [List.getD_eq_getElem?_getD, List.getD_eq_getElem?_getD, List.getElem?_eq_getElem h1, List.getElem?_eq_getElem h2] at this
  exact UInt8.toNat_inj.1 this
theorem strOf_data (xs : List Int) : (strOfNums xs).data.toList = xs.map fun n => UInt8.ofNat n.toNat := by simp [strOfNums]
theorem strOf_toList (xs : List Int) : (strOfNums xs).toList = xs.map fun n => UInt8.ofNat n.toNat := by rw [toList_eq', strOf_data]
theorem strOf_size (xs : List Int) : (strOfNums xs).size = xs.length := by rw [← data_length, strOf_data, List.length_map]
/-- A list of n numbers written cell by cell is the list of what was written. -/
theorem tab_set (f : Nat → Int) (n i : Nat) (rest : List Int) (h : i < n) (hr : rest.length = n - i) :
    (((List.range i).map f) ++ rest).set i (f i) = ((List.range (i + 1)).map f) ++ rest.tail := by
  cases rest with
  | nil => simp at hr; omega
  | cons a rest =>
    rw [List.set_append_right _ _ (by simp)]
    simp [List.range_succ]
theorem xor_zero_iff {a b : Nat} : a ^^^ b = 0 ↔ a = b := by
  constructor
  · intro h
    have := congrArg (· ^^^ b) h
    simpa [Nat.xor_assoc] using this
  · rintro rfl; exact Nat.xor_self a
theorem rounds_of {P : Nat → Prop} (n : Nat) (h : ∀ k, n ≤ k → P k) : ∃ k, P k := ⟨n, h n (Nat.le_refl n)⟩
/-- As Option.bind_some, but not by reduction: the kernel is not led into what follows. -/
theorem ob {α β : Type} (a : α) (f : α → Option β) : (some a).bind f = f a := by
  cases h : f a with
  | none => rw [Option.bind_some, h]
  | some b => rw [Option.bind_some, h]

/-- A cell as the program's own type. -/
def conv (x : S59) : S47 := ⟨x.f0, x.f1, x.f2⟩
theorem tab_setG {α : Type} (f : Nat → α) (n i : Nat) (rest : List α) (h : i < n) (hr : rest.length = n - i) :
    (((List.range i).map f) ++ rest).set i (f i) = ((List.range (i + 1)).map f) ++ rest.tail := by
  cases rest with
  | nil => simp at hr; omega
  | cons a rest =>
    rw [List.set_append_right _ _ (by simp)]
    simp [List.range_succ]
theorem rd59_mem (l : List S59) (i : Nat) (h : i < l.length) : rd_T59 l (i : Int) ∈ l := by
  unfold rd_T59
  rw [List.getD_eq_getElem?_getD, Int.toNat_natCast, List.getElem?_eq_getElem h]
  exact List.getElem_mem h
theorem conv_rd (l : List S59) (i : Nat) (h : i < l.length) : rd_T47 (l.map conv) (i : Int) = conv (rd_T59 l (i : Int)) := by
  unfold rd_T47 rd_T59
  rw [List.getD_eq_getElem?_getD, List.getD_eq_getElem?_getD, Int.toNat_natCast, List.getElem?_map, List.getElem?_eq_getElem h]
  rfl
theorem range_conv (l : List S59) : (List.range l.length).map (fun j : Nat => conv (rd_T59 l (j : Int))) = l.map conv := by
  apply List.ext_getElem (by simp)
  intro i h1 h2
  simp only [List.length_map, List.length_range] at h1
  simp only [List.getElem_map, List.getElem_range]
  unfold rd_T59
  rw [List.getD_eq_getElem?_getD, Int.toNat_natCast, List.getElem?_eq_getElem h1]
  rfl
def Wf (l : List S59) : Prop := ∀ x ∈ l, ((Lit.int .i64 x.f0).wf = true ∧ x.f1.size ≤ 9223372036854775807)
theorem szCellS_loop (l : List S59) (hw : Wf l) (hl : l.length ≤ 1048576) (d : Nat) : ∀ (k i : Nat) (x : Int), i + d = l.length → d < k → 0 ≤ x → x ≤ 1048576 →
    ∃ v, laws_szCellS.l0 k l x (i : Int) = some v ∧ (v < 0 ∨ v ≤ 1048576 ∧ ∀ j, i ≤ j → j < l.length → (rd_T59 l (j : Int)).f1.size ≤ 1048576) := by
  induction d with
  | zero =>
    intro k i x hi hk h0 h1
    obtain ⟨k, rfl⟩ : ∃ z, k = z + 1 := ⟨k - 1, by omega⟩
    unfold laws_szCellS.l0
    rw [if_neg (by omega)]
    exact ⟨x, rfl, .inr ⟨h1, fun j a b => by omega⟩⟩
  | succ d ih =>
    intro k i x hi hk h0 h1
    obtain ⟨k, rfl⟩ : ∃ z, k = z + 1 := ⟨k - 1, by omega⟩
    have hs := (hw _ (rd59_mem l i (by omega))).2
    unfold laws_szCellS.l0 laws_szCell.f
    rw [if_pos (by omega), if_pos (by omega), w64 (n := x - ((rd_T59 l (i : Int)).f1.size : Int)) (by omega) (by omega)]
    by_cases hx : x - ((rd_T59 l (i : Int)).f1.size : Int) < 0
    · rw [if_pos hx, ob, if_pos (by omega)]
      exact ⟨_, rfl, .inl (by omega)⟩
    · rw [if_neg hx, ob, if_neg hx, w64 (n := (i : Int) + 1) (by omega) (by omega), show (i : Int) + 1 = ((i + 1 : Nat) : Int) by omega]
      obtain ⟨v, e, h⟩ := ih k (i + 1) _ (by omega) (by omega) (by omega) (show x - ((rd_T59 l (i : Int)).f1.size : Int) ≤ 1048576 by omega)
      refine ⟨v, e, ?_⟩
      rcases h with h | ⟨h2, h⟩
      · exact .inl h
      · refine .inr ⟨h2, fun j a b => ?_⟩
        by_cases hj : j = i
        · subst hj; omega
        · exact h j (by omega) b
theorem szMemory_some (kept : ByteArray) (l : List S59) (hk0 : kept.size ≤ 9223372036854775807) (hl : l.length ≤ 9223372036854775807) (hw : Wf l) (k : Nat) (hk : l.length < k) :
    ∃ v, laws_szMemory.f k kept l 1048576 = some v ∧ (v < 0 ∨ kept.size ≤ 1048576 ∧ l.length ≤ 1048576 ∧ ∀ j, j < l.length → (rd_T59 l (j : Int)).f1.size ≤ 1048576) := by
  unfold laws_szMemory.f laws_szCellS.f
  rw [w64 (n := 1048576 - (kept.size : Int)) (by omega) (by omega)]
  by_cases h1 : 1048576 - (kept.size : Int) < 0
  · rw [if_pos h1]; exact ⟨_, rfl, .inl (by omega)⟩
  · rw [if_neg h1, w64 (n := 1048576 - (kept.size : Int) - (l.length : Int)) (by omega) (by omega)]
    by_cases h2 : 1048576 - (kept.size : Int) - (l.length : Int) < 0
    · rw [if_pos h2, ob, if_pos (by omega)]; exact ⟨_, rfl, .inl (by omega)⟩
    · rw [if_neg h2]
      obtain ⟨v, e, h⟩ := szCellS_loop l hw (by omega) l.length k 0 (1048576 - (kept.size : Int) - (l.length : Int)) (by omega) hk (by omega) (by omega)
      rw [Int.natCast_zero] at e
      rw [e, ob]
      rcases h with h | ⟨_, h⟩
      · rw [if_pos h]; exact ⟨_, rfl, .inl (by omega)⟩
      · split
        · exact ⟨_, rfl, .inl (by omega)⟩
        · exact ⟨_, rfl, .inr ⟨by omega, by omega, fun j hj => h j (by omega) hj⟩⟩
theorem toCellS_loop (l : List S59) (hl : l.length ≤ 1048576) (d : Nat) : ∀ (k i : Nat) (rest : List S47), i + d = l.length → rest.length = d → d < k →
    laws_toCellS.l0 k l ((List.range i).map (fun j : Nat => conv (rd_T59 l (j : Int))) ++ rest) (i : Int) = some (l.map conv) := by
  induction d with
  | zero =>
    intro k i rest hi hr hk
    obtain ⟨k, rfl⟩ : ∃ z, k = z + 1 := ⟨k - 1, by omega⟩
    obtain rfl : rest = [] := List.length_eq_zero_iff.1 hr
    obtain rfl : i = l.length := by omega
    unfold laws_toCellS.l0
    rw [if_neg (by omega), List.append_nil, range_conv]
  | succ d ih =>
    intro k i rest hi hr hk
    obtain ⟨k, rfl⟩ : ∃ z, k = z + 1 := ⟨k - 1, by omega⟩
    have hlen : ((List.range i).map (fun j : Nat => conv (rd_T59 l (j : Int))) ++ rest).length = l.length := by
      rw [List.length_append, List.length_map, List.length_range, hr]; exact hi
    unfold laws_toCellS.l0 laws_toCell.f
    rw [if_pos (by omega), if_pos (by omega), ob, if_pos (by rw [hlen]; omega), w64 (n := (i : Int) + 1) (by omega) (by omega), show (i : Int) + 1 = ((i + 1 : Nat) : Int) by omega, Int.toNat_natCast]
    have ht := tab_setG (fun j : Nat => conv (rd_T59 l (j : Int))) l.length i rest (by omega) (by omega)
    have e := ih k (i + 1) rest.tail (by omega) (by rw [List.length_tail]; omega) (by omega)
    rw [← ht] at e
    exact e
theorem toCellS_some (l : List S59) (hl : l.length ≤ 1048576) (k : Nat) (hk : l.length < k) : laws_toCellS.f k l = some (l.map conv) := by
  unfold laws_toCellS.f
  rw [if_pos (by omega), if_pos (by omega), Int.toNat_natCast]
  have e := toCellS_loop l hl l.length k 0 (List.replicate l.length z47) (by omega) (by simp) hk
  rw [Int.natCast_zero, List.range_zero, List.map_nil, List.nil_append] at e
  exact e
theorem toMemory_some (kept : ByteArray) (l : List S59) (hl : l.length ≤ 1048576) (k : Nat) (hk : l.length < k) : laws_toMemory.f k kept l = some (kept, l.map conv) := by
  unfold laws_toMemory.f
  rw [toCellS_some l hl k hk, ob]
theorem eqCell_self (a : Int) (s : ByteArray) (b : Bool) : laws_eqCell.f a s b a s b = some true := by
  unfold laws_eqCell.f
  rw [if_pos rfl, if_pos rfl, if_neg (by simp)]
theorem eqCellS_loop (l : List S47) (hl : l.length ≤ 1048577) (d : Nat) : ∀ (k i : Nat), i + d = l.length → d < k → laws_eqCellS.l0 k l l (i : Int) = some true := by
  induction d with
  | zero =>
    intro k i hi hk
    obtain ⟨k, rfl⟩ : ∃ z, k = z + 1 := ⟨k - 1, by omega⟩
    unfold laws_eqCellS.l0
    rw [if_neg (by omega)]
  | succ d ih =>
    intro k i hi hk
    obtain ⟨k, rfl⟩ : ∃ z, k = z + 1 := ⟨k - 1, by omega⟩
    unfold laws_eqCellS.l0
    rw [if_pos (by omega), if_pos (by omega), if_pos (by omega), eqCell_self, ob, if_pos rfl, w64 (n := (i : Int) + 1) (by omega) (by omega), show (i : Int) + 1 = ((i + 1 : Nat) : Int) by omega]
    exact ih k (i + 1) (by omega) (by omega)
theorem eqCellS_self (l : List S47) (hl : l.length ≤ 1048577) (k : Nat) (hk : l.length < k) : laws_eqCellS.f k l l = some true := by
  unfold laws_eqCellS.f
  rw [if_pos rfl]
  have := eqCellS_loop l hl l.length k 0 (by omega) hk
  rw [Int.natCast_zero] at this
  exact this
theorem eqMemory_self (kept : ByteArray) (l : List S47) (hl : l.length ≤ 1048577) (k : Nat) (hk : l.length < k) : laws_eqMemory.f k kept l kept l = some true := by
  unfold laws_eqMemory.f
  rw [if_pos rfl, eqCellS_self l hl k hk, ob, if_pos rfl]

/-- What a right memory's cell i is. -/
def cellB (n : Nat) (l : List S47) (i : Nat) : Bool :=
  decide (0 ≤ (rd_T47 l (i : Int)).f0) && decide ((rd_T47 l (i : Int)).f0 ≤ (n : Int) / 16 - 1) && decide ((rd_T47 l (i : Int)).f1.size = 16) && (decide (i = 0) || decide ((rd_T47 l ((i : Int) - 1)).f0 < (rd_T47 l (i : Int)).f0))
def cellsB (n : Nat) (l : List S47) : Nat → Nat → Bool
  | 0, _ => true
  | d + 1, i => cellB n l i && cellsB n l d (i + 1)
def keptB (n : Nat) : Bool := decide ((n : Int) % 16 = 0) && decide ((n : Int) ≤ 16000)
theorem size16 (n : Nat) (h : n ≤ 9223372036854775807) : wrap64 (wrap64 ((n : Int) / 16) - 1) = (n : Int) / 16 - 1 := by
  rw [w64 (n := (n : Int) / 16) (by omega) (by omega), w64 (by omega) (by omega)]
theorem specMem_loop (kept : ByteArray) (l : List S47) (hl : l.length ≤ 1048577) (hn : kept.size ≤ 9223372036854775807) (d : Nat) : ∀ (k i : Nat), i + d = l.length → d < k → spec_MemoryOk.l0 k (i : Int) kept l = some (cellsB kept.size l d i) := by
  induction d with
  | zero =>
    intro k i hi hk
    obtain ⟨k, rfl⟩ : ∃ z, k = z + 1 := ⟨k - 1, by omega⟩
    unfold spec_MemoryOk.l0
    rw [if_neg (by omega)]; rfl
  | succ d ih =>
    intro k i hi hk
    obtain ⟨k, rfl⟩ : ∃ z, k = z + 1 := ⟨k - 1, by omega⟩
    have e := ih k (i + 1) (by omega) (by omega)
    unfold spec_MemoryOk.l0 spec_l10Size.f spec_l01In.f
    simp only [ob]
    rw [if_pos (by omega), if_pos (by omega), if_neg (by decide), size16 _ hn]
    simp only [cellsB, cellB]
    by_cases h0 : (rd_T47 l (i : Int)).f0 ≥ 0
    · rw [if_pos h0]; simp only [ob]
      by_cases h1 : (rd_T47 l (i : Int)).f0 ≤ (kept.size : Int) / 16 - 1
      · rw [if_pos (decide_eq_true h1)]
        by_cases h2 : (rd_T47 l (i : Int)).f1.size = 16
        · rw [if_pos (by omega)]
          by_cases h3 : i = 0
          · rw [if_neg (by omega), w64 (n := (i : Int) + 1) (by omega) (by omega), show (i : Int) + 1 = ((i + 1 : Nat) : Int) by omega, e]
            rw [decide_eq_true (show 0 ≤ (rd_T47 l (i : Int)).f0 from h0), decide_eq_true h1, decide_eq_true h2, decide_eq_true h3]; rfl
          · rw [if_pos (by omega), w64 (n := (i : Int) - 1) (by omega) (by omega), if_pos (by omega), if_pos (by omega)]
            by_cases h4 : (rd_T47 l ((i : Int) - 1)).f0 ≥ (rd_T47 l (i : Int)).f0
            · rw [if_pos h4, decide_eq_false h3, decide_eq_false (show ¬ (rd_T47 l ((i : Int) - 1)).f0 < (rd_T47 l (i : Int)).f0 by omega)]; simp
            · rw [if_neg h4, w64 (n := (i : Int) + 1) (by omega) (by omega), show (i : Int) + 1 = ((i + 1 : Nat) : Int) by omega, e]
              rw [decide_eq_true (show 0 ≤ (rd_T47 l (i : Int)).f0 from h0), decide_eq_true h1, decide_eq_true h2, decide_eq_true (show (rd_T47 l ((i : Int) - 1)).f0 < (rd_T47 l (i : Int)).f0 by omega)]; simp
        · rw [if_neg (by omega), decide_eq_false h2]; simp
      · rw [if_neg (by simpa using h1), decide_eq_false h1]; simp
    · rw [if_neg h0]; simp only [ob]
      rw [if_neg (by simp), decide_eq_false (show ¬ 0 ≤ (rd_T47 l (i : Int)).f0 by omega)]; simp
theorem specMem (kept : ByteArray) (l : List S47) (hl : l.length ≤ 1048577) (hn : kept.size ≤ 9223372036854775807) (k : Nat) (hk : l.length + 1 < k) : spec_MemoryOk.f k kept l = some (keptB kept.size && cellsB kept.size l l.length 0) := by
  obtain ⟨k, rfl⟩ : ∃ z, k = z + 1 := ⟨k - 1, by omega⟩
  have e := specMem_loop kept l hl hn l.length k 0 (by omega) (by omega)
  rw [Int.natCast_zero] at e
  unfold spec_MemoryOk.f spec_l10Size.f keptB
  simp only [ob]
  rw [if_neg (by decide), Int.tmod_eq_emod_of_nonneg (by omega)]
  by_cases h : (kept.size : Int) % 16 = 0
  · rw [if_pos h]
    simp only [spec_MemoryOk.j0]
    rw [show wrap64 (1000 * 16) = 16000 from w64 (n := 1000 * 16) (by decide) (by decide)]
    by_cases h2 : (kept.size : Int) > 16000
    · rw [if_pos (decide_eq_true h2), decide_eq_false (show ¬ (kept.size : Int) ≤ 16000 by omega)]; simp
    · rw [if_neg (by simpa using h2), e, decide_eq_true h, decide_eq_true (show (kept.size : Int) ≤ 16000 by omega)]; simp
  · rw [if_neg h]
    simp only [spec_MemoryOk.j0]
    rw [if_pos trivial, decide_eq_false h]; simp
theorem implMem_loop (kept : ByteArray) (l : List S47) (hl : l.length ≤ 1048577) (hn : kept.size ≤ 9223372036854775807) (d : Nat) : ∀ (k i : Nat), i + d = l.length → d < k → impl_MemoryOk.l0 k l (l.length : Int) (i : Int) kept l = some (keptB kept.size && cellsB kept.size l d i) := by
  induction d with
  | zero =>
    intro k i hi hk
    obtain ⟨k, rfl⟩ : ∃ z, k = z + 1 := ⟨k - 1, by omega⟩
    unfold impl_MemoryOk.l0 keptB
    rw [if_neg (by omega)]
    by_cases h : (kept.size : Int) % 16 = 0
    · rw [if_pos h, decide_eq_true h]; simp [cellsB]
    · rw [if_neg h, decide_eq_false h]; simp
  | succ d ih =>
    intro k i hi hk
    obtain ⟨k, rfl⟩ : ∃ z, k = z + 1 := ⟨k - 1, by omega⟩
    have e := ih k (i + 1) (by omega) (by omega)
    unfold impl_MemoryOk.l0 impl_within.f
    rw [if_pos (by omega), if_pos (by omega), if_pos (by omega), size16 _ hn]
    simp only [cellsB, cellB]
    by_cases h0 : (rd_T47 l (i : Int)).f0 ≥ 0
    · rw [if_pos h0]; simp only [ob]
      by_cases h1 : (rd_T47 l (i : Int)).f0 ≤ (kept.size : Int) / 16 - 1
      · rw [if_pos (decide_eq_true h1)]
        by_cases h2 : (rd_T47 l (i : Int)).f1.size = 16
        · rw [if_pos (by omega)]
          by_cases h3 : i = 0
          · rw [if_neg (by omega), w64 (n := (i : Int) + 1) (by omega) (by omega), show (i : Int) + 1 = ((i + 1 : Nat) : Int) by omega, e]
            rw [decide_eq_true (show 0 ≤ (rd_T47 l (i : Int)).f0 from h0), decide_eq_true h1, decide_eq_true h2, decide_eq_true h3]; simp
          · rw [if_pos (by omega), w64 (n := (i : Int) - 1) (by omega) (by omega), if_pos (by omega), if_pos (by omega)]
            by_cases h4 : (rd_T47 l (i : Int)).f0 ≤ (rd_T47 l ((i : Int) - 1)).f0
            · rw [if_pos h4, decide_eq_false h3, decide_eq_false (show ¬ (rd_T47 l ((i : Int) - 1)).f0 < (rd_T47 l (i : Int)).f0 by omega)]; simp
            · rw [if_neg h4, w64 (n := (i : Int) + 1) (by omega) (by omega), show (i : Int) + 1 = ((i + 1 : Nat) : Int) by omega, e]
              rw [decide_eq_true (show 0 ≤ (rd_T47 l (i : Int)).f0 from h0), decide_eq_true h1, decide_eq_true h2, decide_eq_true (show (rd_T47 l ((i : Int) - 1)).f0 < (rd_T47 l (i : Int)).f0 by omega)]; simp
        · rw [if_neg (by omega), decide_eq_false h2]; simp
      · rw [if_neg (by simpa using h1), decide_eq_false h1]; simp
    · rw [if_neg h0]; simp only [ob]
      rw [if_neg (by simp), decide_eq_false (show ¬ 0 ≤ (rd_T47 l (i : Int)).f0 by omega)]; simp
theorem implMem (kept : ByteArray) (l : List S47) (hl : l.length ≤ 1048577) (hn : kept.size ≤ 9223372036854775807) (k : Nat) (hk : l.length + 1 < k) : impl_MemoryOk.f k kept l = some (keptB kept.size && cellsB kept.size l l.length 0) := by
  have e := implMem_loop kept l hl hn l.length k 0 (by omega) (by omega)
  rw [Int.natCast_zero] at e
  exact e

/-- The line of cell j. -/
def ln (l : List S47) (j : Nat) : Int := (rd_T47 l (j : Int)).f0
theorem cells_all (n : Nat) (l : List S47) (d : Nat) : ∀ i, cellsB n l d i = true → ∀ j, i ≤ j → j < i + d → cellB n l j = true := by
  induction d with
  | zero => intro i _ j a b; omega
  | succ d ih =>
    intro i h j a b
    simp only [cellsB, Bool.and_eq_true] at h
    by_cases e : j = i
    · subst e; exact h.1
    · exact ih (i + 1) h.2 j (by omega) (by omega)
/-- A right memory's cells: each is one line's, in order. -/
structure Right (n : Nat) (l : List S47) : Prop where
  lo : ∀ j, j < l.length → 0 ≤ ln l j
  hi : ∀ j, j < l.length → ln l j ≤ (n : Int) / 16 - 1
  sz : ∀ j, j < l.length → (rd_T47 l (j : Int)).f1.size = 16
  up : ∀ a b, a < b → b < l.length → ln l a < ln l b
theorem right_of (n : Nat) (l : List S47) (h : cellsB n l l.length 0 = true) : Right n l := by
  have key : ∀ j, j < l.length → 0 ≤ ln l j ∧ ln l j ≤ (n : Int) / 16 - 1 ∧ (rd_T47 l (j : Int)).f1.size = 16 ∧ (j = 0 ∨ ln l (j - 1) < ln l j) := by
    intro j hj
    have := cells_all n l l.length 0 h j (by omega) (by omega)
    unfold cellB at this
    simp only [Bool.and_eq_true, Bool.or_eq_true, decide_eq_true_eq] at this
    obtain ⟨⟨⟨h1, h2⟩, h3⟩, h4⟩ := this
    refine ⟨h1, h2, h3, ?_⟩
    rcases h4 with h4 | h4
    · exact .inl h4
    · by_cases e : j = 0
      · exact .inl e
      · right
        unfold ln
        rw [show ((j - 1 : Nat) : Int) = (j : Int) - 1 by omega]
        exact h4
  refine ⟨fun j hj => (key j hj).1, fun j hj => (key j hj).2.1, fun j hj => (key j hj).2.2.1, ?_⟩
  intro a b hab hb
  induction b with
  | zero => omega
  | succ b ih =>
    have h1 := (key (b + 1) hb).2.2.2
    rw [Nat.add_sub_cancel] at h1
    have h2 : ln l b < ln l (b + 1) := by
      rcases h1 with h1 | h1
      · omega
      · exact h1
    by_cases e : a = b
    · subst e; exact h2
    · have := ih (by omega) (by omega); omega
theorem specCell_loop (kept : ByteArray) (l : List S47) (hl : l.length ≤ 1048577) (x : Int) (d : Nat) : ∀ (k i : Nat), i + d = l.length → d < k → (∀ j, j < i → ln l j ≠ x) →
    (∃ j : Nat, j < l.length ∧ ln l j = x ∧ spec_l10Cell.l0 k x (i : Int) kept l = some (j : Int)) ∨ ((∀ j, j < l.length → ln l j ≠ x) ∧ spec_l10Cell.l0 k x (i : Int) kept l = some (-1)) := by
  induction d with
  | zero =>
    intro k i hi hk h
    obtain ⟨k, rfl⟩ : ∃ z, k = z + 1 := ⟨k - 1, by omega⟩
    obtain rfl : i = l.length := by omega
    right
    unfold spec_l10Cell.l0
    rw [if_neg (by omega)]
    exact ⟨h, rfl⟩
  | succ d ih =>
    intro k i hi hk h
    obtain ⟨k, rfl⟩ : ∃ z, k = z + 1 := ⟨k - 1, by omega⟩
    unfold spec_l10Cell.l0
    rw [if_pos (by omega), if_pos (by omega)]
    by_cases e : (rd_T47 l (i : Int)).f0 = x
    · rw [if_pos e]
      exact .inl ⟨i, by omega, e, rfl⟩
    · rw [if_neg e, w64 (n := (i : Int) + 1) (by omega) (by omega), show (i : Int) + 1 = ((i + 1 : Nat) : Int) by omega]
      refine ih k (i + 1) (by omega) (by omega) (fun j hj => ?_)
      by_cases e2 : j = i
      · subst e2; exact e
      · exact h j (by omega)
theorem specCell (kept : ByteArray) (l : List S47) (hl : l.length ≤ 1048577) (x : Int) (k : Nat) (hk : l.length < k) :
    (∃ j : Nat, j < l.length ∧ ln l j = x ∧ spec_l10Cell.f k kept l x = some (j : Int)) ∨ ((∀ j, j < l.length → ln l j ≠ x) ∧ spec_l10Cell.f k kept l x = some (-1)) := by
  have := specCell_loop kept l hl x l.length k 0 (by omega) hk (fun j hj => by omega)
  rw [Int.natCast_zero] at this
  exact this
theorem find_loop (l : List S47) (x : Int) (hup : ∀ a b, a < b → b < l.length → ln l a < ln l b) (d : Nat) : ∀ (k i j : Nat), j = i + d → j ≤ l.length → d < k → (∀ z, z < i → ln l z < x) → (∀ z, j ≤ z → z < l.length → x ≤ ln l z) →
    ∃ q : Nat, q ≤ l.length ∧ (∀ z, z < q → ln l z < x) ∧ (∀ z, q ≤ z → z < l.length → x ≤ ln l z) ∧ impl_Memory_findCell.l k l x i j = some ((q : Int), decide (q < l.length) && decide (ln l q = x)) := by
  induction d using Nat.strongRecOn with
  | _ d ih =>
    intro k i j hj hjl hk h1 h2
    obtain ⟨k, rfl⟩ : ∃ z, k = z + 1 := ⟨k - 1, by omega⟩
    unfold impl_Memory_findCell.l
    by_cases e : i < j
    · rw [if_pos e]
      by_cases e2 : (rd_T47 l (((i + j) / 2 : Nat) : Int)).f0 < x
      · rw [if_pos e2]
        refine ih (j - ((i + j) / 2 + 1)) (by omega) k ((i + j) / 2 + 1) j (by omega) hjl (by omega) (fun z hz => ?_) h2
        by_cases e3 : z = (i + j) / 2
        · subst e3; exact e2
        · have := hup z ((i + j) / 2) (by omega) (by omega)
          have : ln l ((i + j) / 2) < x := e2
          omega
      · rw [if_neg e2]
        refine ih ((i + j) / 2 - i) (by omega) k i ((i + j) / 2) (by omega) (by omega) (by omega) h1 (fun z hz hz2 => ?_)
        have h3 : ¬ ln l ((i + j) / 2) < x := e2
        by_cases e3 : z = (i + j) / 2
        · subst e3; omega
        · have := hup ((i + j) / 2) z (by omega) hz2
          omega
    · rw [if_neg e]
      obtain rfl : i = j := by omega
      exact ⟨i, hjl, h1, h2, rfl⟩
theorem findCell (kept : ByteArray) (l : List S47) (hl : l.length ≤ 1048577) (x : Int) (hup : ∀ a b, a < b → b < l.length → ln l a < ln l b) (k : Nat) (hk : l.length < k) :
    ∃ q : Nat, q ≤ l.length ∧ (∀ z, z < q → ln l z < x) ∧ (∀ z, q ≤ z → z < l.length → x ≤ ln l z) ∧ impl_Memory_findCell.f k kept l x = some ((q : Int), decide (q < l.length) && decide (ln l q = x)) := by
  unfold impl_Memory_findCell.f
  rw [if_pos (by omega)]
  exact find_loop l x hup l.length k 0 l.length (by omega) (Nat.le_refl _) hk (fun z hz => by omega) (fun z h1 h2 => by omega)

/-- A line, as the reference and the program read it. -/
theorem lines_same (kept : ByteArray) (l : List S47) (hl : l.length ≤ 1048577) (r : Right kept.size l) (hn : kept.size ≤ 16000) (x : Int) (h0 : 0 ≤ x) (h1 : x ≤ (kept.size : Int) / 16 - 1) (k : Nat) (hk : l.length < k) :
    ∃ s : ByteArray, s.size = 16 ∧ spec_l10Line.f k kept l x = some s ∧ impl_Memory_line.f k kept l x = some s := by
  obtain ⟨q, hq, f1, f2, ef⟩ := findCell kept l hl x r.up k hk
  have e1 : wrap64 (x * 16) = x * 16 := w64 (by omega) (by omega)
  have e2 : wrap64 (x + 1) = x + 1 := w64 (by omega) (by omega)
  have e3 : wrap64 ((x + 1) * 16) = (x + 1) * 16 := w64 (by omega) (by omega)
  unfold spec_l10Line.f impl_Memory_line.f spec_l10Size.f
  rw [ef]
  rcases specCell kept l hl x k hk with ⟨j, hj, ej, es⟩ | ⟨hno, es⟩
  · have hqj : q = j := by
      by_cases a : q < j
      · have b1 := r.up q j a hj
        have b2 := f2 q (Nat.le_refl _) (by omega)
        omega
      · by_cases b : j < q
        · have := f1 j b; omega
        · omega
    subst hqj
    refine ⟨(rd_T47 l (q : Int)).f1, r.sz q hj, ?_, ?_⟩
    · rw [es]; simp only [ob]
      rw [if_pos (by omega), if_pos (by omega), if_pos (by omega)]
    · simp only [ob]
      rw [decide_eq_true hj, decide_eq_true ej, if_pos (by rfl), if_pos (by omega), if_pos (by omega)]
  · have hb : (decide (q < l.length) && decide (ln l q = x)) = false := by
      by_cases a : q < l.length
      · rw [decide_eq_false (hno q a)]; simp
      · rw [decide_eq_false a]; rfl
    refine ⟨kept.extract (x * 16).toNat ((x + 1) * 16).toNat, ?_, ?_, ?_⟩
    · rw [ByteArray.size_extract]; omega
    · rw [es]; simp only [ob]
      rw [if_neg (by omega), e1, e2, e3, if_pos (by omega), if_pos (by omega), if_pos (by omega)]
    · simp only [ob]
      rw [hb, if_neg (by simp), e1, e2, e3, if_pos (by omega), if_pos (by omega), if_pos (by omega)]
theorem kept_of (n : Nat) (h : keptB n = true) : (n : Int) % 16 = 0 ∧ n ≤ 16000 := by
  unfold keptB at h
  simp only [Bool.and_eq_true, decide_eq_true_eq] at h
  omega

theorem mark_loop (d : Nat) : ∀ (k : Nat) (x : Int) (s : ByteArray), 0 ≤ x → x.toNat < 10 ^ d → d ≤ 18 → s.size + d ≤ 1000 → d < k → ∃ r, laws_markText.l0 k x s = some r := by
  induction d with
  | zero =>
    intro k x s h0 hx _ hs hk
    obtain ⟨k, rfl⟩ : ∃ q, k = q + 1 := ⟨k - 1, by omega⟩
    have : x = 0 := by simp at hx; omega
    subst this
    exact ⟨_, by simp only [laws_markText.l0]; rw [if_neg (by omega), if_pos (by omega)]⟩
  | succ d ih =>
    intro k x s h0 hx h18 hs hk
    obtain ⟨k, rfl⟩ : ∃ q, k = q + 1 := ⟨k - 1, by omega⟩
    by_cases hp : x > 0
    · have hd : Int.tdiv x 10 = x / 10 := Int.tdiv_eq_ediv_of_nonneg h0
      have hle : (10 : Nat) ^ (d + 1) ≤ 10 ^ 18 := Nat.pow_le_pow_right (by decide) h18
      have h18' : (10 : Nat) ^ 18 = 1000000000000000000 := by decide
      have hps : (10 : Nat) ^ (d + 1) = 10 * 10 ^ d := by rw [Nat.pow_succ]; omega
      have hw : wrap64 (Int.tdiv x 10) = x / 10 := by rw [hd, w64 (by omega) (by omega)]
      obtain ⟨r, e⟩ := ih k (x / 10) (strOfNums [(wrap64 (48 + (Int.tmod x 10))) % 256] ++ s) (by omega) (by omega) (by omega) (by rw [ByteArray.size_append, strOf_size]; simp only [List.length_cons, List.length_nil]; omega) (by omega)
      refine ⟨r, ?_⟩
      simp only [laws_markText.l0]
      rw [if_pos hp, hw]
      simp only [Option.bind_some]
      rw [if_pos (by rw [strOf_size]; simp only [List.length_cons, List.length_nil]; omega)]
      exact e
    · exact ⟨_, by simp only [laws_markText.l0]; rw [if_neg hp, if_pos (by omega)]⟩
/-- A mark is told, and is the same at all rounds. -/
theorem mark_some (x : Int) (hx : x ≤ 999999999999999999) : ∃ r, ∀ k, 20 ≤ k → laws_markText.f k x = some r := by
  have key : ∃ r, laws_markText.f 20 x = some r := by
    unfold laws_markText.f
    split
    · exact ⟨_, rfl⟩
    · have h18' : (10 : Nat) ^ 18 = 1000000000000000000 := by decide
      exact mark_loop 18 20 x ⟨#[]⟩ (by omega) (by omega) (by omega) (by show 0 + 18 ≤ 1000; omega) (by omega)
  obtain ⟨r, e⟩ := key
  exact ⟨r, fun k hk => at_rounds (fun k => laws_markText.mono x k) hk e⟩

theorem markCellS_loop (n : Nat) (hn : n ≤ 100000000) (d : Nat) : ∀ (k i : Nat) (l : List S47) (m : Int), l.length = n → i + d = n → 0 ≤ m → m + 3 * d ≤ 400000000 → d + 20 < k →
    ∃ r, laws_markCellS.l0 k l m (i : Int) = some r ∧ 0 ≤ r.1 := by
  induction d with
  | zero =>
    intro k i l m hl hi h0 h1 hk
    obtain ⟨k, rfl⟩ : ∃ z, k = z + 1 := ⟨k - 1, by omega⟩
    unfold laws_markCellS.l0
    rw [if_neg (by omega)]
    exact ⟨_, rfl, h0⟩
  | succ d ih =>
    intro k i l m hl hi h0 h1 hk
    obtain ⟨k, rfl⟩ : ∃ z, k = z + 1 := ⟨k - 1, by omega⟩
    obtain ⟨s, hs⟩ := mark_some (m + 1) (by omega)
    unfold laws_markCellS.l0
    rw [if_pos (by omega), if_pos (by omega), w64 (n := m + 1) (by omega) (by omega), w64 (n := m + 1 + 1) (by omega) (by omega), w64 (n := m + 1 + 1 + 1) (by omega) (by omega), w64 (n := (i : Int) + 1) (by omega) (by omega), show (i : Int) + 1 = ((i + 1 : Nat) : Int) by omega]
    simp only [ob]
    rw [hs k (by omega)]
    simp only [ob]
    exact ih k (i + 1) _ (m + 1 + 1 + 1) (by simp only [List.length_set]; exact hl) (by omega) (by omega) (by omega) (by omega)
theorem markMemory_some (kept : ByteArray) (l : List S47) (hl : l.length ≤ 100000000) (k : Nat) (hk : l.length + 20 < k) : ∃ r, laws_markMemory.f k kept l 1 = some r ∧ 0 ≤ r.1 := by
  obtain ⟨r, e, h⟩ := markCellS_loop l.length hl l.length k 0 l 1 rfl (by omega) (by omega) (by omega) hk
  rw [Int.natCast_zero] at e
  unfold laws_markMemory.f laws_markCellS.f
  rw [e, ob]
  exact ⟨_, rfl, h⟩

theorem rdSet_self (l : List S47) (i : Nat) (c : S47) (h : i < l.length) : rd_T47 (l.set i c) (i : Int) = c := by
  unfold rd_T47
  rw [List.getD_eq_getElem?_getD, Int.toNat_natCast, List.getElem?_set_self h]; rfl
theorem rdSet_ne (l : List S47) (i j : Nat) (c : S47) (h : i ≠ j) : rd_T47 (l.set i c) (j : Int) = rd_T47 l (j : Int) := by
  unfold rd_T47
  rw [List.getD_eq_getElem?_getD, List.getD_eq_getElem?_getD, Int.toNat_natCast, List.getElem?_set_ne h]
/-- A cell that bears the marks from m on. -/
def CellMark (m : Int) (c : S47) : Prop := c.f0 = m ∧ (∀ k, 20 ≤ k → laws_markText.f k (m + 1) = some c.f1) ∧ c.f2 = (Int.tmod (m + 1 + 1) 3 == 0)
theorem markC_loop (n : Nat) (hn : n ≤ 100000000) (d : Nat) : ∀ (k i : Nat) (l : List S47) (m : Int), l.length = n → i + d = n → 0 ≤ m → m + 3 * d ≤ 400000000 → d + 20 < k →
    ∃ ys, laws_markCellS.l0 k l m (i : Int) = some (m + 3 * d, ys) ∧ ys.length = n ∧ (∀ j, j < i → rd_T47 ys (j : Int) = rd_T47 l (j : Int)) ∧ ∀ j, i ≤ j → j < n → CellMark (m + 3 * ((j - i : Nat) : Int)) (rd_T47 ys (j : Int)) := by
  induction d with
  | zero =>
    intro k i l m hl hi h0 h1 hk
    obtain ⟨k, rfl⟩ : ∃ z, k = z + 1 := ⟨k - 1, by omega⟩
    unfold laws_markCellS.l0
    rw [if_neg (by omega)]
    exact ⟨l, by simp, hl, fun _ _ => rfl, fun j a b => by omega⟩
  | succ d ih =>
    intro k i l m hl hi h0 h1 hk
    obtain ⟨k, rfl⟩ : ∃ z, k = z + 1 := ⟨k - 1, by omega⟩
    obtain ⟨s, hs⟩ := mark_some (m + 1) (by omega)
    obtain ⟨ys, e, yl, yb, ya⟩ := ih k (i + 1) (l.set i ⟨m, s, Int.tmod (m + 1 + 1) 3 == 0⟩) (m + 1 + 1 + 1) (by simp [hl]) (by omega) (by omega) (by omega) (by omega)
    refine ⟨ys, ?_, yl, ?_, ?_⟩
    · unfold laws_markCellS.l0
      rw [if_pos (by omega), if_pos (by omega), w64 (n := m + 1) (by omega) (by omega), w64 (n := m + 1 + 1) (by omega) (by omega), w64 (n := m + 1 + 1 + 1) (by omega) (by omega), w64 (n := (i : Int) + 1) (by omega) (by omega), show (i : Int) + 1 = ((i + 1 : Nat) : Int) by omega]
      simp only [ob]
      rw [hs k (by omega)]
      simp only [ob, Int.toNat_natCast]
      rw [rdSet_self _ _ _ (by omega)]
      simp only [List.set_set]
      rw [rdSet_self _ _ _ (by omega)]
      rw [e]
      congr 2; omega
    · intro j hj
      rw [yb j (by omega), rdSet_ne _ _ _ _ (by omega)]
    · intro j a b
      by_cases hj : j = i
      · subst hj
        rw [yb j (by omega), rdSet_self _ _ _ (by omega)]
        rw [show m + 3 * ((j - j : Nat) : Int) = m by omega]
        exact ⟨rfl, hs, rfl⟩
      · have := ya j (by omega) b
        rw [show m + 3 * ((j - i : Nat) : Int) = m + 1 + 1 + 1 + 3 * ((j - (i + 1) : Nat) : Int) by omega]
        exact this
theorem heldC_loop (n : Nat) (ys : List S47) (hy : ys.length = n) (hn : n ≤ 100000000) (d : Nat) : ∀ (k i : Nat) (m : Int), i + d = n → 0 ≤ m → m + 3 * d ≤ 400000000 →
    (∀ j, i ≤ j → j < n → CellMark (m + 3 * ((j - i : Nat) : Int)) (rd_T47 ys (j : Int))) → d + 20 < k → laws_heldCellS.l0 k ys m (i : Int) = some (m + 3 * d) := by
  induction d with
  | zero =>
    intro k i m hi h0 hm _ hk
    obtain ⟨k, rfl⟩ : ∃ z, k = z + 1 := ⟨k - 1, by omega⟩
    unfold laws_heldCellS.l0
    rw [if_neg (by omega)]
    congr 1; omega
  | succ d ih =>
    intro k i m hi h0 hm ha hk
    obtain ⟨k, rfl⟩ : ∃ z, k = z + 1 := ⟨k - 1, by omega⟩
    obtain ⟨a0, a1, a2⟩ := ha i (by omega) (by omega)
    rw [show m + 3 * ((i - i : Nat) : Int) = m by omega] at a0 a1 a2
    have e := ih k (i + 1) (m + 1 + 1 + 1) (by omega) (by omega) (by omega) (fun j j1 j2 => by
      have := ha j (by omega) j2
      rw [show m + 1 + 1 + 1 + 3 * ((j - (i + 1) : Nat) : Int) = m + 3 * ((j - i : Nat) : Int) by omega]
      exact this) (by omega)
    unfold laws_heldCellS.l0
    rw [if_pos (by omega), if_pos (by omega), if_pos a0, w64 (n := m + 1) (by omega) (by omega), w64 (n := m + 1 + 1) (by omega) (by omega), w64 (n := m + 1 + 1 + 1) (by omega) (by omega), w64 (n := (i : Int) + 1) (by omega) (by omega), show (i : Int) + 1 = ((i + 1 : Nat) : Int) by omega, a1 k (by omega), ob, if_pos rfl, a2, if_neg (by simp), e]
    congr 1; omega
/-- What is marked is held. -/
theorem markHeld (kp : ByteArray) (cs : List S47) (hn : cs.length ≤ 100000000) (k : Nat) (hk : cs.length + 20 < k) :
    ∃ ys, laws_markMemory.f k kp cs 1 = some (1 + 3 * (cs.length : Int), ys) ∧ laws_heldMemory.f k kp ys 1 = some (1 + 3 * (cs.length : Int)) ∧ ys.length = cs.length := by
  obtain ⟨ys, e, yl, _, ya⟩ := markC_loop cs.length hn cs.length k 0 cs 1 rfl (by omega) (by omega) (by omega) hk
  have e2 := heldC_loop cs.length ys yl hn cs.length k 0 1 (by omega) (by omega) (by omega) (fun j h1 h2 => ya j h1 h2) hk
  rw [Int.natCast_zero] at e e2
  refine ⟨ys, ?_, ?_, yl⟩
  · unfold laws_markMemory.f laws_markCellS.f
    rw [e, ob]
  · unfold laws_heldMemory.f laws_heldCellS.f
    rw [e2, ob, if_neg (by omega)]

theorem rd47_at (l : List S47) (i : Nat) (h : i < l.length) : rd_T47 l (i : Int) = l[i]'h := by
  unfold rd_T47
  rw [List.getD_eq_getElem?_getD, Int.toNat_natCast, List.getElem?_eq_getElem h]
  rfl
theorem store_tail (kept : ByteArray) (l : List S47) (line : Int) (T : ByteArray) (d : Nat) : ∀ (k i : Nat) (acc : List S47), i + d = l.length → 2 * d < k → l.length ≤ 2000000 → (∀ j, i ≤ j → j < l.length → ln l j ≠ line) → acc.length + d ≤ 3000000 →
    spec_l10Store.l0 k line true (i : Int) kept l line T false kept acc = some (kept, acc ++ l.drop i) := by
  induction d with
  | zero =>
    intro k i acc hi hk hl hne ha
    obtain ⟨k, rfl⟩ : ∃ z, k = z + 1 := ⟨k - 1, by omega⟩
    rw [spec_l10Store.l0, if_neg (by omega), if_pos rfl, List.drop_of_length_le (by omega), List.append_nil]
  | succ d ih =>
    intro k i acc hi hk hl hne ha
    obtain ⟨k, rfl⟩ : ∃ z, k = z + 2 := ⟨k - 2, by omega⟩
    have h_ : i < l.length := by omega
    have hn : ¬ (rd_T47 l (i : Int)).f0 = line := hne i (Nat.le_refl _) h_
    have e := ih k (i + 1) (acc ++ [rd_T47 l (i : Int)]) (by omega) (by omega) hl (fun j h1 h2 => hne j (by omega) h2) (by rw [List.length_append, List.length_singleton]; omega)
    rw [spec_l10Store.l0, if_pos (by omega), if_pos rfl, spec_l10Store.j1, if_neg (by simp), if_pos (by omega), if_pos (by omega), if_neg hn, if_pos (by omega), w64 (n := (i : Int) + 1) (by omega) (by omega), show (i : Int) + 1 = ((i + 1 : Nat) : Int) by omega]
    refine e.trans ?_
    rw [rd47_at l i h_, List.append_assoc, List.drop_eq_getElem_cons h_]
    rfl
/-- The list with x at q, in place of what stood there or ahead of it. -/
def outL (l : List S47) (q : Nat) (fd : Bool) (x : S47) : List S47 := l.take q ++ x :: l.drop (if fd = true then q + 1 else q)
theorem store_head (kept : ByteArray) (l : List S47) (line : Int) (T : ByteArray) (q : Nat) (hq : q ≤ l.length) (hl : l.length ≤ 2000000) (f1 : ∀ z, z < q → ln l z < line) (f2 : ∀ z, q ≤ z → z < l.length → line ≤ ln l z) (hup : ∀ a b, a < b → b < l.length → ln l a < ln l b) (d : Nat) : ∀ (k i : Nat), i + d = q → 2 * (l.length - i) + 2 < k →
    spec_l10Store.l0 k line false (i : Int) kept l line T false kept (l.take i) = some (kept, outL l q (decide (q < l.length) && decide (ln l q = line)) ⟨line, T, false⟩) := by
  induction d with
  | zero =>
    intro k i hi hk
    obtain rfl : i = q := by omega
    obtain ⟨k, rfl⟩ : ∃ z, k = z + 2 := ⟨k - 2, by omega⟩
    have htl : (l.take i).length = i := by rw [List.length_take]; omega
    by_cases c : i < l.length
    · have g0 := f2 i (Nat.le_refl _) c
      have gd : decide ((rd_T47 l (i : Int)).f0 ≥ line) = true := decide_eq_true g0
      rw [spec_l10Store.l0, if_pos (by omega), if_neg (by simp), if_pos (by omega), gd, spec_l10Store.j1, if_pos rfl, if_pos (by omega), ob, if_pos (by omega), if_pos (by omega), w64 (n := (i : Int) + 1) (by omega) (by omega), show (i : Int) + 1 = ((i + 1 : Nat) : Int) by omega, decide_eq_true c, Bool.true_and]
      have hne : ∀ j, i + 1 ≤ j → j < l.length → ln l j ≠ line := fun j h1 h2 => by
        have := hup i j (by omega) h2
        omega
      by_cases c2 : (rd_T47 l (i : Int)).f0 = line
      · have c3 : ln l i = line := c2
        rw [if_pos c2, store_tail kept l line T (l.length - (i + 1)) k (i + 1) _ (by omega) (by omega) hl hne (by rw [List.length_append, List.length_singleton]; omega), decide_eq_true c3]
        unfold outL
        rw [if_pos rfl, List.append_assoc]
        rfl
      · have c3 : ¬ ln l i = line := c2
        rw [if_neg c2, if_pos (by rw [List.length_append, List.length_singleton]; omega), store_tail kept l line T (l.length - (i + 1)) k (i + 1) _ (by omega) (by omega) hl hne (by rw [List.length_append, List.length_append, List.length_singleton, List.length_singleton]; omega), decide_eq_false c3]
        unfold outL
        rw [if_neg (by simp), List.append_assoc, List.append_assoc, List.drop_eq_getElem_cons c, ← rd47_at l i c]
        rfl
    · rw [spec_l10Store.l0, if_neg (by omega), if_neg (by simp), if_pos (by omega), decide_eq_false c, Bool.false_and]
      unfold outL
      rw [if_neg (by simp), List.drop_of_length_le (by omega)]
  | succ d ih =>
    intro k i hi hk
    obtain ⟨k, rfl⟩ : ∃ z, k = z + 2 := ⟨k - 2, by omega⟩
    have h_ : i < l.length := by omega
    have g0 := f1 i (by omega)
    have gd : decide ((rd_T47 l (i : Int)).f0 ≥ line) = false := decide_eq_false (by have : ln l i = (rd_T47 l (i : Int)).f0 := rfl; omega)
    have gn : ¬ (rd_T47 l (i : Int)).f0 = line := by have : ln l i = (rd_T47 l (i : Int)).f0 := rfl; omega
    have htl : (l.take i).length = i := by rw [List.length_take]; omega
    have e := ih k (i + 1) (by omega) (by omega)
    rw [List.take_succ_eq_append_getElem h_, ← rd47_at l i h_] at e
    rw [spec_l10Store.l0, if_pos (by omega), if_neg (by simp), if_pos (by omega), gd, spec_l10Store.j1, if_neg (by simp), if_pos (by omega), if_pos (by omega), if_neg gn, if_pos (by omega), w64 (n := (i : Int) + 1) (by omega) (by omega), show (i : Int) + 1 = ((i + 1 : Nat) : Int) by omega]
    exact e
theorem outL_set (l : List S47) (q : Nat) (h : q < l.length) (x : S47) : outL l q true x = l.set q x := by
  unfold outL
  rw [if_pos rfl, List.set_eq_take_append_cons_drop, if_pos h]
theorem outL_ins (l : List S47) (q : Nat) (x : S47) : outL l q false x = insF l q x := by
  unfold outL insF
  rw [if_neg (by simp)]
theorem outL_len (l : List S47) (q : Nat) (hq : q ≤ l.length) (b : Bool) (x : S47) : (outL l q b x).length ≤ l.length + 1 := by
  unfold outL
  rw [List.length_append, List.length_cons, List.length_take, List.length_drop]
  split <;> omega
theorem wq2 (a : Int) (h0 : 0 ≤ a) (h1 : a ≤ 1000000000000) : wrap64 (Int.tdiv a 2) = a / 2 := by
  rw [Int.tdiv_eq_ediv_of_nonneg h0, w64 (by omega) (by omega)]
theorem wf2 (a : Int) (f : Nat) (h0 : 0 ≤ a) (hf : f = (a % 2 * 8).toNat) : wrap64 ((Int.tmod a 2) * 8) = (f : Int) := by
  rw [Int.tmod_eq_emod_of_nonneg h0, w64 (by omega) (by omega)]
  omega
theorem wf8 (f : Nat) (h : f ≤ 8) : wrap64 ((f : Int) + 8) = ((f + 8 : Nat) : Int) := by
  rw [w64 (by omega) (by omega)]
  omega
theorem ws8 (n : Nat) (h : n ≤ 1048576) : wrap64 ((n : Int) / 8) = (n : Int) / 8 := w64 (by omega) (by omega)
theorem ws81 (n : Nat) (h : n ≤ 1048576) : wrap64 ((n : Int) / 8 - 1) = (n : Int) / 8 - 1 := w64 (by omega) (by omega)
theorem store_both (kept : ByteArray) (l : List S47) (hl : l.length ≤ 1048576) (r : Right kept.size l) (hn : kept.size ≤ 16000) (h16 : (kept.size : Int) % 16 = 0) (a : Int) (word : ByteArray) (h0 : 0 ≤ a) (h1 : a ≤ (kept.size : Int) / 8 - 1) (h8 : word.size = 8) (k : Nat) (hk : 2 * l.length + 4 < k) :
    ∃ L : List S47, spec_l10Store.f k kept l a word = some (kept, L) ∧ storeF k kept l a word = some L ∧ L.length ≤ l.length + 1 := by
  obtain ⟨s, hs, es, ei⟩ := lines_same kept l (by omega) r hn (a / 2) (by omega) (by omega) k (by omega)
  obtain ⟨q, hq, f1, f2, ef⟩ := findCell kept l (by omega) (a / 2) r.up k (by omega)
  obtain ⟨f, hf⟩ : ∃ f : Nat, f = (a % 2 * 8).toNat := ⟨_, rfl⟩
  have hf8 : f ≤ 8 := by omega
  have z1 : (s.extract 0 f).size + word.size ≤ 9223372036854775807 := by rw [ByteArray.size_extract]; omega
  have z2 : (s.extract 0 f ++ word).size + (s.extract (f + 8) s.size).size ≤ 9223372036854775807 := by rw [ByteArray.size_append, ByteArray.size_extract, ByteArray.size_extract]; omega
  have p1 : (0 : Int) ≤ (f : Int) := by omega
  have p2 : (f : Int) ≤ (s.size : Int) := by omega
  have p3 : (0 : Int) ≤ ((f + 8 : Nat) : Int) := by omega
  have p4 : ((f + 8 : Nat) : Int) ≤ (s.size : Int) := by omega
  have pa : a ≤ 1000000000000 := by omega
  have pb : a ≤ 1099511627776 := by omega
  have pl : l.length ≤ 2000000 := by omega
  have hsp := store_head kept l (a / 2) ((s.extract 0 f ++ word) ++ s.extract (f + 8) s.size) q hq (by omega) f1 f2 r.up q k 0 (by omega) (by omega)
  rw [Int.natCast_zero, List.take_zero] at hsp
  refine ⟨outL l q (decide (q < l.length) && decide (ln l q = a / 2)) ⟨a / 2, (s.extract 0 f ++ word) ++ s.extract (f + 8) s.size, false⟩, ?_, ?_, outL_len l q hq _ _⟩
  · unfold spec_l10Store.f
    rw [wq2 a h0 pa, es, ob, wf2 a f h0 hf, if_pos p1, if_pos p2, Int.toNat_natCast, if_pos z1, wf8 f hf8, if_pos p3, if_pos p4, Int.toNat_natCast, if_pos z2]
    exact hsp
  · have hc : cellOf s a word = ⟨a / 2, (s.extract 0 f ++ word) ++ s.extract (f + 8) s.size, false⟩ := by
      unfold cellOf
      rw [← hf]
    unfold storeF
    rw [if_pos ⟨h0, pb, h8, pl⟩, ei, ob, ef, ob, if_pos hs, hc]
    by_cases c : q < l.length ∧ ln l q = a / 2
    · rw [decide_eq_true c.1, decide_eq_true c.2, if_pos (by rfl), if_pos ⟨by show (0 : Int) ≤ (q : Int); omega, by show (q : Int) < _; omega⟩]
      show some (l.set (q : Int).toNat _) = _
      rw [Int.toNat_natCast, Bool.and_self, outL_set l q c.1]
    · have hb : (decide (q < l.length) && decide (ln l q = a / 2)) = false := by
        rw [Bool.and_eq_false_iff]
        by_cases c1 : q < l.length
        · exact .inr (decide_eq_false (fun c2 => c ⟨c1, c2⟩))
        · exact .inl (decide_eq_false c1)
      rw [hb, if_neg (by simp), if_pos ⟨by show (0 : Int) ≤ (q : Int); omega, by show (q : Int) ≤ _; omega⟩]
      show some (insF l (q : Int).toNat _) = _
      rw [Int.toNat_natCast, outL_ins]
theorem store_same (kept : ByteArray) (l : List S47) (hl : l.length ≤ 1048576) (hn : kept.size ≤ 1048576) (a : Int) (word : ByteArray) (k : Nat) (hk : 2 * l.length + 10 < k) :
    ∃ r : ByteArray × List S47, spec_StoreWord.f k kept l a word = some r ∧ impl_StoreWord.f k kept l a word = some r ∧ r.2.length ≤ l.length + 1 := by
  have ec : spec_l10Copy.f kept l = some (kept, l) := by
    unfold spec_l10Copy.f
    rw [ob, if_pos (by simp only [List.length_nil]; omega), List.nil_append]
  have ei : impl_copyMemory.f kept l = some (kept, l) := by
    unfold impl_copyMemory.f impl_Cell_55.f
    rw [if_pos (by omega), ob]
  obtain ⟨b, hb⟩ : ∃ b, b = (keptB kept.size && cellsB kept.size l l.length 0) := ⟨_, rfl⟩
  have sm := specMem kept l (by omega) (by omega) k (by omega)
  have im := implMem kept l (by omega) (by omega) k (by omega)
  rw [← hb] at sm im
  have jt : ∀ k, 0 < k → spec_StoreWord.j0 k a word true kept l = some (kept, l) := by
    intro k hk
    obtain ⟨k, rfl⟩ : ∃ z, k = z + 1 := ⟨k - 1, by omega⟩
    rw [spec_StoreWord.j0, if_pos rfl, ec, ob]
  obtain ⟨c, hc⟩ : ∃ c : Bool, c = (decide (a ≥ 0) && decide (a ≤ (kept.size : Int) / 8 - 1)) := ⟨_, rfl⟩
  have sw : spec_l01In.f a 0 ((kept.size : Int) / 8 - 1) = some c := by
    unfold spec_l01In.f
    by_cases g : a ≥ 0
    · rw [if_pos g, hc, decide_eq_true g, Bool.true_and]
    · rw [if_neg g, hc, decide_eq_false g, Bool.false_and]
  have iw : impl_within.f a 0 ((kept.size : Int) / 8 - 1) = some c := by
    unfold impl_within.f
    by_cases g : a ≥ 0
    · rw [if_pos g, hc, decide_eq_true g, Bool.true_and]
    · rw [if_neg g, hc, decide_eq_false g, Bool.false_and]
  unfold spec_StoreWord.f impl_StoreWord.f impl_isWordOf.f spec_l10Words.f impl_Memory_words.f
  rw [sm, im, ei]; simp only [ob]
  rw [ws8 _ hn, ws81 _ hn, sw, iw]; simp only [ob]
  cases b with
  | false =>
    rw [if_neg (by simp), if_neg (by simp), jt k (by omega), ob, if_neg (by simp)]
    exact ⟨_, rfl, rfl, Nat.le_succ _⟩
  | true =>
    rw [if_pos rfl, if_pos rfl, ob]
    by_cases h8 : word.size = 8
    · rw [if_pos (by omega)]
      cases c with
      | false =>
        rw [Bool.not_false, jt k (by omega), if_neg (by simp)]
        exact ⟨_, rfl, rfl, Nat.le_succ _⟩
      | true =>
        rw [if_pos ⟨rfl, h8⟩, Bool.not_true]
        have hb2 := hb.symm
        rw [Bool.and_eq_true] at hb2
        obtain ⟨h16, h16k⟩ := kept_of _ hb2.1
        have hc2 := hc.symm
        rw [Bool.and_eq_true] at hc2
        obtain ⟨k, rfl⟩ : ∃ z, k = z + 1 := ⟨k - 1, by omega⟩
        obtain ⟨L, hL1, hL2, hL3⟩ := store_both kept l hl (right_of _ l hb2.2) h16k h16 a word (of_decide_eq_true hc2.1) (of_decide_eq_true hc2.2) h8 k (by omega)
        have hL2' := storeF_mono k kept l a word _ hL2
        rw [spec_StoreWord.j0, if_neg (by simp), hL1, ob]
        refine ⟨(kept, L), rfl, ?_, hL3⟩
        show (storeF (k + 1) kept l a word).bind _ = _
        rw [hL2', ob]
    · rw [if_neg (by omega), jt k (by omega), if_neg (fun e => h8 e.2)]
      exact ⟨_, rfl, rfl, Nat.le_succ _⟩
theorem FnExactStoreWord : laws_FnExactStoreWord.Pure := by
  intro kept l x word h0 h1 hw hx hword
  refine rounds_of (2 * l.length + 60) fun k hk => ?_
  obtain ⟨v, e, h⟩ := szMemory_some kept l h0 h1 hw k (by omega)
  unfold laws_FnExactStoreWord.f
  by_cases hbig : (word.size : Int) > 1048576
  · rw [if_pos hbig]
  rw [if_neg hbig]
  clear hbig
  rw [e]; simp only [ob]
  by_cases hv : v < 0
  · rw [if_pos hv]
  · rw [if_neg hv]
    rcases h with h | ⟨hs, hl, _⟩
    · exact absurd h hv
    have hl' : (l.map conv).length = l.length := List.length_map _
    obtain ⟨k', rfl⟩ : ∃ z, k = z + 1 := ⟨k - 1, by omega⟩
    have et := toMemory_some kept l hl (k' + 1) (by omega)
    have et' := toMemory_some kept l hl k' (by omega)
    obtain ⟨⟨kp, cs⟩, es, ei, hr⟩ := store_same kept (l.map conv) (by omega) hs x word (k' + 1) (by omega)
    obtain ⟨⟨kp2, cs2⟩, es2, ei2, hr2⟩ := store_same kept (l.map conv) (by omega) hs x word k' (by omega)
    obtain ⟨rfl, rfl⟩ : kp = kp2 ∧ cs = cs2 := by
      have := (impl_StoreWord.mono _ _ _ _ _ _ ei2).symm.trans ei
      simpa [eq_comm] using this
    dsimp only at hr
    obtain ⟨r, em, hr3⟩ := markMemory_some kept (l.map conv) (by omega) (k' + 1) (by omega)
    obtain ⟨cs3, ek, eh, _⟩ := markHeld kp cs (by omega) k' (by omega)
    rw [et]; simp only [ob]
    rw [es]; simp only [ob]
    rw [ei]; simp only [ob]
    rw [eqMemory_self kp cs (by omega) _ (by omega)]; simp only [ob, if_true]
    rw [eqMemory_self kept (l.map conv) (by omega) _ (by omega)]; simp only [ob, if_true]
    rw [em]; simp only [ob]
    rw [if_neg (by omega)]
    unfold laws_FnExactStoreWord.j0
    simp only [Bool.not_true, Bool.false_eq_true, if_false]
    rw [ek]; simp only [ob]
    rw [eh]; simp only [ob]
    rw [if_neg (by omega), if_pos trivial, et']; simp only [ob]
    rw [ei2]; simp only [ob]
    rw [eqMemory_self kp cs (by omega) _ (by omega)]; simp only [ob, if_true]
    rw [if_neg (by omega)]
end Go.Proofs.Ytcfdabmeejfcoaa.Pure
