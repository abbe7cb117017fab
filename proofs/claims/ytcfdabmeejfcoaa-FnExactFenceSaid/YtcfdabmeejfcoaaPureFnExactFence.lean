/- The law FnExactFence answers true: spec.Fence and impl.Fence give the same memory; the argument is unchanged and shares nothing with the result; no condition. -/
import Derived.Test.YtcfdabmeejfcoaaMFnExactFencex8
namespace Go.Proofs.Ytcfdabmeejfcoaa.Pure
open Go.RowKit Go.Proofs.Ytcfdabmeejfcoaa.PFnExactFence Go.Proofs.YtcfdabmeejfcoaaW.PrintWords Go.Proofs.YtcfdabmeejfcoaaW.PrintLast Go.Proofs.YtcfdabmeejfcoaaW.PrintMore
set_option linter.unusedVariables false
set_option linter.unusedSimpArgs false

theorem w64 {n : Int} (h0 : -9223372036854775808 ≤ n) (h1 : n ≤ 9223372036854775807) : wrap64 n = n := by
  unfold wrap64; omega
theorem bits_nat3 (k : IntKind) (j : Nat) (hj : j ≤ k.bits) (hk : ∀ n : Int, 0 ≤ n → n < 2 ^ j → k.wrap n = n) (a b : Nat) (ha : a < 2 ^ j) (hb : b < 2 ^ j) :
    Go.bits .and k a b = ((a &&& b : Nat) : Int) ∧ Go.bits .or k a b = ((a ||| b : Nat) : Int) ∧ Go.bits .xor k a b = ((a ^^^ b : Nat) : Int) := by
  have hp : 2 ^ j ≤ 2 ^ k.bits := Nat.pow_le_pow_right (by decide) hj
  have ha' : a % 2 ^ k.bits = a := Nat.mod_eq_of_lt (Nat.lt_of_lt_of_le ha hp)
  have hb' : b % 2 ^ k.bits = b := Nat.mod_eq_of_lt (Nat.lt_of_lt_of_le hb hp)
  have cast : ∀ n : Nat, n < 2 ^ j → ((n : Nat) : Int) < 2 ^ j := fun n h => by exact_mod_cast h
  refine ⟨?_, ?_, ?_⟩
  · simp only [Go.bits, BitVec.ofInt_natCast, BitVec.toNat_and, BitVec.toNat_ofNat, ha', hb']
    exact hk _ (Int.natCast_nonneg _) (cast _ (Nat.and_lt_two_pow _ hb))
  · simp only [Go.bits, BitVec.ofInt_natCast, BitVec.toNat_or, BitVec.toNat_ofNat, ha', hb']
    exact hk _ (Int.natCast_nonneg _) (cast _ (Nat.or_lt_two_pow ha hb))
  · simp only [Go.bits, BitVec.ofInt_natCast, BitVec.toNat_xor, BitVec.toNat_ofNat, ha', hb']
    exact hk _ (Int.natCast_nonneg _) (cast _ (Nat.xor_lt_two_pow ha hb))
theorem wr_i64 (n : Int) (h0 : 0 ≤ n) (h1 : n < 2 ^ 62) : IntKind.i64.wrap n = n := by rw [IntKind.wrap_i64]; omega
theorem wr_u64 (n : Int) (h0 : 0 ≤ n) (h1 : n < 2 ^ 64) : IntKind.u64.wrap n = n := by
  simp [IntKind.wrap, IntKind.bits, IntKind.signed]; omega
theorem or_i64 (a b : Nat) (ha : a < 2 ^ 62) (hb : b < 2 ^ 62) : Go.bits .or .i64 a b = ((a ||| b : Nat) : Int) := (bits_nat3 .i64 62 (by decide) wr_i64 a b ha hb).2.1
theorem xor_i64 (a b : Nat) (ha : a < 2 ^ 62) (hb : b < 2 ^ 62) : Go.bits .xor .i64 a b = ((a ^^^ b : Nat) : Int) := (bits_nat3 .i64 62 (by decide) wr_i64 a b ha hb).2.2
theorem and_i64 (a b : Nat) (ha : a < 2 ^ 62) (hb : b < 2 ^ 62) : Go.bits .and .i64 a b = ((a &&& b : Nat) : Int) := (bits_nat3 .i64 62 (by decide) wr_i64 a b ha hb).1
theorem xor_u8 (a b : Nat) (ha : a < 2 ^ 8) (hb : b < 2 ^ 8) : Go.bits .xor .u8 a b = ((a ^^^ b : Nat) : Int) := (bits_nat3 .u8 8 (by decide) wraps_u8 a b ha hb).2.2
/-- Byte i of s as a natural number. -/
def bn (s : ByteArray) (i : Nat) : Nat := (s.data.toList.getD i 0).toNat
theorem bn_lt (s : ByteArray) (i : Nat) : bn s i < 256 := (s.data.toList.getD i 0).toNat_lt
theorem bt_bn (s : ByteArray) (i : Nat) : bt s (i : Int) = (bn s i : Int) := by
  unfold bt bn
  split
  · rename_i h
    have h' : i < s.data.toList.length := by rw [data_length]; simpa using h
    rw [List.getD_eq_getElem?_getD, List.getElem?_eq_getElem h']; rfl
  · rename_i h
    have h' : s.data.toList.length ≤ i := by rw [data_length]; simpa using h
    rw [List.getD_eq_getElem?_getD, List.getElem?_eq_none h']; rfl
theorem bt_bn' (s : ByteArray) (i : Int) (h : 0 ≤ i) : bt s i = (bn s i.toNat : Int) := by
  obtain ⟨n, rfl⟩ := Int.eq_ofNat_of_zero_le h
  exact bt_bn s n
theorem toList_eq' (s : ByteArray) : s.toList = s.data.toList := ByteArray.toList_eq s
/-- Two strings of one length are one where their bytes are. -/
theorem bytes_ext {s t : ByteArray} (hl : s.size = t.size) (h : ∀ i, i < s.size → bn s i = bn t i) : s.data.toList = t.data.toList := by
  apply List.ext_getElem (by rw [data_length, data_length, hl])
  intro i h1 h2
  have := h i (by rw [← data_length]; exact h1)
  unfold bn at this
  rw [List.getD_eq_getElem?_getD, List.getD_eq_getElem?_getD, List.getElem?_eq_getElem h1, List.getElem?_eq_getElem h2] at this
  exact UInt8.toNat_inj.1 this
theorem strOf_data (xs : List Int) : (strOfNums xs).data.toList = xs.map fun n => UInt8.ofNat n.toNat := by simp [strOfNums]
theorem strOf_toList (xs : List Int) : (strOfNums xs).toList = xs.map fun n => UInt8.ofNat n.toNat := by rw [toList_eq', strOf_data]
theorem strOf_size (xs : List Int) : (strOfNums xs).size = xs.length := by rw [← data_length, strOf_data, List.length_map]
/-- A list of n numbers written cell by cell is the list of what was written. -/
theorem tab_set (f : Nat → Int) (n i : Nat) (rest : List Int) (h : i < n) (hr : rest.length = n - i) :
    (((List.range i).map f) ++ rest).set i (f i) = ((List.range (i + 1)).map f) ++ rest.tail := by
  cases rest with
  | nil => simp at hr; omega
  | cons a rest =>
    rw [List.set_append_right _ _ (by simp)]
    simp [List.range_succ]
theorem xor_zero_iff {a b : Nat} : a ^^^ b = 0 ↔ a = b := by
  constructor
  · intro h
    have := congrArg (· ^^^ b) h
    simpa [Nat.xor_assoc] using this
  · rintro rfl; exact Nat.xor_self a
theorem rounds_of {P : Nat → Prop} (n : Nat) (h : ∀ k, n ≤ k → P k) : ∃ k, P k := ⟨n, h n (Nat.le_refl n)⟩
/-- As Option.bind_some, but not by reduction: the kernel is not led into what follows. -/
theorem ob {α β : Type} (a : α) (f : α → Option β) : (some a).bind f = f a := by
  cases h : f a with
  | none => rw [Option.bind_some, h]
  | some b => rw [Option.bind_some, h]

/-- A cell as the program's own type. -/
def conv (x : S59) : S47 := ⟨x.f0, x.f1, x.f2⟩
theorem tab_setG {α : Type} (f : Nat → α) (n i : Nat) (rest : List α) (h : i < n) (hr : rest.length = n - i) :
    (((List.range i).map f) ++ rest).set i (f i) = ((List.range (i + 1)).map f) ++ rest.tail := by
  cases rest with
  | nil => simp at hr; omega
  | cons a rest =>
    rw [List.set_append_right _ _ (by simp)]
    simp [List.range_succ]
theorem rd59_mem (l : List S59) (i : Nat) (h : i < l.length) : rd_T59 l (i : Int) ∈ l := by
  unfold rd_T59
  rw [List.getD_eq_getElem?_getD, Int.toNat_natCast, List.getElem?_eq_getElem h]
  exact List.getElem_mem h
theorem conv_rd (l : List S59) (i : Nat) (h : i < l.length) : rd_T47 (l.map conv) (i : Int) = conv (rd_T59 l (i : Int)) := by
  unfold rd_T47 rd_T59
  rw [List.getD_eq_getElem?_getD, List.getD_eq_getElem?_getD, Int.toNat_natCast, List.getElem?_map, List.getElem?_eq_getElem h]
  rfl
theorem range_conv (l : List S59) : (List.range l.length).map (fun j : Nat => conv (rd_T59 l (j : Int))) = l.map conv := by
  apply List.ext_getElem (by simp)
  intro i h1 h2
  simp only [List.length_map, List.length_range] at h1
  simp only [List.getElem_map, List.getElem_range]
  unfold rd_T59
  rw [List.getD_eq_getElem?_getD, Int.toNat_natCast, List.getElem?_eq_getElem h1]
  rfl
def Wf (l : List S59) : Prop := ∀ x ∈ l, ((Lit.int .i64 x.f0).wf = true ∧ x.f1.size ≤ 9223372036854775807)
theorem szCellS_loop (l : List S59) (hw : Wf l) (hl : l.length ≤ 1048576) (d : Nat) : ∀ (k i : Nat) (x : Int), i + d = l.length → d < k → 0 ≤ x → x ≤ 1048576 →
    ∃ v, laws_szCellS.l0 k l x (i : Int) = some v ∧ (v < 0 ∨ v ≤ 1048576 ∧ ∀ j, i ≤ j → j < l.length → (rd_T59 l (j : Int)).f1.size ≤ 1048576) := by
  induction d with
  | zero =>
    intro k i x hi hk h0 h1
    obtain ⟨k, rfl⟩ : ∃ z, k = z + 1 := ⟨k - 1, by omega⟩
    unfold laws_szCellS.l0
    rw [if_neg (by omega)]
    exact ⟨x, rfl, .inr ⟨h1, fun j a b => by omega⟩⟩
  | succ d ih =>
    intro k i x hi hk h0 h1
    obtain ⟨k, rfl⟩ : ∃ z, k = z + 1 := ⟨k - 1, by omega⟩
    have hs := (hw _ (rd59_mem l i (by omega))).2
    unfold laws_szCellS.l0 laws_szCell.f
    rw [if_pos (by omega), if_pos (by omega), w64 (n := x - ((rd_T59 l (i : Int)).f1.size : Int)) (by omega) (by omega)]
    by_cases hx : x - ((rd_T59 l (i : Int)).f1.size : Int) < 0
    · rw [if_pos hx, ob, if_pos (by omega)]
      exact ⟨_, rfl, .inl (by omega)⟩
    · rw [if_neg hx, ob, if_neg hx, w64 (n := (i : Int) + 1) (by omega) (by omega), show (i : Int) + 1 = ((i + 1 : Nat) : Int) by omega]
      obtain ⟨v, e, h⟩ := ih k (i + 1) _ (by omega) (by omega) (by omega) (show x - ((rd_T59 l (i : Int)).f1.size : Int) ≤ 1048576 by omega)
      refine ⟨v, e, ?_⟩
      rcases h with h | ⟨h2, h⟩
      · exact .inl h
      · refine .inr ⟨h2, fun j a b => ?_⟩
        by_cases hj : j = i
        · subst hj; omega
        · exact h j (by omega) b
theorem szMemory_some (kept : ByteArray) (l : List S59) (hk0 : kept.size ≤ 9223372036854775807) (hl : l.length ≤ 9223372036854775807) (hw : Wf l) (k : Nat) (hk : l.length < k) :
    ∃ v, laws_szMemory.f k kept l 1048576 = some v ∧ (v < 0 ∨ kept.size ≤ 1048576 ∧ l.length ≤ 1048576 ∧ ∀ j, j < l.length → (rd_T59 l (j : Int)).f1.size ≤ 1048576) := by
  unfold laws_szMemory.f laws_szCellS.f
  rw [w64 (n := 1048576 - (kept.size : Int)) (by omega) (by omega)]
  by_cases h1 : 1048576 - (kept.size : Int) < 0
  · rw [if_pos h1]; exact ⟨_, rfl, .inl (by omega)⟩
  · rw [if_neg h1, w64 (n := 1048576 - (kept.size : Int) - (l.length : Int)) (by omega) (by omega)]
    by_cases h2 : 1048576 - (kept.size : Int) - (l.length : Int) < 0
    · rw [if_pos h2, ob, if_pos (by omega)]; exact ⟨_, rfl, .inl (by omega)⟩
    · rw [if_neg h2]
      obtain ⟨v, e, h⟩ := szCellS_loop l hw (by omega) l.length k 0 (1048576 - (kept.size : Int) - (l.length : Int)) (by omega) hk (by omega) (by omega)
      rw [Int.natCast_zero] at e
      rw [e, ob]
      rcases h with h | ⟨_, h⟩
      · rw [if_pos h]; exact ⟨_, rfl, .inl (by omega)⟩
      · split
        · exact ⟨_, rfl, .inl (by omega)⟩
        · exact ⟨_, rfl, .inr ⟨by omega, by omega, fun j hj => h j (by omega) hj⟩⟩
theorem toCellS_loop (l : List S59) (hl : l.length ≤ 1048576) (d : Nat) : ∀ (k i : Nat) (rest : List S47), i + d = l.length → rest.length = d → d < k →
    laws_toCellS.l0 k l ((List.range i).map (fun j : Nat => conv (rd_T59 l (j : Int))) ++ rest) (i : Int) = some (l.map conv) := by
  induction d with
  | zero =>
    intro k i rest hi hr hk
    obtain ⟨k, rfl⟩ : ∃ z, k = z + 1 := ⟨k - 1, by omega⟩
    obtain rfl : rest = [] := List.length_eq_zero_iff.1 hr
    obtain rfl : i = l.length := by omega
    unfold laws_toCellS.l0
    rw [if_neg (by omega), List.append_nil, range_conv]
  | succ d ih =>
    intro k i rest hi hr hk
    obtain ⟨k, rfl⟩ : ∃ z, k = z + 1 := ⟨k - 1, by omega⟩
    have hlen : ((List.range i).map (fun j : Nat => conv (rd_T59 l (j : Int))) ++ rest).length = l.length := by
      rw [List.length_append, List.length_map, List.length_range, hr]; exact hi
    unfold laws_toCellS.l0 laws_toCell.f
    rw [if_pos (by omega), if_pos (by omega), ob, if_pos (by rw [hlen]; omega), w64 (n := (i : Int) + 1) (by omega) (by omega), show (i : Int) + 1 = ((i + 1 : Nat) : Int) by omega, Int.toNat_natCast]
    have ht := tab_setG (fun j : Nat => conv (rd_T59 l (j : Int))) l.length i rest (by omega) (by omega)
    have e := ih k (i + 1) rest.tail (by omega) (by rw [List.length_tail]; omega) (by omega)
    rw [← ht] at e
    exact e
theorem toCellS_some (l : List S59) (hl : l.length ≤ 1048576) (k : Nat) (hk : l.length < k) : laws_toCellS.f k l = some (l.map conv) := by
  unfold laws_toCellS.f
  rw [if_pos (by omega), if_pos (by omega), Int.toNat_natCast]
  have e := toCellS_loop l hl l.length k 0 (List.replicate l.length z47) (by omega) (by simp) hk
  rw [Int.natCast_zero, List.range_zero, List.map_nil, List.nil_append] at e
  exact e
theorem toMemory_some (kept : ByteArray) (l : List S59) (hl : l.length ≤ 1048576) (k : Nat) (hk : l.length < k) : laws_toMemory.f k kept l = some (kept, l.map conv) := by
  unfold laws_toMemory.f
  rw [toCellS_some l hl k hk, ob]
theorem eqCell_self (a : Int) (s : ByteArray) (b : Bool) : laws_eqCell.f a s b a s b = some true := by
  unfold laws_eqCell.f
  rw [if_pos rfl, if_pos rfl, if_neg (by simp)]
theorem eqCellS_loop (l : List S47) (hl : l.length ≤ 1048577) (d : Nat) : ∀ (k i : Nat), i + d = l.length → d < k → laws_eqCellS.l0 k l l (i : Int) = some true := by
  induction d with
  | zero =>
    intro k i hi hk
    obtain ⟨k, rfl⟩ : ∃ z, k = z + 1 := ⟨k - 1, by omega⟩
    unfold laws_eqCellS.l0
    rw [if_neg (by omega)]
  | succ d ih =>
    intro k i hi hk
    obtain ⟨k, rfl⟩ : ∃ z, k = z + 1 := ⟨k - 1, by omega⟩
    unfold laws_eqCellS.l0
    rw [if_pos (by omega), if_pos (by omega), if_pos (by omega), eqCell_self, ob, if_pos rfl, w64 (n := (i : Int) + 1) (by omega) (by omega), show (i : Int) + 1 = ((i + 1 : Nat) : Int) by omega]
    exact ih k (i + 1) (by omega) (by omega)
theorem eqCellS_self (l : List S47) (hl : l.length ≤ 1048577) (k : Nat) (hk : l.length < k) : laws_eqCellS.f k l l = some true := by
  unfold laws_eqCellS.f
  rw [if_pos rfl]
  have := eqCellS_loop l hl l.length k 0 (by omega) hk
  rw [Int.natCast_zero] at this
  exact this
theorem eqMemory_self (kept : ByteArray) (l : List S47) (hl : l.length ≤ 1048577) (k : Nat) (hk : l.length < k) : laws_eqMemory.f k kept l kept l = some true := by
  unfold laws_eqMemory.f
  rw [if_pos rfl, eqCellS_self l hl k hk, ob, if_pos rfl]

/-- What a right memory's cell i is. -/
def cellB (n : Nat) (l : List S47) (i : Nat) : Bool :=
  decide (0 ≤ (rd_T47 l (i : Int)).f0) && decide ((rd_T47 l (i : Int)).f0 ≤ (n : Int) / 16 - 1) && decide ((rd_T47 l (i : Int)).f1.size = 16) && (decide (i = 0) || decide ((rd_T47 l ((i : Int) - 1)).f0 < (rd_T47 l (i : Int)).f0))
def cellsB (n : Nat) (l : List S47) : Nat → Nat → Bool
  | 0, _ => true
  | d + 1, i => cellB n l i && cellsB n l d (i + 1)
def keptB (n : Nat) : Bool := decide ((n : Int) % 16 = 0) && decide ((n : Int) ≤ 16000)
theorem size16 (n : Nat) (h : n ≤ 9223372036854775807) : wrap64 (wrap64 ((n : Int) / 16) - 1) = (n : Int) / 16 - 1 := by
  rw [w64 (n := (n : Int) / 16) (by omega) (by omega), w64 (by omega) (by omega)]
theorem specMem_loop (kept : ByteArray) (l : List S47) (hl : l.length ≤ 1048577) (hn : kept.size ≤ 9223372036854775807) (d : Nat) : ∀ (k i : Nat), i + d = l.length → d < k → spec_MemoryOk.l0 k (i : Int) kept l = some (cellsB kept.size l d i) := by
  induction d with
  | zero =>
    intro k i hi hk
    obtain ⟨k, rfl⟩ : ∃ z, k = z + 1 := ⟨k - 1, by omega⟩
    unfold spec_MemoryOk.l0
    rw [if_neg (by omega)]; rfl
  | succ d ih =>
    intro k i hi hk
    obtain ⟨k, rfl⟩ : ∃ z, k = z + 1 := ⟨k - 1, by omega⟩
    have e := ih k (i + 1) (by omega) (by omega)
    unfold spec_MemoryOk.l0 spec_l10Size.f spec_l01In.f
    simp only [ob]
    rw [if_pos (by omega), if_pos (by omega), if_neg (by decide), size16 _ hn]
    simp only [cellsB, cellB]
    by_cases h0 : (rd_T47 l (i : Int)).f0 ≥ 0
    · rw [if_pos h0]; simp only [ob]
      by_cases h1 : (rd_T47 l (i : Int)).f0 ≤ (kept.size : Int) / 16 - 1
      · rw [if_pos (decide_eq_true h1)]
        by_cases h2 : (rd_T47 l (i : Int)).f1.size = 16
        · rw [if_pos (by omega)]
          by_cases h3 : i = 0
          · rw [if_neg (by omega), w64 (n := (i : Int) + 1) (by omega) (by omega), show (i : Int) + 1 = ((i + 1 : Nat) : Int) by omega, e]
            rw [decide_eq_true (show 0 ≤ (rd_T47 l (i : Int)).f0 from h0), decide_eq_true h1, decide_eq_true h2, decide_eq_true h3]; rfl
          · rw [if_pos (by omega), w64 (n := (i : Int) - 1) (by omega) (by omega), if_pos (by omega), if_pos (by omega)]
            by_cases h4 : (rd_T47 l ((i : Int) - 1)).f0 ≥ (rd_T47 l (i : Int)).f0
            · rw [if_pos h4, decide_eq_false h3, decide_eq_false (show ¬ (rd_T47 l ((i : Int) - 1)).f0 < (rd_T47 l (i : Int)).f0 by omega)]; simp
            · rw [if_neg h4, w64 (n := (i : Int) + 1) (by omega) (by omega), show (i : Int) + 1 = ((i + 1 : Nat) : Int) by omega, e]
              rw [decide_eq_true (show 0 ≤ (rd_T47 l (i : Int)).f0 from h0), decide_eq_true h1, decide_eq_true h2, decide_eq_true (show (rd_T47 l ((i : Int) - 1)).f0 < (rd_T47 l (i : Int)).f0 by omega)]; simp
        · rw [if_neg (by omega), decide_eq_false h2]; simp
      · rw [if_neg (by simpa using h1), decide_eq_false h1]; simp
    · rw [if_neg h0]; simp only [ob]
      rw [if_neg (by simp), decide_eq_false (show ¬ 0 ≤ (rd_T47 l (i : Int)).f0 by omega)]; simp
theorem specMem (kept : ByteArray) (l : List S47) (hl : l.length ≤ 1048577) (hn : kept.size ≤ 9223372036854775807) (k : Nat) (hk : l.length + 1 < k) : spec_MemoryOk.f k kept l = some (keptB kept.size && cellsB kept.size l l.length 0) := by
  obtain ⟨k, rfl⟩ : ∃ z, k = z + 1 := ⟨k - 1, by omega⟩
  have e := specMem_loop kept l hl hn l.length k 0 (by omega) (by omega)
  rw [Int.natCast_zero] at e
  unfold spec_MemoryOk.f spec_l10Size.f keptB
  simp only [ob]
  rw [if_neg (by decide), Int.tmod_eq_emod_of_nonneg (by omega)]
  by_cases h : (kept.size : Int) % 16 = 0
  · rw [if_pos h]
    simp only [spec_MemoryOk.j0]
    rw [show wrap64 (1000 * 16) = 16000 from w64 (n := 1000 * 16) (by decide) (by decide)]
    by_cases h2 : (kept.size : Int) > 16000
    · rw [if_pos (decide_eq_true h2), decide_eq_false (show ¬ (kept.size : Int) ≤ 16000 by omega)]; simp
    · rw [if_neg (by simpa using h2), e, decide_eq_true h, decide_eq_true (show (kept.size : Int) ≤ 16000 by omega)]; simp
  · rw [if_neg h]
    simp only [spec_MemoryOk.j0]
    rw [if_pos trivial, decide_eq_false h]; simp
theorem implMem_loop (kept : ByteArray) (l : List S47) (hl : l.length ≤ 1048577) (hn : kept.size ≤ 9223372036854775807) (d : Nat) : ∀ (k i : Nat), i + d = l.length → d < k → impl_MemoryOk.l0 k l (l.length : Int) (i : Int) kept l = some (keptB kept.size && cellsB kept.size l d i) := by
  induction d with
  | zero =>
    intro k i hi hk
    obtain ⟨k, rfl⟩ : ∃ z, k = z + 1 := ⟨k - 1, by omega⟩
    unfold impl_MemoryOk.l0 keptB
    rw [if_neg (by omega)]
    by_cases h : (kept.size : Int) % 16 = 0
    · rw [if_pos h, decide_eq_true h]; simp [cellsB]
    · rw [if_neg h, decide_eq_false h]; simp
  | succ d ih =>
    intro k i hi hk
    obtain ⟨k, rfl⟩ : ∃ z, k = z + 1 := ⟨k - 1, by omega⟩
    have e := ih k (i + 1) (by omega) (by omega)
    unfold impl_MemoryOk.l0 impl_within.f
    rw [if_pos (by omega), if_pos (by omega), if_pos (by omega), size16 _ hn]
    simp only [cellsB, cellB]
    by_cases h0 : (rd_T47 l (i : Int)).f0 ≥ 0
    · rw [if_pos h0]; simp only [ob]
      by_cases h1 : (rd_T47 l (i : Int)).f0 ≤ (kept.size : Int) / 16 - 1
      · rw [if_pos (decide_eq_true h1)]
        by_cases h2 : (rd_T47 l (i : Int)).f1.size = 16
        · rw [if_pos (by omega)]
          by_cases h3 : i = 0
          · rw [if_neg (by omega), w64 (n := (i : Int) + 1) (by omega) (by omega), show (i : Int) + 1 = ((i + 1 : Nat) : Int) by omega, e]
            rw [decide_eq_true (show 0 ≤ (rd_T47 l (i : Int)).f0 from h0), decide_eq_true h1, decide_eq_true h2, decide_eq_true h3]; simp
          · rw [if_pos (by omega), w64 (n := (i : Int) - 1) (by omega) (by omega), if_pos (by omega), if_pos (by omega)]
            by_cases h4 : (rd_T47 l (i : Int)).f0 ≤ (rd_T47 l ((i : Int) - 1)).f0
            · rw [if_pos h4, decide_eq_false h3, decide_eq_false (show ¬ (rd_T47 l ((i : Int) - 1)).f0 < (rd_T47 l (i : Int)).f0 by omega)]; simp
            · rw [if_neg h4, w64 (n := (i : Int) + 1) (by omega) (by omega), show (i : Int) + 1 = ((i + 1 : Nat) : Int) by omega, e]
              rw [decide_eq_true (show 0 ≤ (rd_T47 l (i : Int)).f0 from h0), decide_eq_true h1, decide_eq_true h2, decide_eq_true (show (rd_T47 l ((i : Int) - 1)).f0 < (rd_T47 l (i : Int)).f0 by omega)]; simp
        · rw [if_neg (by omega), decide_eq_false h2]; simp
      · rw [if_neg (by simpa using h1), decide_eq_false h1]; simp
    · rw [if_neg h0]; simp only [ob]
      rw [if_neg (by simp), decide_eq_false (show ¬ 0 ≤ (rd_T47 l (i : Int)).f0 by omega)]; simp
theorem implMem (kept : ByteArray) (l : List S47) (hl : l.length ≤ 1048577) (hn : kept.size ≤ 9223372036854775807) (k : Nat) (hk : l.length + 1 < k) : impl_MemoryOk.f k kept l = some (keptB kept.size && cellsB kept.size l l.length 0) := by
  have e := implMem_loop kept l hl hn l.length k 0 (by omega) (by omega)
  rw [Int.natCast_zero] at e
  exact e

/-- The line of cell j. -/
def ln (l : List S47) (j : Nat) : Int := (rd_T47 l (j : Int)).f0
theorem cells_all (n : Nat) (l : List S47) (d : Nat) : ∀ i, cellsB n l d i = true → ∀ j, i ≤ j → j < i + d → cellB n l j = true := by
  induction d with
  | zero => intro i _ j a b; omega
  | succ d ih =>
    intro i h j a b
    simp only [cellsB, Bool.and_eq_true] at h
    by_cases e : j = i
    · subst e; exact h.1
    · exact ih (i + 1) h.2 j (by omega) (by omega)
/-- A right memory's cells: each is one line's, in order. -/
structure Right (n : Nat) (l : List S47) : Prop where
  lo : ∀ j, j < l.length → 0 ≤ ln l j
  hi : ∀ j, j < l.length → ln l j ≤ (n : Int) / 16 - 1
  sz : ∀ j, j < l.length → (rd_T47 l (j : Int)).f1.size = 16
  up : ∀ a b, a < b → b < l.length → ln l a < ln l b
theorem right_of (n : Nat) (l : List S47) (h : cellsB n l l.length 0 = true) : Right n l := by
  have key : ∀ j, j < l.length → 0 ≤ ln l j ∧ ln l j ≤ (n : Int) / 16 - 1 ∧ (rd_T47 l (j : Int)).f1.size = 16 ∧ (j = 0 ∨ ln l (j - 1) < ln l j) := by
    intro j hj
    have := cells_all n l l.length 0 h j (by omega) (by omega)
    unfold cellB at this
    simp only [Bool.and_eq_true, Bool.or_eq_true, decide_eq_true_eq] at this
    obtain ⟨⟨⟨h1, h2⟩, h3⟩, h4⟩ := this
    refine ⟨h1, h2, h3, ?_⟩
    rcases h4 with h4 | h4
    · exact .inl h4
    · by_cases e : j = 0
      · exact .inl e
      · right
        unfold ln
        rw [show ((j - 1 : Nat) : Int) = (j : Int) - 1 by omega]
        exact h4
  refine ⟨fun j hj => (key j hj).1, fun j hj => (key j hj).2.1, fun j hj => (key j hj).2.2.1, ?_⟩
  intro a b hab hb
  induction b with
  | zero => omega
  | succ b ih =>
    have h1 := (key (b + 1) hb).2.2.2
    rw [Nat.add_sub_cancel] at h1
    have h2 : ln l b < ln l (b + 1) := by
      rcases h1 with h1 | h1
      · omega
      · exact h1
    by_cases e : a = b
    · subst e; exact h2
    · have := ih (by omega) (by omega); omega

theorem mark_loop (d : Nat) : ∀ (k : Nat) (x : Int) (s : ByteArray), 0 ≤ x → x.toNat < 10 ^ d → d ≤ 18 → s.size + d ≤ 1000 → d < k → ∃ r, laws_markText.l0 k x s = some r := by
  induction d with
  | zero =>
    intro k x s h0 hx _ hs hk
    obtain ⟨k, rfl⟩ : ∃ q, k = q + 1 := ⟨k - 1, by omega⟩
    have : x = 0 := by simp at hx; omega
    subst this
    exact ⟨_, by simp only [laws_markText.l0]; rw [if_neg (by omega), if_pos (by omega)]⟩
  | succ d ih =>
    intro k x s h0 hx h18 hs hk
    obtain ⟨k, rfl⟩ : ∃ q, k = q + 1 := ⟨k - 1, by omega⟩
    by_cases hp : x > 0
    · have hd : Int.tdiv x 10 = x / 10 := Int.tdiv_eq_ediv_of_nonneg h0
      have hle : (10 : Nat) ^ (d + 1) ≤ 10 ^ 18 := Nat.pow_le_pow_right (by decide) h18
      have h18' : (10 : Nat) ^ 18 = 1000000000000000000 := by decide
      have hps : (10 : Nat) ^ (d + 1) = 10 * 10 ^ d := by rw [Nat.pow_succ]; omega
      have hw : wrap64 (Int.tdiv x 10) = x / 10 := by rw [hd, w64 (by omega) (by omega)]
      obtain ⟨r, e⟩ := ih k (x / 10) (strOfNums [(wrap64 (48 + (Int.tmod x 10))) % 256] ++ s) (by omega) (by omega) (by omega) (by rw [ByteArray.size_append, strOf_size]; simp only [List.length_cons, List.length_nil]; omega) (by omega)
      refine ⟨r, ?_⟩
      simp only [laws_markText.l0]
      rw [if_pos hp, hw]
      simp only [Option.bind_some]
      rw [if_pos (by rw [strOf_size]; simp only [List.length_cons, List.length_nil]; omega)]
      exact e
    · exact ⟨_, by simp only [laws_markText.l0]; rw [if_neg hp, if_pos (by omega)]⟩
/-- A mark is told, and is the same at all rounds. -/
theorem mark_some (x : Int) (hx : x ≤ 999999999999999999) : ∃ r, ∀ k, 20 ≤ k → laws_markText.f k x = some r := by
  have key : ∃ r, laws_markText.f 20 x = some r := by
    unfold laws_markText.f
    split
    · exact ⟨_, rfl⟩
    · have h18' : (10 : Nat) ^ 18 = 1000000000000000000 := by decide
      exact mark_loop 18 20 x ⟨#[]⟩ (by omega) (by omega) (by omega) (by show 0 + 18 ≤ 1000; omega) (by omega)
  obtain ⟨r, e⟩ := key
  exact ⟨r, fun k hk => at_rounds (fun k => laws_markText.mono x k) hk e⟩

theorem markCellS_loop (n : Nat) (hn : n ≤ 100000000) (d : Nat) : ∀ (k i : Nat) (l : List S47) (m : Int), l.length = n → i + d = n → 0 ≤ m → m + 3 * d ≤ 400000000 → d + 20 < k →
    ∃ r, laws_markCellS.l0 k l m (i : Int) = some r ∧ 0 ≤ r.1 := by
  induction d with
  | zero =>
    intro k i l m hl hi h0 h1 hk
    obtain ⟨k, rfl⟩ : ∃ z, k = z + 1 := ⟨k - 1, by omega⟩
    unfold laws_markCellS.l0
    rw [if_neg (by omega)]
    exact ⟨_, rfl, h0⟩
  | succ d ih =>
    intro k i l m hl hi h0 h1 hk
    obtain ⟨k, rfl⟩ : ∃ z, k = z + 1 := ⟨k - 1, by omega⟩
    obtain ⟨s, hs⟩ := mark_some (m + 1) (by omega)
    unfold laws_markCellS.l0
    rw [if_pos (by omega), if_pos (by omega), w64 (n := m + 1) (by omega) (by omega), w64 (n := m + 1 + 1) (by omega) (by omega), w64 (n := m + 1 + 1 + 1) (by omega) (by omega), w64 (n := (i : Int) + 1) (by omega) (by omega), show (i : Int) + 1 = ((i + 1 : Nat) : Int) by omega]
    simp only [ob]
    rw [hs k (by omega)]
    simp only [ob]
    exact ih k (i + 1) _ (m + 1 + 1 + 1) (by simp only [List.length_set]; exact hl) (by omega) (by omega) (by omega) (by omega)
theorem markMemory_some (kept : ByteArray) (l : List S47) (hl : l.length ≤ 100000000) (k : Nat) (hk : l.length + 20 < k) : ∃ r, laws_markMemory.f k kept l 1 = some r ∧ 0 ≤ r.1 := by
  obtain ⟨r, e, h⟩ := markCellS_loop l.length hl l.length k 0 l 1 rfl (by omega) (by omega) (by omega) hk
  rw [Int.natCast_zero] at e
  unfold laws_markMemory.f laws_markCellS.f
  rw [e, ob]
  exact ⟨_, rfl, h⟩

theorem rdSet_self (l : List S47) (i : Nat) (c : S47) (h : i < l.length) : rd_T47 (l.set i c) (i : Int) = c := by
  unfold rd_T47
  rw [List.getD_eq_getElem?_getD, Int.toNat_natCast, List.getElem?_set_self h]; rfl
theorem rdSet_ne (l : List S47) (i j : Nat) (c : S47) (h : i ≠ j) : rd_T47 (l.set i c) (j : Int) = rd_T47 l (j : Int) := by
  unfold rd_T47
  rw [List.getD_eq_getElem?_getD, List.getD_eq_getElem?_getD, Int.toNat_natCast, List.getElem?_set_ne h]
/-- A cell that bears the marks from m on. -/
def CellMark (m : Int) (c : S47) : Prop := c.f0 = m ∧ (∀ k, 20 ≤ k → laws_markText.f k (m + 1) = some c.f1) ∧ c.f2 = (Int.tmod (m + 1 + 1) 3 == 0)
theorem markC_loop (n : Nat) (hn : n ≤ 100000000) (d : Nat) : ∀ (k i : Nat) (l : List S47) (m : Int), l.length = n → i + d = n → 0 ≤ m → m + 3 * d ≤ 400000000 → d + 20 < k →
    ∃ ys, laws_markCellS.l0 k l m (i : Int) = some (m + 3 * d, ys) ∧ ys.length = n ∧ (∀ j, j < i → rd_T47 ys (j : Int) = rd_T47 l (j : Int)) ∧ ∀ j, i ≤ j → j < n → CellMark (m + 3 * ((j - i : Nat) : Int)) (rd_T47 ys (j : Int)) := by
  induction d with
  | zero =>
    intro k i l m hl hi h0 h1 hk
    obtain ⟨k, rfl⟩ : ∃ z, k = z + 1 := ⟨k - 1, by omega⟩
    unfold laws_markCellS.l0
    rw [if_neg (by omega)]
    exact ⟨l, by simp, hl, fun _ _ => rfl, fun j a b => by omega⟩
  | succ d ih =>
    intro k i l m hl hi h0 h1 hk
    obtain ⟨k, rfl⟩ : ∃ z, k = z + 1 := ⟨k - 1, by omega⟩
    obtain ⟨s, hs⟩ := mark_some (m + 1) (by omega)
    obtain ⟨ys, e, yl, yb, ya⟩ := ih k (i + 1) (l.set i ⟨m, s, Int.tmod (m + 1 + 1) 3 == 0⟩) (m + 1 + 1 + 1) (by simp [hl]) (by omega) (by omega) (by omega) (by omega)
    refine ⟨ys, ?_, yl, ?_, ?_⟩
    · unfold laws_markCellS.l0
      rw [if_pos (by omega), if_pos (by omega), w64 (n := m + 1) (by omega) (by omega), w64 (n := m + 1 + 1) (by omega) (by omega), w64 (n := m + 1 + 1 + 1) (by omega) (by omega), w64 (n := (i : Int) + 1) (by omega) (by omega), show (i : Int) + 1 = ((i + 1 : Nat) : Int) by omega]
      simp only [ob]
      rw [hs k (by omega)]
      simp only [ob, Int.toNat_natCast]
      rw [rdSet_self _ _ _ (by omega)]
      simp only [List.set_set]
      rw [rdSet_self _ _ _ (by omega)]
      rw [e]
      congr 2; omega
    · intro j hj
      rw [yb j (by omega), rdSet_ne _ _ _ _ (by omega)]
    · intro j a b
      by_cases hj : j = i
      · subst hj
        rw [yb j (by omega), rdSet_self _ _ _ (by omega)]
        rw [show m + 3 * ((j - j : Nat) : Int) = m by omega]
        exact ⟨rfl, hs, rfl⟩
      · have := ya j (by omega) b
        rw [show m + 3 * ((j - i : Nat) : Int) = m + 1 + 1 + 1 + 3 * ((j - (i + 1) : Nat) : Int) by omega]
        exact this
theorem heldC_loop (n : Nat) (ys : List S47) (hy : ys.length = n) (hn : n ≤ 100000000) (d : Nat) : ∀ (k i : Nat) (m : Int), i + d = n → 0 ≤ m → m + 3 * d ≤ 400000000 →
    (∀ j, i ≤ j → j < n → CellMark (m + 3 * ((j - i : Nat) : Int)) (rd_T47 ys (j : Int))) → d + 20 < k → laws_heldCellS.l0 k ys m (i : Int) = some (m + 3 * d) := by
  induction d with
  | zero =>
    intro k i m hi h0 hm _ hk
    obtain ⟨k, rfl⟩ : ∃ z, k = z + 1 := ⟨k - 1, by omega⟩
    unfold laws_heldCellS.l0
    rw [if_neg (by omega)]
    congr 1; omega
  | succ d ih =>
    intro k i m hi h0 hm ha hk
    obtain ⟨k, rfl⟩ : ∃ z, k = z + 1 := ⟨k - 1, by omega⟩
    obtain ⟨a0, a1, a2⟩ := ha i (by omega) (by omega)
    rw [show m + 3 * ((i - i : Nat) : Int) = m by omega] at a0 a1 a2
    have e := ih k (i + 1) (m + 1 + 1 + 1) (by omega) (by omega) (by omega) (fun j j1 j2 => by
      have := ha j (by omega) j2
      rw [show m + 1 + 1 + 1 + 3 * ((j - (i + 1) : Nat) : Int) = m + 3 * ((j - i : Nat) : Int) by omega]
      exact this) (by omega)
    unfold laws_heldCellS.l0
    rw [if_pos (by omega), if_pos (by omega), if_pos a0, w64 (n := m + 1) (by omega) (by omega), w64 (n := m + 1 + 1) (by omega) (by omega), w64 (n := m + 1 + 1 + 1) (by omega) (by omega), w64 (n := (i : Int) + 1) (by omega) (by omega), show (i : Int) + 1 = ((i + 1 : Nat) : Int) by omega, a1 k (by omega), ob, if_pos rfl, a2, if_neg (by simp), e]
    congr 1; omega
/-- What is marked is held. -/
theorem markHeld (kp : ByteArray) (cs : List S47) (hn : cs.length ≤ 100000000) (k : Nat) (hk : cs.length + 20 < k) :
    ∃ ys, laws_markMemory.f k kp cs 1 = some (1 + 3 * (cs.length : Int), ys) ∧ laws_heldMemory.f k kp ys 1 = some (1 + 3 * (cs.length : Int)) ∧ ys.length = cs.length := by
  obtain ⟨ys, e, yl, _, ya⟩ := markC_loop cs.length hn cs.length k 0 cs 1 rfl (by omega) (by omega) (by omega) hk
  have e2 := heldC_loop cs.length ys yl hn cs.length k 0 1 (by omega) (by omega) (by omega) (fun j h1 h2 => ya j h1 h2) hk
  rw [Int.natCast_zero] at e e2
  refine ⟨ys, ?_, ?_, yl⟩
  · unfold laws_markMemory.f laws_markCellS.f
    rw [e, ob]
  · unfold laws_heldMemory.f laws_heldCellS.f
    rw [e2, ob, if_neg (by omega)]

theorem fence_loop (kept : ByteArray) (l : List S47) (hl : l.length ≤ 1048577) (hn : kept.size ≤ 16000) (r : Right kept.size l) (d : Nat) : ∀ (k i : Nat) (K : ByteArray) (L : List S47), i + d = l.length → d < k → K.size = kept.size → L.length ≤ i →
    ∃ q : ByteArray × List S47, spec_Fence.l0 k (i : Int) kept l K L = some q ∧ keepL (l.drop i) K L = some q ∧ q.2.length ≤ l.length := by
  induction d with
  | zero =>
    intro k i K L hi hk hK hL
    obtain ⟨k, rfl⟩ : ∃ z, k = z + 1 := ⟨k - 1, by omega⟩
    obtain rfl : i = l.length := by omega
    unfold spec_Fence.l0
    rw [if_neg (by omega), List.drop_length]
    exact ⟨_, rfl, rfl, hL⟩
  | succ d ih =>
    intro k i K L hi hk hK hL
    obtain ⟨k, rfl⟩ : ∃ z, k = z + 1 := ⟨k - 1, by omega⟩
    have hlt : i < l.length := by omega
    have h0 := r.lo i hlt
    have h1 := r.hi i hlt
    have h2 := r.sz i hlt
    unfold ln at h0 h1
    unfold spec_Fence.l0
    rw [drop_rd47 l i hlt]
    unfold keepL
    rw [if_pos (by omega), if_pos (by omega), w64 (n := (i : Int) + 1) (by omega) (by omega), show (i : Int) + 1 = ((i + 1 : Nat) : Int) by omega]
    cases hb : (rd_T47 l (i : Int)).f2
    · simp only [Bool.false_eq_true, if_false]
      rw [if_pos (show L.length < 4398046511104 by omega)]
      have e : (⟨(rd_T47 l (i : Int)).f0, (rd_T47 l (i : Int)).f1, false⟩ : S47) = rd_T47 l (i : Int) := by rw [← hb]
      rw [e]
      exact ih k (i + 1) K _ (by omega) (by omega) hK (by rw [List.length_append, List.length_singleton]; omega)
    · simp only [if_true]
      have hc : 0 ≤ (rd_T47 l (i : Int)).f0 ∧ (rd_T47 l (i : Int)).f0.toNat * 16 + 16 ≤ K.size ∧ (rd_T47 l (i : Int)).f1.size = 16 := ⟨h0, by omega, h2⟩
      rw [if_pos hc]
      unfold spec_l10Keep.f
      rw [if_pos ⟨hc.1, hc.2.1, hc.2.2, by omega⟩, ob]
      exact ih k (i + 1) _ L (by omega) (by omega) (by rw [putAt_size _ _ _ (by omega)]; exact hK) (by omega)
theorem fence_same (kept : ByteArray) (l : List S47) (hl : l.length ≤ 1048577) (hn : kept.size ≤ 1048576) (k : Nat) (hk : l.length + 1 < k) :
    ∃ r : ByteArray × List S47, spec_Fence.f k kept l = some r ∧ impl_Fence.f k kept l = some r ∧ r.2.length ≤ l.length := by
  have ec : spec_l10Copy.f kept l = some (kept, l) := by
    unfold spec_l10Copy.f
    rw [ob, if_pos (by simp only [List.length_nil]; omega), List.nil_append]
  have ei : impl_copyMemory.f kept l = some (kept, l) := by
    unfold impl_copyMemory.f impl_Cell.f
    rw [if_pos (by omega), ob]
  unfold spec_Fence.f impl_Fence.f
  rw [ei]; simp only [ob]
  rw [specMem kept l hl (by omega) k hk, implMem kept l hl (by omega) k hk]; simp only [ob]
  cases hb : (keptB kept.size && cellsB kept.size l l.length 0)
  · simp only [Bool.false_eq_true, if_false]
    rw [ec, ob]
    exact ⟨_, rfl, rfl, Nat.le_refl _⟩
  · simp only [if_true]
    simp only [Bool.and_eq_true] at hb
    have r := right_of _ l hb.2
    have hk2 : kept.size ≤ 16000 := by
      have := hb.1
      unfold keptB at this
      simp only [Bool.and_eq_true, decide_eq_true_eq] at this
      omega
    obtain ⟨q, e1, e2, e3⟩ := fence_loop kept l hl hk2 r l.length k 0 kept [] (by omega) (by omega) rfl (Nat.le_refl _)
    rw [Int.natCast_zero] at e1
    rw [List.drop_zero] at e2
    rw [if_pos ⟨by omega, by omega⟩]
    exact ⟨q, e1, e2, e3⟩
theorem FnExactFence : laws_FnExactFence.Pure := by
  intro kept l h0 h1 hw
  refine rounds_of (l.length + 60) fun k hk => ?_
  obtain ⟨v, e, h⟩ := szMemory_some kept l h0 h1 hw k (by omega)
  unfold laws_FnExactFence.f
  rw [e]; simp only [ob]
  by_cases hv : v < 0
  · rw [if_pos hv]
  · rw [if_neg hv]
    rcases h with h | ⟨hs, hl, _⟩
    · exact absurd h hv
    have hl' : (l.map conv).length = l.length := List.length_map _
    obtain ⟨k', rfl⟩ : ∃ z, k = z + 1 := ⟨k - 1, by omega⟩
    have et := toMemory_some kept l hl (k' + 1) (by omega)
    have et' := toMemory_some kept l hl k' (by omega)
    obtain ⟨⟨kp, cs⟩, es, ei, hr⟩ := fence_same kept (l.map conv) (by omega) hs (k' + 1) (by omega)
    obtain ⟨⟨kp2, cs2⟩, es2, ei2, hr2⟩ := fence_same kept (l.map conv) (by omega) hs k' (by omega)
    obtain ⟨rfl, rfl⟩ : kp = kp2 ∧ cs = cs2 := by
      have := (impl_Fence.mono _ _ _ _ ei2).symm.trans ei
      simpa [eq_comm] using this
    dsimp only at hr
    obtain ⟨r, em, hr3⟩ := markMemory_some kept (l.map conv) (by omega) (k' + 1) (by omega)
    obtain ⟨cs3, ek, eh, _⟩ := markHeld kp cs (by omega) k' (by omega)
    rw [et]; simp only [ob]
    rw [es]; simp only [ob]
    rw [ei]; simp only [ob]
    rw [eqMemory_self kp cs (by omega) _ (by omega)]; simp only [ob, if_true]
    rw [eqMemory_self kept (l.map conv) (by omega) _ (by omega)]; simp only [ob, if_true]
    rw [em]; simp only [ob]
    rw [if_neg (by omega)]
    unfold laws_FnExactFence.j0
    simp only [Bool.not_true, Bool.false_eq_true, if_false]
    rw [ek]; simp only [ob]
    rw [eh]; simp only [ob]
    rw [if_neg (by omega), if_pos trivial, et']; simp only [ob]
    rw [ei2]; simp only [ob]
    rw [eqMemory_self kp cs (by omega) _ (by omega)]; simp only [ob, if_true]
    rw [if_neg (by omega)]
end Go.Proofs.Ytcfdabmeejfcoaa.Pure
