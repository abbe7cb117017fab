-- Written for this claim; Lean checks it. The door: FnExactReadDecimal (spec.ReadDecimal against strconv.Atoi and Itoa).
import Derived.Test.YtmlleefmkmelmaaDoorTie
import Derived.Test.YtmlleefmkmelmaaDoorCards
import Derived.Test.YtmlleefmkmelmaaDoorMFnExactReadDecimalx1
import Derived.Test.YtmlleefmkmelmaaDoorMFnExactReadDecimalx3
import Derived.Test.YtmlleefmkmelmaaDoorLibAtoi
import Derived.WalkKit
import Derived.ProofKit
import Derived.OpenShut
import Derived.ShutString
import Derived.Below
import Derived.LaidMore
import Derived.LaidHandle
import Derived.MakeChecks
import Derived.Stop.LaidErr
import Derived.Stop.Joined
import Derived.Lib.LaidTab
import Derived.Lib.SmallJoins
import Derived.Lib.AppendIntMem
import Derived.Lib.ItoaNum
import Derived.Lib.ItoaMem
import Derived.Lib.AtoiAll
import Derived.SizedLaws
import Derived.SevenTiedAt
namespace Go.Proofs.YtmlleefmkmelmaaDoor.fnExactReadDecimal
open Go.ChangeShapes Go.WideShapes Go.ChangeAt Go.RowKit
open Go.ChangeMaps (open_string shut_string)
open Go.Proofs.YtmlleefmkmelmaaDoor.PFnExactReadDecimal Go.Proofs.YtmlleefmkmelmaaDoorW.PrintWords
set_option linter.unusedVariables false
/-! ### The plain law -/
theorem app_list (a b : List UInt8) : (⟨a.toArray⟩ : ByteArray) ++ ⟨b.toArray⟩ = ⟨(a ++ b).toArray⟩ := by
  apply ByteArray.ext
  simp
theorem figure_dec : ∀ d, d < 10 → spec_l01Figure.f ((d : Nat) : Int) = some ((48 + d : Nat) : Int) := by decide +kernel
theorem str_dec : ∀ d, d < 10 → strOfNums [((48 + d : Nat) : Int)] = (⟨[UInt8.ofNat (48 + d)].toArray⟩ : ByteArray) := by
  intro d hd
  have : strOfNums [((48 + d : Nat) : Int)] = (⟨[UInt8.ofNat (((48 + d : Nat) : Int)).toNat].toArray⟩ : ByteArray) := rfl
  rw [this, Int.toNat_natCast]
def digs (m : Nat) : List UInt8 := if m = 0 then [] else Lib.decDigits m
theorem digs_step (m : Nat) (h : m ≠ 0) : digs m = digs (m / 10) ++ [UInt8.ofNat (48 + m % 10)] := by
  unfold digs
  rw [if_neg h, Lib.decDigits]
  by_cases c : m < 10
  · rw [dif_pos c, if_pos (by omega), Nat.mod_eq_of_lt c]; rfl
  · rw [dif_neg c, if_neg (by omega)]
def sgn (neg : Bool) (m : Nat) : Int := if neg then -(m : Int) else (m : Int)
def pre (neg : Bool) : List UInt8 := if neg then [45] else []
theorem tmod_sgn (neg : Bool) (m : Nat) : Int.tmod (sgn neg m) 10 = sgn neg (m % 10) := by
  cases neg
  · show Int.tmod (m : Int) 10 = ((m % 10 : Nat) : Int)
    rw [Int.tmod_eq_emod_of_nonneg (by omega)]; omega
  · show Int.tmod (-(m : Int)) 10 = -((m % 10 : Nat) : Int)
    rw [Int.neg_tmod, Int.tmod_eq_emod_of_nonneg (by omega)]; omega
theorem tdiv_sgn (neg : Bool) (m : Nat) : Int.tdiv (sgn neg m) 10 = sgn neg (m / 10) := by
  cases neg
  · show Int.tdiv (m : Int) 10 = ((m / 10 : Nat) : Int)
    rw [Int.tdiv_eq_ediv_of_nonneg (by omega)]; omega
  · show Int.tdiv (-(m : Int)) 10 = -((m / 10 : Nat) : Int)
    rw [Int.neg_tdiv, Int.tdiv_eq_ediv_of_nonneg (by omega)]; omega
theorem sgn_zero (neg : Bool) : sgn neg 0 = 0 := by cases neg <;> rfl
theorem wrap_of {x : Int} (h0 : -9223372036854775808 ≤ x) (h1 : x ≤ 9223372036854775807) : wrap64 x = x := by
  unfold wrap64; omega
theorem dec_loop (neg : Bool) (m : Nat) : ∀ (k : Nat) (s : List UInt8), m < k → m ≤ 9223372036854775808 → (s.length = 0 ∨ s.length + m ≤ 9223372036854775000) →
    spec_Decimal.l0 k (sgn neg m) neg ⟨s.toArray⟩ = some ⟨(pre neg ++ digs m ++ s).toArray⟩ := by
  induction m using Nat.strongRecOn with
  | _ m ih =>
    intro k s hk hm hs
    obtain ⟨k, rfl⟩ : ∃ q, k = q + 1 := ⟨k - 1, by omega⟩
    have hsz : (⟨s.toArray⟩ : ByteArray).size = s.length := rfl
    simp only [spec_Decimal.l0]
    by_cases c : m = 0
    · subst c
      rw [sgn_zero, if_pos rfl]
      cases neg
      · rw [if_neg (by decide)]; rfl
      · rw [if_pos rfl, if_pos (by rw [hsz]; omega)]
        exact congrArg some (app_list [45] s)
    · have hne : ¬ sgn neg m = 0 := by cases neg <;> simp [sgn] <;> omega
      rw [if_neg hne, tmod_sgn, tdiv_sgn]
      have hd : m % 10 < 10 := Nat.mod_lt _ (by decide)
      have hw : wrap64 (sgn neg (m / 10)) = sgn neg (m / 10) := wrap_of (by cases neg <;> simp [sgn] <;> omega) (by cases neg <;> simp [sgn] <;> omega)
      have e := ih (m / 10) (by omega) k (UInt8.ofNat (48 + m % 10) :: s) (by omega) (by omega) (.inr (by simp; omega))
      have hap : strOfNums [((48 + m % 10 : Nat) : Int)] ++ (⟨s.toArray⟩ : ByteArray) = ⟨(UInt8.ofNat (48 + m % 10) :: s).toArray⟩ := by rw [str_dec _ hd, app_list]; rfl
      have hz1 : (strOfNums [((48 + m % 10 : Nat) : Int)]).size = 1 := by rw [str_dec _ hd]; rfl
      have hfin : pre neg ++ digs (m / 10) ++ (UInt8.ofNat (48 + m % 10) :: s) = pre neg ++ digs m ++ s := by
        rw [digs_step m c]; simp
      rw [hw]
      rw [hfin] at e
      by_cases c2 : sgn neg (m % 10) < 0
      · have hn : wrap64 (-(sgn neg (m % 10))) = ((m % 10 : Nat) : Int) := by
          have h_ : -(sgn neg (m % 10)) = ((m % 10 : Nat) : Int) := by cases neg <;> simp [sgn] at c2 ⊢ <;> omega
          rw [h_]; exact wrap_of (by omega) (by omega)
        rw [if_pos c2, hn, figure_dec _ hd]
        simp only [Option.bind_some]
        rw [if_pos (by rw [hz1, hsz]; omega), hap]
        exact e
      · have hn : sgn neg (m % 10) = ((m % 10 : Nat) : Int) := by
          cases neg
          · rfl
          · simp [sgn] at c2 ⊢; omega
        rw [if_neg c2, hn, figure_dec _ hd]
        simp only [Option.bind_some]
        rw [if_pos (by rw [hz1, hsz]; omega), hap]
        exact e
theorem spec_dec (n : Int) (h0 : -9223372036854775808 ≤ n) (h1 : n ≤ 9223372036854775807) (k : Nat) (hk : n.natAbs < k) : spec_Decimal.f k n = some ⟨(Lib.itoa n).toArray⟩ := by
  unfold spec_Decimal.f
  by_cases c : n = 0
  · subst c
    rw [if_pos rfl]
    have : Lib.itoa 0 = [48] := by unfold Lib.itoa; rw [if_neg (by decide), Lib.decDigits]; rfl
    rw [this]
  · rw [if_neg c]
    have e := dec_loop (decide (n < 0)) n.natAbs k [] hk (by omega) (.inl rfl)
    have es : sgn (decide (n < 0)) n.natAbs = n := by
      unfold sgn
      by_cases c2 : n < 0
      · rw [if_pos (by simpa using c2)]; omega
      · rw [if_neg (by simpa using c2)]; omega
    rw [es] at e
    refine e.trans ?_
    congr 2
    unfold digs Lib.itoa pre
    rw [if_neg (show ¬ n.natAbs = 0 by omega)]
    by_cases c2 : n < 0
    · rw [if_pos c2, if_pos (by simpa using c2)]; simp
    · rw [if_neg c2, if_neg (by simpa using c2), show n.toNat = n.natAbs by omega]; simp

/-- What digits spell. -/
def dv (acc : Nat) : List UInt8 → Option Nat
  | [] => some acc
  | c :: r => if 48 ≤ c.toNat ∧ c.toNat ≤ 57 then dv (acc * 10 + (c.toNat - 48)) r else none
theorem dv_snoc (c : UInt8) (hc : 48 ≤ c.toNat ∧ c.toNat ≤ 57) : ∀ (l : List UInt8) (acc m : Nat), dv acc l = some m → dv acc (l ++ [c]) = some (m * 10 + (c.toNat - 48))
  | [], acc, m, h => by
    simp only [dv, Option.some.injEq] at h
    subst h
    simp only [List.nil_append, dv]
    rw [if_pos hc]
  | b :: r, acc, m, h => by
    simp only [dv] at h
    simp only [List.cons_append, dv]
    split at h
    · rename_i hb
      rw [if_pos hb]
      exact dv_snoc c hc r _ m h
    · cases h
theorem dig_toNat {d : Nat} (h : d < 10) : (UInt8.ofNat (48 + d)).toNat = 48 + d := by rw [UInt8.toNat_ofNat']; omega
theorem dv_digits (n : Nat) : dv 0 (Lib.decDigits n) = some n := by
  induction n using Nat.strongRecOn with
  | _ n ih =>
    rw [Lib.decDigits]
    by_cases c : n < 10
    · rw [dif_pos c]
      simp only [dv]
      rw [dig_toNat c, if_pos (by omega)]
      congr 1; omega
    · rw [dif_neg c]
      have hd : n % 10 < 10 := Nat.mod_lt _ (by decide)
      rw [dv_snoc _ (by rw [dig_toNat hd]; omega) _ _ _ (ih (n / 10) (by omega)), dig_toNat hd]
      congr 1; omega
theorem dv_ge : ∀ (l : List UInt8) (acc m : Nat), dv acc l = some m → acc ≤ m
  | [], acc, m, h => by simp only [dv, Option.some.injEq] at h; omega
  | c :: r, acc, m, h => by
    simp only [dv] at h
    split at h
    · have := dv_ge r _ m h; omega
    · cases h
theorem parse_dv : ∀ (l : List UInt8) (acc m : Nat), dv acc l = some m → m ≤ 1000000000 → Lib.parseUint10 acc l = .ok m
  | [], acc, m, h, _ => by
    simp only [dv, Option.some.injEq] at h
    subst h; rfl
  | c :: r, acc, m, h, hm => by
    simp only [dv] at h
    simp only [Lib.parseUint10]
    split at h
    · rename_i hc
      have hg := dv_ge r _ m h
      rw [if_pos hc, if_neg (by omega), if_neg (by omega)]
      exact parse_dv r _ m h hm
    · cases h
theorem digits_len : ∀ (k n : Nat), n < 10 ^ (k + 1) → (Lib.decDigits n).length ≤ k + 1
  | k, n, h => by
    rw [Lib.decDigits]
    by_cases c : n < 10
    · rw [dif_pos c]; simp
    · rw [dif_neg c]
      cases k with
      | zero => simp at h; omega
      | succ k =>
        have := digits_len k (n / 10) (by rw [Nat.pow_succ] at h; omega)
        simp; omega
theorem digits_ne (n : Nat) : Lib.decDigits n ≠ [] := by
  rw [Lib.decDigits]
  split <;> simp
theorem atoi_digits (n : Nat) (h : n ≤ 1000000000) : Lib.atoiAll (Lib.decDigits n) = .ok (n : Int) := by
  have hd := dv_digits n
  have hne := digits_ne n
  generalize Lib.decDigits n = l at *
  cases l with
  | nil => exact absurd rfl hne
  | cons c r =>
    have hp := parse_dv _ _ _ hd h
    have hc : 48 ≤ c.toNat ∧ c.toNat ≤ 57 := by
      simp only [dv] at hd
      split at hd
      · assumption
      · cases hd
    unfold Lib.atoiAll
    simp only []
    rw [if_neg (show ¬ (c.toNat = 43 ∨ c.toNat = 45) by omega)]
    unfold Lib.parseMag
    rw [if_neg hne, hp]
    simp only []
    rw [if_neg (by omega), if_neg (by omega), if_neg (by omega)]
open Classical in
/-- The law's value: n where the text is n's numeral and n at most 10^9. -/
noncomputable def wantD (l : List UInt8) : Int × Bool := if h : ∃ n : Nat, n ≤ 1000000000 ∧ l = Lib.decDigits n then ((h.choose : Nat), true) else (0, false)
theorem digits_inj {a b : Nat} (h : Lib.decDigits a = Lib.decDigits b) : a = b := by
  have := dv_digits a
  rw [h, dv_digits b] at this
  exact (Option.some.inj this).symm
theorem want_yes (n : Nat) (h : n ≤ 1000000000) : wantD (Lib.decDigits n) = ((n : Int), true) := by
  have hh : ∃ m : Nat, m ≤ 1000000000 ∧ Lib.decDigits n = Lib.decDigits m := ⟨n, h, rfl⟩
  unfold wantD
  rw [dif_pos hh]
  have := hh.choose_spec
  rw [← digits_inj this.2]
theorem want_no (l : List UInt8) (h : ∀ n : Nat, n ≤ 1000000000 → l ≠ Lib.decDigits n) : wantD l = (0, false) := by
  unfold wantD
  rw [dif_neg]
  rintro ⟨n, hn, e⟩
  exact h n hn e
/-- The machine of the specification. -/
theorem bt_l (a : ByteArray) (i : Nat) (h : i < a.data.toList.length) : bt a (i : Int) = ((a.data.toList[i]'h).toNat : Int) := by
  have h_ : i < a.size := h
  rw [← bt_at a (i : Int) (by simpa using h_)]
  rfl
theorem toList_iff (s a : ByteArray) : s.toList = a.toList ↔ s.data.toList = a.data.toList := by
  rw [ByteArray.toList_eq, ByteArray.toList_eq]
theorem pow_le10 {i : Nat} (h : i ≤ 10) : 10 ^ i ≤ 10000000000 := Nat.le_trans (Nat.pow_le_pow_right (by decide) h) (by decide)
theorem read_loop (a : ByteArray) (hs : a.size ≤ 10) (d : Nat) : ∀ (k i m : Nat), i + d = a.size → 10000000000 + d < k → m < 10 ^ i →
    spec_ReadDecimal.l0 k a (m : Int) (i : Int) = some (match dv m (a.data.toList.drop i) with
      | none => (0, false)
      | some v => if v ≤ 1000000000 ∧ a.data.toList = Lib.decDigits v then ((v : Int), true) else (0, false)) := by
  have hn : a.data.toList.length = a.size := rfl
  induction d with
  | zero =>
    intro k i m hi hk hm
    obtain ⟨k, rfl⟩ : ∃ q, k = q + 1 := ⟨k - 1, by omega⟩
    have hp := pow_le10 (i := i) (by omega)
    simp only [spec_ReadDecimal.l0]
    rw [if_neg (by omega), List.drop_of_length_le (by omega)]
    simp only [dv]
    by_cases c : m ≤ 1000000000
    · rw [if_neg (by omega), spec_dec (m : Int) (by omega) (by omega) k (by omega), Lib.itoa_nonneg]
      simp only [Option.bind_some]
      by_cases e : Lib.decDigits m = a.data.toList
      · rw [if_pos ((toList_iff _ _).2 e), if_pos ⟨c, e.symm⟩]
      · rw [if_neg (fun h => e ((toList_iff _ _).1 h)), if_neg (fun h => e h.2.symm)]
    · rw [if_pos (by omega), if_neg (fun h => c h.1)]
  | succ d ih =>
    intro k i m hi hk hm
    obtain ⟨k, rfl⟩ : ∃ q, k = q + 1 := ⟨k - 1, by omega⟩
    have h1 : i < a.data.toList.length := by omega
    have b1 := bt_l a _ h1
    have hb := (a.data.toList[i]'h1).toNat_lt
    rw [List.drop_eq_getElem_cons h1]
    generalize a.data.toList[i] = c at *
    have hp := pow_le10 (i := i + 1) (by omega)
    have hq : 10 ^ (i + 1) = 10 ^ i * 10 := Nat.pow_succ ..
    simp only [spec_ReadDecimal.l0, dv]
    rw [if_pos (by omega), if_pos (by omega), b1]
    by_cases c1 : c.toNat < 48
    · rw [if_pos (by omega), if_neg (by omega)]
    · rw [if_neg (by omega)]
      by_cases c2 : 57 < c.toNat
      · rw [if_pos (by omega), if_neg (by omega)]
      · rw [if_neg (by omega), if_pos (by omega)]
        have e := ih k (i + 1) (m * 10 + (c.toNat - 48)) (by omega) (by omega) (by omega)
        rw [← e]
        congr 1
        · rw [wrap_of (show -9223372036854775808 ≤ 10 * (m : Int) by omega) (by omega), wrap_of (show -9223372036854775808 ≤ (c.toNat : Int) by omega) (by omega), wrap_of (show -9223372036854775808 ≤ 10 * (m : Int) + (c.toNat : Int) by omega) (by omega), wrap_of (by omega) (by omega)]
          omega
        · rw [wrap_of (by omega) (by omega)]; omega
theorem spec_read (a : ByteArray) (K : Nat) (hK : 10000000020 ≤ K) : spec_ReadDecimal.f K a = some (wantD a.data.toList) := by
  have hn : a.data.toList.length = a.size := rfl
  unfold spec_ReadDecimal.f
  by_cases h : a.size ≤ 10
  · rw [if_neg (by omega)]
    have e := read_loop a h a.size K 0 0 (by omega) (by omega) (by decide)
    simp only [Int.natCast_zero, List.drop_zero] at e
    rw [e]
    refine congrArg some ?_
    by_cases c : ∃ n : Nat, n ≤ 1000000000 ∧ a.data.toList = Lib.decDigits n
    · obtain ⟨n, h1, h2⟩ := c
      rw [h2, dv_digits, want_yes n h1]
      simp only []
      rw [if_pos ⟨h1, trivial⟩]
    · rw [want_no _ (fun n h1 h2 => c ⟨n, h1, h2⟩)]
      cases dv 0 a.data.toList with
      | none => rfl
      | some v =>
        simp only []
        rw [if_neg (fun h2 => c ⟨v, h2⟩)]
  · rw [if_pos (by omega), want_no]
    intro n h1 h2
    have := digits_len 9 n (by omega)
    rw [← h2] at this
    omega
/-! ### The walk -/
theorem gPow : Tryd.prog.globalNamed "internal/strconv.uint64pow10" = some 5 := by kernel_rfl
theorem gSyn : Tryd.prog.globalNamed "strconv.ErrSyntax" = some 3 := by kernel_rfl
theorem gRan : Tryd.prog.globalNamed "strconv.ErrRange" = some 4 := by kernel_rfl
/-- What the row's variables give. -/
structure LaidD (W : World) : Prop where
  tab : Lib.TabIs Tryd.prog W "internal/strconv.uint64pow10" .u64 Lib.pow10Tab
  syn : ∃ (tp : TypeId) (p : Value), W.var? Tryd.prog "strconv.ErrSyntax" = some #[.iface tp p]
  ran : ∃ (tp : TypeId) (p : Value), W.var? Tryd.prog "strconv.ErrRange" = some #[.iface tp p]
theorem LaidD.below {B : Nat} {W W' : World} (h : LaidD W) (hb : Below B W W') (hB : W.heap.size ≤ B) : LaidD W' := by
  obtain ⟨h1, ⟨t2, p2, h2⟩, ⟨t3, p3, h3⟩⟩ := h
  exact ⟨Go.Joins.tab_stays gPow h1 hb hB, ⟨t2, p2, Go.Joins.var_stays gSyn h2 hb hB⟩, ⟨t3, p3, Go.Joins.var_stays gRan h3 hb hB⟩⟩
theorem dec_calls (n : Int) (h0 : -9223372036854775808 ≤ n) (h1 : n ≤ 9223372036854775807) (w : World) (htab : Lib.TabIs Tryd.prog w "internal/strconv.uint64pow10" .u64 Lib.pow10Tab) :
    Calls Tryd.prog 13 #[.int .i64 n] w fun e w' => e = .returned (.string ⟨(Lib.itoa n).toArray⟩) ∧ Below w.heap.size w w' := by
  go_enter Tryd.func13, Tryd.ntmps13
  go_wp2_with (go_at_call 29; refine (Tryd.strconv_Itoa n h0 h1 _ htab).mono ?_; rintro e w' ⟨rfl, k, os, rfl⟩)
  go_ret
  exact ⟨rfl, Lib.below_grow _ _ (Nat.le_refl _) _ _⟩
theorem atoi_ok (a : ByteArray) (hb : a.size ≤ 1048576) (v : Int) (h : Lib.atoiAll a.data.toList = .ok v) (w : World) :
    Calls Tryd.prog 26 #[.string a] w fun e w' => e = .returned (.tuple #[.int .i64 v, .nilIface]) ∧ Below w.heap.size w w' := by
  refine (Tryd.strconv_Atoi_ok a (by omega) v h w).mono ?_
  rintro e w' ⟨rfl, rfl | ⟨t, rfl⟩⟩
  · exact ⟨rfl, Below.refl _ _⟩
  · exact ⟨rfl, bytes_below (Below.refl _ _) (Nat.le_refl _) _ _⟩
theorem atoi_err (a : ByteArray) (hb : a.size ≤ 1048576) (h : ∀ v, Lib.atoiAll a.data.toList ≠ .ok v) (w : World) (L : LaidD w) :
    Calls Tryd.prog 26 #[.string a] w fun e w' => ∃ (v : Int) (t : TypeId) (p : Addr), e = .returned (.tuple #[.int .i64 v, .iface t (.pointer (some p))]) ∧ Below w.heap.size w w' := by
  rcases e : Lib.atoiAll a.data.toList with v | _ | _
  · exact absurd e (h v)
  · obtain ⟨tp, p, hv⟩ := L.syn
    refine (Tryd.strconv_Atoi_syntax_var a (by omega) e tp p w hv).mono ?_
    rintro e w' ⟨N, rfl, -, -, hb⟩
    exact ⟨_, _, _, rfl, hb⟩
  · obtain ⟨tp, p, hv⟩ := L.ran
    refine (Tryd.strconv_Atoi_range_var a (by omega) e tp p w hv).mono ?_
    rintro e w' ⟨N, rfl, -, -, hb⟩
    exact ⟨_, _, _, rfl, hb⟩
theorem within_calls (v : Int) (w : World) : Calls Tryd.prog 27 #[.int .i64 v, .int .i64 0, .int .i64 1000000000] w fun e w' => e = .returned (.bool (decide (0 ≤ v ∧ v ≤ 1000000000))) ∧ Below w.heap.size w w' := by
  have e : impl_within.f v 0 1000000000 = some (decide (0 ≤ v ∧ v ≤ 1000000000)) := by
    unfold impl_within.f
    by_cases c : v ≥ 0
    · rw [if_pos c]; congr 1; simp [c]
    · rw [if_neg c]; congr 1; simp; omega
  refine (impl_within.calls v 0 1000000000 _ w e).mono ?_
  rintro e w' ⟨rfl, nd, rfl⟩
  exact ⟨rfl, pw_below_drewN (Below.refl _ _) _⟩
set_option maxHeartbeats 4000000 in
set_option maxRecDepth 100000 in
theorem impl_calls (a : ByteArray) (hb : a.size ≤ 1048576) (w : World) (L : LaidD w) :
    Calls Tryd.prog 11 #[.string a] w fun e w' => e = .returned (.tuple #[.int .i64 (wantD a.data.toList).1, .bool (wantD a.data.toList).2]) ∧ Below w.heap.size w w' := by
  by_cases hk : ∃ v, Lib.atoiAll a.data.toList = .ok v
  · obtain ⟨v, hv⟩ := hk
    have C1 := Aside0.mk (atoi_ok a hb v hv w)
    by_cases hr : 0 ≤ v ∧ v ≤ 1000000000
    · have C2 : Aside0 (∀ W : World, Calls Tryd.prog 27 #[.int .i64 v, .int .i64 0, .int .i64 1000000000] W fun e w' => e = .returned (.bool true) ∧ Below W.heap.size W w') := ⟨fun W => by have := within_calls v W; rw [decide_eq_true hr] at this; exact this⟩
      have C3 := fun (W : World) (hL : LaidD W) => dec_calls v (by omega) (by omega) W hL.tab
      obtain ⟨st, hst⟩ : ∃ st : ByteArray, st = ⟨(Lib.itoa v).toArray⟩ := ⟨_, rfl⟩
      rw [← hst] at C3
      have C3 := Aside0.mk C3
      have HL := Aside0.mk L
      obtain ⟨n, rfl⟩ : ∃ n : Nat, v = (n : Int) := ⟨v.toNat, by omega⟩
      by_cases ce : st.toList = a.toList
      · have he : a.data.toList = Lib.decDigits n := by
          rw [toList_iff, hst, Lib.itoa_nonneg] at ce
          exact ce.symm
        rw [he, want_yes n (by omega)]
        have c5b0 : (st.toList == a.toList) = true := beq_iff_eq.mpr ce
        have c5b1 : (st.toList != a.toList) = false := bne_eq_false_iff_eq.mpr ce
        clear hst ce hr hv he L
        go_enter Tryd.func11, Tryd.ntmps11
        go_wp2_with (first | (go_at_call 26; refine C1.out.mono ?_; rintro e w1 ⟨rfl, hb⟩; have HB1 := Aside0.mk hb; clear hb) | (go_at_call 27; refine (C2.out _).mono ?_; rintro e w2 ⟨rfl, hb⟩; have HB2 := Aside0.mk (below_step HB1.out hb); clear hb) | (go_at_call 13; refine (C3.out _ (HL.out.below HB2.out (Nat.le_refl _))).mono ?_; rintro e w3 ⟨rfl, hb⟩; have HB3 := Aside0.mk (below_step HB2.out hb); clear hb))
        go_ret2
        exact ⟨rfl, HB3.out⟩
      · have hw : wantD a.data.toList = (0, false) := want_no _ (fun m h1 h2 => ce (by
          have h3 := atoi_digits m h1
          rw [← h2, hv] at h3
          have h4 : (n : Int) = (m : Int) := by injection h3
          rw [toList_iff, hst, Lib.itoa_nonneg, h2, Int.ofNat_inj.1 h4]))
        rw [hw]
        have c5b0 : (st.toList == a.toList) = false := by simpa using ce
        have c5b1 : (st.toList != a.toList) = true := by simpa using ce
        clear hst ce hr hv hw L
        go_enter Tryd.func11, Tryd.ntmps11
        go_wp2_with (first | (go_at_call 26; refine C1.out.mono ?_; rintro e w1 ⟨rfl, hb⟩; have HB1 := Aside0.mk hb; clear hb) | (go_at_call 27; refine (C2.out _).mono ?_; rintro e w2 ⟨rfl, hb⟩; have HB2 := Aside0.mk (below_step HB1.out hb); clear hb) | (go_at_call 13; refine (C3.out _ (HL.out.below HB2.out (Nat.le_refl _))).mono ?_; rintro e w3 ⟨rfl, hb⟩; have HB3 := Aside0.mk (below_step HB2.out hb); clear hb))
        go_ret2
        exact ⟨rfl, HB3.out⟩
    · have C2 : Aside0 (∀ W : World, Calls Tryd.prog 27 #[.int .i64 v, .int .i64 0, .int .i64 1000000000] W fun e w' => e = .returned (.bool false) ∧ Below W.heap.size W w') := ⟨fun W => by have := within_calls v W; rw [decide_eq_false hr] at this; exact this⟩
      have hw : wantD a.data.toList = (0, false) := want_no _ (fun m h1 h2 => hr (by
        have h3 := atoi_digits m h1
        rw [← h2, hv] at h3
        have h4 : v = (m : Int) := by injection h3
        omega))
      rw [hw]
      clear hr hv hw
      go_enter Tryd.func11, Tryd.ntmps11
      go_wp2_with (first | (go_at_call 26; refine C1.out.mono ?_; rintro e w1 ⟨rfl, hb⟩; have HB1 := Aside0.mk hb; clear hb) | (go_at_call 27; refine (C2.out _).mono ?_; rintro e w2 ⟨rfl, hb⟩; have HB2 := Aside0.mk (below_step HB1.out hb); clear hb))
      go_ret2
      exact ⟨rfl, HB2.out⟩
  · have C1 := Aside0.mk (atoi_err a hb (fun v h => hk ⟨v, h⟩) w L)
    rw [want_no _ (fun m h1 h2 => hk ⟨_, by rw [h2]; exact atoi_digits m h1⟩)]
    clear hk
    go_enter Tryd.func11, Tryd.ntmps11
    go_wp2_with (first | (go_at_call 26; refine C1.out.mono ?_; rintro e w1 ⟨v, t, p, rfl, hb⟩; have HB1 := Aside0.mk hb; clear hb))
    go_ret2
    exact ⟨rfl, HB1.out⟩
theorem bigK : ∃ K : Nat, 10000000020 ≤ K := ⟨10000000020, Nat.le_refl 10000000020⟩
set_option maxHeartbeats 4000000 in
theorem law_calls (a : ByteArray) (w : World) (L : LaidD w) :
    Calls Tryd.prog 4 #[.string a] w fun e w' => e = .returned (.bool true) ∧ Below w.heap.size w w' := by
  by_cases c : a.size ≤ 1048576
  · obtain ⟨K, hK⟩ := bigK
    have C0 := spec_read a K hK
    have C2 := fun W (hW : LaidD W) => impl_calls a c W hW
    generalize wantD a.data.toList = R at *
    obtain ⟨r0, r1⟩ := R
    have C1 := spec_ReadDecimal.calls K a r0 r1 w C0
    clear C0
    have C1 : Aside0 (Calls Tryd.prog 10 #[.string a] w fun e w' => e = .returned (.tuple #[.int .i64 r0, .bool r1]) ∧ Below w.heap.size w w') := ⟨C1⟩
    have C2 : Aside0 (∀ W : World, LaidD W → Calls Tryd.prog 11 #[.string a] W fun e w' => e = .returned (.tuple #[.int .i64 r0, .bool r1]) ∧ Below W.heap.size W w') := ⟨C2⟩
    have HV := Aside0.mk L
    clear L hK
    have c5b0 : (r0 == r0) = true := beq_iff_eq.mpr rfl
    have c5b1 : (r0 != r0) = false := bne_eq_false_iff_eq.mpr rfl
    have c6 : (r1 != r1) = false := bne_eq_false_iff_eq.mpr rfl
    go_enter Tryd.func4, Tryd.ntmps4
    go_wp2_with (first | (go_at_call 10; refine C1.out.mono ?_; rintro e w1 ⟨rfl, hb⟩; have HB1 := Aside0.mk hb; clear hb) | (go_at_call 11; refine (C2.out _ (HV.out.below HB1.out (Nat.le_refl _))).mono ?_; rintro e w2 ⟨rfl, hb⟩; have HB2 := Aside0.mk (below_step HB1.out hb); clear hb))
    go_ret
    exact ⟨rfl, HB2.out⟩
  · go_enter Tryd.func4, Tryd.ntmps4
    go_wp2
    go_ret
    exact ⟨rfl, Below.refl _ _⟩
/-! ### The row and the card -/
theorem own : ownKnob Tryd.prog.godebug = none := by kernel_rfl
theorem star : "*" ++ "errors.errorString" = "*errors.errorString" := by decide
theorem rowE (u : TypeId) (h : Tryd.prog.typeName? 3 u = some "*errors.errorString") : u = 103 :=
  typeName_ptr_named (nm := "errors.errorString") (by rw [star]; kernel_rfl) (by kernel_rfl) (by decide) u (by rw [star]; exact h)
theorem door_met (os : Os) (args : Array Value) : laidMetH Tryd.prog Rows.fnExactReadDecimalRow.laid ((World.doorLaid Tryd.prog 105 os).forCall (fun _ _ => 0) ⟨#[], args, []⟩).memory :=
  laidMetH_of_parts3 (fuel := 8) (laidMet_of_run' 8 (by kernel_rfl) (by kernel_rfl)) (by kernel_rfl) (by kernel_rfl)
theorem laid_of {W : World} (h : laidMetH Tryd.prog Rows.fnExactReadDecimalRow.laid W) : LaidD W := by
  rw [MakeChecks.laidMetH_plain _ _ _ (by kernel_rfl)] at h
  have h2 : laidMet Tryd.prog (("internal/strconv.uint64pow10", Lib.tabData .u64 Lib.pow10Tab) :: _) W := laidMet.tail (laidMet.tail h)
  have ht := Lib.tabIs_of_head gPow (show (Tryd.prog.globals[5]?).map (·.type) = some 107 by kernel_rfl) Tryd.underlying107 (show Tryd.prog.underlying 78 = some (.int .u64) from Tryd.underlying78) (by kernel_rfl) (by kernel_rfl) h2
  have h3 := laidMet.tail h2
  obtain ⟨pa, s, hv, -, -, -⟩ := laid_sentinel h3 gRan (show (Tryd.prog.globals[4]?).map (·.type) = some 41 by kernel_rfl) Tryd.underlying41 rowE Tryd.underlying103 Tryd.underlying105 rfl rfl Tryd.underlying9 (by kernel_rfl) (by kernel_rfl)
  have h4 := laidMet.tail h3
  obtain ⟨pb, s2, hv2, -, -, -⟩ := laid_sentinel h4 gSyn (show (Tryd.prog.globals[3]?).map (·.type) = some 41 by kernel_rfl) Tryd.underlying41 rowE Tryd.underlying103 Tryd.underlying105 rfl rfl Tryd.underlying9 (by kernel_rfl) (by kernel_rfl)
  exact ⟨ht, ⟨_, _, hv2⟩, ⟨_, _, hv⟩⟩
set_option maxRecDepth 100000 in
theorem lifted (os : Os) (started : os.Started) (H : Type) (enc : TypeId × Value → H) :
    ReturnsInHanded {} Tryd.checked os 4 .any (fun w args => (Rows.fnExactReadDecimalSpec.pre enc Tryd.prog Tryd.f4 [] false w args ∧ laidMetH Tryd.prog Rows.fnExactReadDecimalRow.laid w) ∧ sizedMet enc Tryd.prog Tryd.f4 (OpenSpec.ofChange Rows.fnExactReadDecimalSpec) false w args)
      (Rows.fnExactReadDecimalSpec.post enc Tryd.prog Tryd.f4 false true false false) := by
  refine returnsInHanded_of_change_and (C := Tryd.checked) (X := fun w _ => laidMetH Tryd.prog Rows.fnExactReadDecimalRow.laid w) (fun _ _ _ hh h => h.of_heap hh) own started (by kernel_rfl) Tryd.func4
    (ChangeSpec.witness_shaped (enc := enc) (C := Tryd.checked) (os := os) (X := fun w _ => laidMetH Tryd.prog Rows.fnExactReadDecimalRow.laid w) false (World.doorLaid Tryd.prog 105 os) #[.string ByteArray.empty] 8 rfl (World.shaped_of_RefB (by kernel_rfl) (by kernel_rfl)) (by kernel_rfl) (by kernel_rfl) (by kernel_rfl) (door_met os _)) ?_
  intro W base args ds gs before hval0 hW _ _ hL _
  have hval : ∀ (j : Nat) t v, Tryd.f4.params[j]? = some t → args[j]? = some v → Value.okWide Tryd.prog W .any base t v := hval0
  have hW' := hW
  obtain ⟨p, q, hA0, hV, rfl, hfz, hnd⟩ := hW
  have hA : DataW.TrodAll enc Tryd.prog W 0 (fun _ => true) true Tryd.f4.params.toList args.toList ds p := hA0
  rw [Tryd.params4] at hA hval
  obtain ⟨v0, d0, rfl, rfl, h0⟩ := trodAll_one hA
  obtain ⟨rfl, rfl⟩ := trodVars_none hV
  obtain ⟨a0, rfl, rfl, rfl, y0⟩ := open_string Tryd.underlying9 (hval 0 9 v0 rfl rfl) h0
  have hv := laid_of hL
  clear hA0 hval0 hL
  refine (law_calls a0 W hv).mono fun e W' ⟨he, bel⟩ => ?_
  subst he
  exact ⟨_, rfl, _, _, _, [], _, [], hW', trodAll_mk1 (shut_bool Tryd.underlying4 _), trodAll_mk1 (shut_string Tryd.underlying9 y0), rfl, bel.frame _, fun h => by cases h⟩
theorem over : Rows.FnExactReadDecimalSaid :=
  OpenClaim.holds_of_wide 4 Tryd.f4 rfl rfl rfl rfl rfl rfl rfl ⟨rfl, rfl, rfl, rfl, rfl⟩ rfl rfl rfl rfl rfl (by kernel_rfl) Tryd.func4 (by kernel_rfl)
    (of_decide_eq_true (by kernel_rfl)) (by unfold Func.isWrapper; first | (rw [if_pos (by decide +kernel)]; kernel_rfl) | (rw [if_neg (by decide +kernel)]; exact ⟨rfl, rfl⟩))
    (fun os started H enc _ => lifted os started H enc)
theorem card : Rows.FnExactReadDecimalCardSaid :=
  Claim7.holds_tied_plain_at .later [] [.data, .data, .data, .sentinel, .sentinel] true (true, "073fc4ebdcedeb51fa8953e0d8fccff8e889b13b224c81254eca9d33eb5e2553") true
    over (fun _ h => by cases h) (by kernel_rfl) (fun _ h => by cases h) fnExactReadDecimal_row_tie rfl ⟨rfl, rfl⟩ (by kernel_rfl) rfl
    (fun f fn hf hfn => by
      obtain rfl : f = 4 := Option.some.inj ((show Tryd.prog.funcNamed "loop.example/g00969/laws.FnExactReadDecimal" = some 4 by kernel_rfl).symm.trans hf) |>.symm
      obtain rfl : fn = Tryd.f4 := (Option.some.inj (Tryd.func4.symm.trans hfn)).symm
      exact ⟨by kernel_rfl, fun j t ht => by
        rw [Tryd.params4] at ht
        have h3 : t = 9 := by
          rcases j with _ | j
          · simpa using ht.symm
          · simp at ht
        subst h3
        exact (show Tryd.prog.wantsStandIn 9 = false by kernel_rfl)⟩)
    (by kernel_rfl)
#print axioms card
end Go.Proofs.YtmlleefmkmelmaaDoor.fnExactReadDecimal
namespace Go.Proofs.YtmlleefmkmelmaaDoor
/-- The card, under a short name, for the claim. -/
theorem fnExactReadDecimal_card : Rows.FnExactReadDecimalCardSaid := fnExactReadDecimal.card
end Go.Proofs.YtmlleefmkmelmaaDoor
