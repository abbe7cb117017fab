-- Written for this claim; Lean checks it. The door: FnExactDecimal (spec.Decimal against strconv.Itoa).
import Derived.Test.YtmlleefmkmelmaaDoorTie
import Derived.Test.YtmlleefmkmelmaaDoorCards
import Derived.Test.YtmlleefmkmelmaaDoorMFnExactDecimalx1
import Derived.Test.YtmlleefmkmelmaaDoorLibItoa
import Derived.WalkKit
import Derived.ProofKit
import Derived.OpenShut
import Derived.Below
import Derived.LaidMore
import Derived.LaidHandle
import Derived.MakeChecks
import Derived.Stop.LaidErr
import Derived.Stop.Joined
import Derived.Lib.LaidTab
import Derived.Lib.SmallJoins
import Derived.Lib.AppendIntMem
import Derived.Lib.ItoaNum
import Derived.Stop.FmtTextKit
import Derived.SevenTiedAt
namespace Go.Proofs.YtmlleefmkmelmaaDoor.fnExactDecimal
open Go.ChangeShapes Go.WideShapes Go.ChangeAt Go.RowKit
open Go.Proofs.YtmlleefmkmelmaaDoor.PFnExactDecimal Go.Proofs.YtmlleefmkmelmaaDoorW.PrintWords
set_option linter.unusedVariables false
/-! ### The plain law -/
theorem app_list (a b : List UInt8) : (⟨a.toArray⟩ : ByteArray) ++ ⟨b.toArray⟩ = ⟨(a ++ b).toArray⟩ := by
  apply ByteArray.ext
  simp
theorem figure_dec : ∀ d, d < 10 → spec_l01Figure.f ((d : Nat) : Int) = some ((48 + d : Nat) : Int) := by decide +kernel
theorem str_dec : ∀ d, d < 10 → strOfNums [((48 + d : Nat) : Int)] = (⟨[UInt8.ofNat (48 + d)].toArray⟩ : ByteArray) := by
  intro d hd
  have : strOfNums [((48 + d : Nat) : Int)] = (⟨[UInt8.ofNat (((48 + d : Nat) : Int)).toNat].toArray⟩ : ByteArray) := rfl
  rw [this, Int.toNat_natCast]
def digs (m : Nat) : List UInt8 := if m = 0 then [] else Lib.decDigits m
theorem digs_step (m : Nat) (h : m ≠ 0) : digs m = digs (m / 10) ++ [UInt8.ofNat (48 + m % 10)] := by
  unfold digs
  rw [if_neg h, Lib.decDigits]
  by_cases c : m < 10
  · rw [dif_pos c, if_pos (by omega), Nat.mod_eq_of_lt c]; rfl
  · rw [dif_neg c, if_neg (by omega)]
def sgn (neg : Bool) (m : Nat) : Int := if neg then -(m : Int) else (m : Int)
def pre (neg : Bool) : List UInt8 := if neg then [45] else []
theorem tmod_sgn (neg : Bool) (m : Nat) : Int.tmod (sgn neg m) 10 = sgn neg (m % 10) := by
  cases neg
  · show Int.tmod (m : Int) 10 = ((m % 10 : Nat) : Int)
    rw [Int.tmod_eq_emod_of_nonneg (by omega)]; omega
  · show Int.tmod (-(m : Int)) 10 = -((m % 10 : Nat) : Int)
    rw [Int.neg_tmod, Int.tmod_eq_emod_of_nonneg (by omega)]; omega
theorem tdiv_sgn (neg : Bool) (m : Nat) : Int.tdiv (sgn neg m) 10 = sgn neg (m / 10) := by
  cases neg
  · show Int.tdiv (m : Int) 10 = ((m / 10 : Nat) : Int)
    rw [Int.tdiv_eq_ediv_of_nonneg (by omega)]; omega
  · show Int.tdiv (-(m : Int)) 10 = -((m / 10 : Nat) : Int)
    rw [Int.neg_tdiv, Int.tdiv_eq_ediv_of_nonneg (by omega)]; omega
theorem sgn_zero (neg : Bool) : sgn neg 0 = 0 := by cases neg <;> rfl
theorem wrap_of {x : Int} (h0 : -9223372036854775808 ≤ x) (h1 : x ≤ 9223372036854775807) : wrap64 x = x := by
  unfold wrap64; omega
theorem dec_loop (neg : Bool) (m : Nat) : ∀ (k : Nat) (s : List UInt8), m < k → m ≤ 9223372036854775808 → (s.length = 0 ∨ s.length + m ≤ 9223372036854775000) →
    spec_Decimal.l0 k (sgn neg m) neg ⟨s.toArray⟩ = some ⟨(pre neg ++ digs m ++ s).toArray⟩ := by
  induction m using Nat.strongRecOn with
  | _ m ih =>
    intro k s hk hm hs
    obtain ⟨k, rfl⟩ : ∃ q, k = q + 1 := ⟨k - 1, by omega⟩
    have hsz : (⟨s.toArray⟩ : ByteArray).size = s.length := rfl
    simp only [spec_Decimal.l0]
    by_cases c : m = 0
    · subst c
      rw [sgn_zero, if_pos rfl]
      cases neg
      · rw [if_neg (by decide)]; rfl
      · rw [if_pos rfl, if_pos (by rw [hsz]; omega)]
        exact congrArg some (app_list [45] s)
    · have hne : ¬ sgn neg m = 0 := by cases neg <;> simp [sgn] <;> omega
      rw [if_neg hne, tmod_sgn, tdiv_sgn]
      have hd : m % 10 < 10 := Nat.mod_lt _ (by decide)
      have hw : wrap64 (sgn neg (m / 10)) = sgn neg (m / 10) := wrap_of (by cases neg <;> simp [sgn] <;> omega) (by cases neg <;> simp [sgn] <;> omega)
      have e := ih (m / 10) (by omega) k (UInt8.ofNat (48 + m % 10) :: s) (by omega) (by omega) (.inr (by simp; omega))
      have hap : strOfNums [((48 + m % 10 : Nat) : Int)] ++ (⟨s.toArray⟩ : ByteArray) = ⟨(UInt8.ofNat (48 + m % 10) :: s).toArray⟩ := by rw [str_dec _ hd, app_list]; rfl
      have hz1 : (strOfNums [((48 + m % 10 : Nat) : Int)]).size = 1 := by rw [str_dec _ hd]; rfl
      have hfin : pre neg ++ digs (m / 10) ++ (UInt8.ofNat (48 + m % 10) :: s) = pre neg ++ digs m ++ s := by
        rw [digs_step m c]; simp
      rw [hw]
      rw [hfin] at e
      by_cases c2 : sgn neg (m % 10) < 0
      · have hn : wrap64 (-(sgn neg (m % 10))) = ((m % 10 : Nat) : Int) := by
          have h_ : -(sgn neg (m % 10)) = ((m % 10 : Nat) : Int) := by cases neg <;> simp [sgn] at c2 ⊢ <;> omega
          rw [h_]; exact wrap_of (by omega) (by omega)
        rw [if_pos c2, hn, figure_dec _ hd]
        simp only [Option.bind_some]
        rw [if_pos (by rw [hz1, hsz]; omega), hap]
        exact e
      · have hn : sgn neg (m % 10) = ((m % 10 : Nat) : Int) := by
          cases neg
          · rfl
          · simp [sgn] at c2 ⊢; omega
        rw [if_neg c2, hn, figure_dec _ hd]
        simp only [Option.bind_some]
        rw [if_pos (by rw [hz1, hsz]; omega), hap]
        exact e
theorem spec_dec (n : Int) (h0 : -9223372036854775808 ≤ n) (h1 : n ≤ 9223372036854775807) : spec_Decimal.f (n.natAbs + 1) n = some ⟨(Lib.itoa n).toArray⟩ := by
  unfold spec_Decimal.f
  by_cases c : n = 0
  · subst c
    rw [if_pos rfl]
    have : Lib.itoa 0 = [48] := by unfold Lib.itoa; rw [if_neg (by decide), Lib.decDigits]; rfl
    rw [this]
  · rw [if_neg c]
    have e := dec_loop (decide (n < 0)) n.natAbs (n.natAbs + 1) [] (by omega) (by omega) (.inl rfl)
    have es : sgn (decide (n < 0)) n.natAbs = n := by
      unfold sgn
      by_cases c2 : n < 0
      · rw [if_pos (by simpa using c2)]; omega
      · rw [if_neg (by simpa using c2)]; omega
    rw [es] at e
    refine e.trans ?_
    congr 2
    unfold digs Lib.itoa pre
    rw [if_neg (show ¬ n.natAbs = 0 by omega)]
    by_cases c2 : n < 0
    · rw [if_pos c2, if_pos (by simpa using c2)]; simp
    · rw [if_neg c2, if_neg (by simpa using c2), show n.toNat = n.natAbs by omega]; simp
/-! ### The walk -/
theorem gPow : Tryd.prog.globalNamed "internal/strconv.uint64pow10" = some 5 := by kernel_rfl
theorem dec_calls (n : Int) (h0 : -9223372036854775808 ≤ n) (h1 : n ≤ 9223372036854775807) (w : World) (htab : Lib.TabIs Tryd.prog w "internal/strconv.uint64pow10" .u64 Lib.pow10Tab) :
    Calls Tryd.prog 13 #[.int .i64 n] w fun e w' => e = .returned (.string ⟨(Lib.itoa n).toArray⟩) ∧ Below w.heap.size w w' := by
  go_enter Tryd.func13, Tryd.ntmps13
  go_wp2_with (go_at_call 29; refine (Tryd.strconv_Itoa n h0 h1 _ htab).mono ?_; rintro e w' ⟨rfl, k, os, rfl⟩)
  go_ret
  exact ⟨rfl, Lib.below_grow _ _ (Nat.le_refl _) _ _⟩
theorem law_calls (n : Int) (h0 : -9223372036854775808 ≤ n) (h1 : n ≤ 9223372036854775807) (w : World) (htab : Lib.TabIs Tryd.prog w "internal/strconv.uint64pow10" .u64 Lib.pow10Tab) :
    Calls Tryd.prog 5 #[.int .i64 n] w fun e w' => e = .returned (.bool true) ∧ Below w.heap.size w w' := by
  have C1 := Aside0.mk (spec_Decimal.calls (n.natAbs + 1) n _ w (spec_dec n h0 h1))
  have HT := Aside0.mk htab
  have HN := Aside0.mk (And.intro h0 h1)
  have HB := Aside0.mk (Below.refl w.heap.size w)
  clear htab h0 h1
  go_enter Tryd.func5, Tryd.ntmps5
  go_wp2_with (first | (go_at_call 12; refine C1.out.mono ?_; rintro e w1 ⟨rfl, hb⟩; have HB1 := Aside0.mk hb; clear hb) | (go_at_call 13; refine (dec_calls n HN.out.1 HN.out.2 _ (Go.Joins.tab_stays gPow HT.out HB1.out (Nat.le_refl _))).mono ?_; rintro e w2 ⟨rfl, hb⟩; have HB2 := Aside0.mk (below_step HB1.out hb); clear hb))
  go_ret
  exact ⟨rfl, HB2.out⟩
/-! ### The row and the card -/
theorem own : ownKnob Tryd.prog.godebug = none := by kernel_rfl
theorem door_met (os : Os) (args : Array Value) : laidMetH Tryd.prog Rows.fnExactDecimalRow.laid ((World.doorLaid Tryd.prog 105 os).forCall (fun _ _ => 0) ⟨#[], args, []⟩).memory :=
  laidMetH_of_parts3 (fuel := 8) (laidMet_of_run' 8 (by kernel_rfl) (by kernel_rfl)) (by kernel_rfl) (by kernel_rfl)
theorem tab_of {W : World} (h : laidMetH Tryd.prog Rows.fnExactDecimalRow.laid W) : Lib.TabIs Tryd.prog W "internal/strconv.uint64pow10" .u64 Lib.pow10Tab := by
  rw [MakeChecks.laidMetH_plain _ _ _ (by kernel_rfl)] at h
  have h2 : laidMet Tryd.prog (("internal/strconv.uint64pow10", Lib.tabData .u64 Lib.pow10Tab) :: []) W := laidMet.tail (laidMet.tail h)
  exact Lib.tabIs_of_head gPow (show (Tryd.prog.globals[5]?).map (·.type) = some 107 by kernel_rfl) Tryd.underlying107 (show Tryd.prog.underlying 78 = some (.int .u64) from Tryd.underlying78) (by kernel_rfl) (by kernel_rfl) h2
set_option maxRecDepth 100000 in
theorem lifted (os : Os) (started : os.Started) (H : Type) (enc : TypeId × Value → H) :
    ReturnsInHanded {} Tryd.checked os 5 .any (fun w args => (Rows.fnExactDecimalSpec.pre enc Tryd.prog Tryd.f5 [] false w args ∧ laidMetH Tryd.prog Rows.fnExactDecimalRow.laid w) ∧ sizedMet enc Tryd.prog Tryd.f5 (OpenSpec.ofChange Rows.fnExactDecimalSpec) false w args)
      (Rows.fnExactDecimalSpec.post enc Tryd.prog Tryd.f5 false true false false) := by
  refine returnsInHanded_of_change_and (C := Tryd.checked) (X := fun w _ => laidMetH Tryd.prog Rows.fnExactDecimalRow.laid w) (fun _ _ _ hh h => h.of_heap hh) own started (by kernel_rfl) Tryd.func5
    (ChangeSpec.witness_shaped (enc := enc) (C := Tryd.checked) (os := os) (X := fun w _ => laidMetH Tryd.prog Rows.fnExactDecimalRow.laid w) false (World.doorLaid Tryd.prog 105 os) #[.int .i64 0] 8 rfl (World.shaped_of_RefB (by kernel_rfl) (by kernel_rfl)) (by kernel_rfl) (by kernel_rfl) (by kernel_rfl) (door_met os _)) ?_
  intro W base args ds gs before hval0 hW _ _ hL _
  have hval : ∀ (j : Nat) t v, Tryd.f5.params[j]? = some t → args[j]? = some v → Value.okWide Tryd.prog W .any base t v := hval0
  have hW' := hW
  obtain ⟨p, q, hA0, hV, rfl, hfz, hnd⟩ := hW
  have hA : DataW.TrodAll enc Tryd.prog W 0 (fun _ => true) true Tryd.f5.params.toList args.toList ds p := hA0
  rw [Tryd.params5] at hA hval
  obtain ⟨v0, d0, rfl, rfl, h0⟩ := trodAll_one hA
  obtain ⟨rfl, rfl⟩ := trodVars_none hV
  obtain ⟨n, rfl, rfl, rfl, wn⟩ := open_int Tryd.underlying3 (hval 0 3 v0 rfl rfl) h0
  have htab := tab_of hL
  obtain ⟨n0, n1⟩ : -9223372036854775808 ≤ n ∧ n ≤ 9223372036854775807 := by
    have := Go.Extern.FmtText.int_bounds wn
    simpa [IntKind.min, IntKind.max, IntKind.signed, IntKind.bits] using this
  clear hA0 hval0 hL
  refine (law_calls n n0 n1 W htab).mono fun e W' ⟨he, bel⟩ => ?_
  subst he
  exact ⟨_, rfl, _, _, _, [], _, [], hW', trodAll_mk1 (shut_bool Tryd.underlying4 _), trodAll_mk1 (shut_int Tryd.underlying3 wn), rfl, bel.frame _, fun h => by cases h⟩
theorem over : Rows.FnExactDecimalSaid :=
  OpenClaim.holds_of_wide 5 Tryd.f5 rfl rfl rfl rfl rfl rfl rfl ⟨rfl, rfl, rfl, rfl, rfl⟩ rfl rfl rfl rfl rfl (by kernel_rfl) Tryd.func5 (by kernel_rfl)
    (of_decide_eq_true (by kernel_rfl)) (by unfold Func.isWrapper; first | (rw [if_pos (by decide +kernel)]; kernel_rfl) | (rw [if_neg (by decide +kernel)]; exact ⟨rfl, rfl⟩))
    (fun os started H enc _ => lifted os started H enc)
theorem card : Rows.FnExactDecimalCardSaid :=
  Claim7.holds_tied_plain_at .later [] [.data, .data, .data] true (true, "073fc4ebdcedeb51fa8953e0d8fccff8e889b13b224c81254eca9d33eb5e2553") true
    over (fun _ h => by cases h) (by kernel_rfl) (fun _ h => by cases h) fnExactDecimal_row_tie rfl ⟨rfl, rfl⟩ (by kernel_rfl) rfl
    (fun f fn hf hfn => by
      obtain rfl : f = 5 := Option.some.inj ((show Tryd.prog.funcNamed "loop.example/g00969/laws.FnExactDecimal" = some 5 by kernel_rfl).symm.trans hf) |>.symm
      obtain rfl : fn = Tryd.f5 := (Option.some.inj (Tryd.func5.symm.trans hfn)).symm
      exact ⟨by kernel_rfl, fun j t ht => by
        rw [Tryd.params5] at ht
        have h3 : t = 3 := by
          rcases j with _ | j
          · simpa using ht.symm
          · simp at ht
        subst h3
        exact (show Tryd.prog.wantsStandIn 3 = false by kernel_rfl)⟩)
    (by kernel_rfl)
#print axioms card
end Go.Proofs.YtmlleefmkmelmaaDoor.fnExactDecimal
namespace Go.Proofs.YtmlleefmkmelmaaDoor
/-- The card, under a short name, for the claim. -/
theorem fnExactDecimal_card : Rows.FnExactDecimalCardSaid := fnExactDecimal.card
end Go.Proofs.YtmlleefmkmelmaaDoor
