-- Written by a program of this session for this claim; Lean checks it.
import Derived.Test.YtmlleefmkmelmaaDoorMFnExactReadDecimalx0
namespace Go.Proofs.YtmlleefmkmelmaaDoor.PFnExactReadDecimal
open Go.RowKit Go.Proofs.YtmlleefmkmelmaaDoorW.PrintWords Go.Proofs.YtmlleefmkmelmaaDoorW.PrintLast Go.Proofs.YtmlleefmkmelmaaDoorW.PrintMore
attribute [local go_sem] max2_int min2_int max_two min_two max_three min_three max_four min_four   -- for this text's walks alone
set_option linter.unusedVariables false
set_option linter.unusedSimpArgs false

-- NOT PRINTED: function 51 (strconv_ParseUint)

-- NOT PRINTED: function 44 (strconv_ParseInt)

-- NOT PRINTED: function 38 (strconv_Atoi_38)

-- NOT PRINTED: function 52 (stringslite_Clone)

-- NOT PRINTED: function 45 (strconv_syntaxError)

-- NOT PRINTED: function 46 (strconv_rangeError)

-- NOT PRINTED: function 53 (errors_New)

-- NOT PRINTED: function 47 (strconv_baseError)

-- NOT PRINTED: function 48 (strconv_bitSizeError)

-- NOT PRINTED: function 39 (strconv_toError)

-- NOT PRINTED: function 26 (strconv_Atoi_26)

/-! ### impl_within: function 27 -/
def impl_within.f (a0 : Int) (a1 : Int) (a2 : Int) : Option (Bool) := if a0 ≥ a1 then (some (decide (a0 ≤ a2))) else (some false)
set_option maxHeartbeats 8000000 in
set_option maxRecDepth 100000 in
theorem impl_within.calls (a0 : Int) (a1 : Int) (a2 : Int) (r : Bool) (w : World) (h : impl_within.f a0 a1 a2 = some r) :
    Calls Tryd.prog 27 #[.int .i64 a0, .int .i64 a1, .int .i64 a2] w fun e w' => e = .returned (.bool r) ∧ Drawn0 w w' := by
  have H : (if a0 ≥ a1 then (some (decide (a0 ≤ a2))) else (some false)) = some r := h
  clear h
  by_cases c4 : a0 ≥ a1
  · rw [if_pos c4] at H
    have c4b0 : decide (a1 ≤ a0) = true := decide_eq_true c4
    clear c4
    obtain rfl := Option.some.inj H
    go_enter Tryd.func27, Tryd.ntmps27
    go_wp2
    go_ret
    exact ⟨by first | rfl | (simp; done) | (simp [*]; done), by repeat (first | exact Drawn0.refl _ | apply Drawn0.step)⟩
  · rw [if_neg c4] at H
    have c4b0 : decide (a1 ≤ a0) = false := decide_eq_false c4
    clear c4
    obtain rfl := Option.some.inj H
    go_enter Tryd.func27, Tryd.ntmps27
    go_wp2
    go_ret
    exact ⟨by first | rfl | (simp; done) | (simp [*]; done), by repeat (first | exact Drawn0.refl _ | apply Drawn0.step)⟩

-- NOT PRINTED: function 11 (impl_ReadDecimal)

-- NOT PRINTED: function 4 (laws_FnExactReadDecimal)

end Go.Proofs.YtmlleefmkmelmaaDoor.PFnExactReadDecimal
