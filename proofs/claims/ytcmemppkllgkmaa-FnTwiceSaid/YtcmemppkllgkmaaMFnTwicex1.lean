-- Written by a program of this session for this claim; Lean checks it.
import Derived.Test.YtcmemppkllgkmaaMFnTwicex0
namespace Go.Proofs.Ytcmemppkllgkmaa.PFnTwice
open Go.RowKit Go.Proofs.YtcmemppkllgkmaaW.PrintWords Go.Proofs.YtcmemppkllgkmaaW.PrintLast Go.Proofs.YtcmemppkllgkmaaW.PrintMore
attribute [local go_sem] max2_int min2_int max_two min_two max_three min_three max_four min_four   -- for this text's walks alone
set_option linter.unusedVariables false
set_option linter.unusedSimpArgs false

/-! ### spec_SealedTwice: function 8 -/
mutual
def spec_SealedTwice.l0 : Nat → List (S38) → Int → Option (Bool)
  | 0, _, _ => none
  | k + 1, x0, x3 => if x3 < (x0.length : Int) then (spec_SealedTwice.l1 k x0 x3 0) else (some false)
def spec_SealedTwice.l1 : Nat → List (S38) → Int → Int → Option (Bool)
  | 0, _, _, _ => none
  | k + 1, x0, x3, x4 => if x4 < x3 then (if 0 ≤ x3 then (if x3 < (x0.length : Int) then (if 0 ≤ x4 then (if x4 < (x0.length : Int) then (if ((rd_T38 x0 x3).f0).toList = ((rd_T38 x0 x4).f0).toList then (if ((rd_T38 x0 x3).f1).toList = ((rd_T38 x0 x4).f1).toList then (if ((rd_T38 x0 x3).f2).toList = ((rd_T38 x0 x4).f2).toList then (spec_SealedTwice.l1 k x0 x3 (wrap64 (x4 + 1))) else (some true)) else (spec_SealedTwice.l1 k x0 x3 (wrap64 (x4 + 1)))) else (spec_SealedTwice.l1 k x0 x3 (wrap64 (x4 + 1)))) else (none)) else (none)) else (none)) else (none)) else (spec_SealedTwice.l0 k x0 (wrap64 (x3 + 1)))
end
def spec_SealedTwice.f (k : Nat) (l0 : List (S38)) : Option (Bool) := spec_SealedTwice.l0 k l0 0
theorem spec_SealedTwice.mono_l : ∀ k, (∀ y0 y1, LeO (spec_SealedTwice.l0 k y0 y1) (spec_SealedTwice.l0 (k + 1) y0 y1)) ∧ (∀ y0 y1 y2, LeO (spec_SealedTwice.l1 k y0 y1 y2) (spec_SealedTwice.l1 (k + 1) y0 y1 y2))
  | 0 => ⟨fun _ _ r h => by simp [spec_SealedTwice.l0] at h, fun _ _ _ r h => by simp [spec_SealedTwice.l1] at h⟩
  | k + 1 => by
    obtain ⟨ih0, ih1⟩ := spec_SealedTwice.mono_l k
    refine ⟨?_, ?_⟩
    · intro y0 y1
      unfold spec_SealedTwice.l0
      repeat' first
      | (with_reducible exact ih0 _ _)
      | (with_reducible exact ih1 _ _ _)
      | (with_reducible exact LeO.refl _)
      | (with_reducible exact LeO.none _)
      | (with_reducible refine LeO.ite ?_ ?_)
      | (with_reducible refine LeO.bind ?_ (fun _ => ?_))
      | exact ih0 _ _
      | exact ih1 _ _ _
      | exact LeO.none _
      | refine LeO.ite ?_ ?_
      | refine LeO.bind ?_ (fun _ => ?_)
    · intro y0 y1 y2
      unfold spec_SealedTwice.l1
      repeat' first
      | (with_reducible exact ih0 _ _)
      | (with_reducible exact ih1 _ _ _)
      | (with_reducible exact LeO.refl _)
      | (with_reducible exact LeO.none _)
      | (with_reducible refine LeO.ite ?_ ?_)
      | (with_reducible refine LeO.bind ?_ (fun _ => ?_))
      | exact ih0 _ _
      | exact ih1 _ _ _
      | exact LeO.none _
      | refine LeO.ite ?_ ?_
      | refine LeO.bind ?_ (fun _ => ?_)
theorem spec_SealedTwice.mono : ∀ a0 k, LeO (spec_SealedTwice.f k a0) (spec_SealedTwice.f (k + 1) a0) := by
  intro a0 k
  obtain ⟨ih0, ih1⟩ := spec_SealedTwice.mono_l k
  unfold spec_SealedTwice.f
  repeat' first
      | (with_reducible exact ih0 _ _)
      | (with_reducible exact ih1 _ _ _)
      | (with_reducible exact LeO.refl _)
      | (with_reducible exact LeO.none _)
      | (with_reducible refine LeO.ite ?_ ?_)
      | (with_reducible refine LeO.bind ?_ (fun _ => ?_))
      | exact ih0 _ _
      | exact ih1 _ _ _
      | exact LeO.none _
      | refine LeO.ite ?_ ?_
      | refine LeO.bind ?_ (fun _ => ?_)
set_option maxHeartbeats 8000000 in
set_option maxRecDepth 100000 in
theorem spec_SealedTwice.calls (k : Nat) (A0 : Option Addr) (c0 : Nat) (l0 : List (S38)) (r : Bool) (w : World) (hr0 : Kd.C k38 w A0 l0.length l0) (hc0 : l0.length ≤ c0) (h : spec_SealedTwice.f k l0 = some r) :
    Calls Try.prog 8 #[.slice A0 l0.length c0] w fun e w' => e = .returned (.bool r) ∧ Drawn0 w w' := by
  have HR0 := Aside0.mk hr0
  have HC0 := Aside0.mk hc0
  clear hr0 hc0
  have H : (spec_SealedTwice.l0 k l0 0) = some r := h
  clear h
  have H' := Aside0.mk H
  clear H
  go_enter Try.func8, Try.ntmps8
  go_wp2
  repeat (go_quiet (fail); try go_wp2)
  go_loopg [3] k (fun kq v3 w' => ∃ (x3_1 : Int), v3 = .int .i64 x3_1 ∧ Aside0 (spec_SealedTwice.l0 kq l0 x3_1 = some r) ∧ Aside0 (kq ≤ k) ∧ Drawn0 w w')
  case atStart => exact ⟨(0), (by first | rfl | (simp; done) | (simp [*]; done)), H', ⟨Nat.le_refl _⟩, by repeat (first | exact Drawn0.refl _ | apply Drawn0.step)⟩
  case round =>
    clear H'
    obtain ⟨x3_1, rfl, HA, HK1, ⟨m1, rfl⟩⟩ := hrel
    cases gk with
    | zero => exact absurd HA.out (by simp [spec_SealedTwice.l0])
    | succ k1 =>
      have H := HA.out
      clear HA
      simp only [spec_SealedTwice.l0] at H
      by_cases c2 : x3_1 < (l0.length : Int)
      · rw [if_pos c2] at H
        have c2b0 : decide (x3_1 < (l0.length : Int)) = true := decide_eq_true c2
        clear c2
        have H' := Aside0.mk H
        clear H
        go_wp2
        repeat (go_quiet (fail); try go_wp2)
        go_loopg [4] k1 (fun kq v4 w' => ∃ (x4_2 : Int), v4 = .int .i64 x4_2 ∧ Aside0 (spec_SealedTwice.l1 kq l0 x3_1 x4_2 = some r) ∧ Aside0 (kq ≤ k1) ∧ Drawn0 w w')
        case atStart => exact ⟨(0), (by first | rfl | (simp; done) | (simp [*]; done)), H', ⟨Nat.le_refl _⟩, by repeat (first | exact Drawn0.refl _ | apply Drawn0.step)⟩
        case round =>
          clear H'
          try clear c2
          try clear c2b0
          try clear p2
          obtain ⟨x4_2, rfl, HA, HK2, ⟨m2, rfl⟩⟩ := hrel
          cases gk with
          | zero => exact absurd HA.out (by simp [spec_SealedTwice.l1])
          | succ k2 =>
            have H := HA.out
            clear HA
            simp only [spec_SealedTwice.l1] at H
            by_cases c3 : x4_2 < x3_1
            · rw [if_pos c3] at H
              have c3b0 : decide (x4_2 < x3_1) = true := decide_eq_true c3
              clear c3
              by_cases c4 : 0 ≤ x3_1
              · rw [if_pos c4] at H
                have c4b0 : decide (0 ≤ x3_1) = true := decide_eq_true c4
                clear c4
                by_cases c5 : x3_1 < (l0.length : Int)
                · rw [if_pos c5] at H
                  have c5b0 : decide (x3_1 < (l0.length : Int)) = true := decide_eq_true c5
                  clear c5
                  by_cases c6 : 0 ≤ x4_2
                  · rw [if_pos c6] at H
                    have c6b0 : decide (0 ≤ x4_2) = true := decide_eq_true c6
                    clear c6
                    by_cases c7 : x4_2 < (l0.length : Int)
                    · rw [if_pos c7] at H
                      have c7b0 : decide (x4_2 < (l0.length : Int)) = true := decide_eq_true c7
                      clear c7
                      by_cases c8 : ((rd_T38 l0 x3_1).f0).toList = ((rd_T38 l0 x4_2).f0).toList
                      · rw [if_pos c8] at H
                        have c8b0 : (((rd_T38 l0 x3_1).f0).toList == ((rd_T38 l0 x4_2).f0).toList) = true := beq_iff_eq.mpr c8
                        have c8b1 : (((rd_T38 l0 x3_1).f0).toList != ((rd_T38 l0 x4_2).f0).toList) = false := bne_eq_false_iff_eq.mpr c8
                        clear c8
                        by_cases c9 : ((rd_T38 l0 x3_1).f1).toList = ((rd_T38 l0 x4_2).f1).toList
                        · rw [if_pos c9] at H
                          have c9b0 : (((rd_T38 l0 x3_1).f1).toList == ((rd_T38 l0 x4_2).f1).toList) = true := beq_iff_eq.mpr c9
                          have c9b1 : (((rd_T38 l0 x3_1).f1).toList != ((rd_T38 l0 x4_2).f1).toList) = false := bne_eq_false_iff_eq.mpr c9
                          clear c9
                          by_cases c10 : ((rd_T38 l0 x3_1).f2).toList = ((rd_T38 l0 x4_2).f2).toList
                          · rw [if_pos c10] at H
                            have c10b0 : (((rd_T38 l0 x3_1).f2).toList == ((rd_T38 l0 x4_2).f2).toList) = true := beq_iff_eq.mpr c10
                            have c10b1 : (((rd_T38 l0 x3_1).f2).toList != ((rd_T38 l0 x4_2).f2).toList) = false := bne_eq_false_iff_eq.mpr c10
                            clear c10
                            have H' := Aside0.mk H
                            clear H
                            have p101 : 0 ≤ (x3_1 : Int) := of_decide_eq_true (by first | (with_reducible assumption) | assumption)
                            have q101 : x3_1 < (l0.length : Int) := of_decide_eq_true (by first | (with_reducible assumption) | assumption)
                            obtain ⟨ad101, e101, hx101_0, hx101_1, hx101_2⟩ := at_T38 HR0.out x3_1 p101 q101
                            cases e101
                            replace p101 := eq_true p101
                            replace q101 := eq_true q101
                            have p102 : 0 ≤ (x4_2 : Int) := of_decide_eq_true (by first | (with_reducible assumption) | assumption)
                            have q102 : x4_2 < (l0.length : Int) := of_decide_eq_true (by first | (with_reducible assumption) | assumption)
                            obtain ⟨ad102, e102, hx102_0, hx102_1, hx102_2⟩ := at_T38 HR0.out x4_2 p102 q102
                            obtain rfl : ad101 = ad102 := (by injection e102)
                            replace p102 := eq_true p102
                            replace q102 := eq_true q102
                            have p103 : 0 ≤ (x3_1 : Int) := of_decide_eq_true (by first | (with_reducible assumption) | assumption)
                            have q103 : x3_1 < (l0.length : Int) := of_decide_eq_true (by first | (with_reducible assumption) | assumption)
                            obtain ⟨ad103, e103, hx103_0, hx103_1, hx103_2⟩ := at_T38 HR0.out x3_1 p103 q103
                            obtain rfl : ad101 = ad103 := (by injection e103)
                            replace p103 := eq_true p103
                            replace q103 := eq_true q103
                            have p104 : 0 ≤ (x4_2 : Int) := of_decide_eq_true (by first | (with_reducible assumption) | assumption)
                            have q104 : x4_2 < (l0.length : Int) := of_decide_eq_true (by first | (with_reducible assumption) | assumption)
                            obtain ⟨ad104, e104, hx104_0, hx104_1, hx104_2⟩ := at_T38 HR0.out x4_2 p104 q104
                            obtain rfl : ad101 = ad104 := (by injection e104)
                            replace p104 := eq_true p104
                            replace q104 := eq_true q104
                            have p105 : 0 ≤ (x3_1 : Int) := of_decide_eq_true (by first | (with_reducible assumption) | assumption)
                            have q105 : x3_1 < (l0.length : Int) := of_decide_eq_true (by first | (with_reducible assumption) | assumption)
                            obtain ⟨ad105, e105, hx105_0, hx105_1, hx105_2⟩ := at_T38 HR0.out x3_1 p105 q105
                            obtain rfl : ad101 = ad105 := (by injection e105)
                            replace p105 := eq_true p105
                            replace q105 := eq_true q105
                            have p106 : 0 ≤ (x4_2 : Int) := of_decide_eq_true (by first | (with_reducible assumption) | assumption)
                            have q106 : x4_2 < (l0.length : Int) := of_decide_eq_true (by first | (with_reducible assumption) | assumption)
                            obtain ⟨ad106, e106, hx106_0, hx106_1, hx106_2⟩ := at_T38 HR0.out x4_2 p106 q106
                            obtain rfl : ad101 = ad106 := (by injection e106)
                            replace p106 := eq_true p106
                            replace q106 := eq_true q106
                            go_wp2
                            repeat (go_quiet (fail); try go_wp2)
                            go_roundg k2
                            case measure => have := HK1.out; have := HK2.out; omega
                            case rel => exact ⟨(wrap64 (x4_2 + 1)), (by first | rfl | (simp; done) | (simp [*]; done)), H', ⟨by have := HK1.out; have := HK2.out; omega⟩, by repeat (first | exact Drawn0.refl _ | apply Drawn0.step)⟩
                          · rw [if_neg c10] at H
                            have c10b0 : (((rd_T38 l0 x3_1).f2).toList == ((rd_T38 l0 x4_2).f2).toList) = false := beq_eq_false_iff_ne.mpr c10
                            have c10b1 : (((rd_T38 l0 x3_1).f2).toList != ((rd_T38 l0 x4_2).f2).toList) = true := bne_iff_ne.mpr c10
                            obtain rfl := Option.some.inj H
                            have p101 : 0 ≤ (x3_1 : Int) := of_decide_eq_true (by first | (with_reducible assumption) | assumption)
                            have q101 : x3_1 < (l0.length : Int) := of_decide_eq_true (by first | (with_reducible assumption) | assumption)
                            obtain ⟨ad101, e101, hx101_0, hx101_1, hx101_2⟩ := at_T38 HR0.out x3_1 p101 q101
                            cases e101
                            replace p101 := eq_true p101
                            replace q101 := eq_true q101
                            have p102 : 0 ≤ (x4_2 : Int) := of_decide_eq_true (by first | (with_reducible assumption) | assumption)
                            have q102 : x4_2 < (l0.length : Int) := of_decide_eq_true (by first | (with_reducible assumption) | assumption)
                            obtain ⟨ad102, e102, hx102_0, hx102_1, hx102_2⟩ := at_T38 HR0.out x4_2 p102 q102
                            obtain rfl : ad101 = ad102 := (by injection e102)
                            replace p102 := eq_true p102
                            replace q102 := eq_true q102
                            have p103 : 0 ≤ (x3_1 : Int) := of_decide_eq_true (by first | (with_reducible assumption) | assumption)
                            have q103 : x3_1 < (l0.length : Int) := of_decide_eq_true (by first | (with_reducible assumption) | assumption)
                            obtain ⟨ad103, e103, hx103_0, hx103_1, hx103_2⟩ := at_T38 HR0.out x3_1 p103 q103
                            obtain rfl : ad101 = ad103 := (by injection e103)
                            replace p103 := eq_true p103
                            replace q103 := eq_true q103
                            have p104 : 0 ≤ (x4_2 : Int) := of_decide_eq_true (by first | (with_reducible assumption) | assumption)
                            have q104 : x4_2 < (l0.length : Int) := of_decide_eq_true (by first | (with_reducible assumption) | assumption)
                            obtain ⟨ad104, e104, hx104_0, hx104_1, hx104_2⟩ := at_T38 HR0.out x4_2 p104 q104
                            obtain rfl : ad101 = ad104 := (by injection e104)
                            replace p104 := eq_true p104
                            replace q104 := eq_true q104
                            have p105 : 0 ≤ (x3_1 : Int) := of_decide_eq_true (by first | (with_reducible assumption) | assumption)
                            have q105 : x3_1 < (l0.length : Int) := of_decide_eq_true (by first | (with_reducible assumption) | assumption)
                            obtain ⟨ad105, e105, hx105_0, hx105_1, hx105_2⟩ := at_T38 HR0.out x3_1 p105 q105
                            obtain rfl : ad101 = ad105 := (by injection e105)
                            replace p105 := eq_true p105
                            replace q105 := eq_true q105
                            have p106 : 0 ≤ (x4_2 : Int) := of_decide_eq_true (by first | (with_reducible assumption) | assumption)
                            have q106 : x4_2 < (l0.length : Int) := of_decide_eq_true (by first | (with_reducible assumption) | assumption)
                            obtain ⟨ad106, e106, hx106_0, hx106_1, hx106_2⟩ := at_T38 HR0.out x4_2 p106 q106
                            obtain rfl : ad101 = ad106 := (by injection e106)
                            replace p106 := eq_true p106
                            replace q106 := eq_true q106
                            go_wp2
                            repeat (go_quiet (fail); try go_wp2)
                            go_ret
                            exact ⟨by first | rfl | (simp; done) | (simp [*]; done), by repeat (first | exact Drawn0.refl _ | apply Drawn0.step)⟩
                        · rw [if_neg c9] at H
                          have c9b0 : (((rd_T38 l0 x3_1).f1).toList == ((rd_T38 l0 x4_2).f1).toList) = false := beq_eq_false_iff_ne.mpr c9
                          have c9b1 : (((rd_T38 l0 x3_1).f1).toList != ((rd_T38 l0 x4_2).f1).toList) = true := bne_iff_ne.mpr c9
                          have H' := Aside0.mk H
                          clear H
                          have p101 : 0 ≤ (x3_1 : Int) := of_decide_eq_true (by first | (with_reducible assumption) | assumption)
                          have q101 : x3_1 < (l0.length : Int) := of_decide_eq_true (by first | (with_reducible assumption) | assumption)
                          obtain ⟨ad101, e101, hx101_0, hx101_1, hx101_2⟩ := at_T38 HR0.out x3_1 p101 q101
                          cases e101
                          replace p101 := eq_true p101
                          replace q101 := eq_true q101
                          have p102 : 0 ≤ (x4_2 : Int) := of_decide_eq_true (by first | (with_reducible assumption) | assumption)
                          have q102 : x4_2 < (l0.length : Int) := of_decide_eq_true (by first | (with_reducible assumption) | assumption)
                          obtain ⟨ad102, e102, hx102_0, hx102_1, hx102_2⟩ := at_T38 HR0.out x4_2 p102 q102
                          obtain rfl : ad101 = ad102 := (by injection e102)
                          replace p102 := eq_true p102
                          replace q102 := eq_true q102
                          have p103 : 0 ≤ (x3_1 : Int) := of_decide_eq_true (by first | (with_reducible assumption) | assumption)
                          have q103 : x3_1 < (l0.length : Int) := of_decide_eq_true (by first | (with_reducible assumption) | assumption)
                          obtain ⟨ad103, e103, hx103_0, hx103_1, hx103_2⟩ := at_T38 HR0.out x3_1 p103 q103
                          obtain rfl : ad101 = ad103 := (by injection e103)
                          replace p103 := eq_true p103
                          replace q103 := eq_true q103
                          have p104 : 0 ≤ (x4_2 : Int) := of_decide_eq_true (by first | (with_reducible assumption) | assumption)
                          have q104 : x4_2 < (l0.length : Int) := of_decide_eq_true (by first | (with_reducible assumption) | assumption)
                          obtain ⟨ad104, e104, hx104_0, hx104_1, hx104_2⟩ := at_T38 HR0.out x4_2 p104 q104
                          obtain rfl : ad101 = ad104 := (by injection e104)
                          replace p104 := eq_true p104
                          replace q104 := eq_true q104
                          go_wp2
                          repeat (go_quiet (fail); try go_wp2)
                          go_roundg k2
                          case measure => have := HK1.out; have := HK2.out; omega
                          case rel => exact ⟨(wrap64 (x4_2 + 1)), (by first | rfl | (simp; done) | (simp [*]; done)), H', ⟨by have := HK1.out; have := HK2.out; omega⟩, by repeat (first | exact Drawn0.refl _ | apply Drawn0.step)⟩
                      · rw [if_neg c8] at H
                        have c8b0 : (((rd_T38 l0 x3_1).f0).toList == ((rd_T38 l0 x4_2).f0).toList) = false := beq_eq_false_iff_ne.mpr c8
                        have c8b1 : (((rd_T38 l0 x3_1).f0).toList != ((rd_T38 l0 x4_2).f0).toList) = true := bne_iff_ne.mpr c8
                        have H' := Aside0.mk H
                        clear H
                        have p101 : 0 ≤ (x3_1 : Int) := of_decide_eq_true (by first | (with_reducible assumption) | assumption)
                        have q101 : x3_1 < (l0.length : Int) := of_decide_eq_true (by first | (with_reducible assumption) | assumption)
                        obtain ⟨ad101, e101, hx101_0, hx101_1, hx101_2⟩ := at_T38 HR0.out x3_1 p101 q101
                        cases e101
                        replace p101 := eq_true p101
                        replace q101 := eq_true q101
                        have p102 : 0 ≤ (x4_2 : Int) := of_decide_eq_true (by first | (with_reducible assumption) | assumption)
                        have q102 : x4_2 < (l0.length : Int) := of_decide_eq_true (by first | (with_reducible assumption) | assumption)
                        obtain ⟨ad102, e102, hx102_0, hx102_1, hx102_2⟩ := at_T38 HR0.out x4_2 p102 q102
                        obtain rfl : ad101 = ad102 := (by injection e102)
                        replace p102 := eq_true p102
                        replace q102 := eq_true q102
                        go_wp2
                        repeat (go_quiet (fail); try go_wp2)
                        go_roundg k2
                        case measure => have := HK1.out; have := HK2.out; omega
                        case rel => exact ⟨(wrap64 (x4_2 + 1)), (by first | rfl | (simp; done) | (simp [*]; done)), H', ⟨by have := HK1.out; have := HK2.out; omega⟩, by repeat (first | exact Drawn0.refl _ | apply Drawn0.step)⟩
                    · rw [if_neg c7] at H
                      exact absurd H (by simp)
                  · rw [if_neg c6] at H
                    exact absurd H (by simp)
                · rw [if_neg c5] at H
                  exact absurd H (by simp)
              · rw [if_neg c4] at H
                exact absurd H (by simp)
            · rw [if_neg c3] at H
              have c3b0 : decide (x4_2 < x3_1) = false := decide_eq_false c3
              clear c3
              have H' := Aside0.mk H
              clear H
              go_wp2
              repeat (go_quiet (fail); try go_wp2)
              go_roundg k2
              case measure => have := HK1.out; have := HK2.out; omega
              case rel => exact ⟨(wrap64 (x3_1 + 1)), (by first | rfl | (simp; done) | (simp [*]; done)), H', ⟨by have := HK1.out; have := HK2.out; omega⟩, by repeat (first | exact Drawn0.refl _ | apply Drawn0.step)⟩
      · rw [if_neg c2] at H
        have c2b0 : decide (x3_1 < (l0.length : Int)) = false := decide_eq_false c2
        clear c2
        obtain rfl := Option.some.inj H
        go_wp2
        repeat (go_quiet (fail); try go_wp2)
        go_ret
        exact ⟨by first | rfl | (simp; done) | (simp [*]; done), by repeat (first | exact Drawn0.refl _ | apply Drawn0.step)⟩

/-! ### impl_SealedTwice: function 10 -/
/-- A whole array into a block that holds one. -/
theorem store_rowAll {P : Program} {ops : Array Oper} {rest : List Oper} {o : Oper} {a : Act} {Q : Exit → Act → World → Prop} {W : World} (hgd : o.guard = none) (t : TypeId) (x y : Operand) (ho : o.op = .store t x y) (hN : o.dst = none) (g : Nat)
    (hx : a.eval x = .pointer (some ⟨g, 0, none⟩)) (c c' : Array Value) (hy : a.eval y = .agg c') (t' : TypeId) (hg : W.heap[g]? = some (.cells c t' (0, 0))) (hi : (P.info? t).map (·.size) = some c'.size) (hs : c.size = c'.size) (h1 : c'.all (·.oneCell') = true)
    (h : ∀ w1, w1.heap[g]? = some (.cells c' t' (0, 0)) → (∀ q, q ≠ g → w1.heap[q]? = W.heap[q]?) → Below g W w1 → wpList P ops Q rest a w1) : wpList P ops Q (o :: rest) a W := by
  have hrun : (Instr.storeAt t (.pointer (some ⟨g, 0, none⟩)) (.agg c')).run P W = .ok () (W.setRow g c') := by
    simp only [Instr.storeAt, Instr.sureAddr, Sem.run_bind, Sem.run_pure, Result.andThen_ok]
    exact run_storeVar_row W g t' t c c' hg hi hs h1
  refine wpList_plain hgd fun K hK => ?_
  unfold Oper.wp execOp
  simp only [ho, hx, hy, Sem.run_bind, Sem.run_pure, Result.andThen_ok, hrun]
  show K (a.put o.dst undef) _
  rw [hN]
  exact hK a _ (h _ (setRow_heap W g c c' t' (0, 0) hg) (fun q hq => setRow_other W g q c' hq) ⟨rfl, rfl, rfl, by simp [size_setRow], fun k hk => setRow_other W g k c' (Nat.ne_of_lt hk)⟩)
/-- Do the sealings i and j differ in their text alone? -/
def conf (l : List S38) (i j : Nat) : Bool := decide ((rd_T38 l (i : Int)).f0.toList = (rd_T38 l (j : Int)).f0.toList) && decide ((rd_T38 l (i : Int)).f1.toList = (rd_T38 l (j : Int)).f1.toList) && !decide ((rd_T38 l (i : Int)).f2.toList = (rd_T38 l (j : Int)).f2.toList)
def twiceAt (l : List S38) (i : Nat) : Bool := (List.range i).any (conf l i)
def twiceB (l : List S38) : Bool := (List.range l.length).any (twiceAt l)
def smallS (x : S38) : Bool := decide (x.f0.size ≤ 9223372036854775807) && decide (x.f1.size ≤ 9223372036854775807) && decide (x.f2.size ≤ 9223372036854775807)
def impl_SealedTwice.f (l0 : List S38) : Option Bool := if l0.length ≤ 2000000 ∧ l0.all smallS = true then some (twiceB l0) else none
theorem twiceAt_of {l : List S38} {i : Nat} (h : twiceAt l i = false) (j : Nat) (hj : j < i) : conf l i j = false := by
  unfold twiceAt at h
  rw [List.any_eq_false] at h
  simpa using h j (List.mem_range.2 hj)
theorem twiceB_of {l : List S38} {i : Nat} (hi : i < l.length) (h : twiceAt l i = true) : twiceB l = true := by
  unfold twiceB
  rw [List.any_eq_true]
  exact ⟨i, List.mem_range.2 hi, h⟩
theorem twiceB_no {l : List S38} (h : ∀ i, i < l.length → twiceAt l i = false) : twiceB l = false := by
  unfold twiceB
  rw [List.any_eq_false]
  intro i hi
  simpa using h i (List.mem_range.1 hi)
theorem bytes_toList_inj {a b : ByteArray} (h : a.toList = b.toList) : a = b := by
  rw [ByteArray.toList_eq, ByteArray.toList_eq] at h
  cases a; cases b
  simp only [ByteArray.mk.injEq]
  exact Array.toList_inj.1 h
/-- The place of a sealing, as a key. -/
def keyV (l : List S38) (i : Nat) : Value := .agg #[.string (rd_T38 l (i : Int)).f0, .string (rd_T38 l (i : Int)).f1]
theorem keyV_eq {l : List S38} {i j : Nat} : keyV l i = keyV l j ↔ (rd_T38 l (i : Int)).f0.toList = (rd_T38 l (j : Int)).f0.toList ∧ (rd_T38 l (i : Int)).f1.toList = (rd_T38 l (j : Int)).f1.toList := by
  unfold keyV
  constructor
  · intro h
    simp only [Value.agg.injEq, Array.mk.injEq, List.cons.injEq, Value.string.injEq, and_true] at h
    exact ⟨by rw [h.1], by rw [h.2]⟩
  · rintro ⟨h1, h2⟩
    rw [bytes_toList_inj h1, bytes_toList_inj h2]
theorem law49 : Go.Maps.Keyed Try.prog 49 := Go.Maps.Keyed.of_law (deep_law_laid (by kernel_rfl) (m := 2) (by omega) (of_decide_eq_true (by kernel_rfl)) (by kernel_rfl) (by kernel_rfl))
theorem keyV_key (a b : ByteArray) (ha : a.size ≤ 9223372036854775807) (hb : b.size ≤ 9223372036854775807) : ∃ kl, keyOf Try.prog 49 (.agg #[.string a, .string b]) = some kl := by
  have hu := Try.underlying49
  have hk : Try.prog.keyType 49 = true := by kernel_rfl
  have hc : Try.prog.cellsOf 49 = 2 := by kernel_rfl
  have hc9 : Try.prog.cellsOf 9 = 1 := by kernel_rfl
  have hu9 := Try.underlying9
  have hml : maxLen = 9223372036854775807 := rfl
  obtain ⟨n, hn⟩ : ∃ n, Try.prog.types.size + 1 = n + 1 + 1 := ⟨Try.prog.types.size - 1, by have : 0 < Try.prog.types.size := of_decide_eq_true (by kernel_rfl); omega⟩
  unfold keyOf
  simp only [hu, hk, hn, Bool.true_and]
  simp [Value.formed, hu, hc, hc9, hu9, Program.keyLits, Value.cells, hml, ha, hb, List.range_succ]
/-- What the map holds behind i rounds. -/
structure MapOk (D : DataW Unit) (l : List S38) (i : Nat) : Prop where
  map : Go.Maps.IsMap D
  there : ∀ j, j < i → ∀ kl, keyOf Try.prog 49 (keyV l j) = some kl → Go.Maps.has D kl = true ∧ D.atKey kl (.lit (.string [])) = .lit (.string (rd_T38 l (j : Int)).f2.data.toList)
  none : ∀ kl, (∀ j, j < i → keyOf Try.prog 49 (keyV l j) ≠ some kl) → Go.Maps.has D kl = false
theorem MapOk.start (l : List S38) : MapOk (.map []) l 0 := ⟨Go.Maps.isMap_empty, fun j hj => by omega, fun kl _ => rfl⟩
theorem MapOk.put {D : DataW Unit} {l : List S38} {i : Nat} (h : MapOk D l i) {kl : Lit} (hk : keyOf Try.prog 49 (keyV l i) = some kl) (hn : twiceAt l i = false) : MapOk (D.put kl (.lit (.string (rd_T38 l (i : Int)).f2.data.toList))) l (i + 1) := by
  have hK : WideAt.IsKeyLit kl := law49.key hk
  refine ⟨h.map.put _ _, fun j hj kl' hk' => ?_, fun kl' hno => ?_⟩
  · by_cases e : kl' = kl
    · subst e
      refine ⟨Go.Maps.has_put_same h.map hK _, ?_⟩
      rw [Go.Maps.atKey_put_same h.map hK]
      by_cases e2 : j = i
      · rw [e2]
      · have hc := twiceAt_of hn j (by omega)
        have hv := law49.inj hk hk'
        rw [keyV_eq] at hv
        unfold conf at hc
        rw [decide_eq_true hv.1, decide_eq_true hv.2] at hc
        simp only [Bool.true_and, Bool.not_eq_false', decide_eq_true_eq] at hc
        rw [bytes_toList_inj hc]
    · have hji : j ≠ i := fun e2 => e (by rw [e2, hk] at hk'; exact (Option.some.inj hk').symm)
      rw [Go.Maps.has_put_other e, Go.Maps.atKey_put_other e]
      exact h.there j (by omega) kl' hk'
  · have e : kl' ≠ kl := fun e => hno i (by omega) (by rw [e]; exact hk)
    rw [Go.Maps.has_put_other e]
    exact h.none kl' (fun j hj => hno j (by omega))
/-- The look-up's two ends. -/
theorem MapOk.look {D : DataW Unit} {l : List S38} {i : Nat} (h : MapOk D l i) (hp : ∀ j, j < i → twiceAt l j = false) {kl : Lit} (hk : keyOf Try.prog 49 (keyV l i) = some kl) :
    (Go.Maps.has D kl = false ∧ twiceAt l i = false) ∨ ∃ t : ByteArray, Go.Maps.has D kl = true ∧ D.atKey kl (.lit (.string [])) = .lit (.string t.data.toList) ∧ t.size ≤ t.size ∧ (∃ j, j < i ∧ t = (rd_T38 l (j : Int)).f2) ∧ twiceAt l i = !decide (t.toList = (rd_T38 l (i : Int)).f2.toList) := by
  by_cases c : ∃ j, j < i ∧ keyOf Try.prog 49 (keyV l j) = some kl
  · obtain ⟨j, hj, hkj⟩ := c
    obtain ⟨h1, h2⟩ := h.there j hj kl hkj
    refine .inr ⟨_, h1, h2, Nat.le_refl _, ⟨j, hj, rfl⟩, ?_⟩
    have hv := law49.inj hk hkj
    rw [keyV_eq] at hv
    by_cases e : (rd_T38 l (j : Int)).f2.toList = (rd_T38 l (i : Int)).f2.toList
    · rw [decide_eq_true e]
      show twiceAt l i = false
      unfold twiceAt
      rw [List.any_eq_false]
      intro j' hj'
      have hj' := List.mem_range.1 hj'
      have : conf l i j' = false := by
        unfold conf
        by_cases a : (rd_T38 l (i : Int)).f0.toList = (rd_T38 l (j' : Int)).f0.toList ∧ (rd_T38 l (i : Int)).f1.toList = (rd_T38 l (j' : Int)).f1.toList
        · rw [decide_eq_true a.1, decide_eq_true a.2]
          simp only [Bool.true_and, Bool.not_eq_false', decide_eq_true_eq]
          have hkj' : keyOf Try.prog 49 (keyV l j') = some kl := by rw [← keyV_eq.2 a]; exact hk
          have h3 := (h.there j' hj' kl hkj').2
          rw [h2] at h3
          have h4 : (rd_T38 l (j : Int)).f2.data.toList = (rd_T38 l (j' : Int)).f2.data.toList := by simpa using h3
          rw [← e, ByteArray.toList_eq, ByteArray.toList_eq, h4]
        · by_cases a1 : (rd_T38 l (i : Int)).f0.toList = (rd_T38 l (j' : Int)).f0.toList
          · rw [decide_eq_false (fun a2 => a ⟨a1, a2⟩)]; simp
          · rw [decide_eq_false a1]; simp
      rw [this]; simp
    · rw [decide_eq_false e]
      show twiceAt l i = true
      unfold twiceAt
      rw [List.any_eq_true]
      refine ⟨j, List.mem_range.2 hj, ?_⟩
      unfold conf
      rw [decide_eq_true hv.1, decide_eq_true hv.2, decide_eq_false (fun a => e a.symm)]
      rfl
  · have hno : ∀ j, j < i → keyOf Try.prog 49 (keyV l j) ≠ some kl := fun j hj e => c ⟨j, hj, e⟩
    refine .inl ⟨h.none kl hno, ?_⟩
    unfold twiceAt
    rw [List.any_eq_false]
    intro j hj
    have hj := List.mem_range.1 hj
    have : conf l i j = false := by
      unfold conf
      by_cases a : (rd_T38 l (i : Int)).f0.toList = (rd_T38 l (j : Int)).f0.toList ∧ (rd_T38 l (i : Int)).f1.toList = (rd_T38 l (j : Int)).f1.toList
      · exact absurd (by rw [← keyV_eq.2 a]; exact hk) (hno j hj)
      · by_cases a1 : (rd_T38 l (i : Int)).f0.toList = (rd_T38 l (j : Int)).f0.toList
        · rw [decide_eq_false (fun a2 => a ⟨a1, a2⟩)]; simp
        · rw [decide_eq_false a1]; simp
    rw [this]; simp
theorem one3 (a b c : ByteArray) : (#[.string a, .string b, .string c] : Array Value).all (·.oneCell') = true := by simp [Value.oneCell']
theorem one2 (a b : ByteArray) : (#[.string a, .string b] : Array Value).all (·.oneCell') = true := by simp [Value.oneCell']
theorem ownsMap_eq {H : Type} {P : Program} {k : TypeId} {R : Value → Option (DataW H × List MemPlace)} {w w1 : World} {b n : Nat} {D : DataW H} (h : w.ownsMap P k R b n D) (e : w1.heap[b]? = w.heap[b]?) : w1.ownsMap P k R b n D := by
  obtain ⟨es, c, hb, r⟩ := h
  exact ⟨es, c, e.trans hb, r⟩
theorem look_hit {P : Program} (w : World) {ops : Array Oper} {rest : List Oper} {o : Oper} {a : Act} {Q : Exit → Act → World → Prop} (hg : o.guard = none) (m x : Operand) (t : TypeId) (hop : o.op = Op.lookup t m x true)
    (k e : TypeId) (K : Go.Maps.Keyed P k) (ht : P.underlying t = some (.map k e)) (he : P.underlying e = some .string) (hz : (zeroValue e).run P w = .ok (.string ⟨#[]⟩) w) (b n : Nat) (D : DataW Unit)
    (hm : a.eval m = .map (some b)) (hown : w.ownsMap P k (plainElem P e) b n D) (key : Value) (kl : Lit) (hx : a.eval x = key) (hkey : keyOf P k key = some kl) (s : ByteArray)
    (hhas : Go.Maps.has D kl = true) (hat : D.atKey kl (.lit (.string [])) = .lit (.string s.data.toList))
    (hK : wpList P ops Q rest (a.put o.dst (.tuple #[.string s, .bool true])) w) : wpList P ops Q (o :: rest) a w := by
  refine wpList_lookup_own_ok w hg m x t hop k e K ht (plainElem P e) hz (.lit (.string [])) [] (plainElem_string he (s := ⟨#[]⟩) (by decide)) b n D hm hown key kl hx hkey (fun v ps hv => ?_)
  rw [hat] at hv
  obtain ⟨s', rfl, e', _⟩ := plainElem_string_inv he hv
  have h1 : s.data.toList = s'.data.toList := by simpa using (congrArg Prod.fst e')
  have h2 : s' = s := bytes_toList_inj (by rw [ByteArray.toList_eq, ByteArray.toList_eq, h1])
  subst h2
  rw [hhas]
  exact hK
theorem look_miss {P : Program} (w : World) {ops : Array Oper} {rest : List Oper} {o : Oper} {a : Act} {Q : Exit → Act → World → Prop} (hg : o.guard = none) (m x : Operand) (t : TypeId) (hop : o.op = Op.lookup t m x true)
    (k e : TypeId) (K : Go.Maps.Keyed P k) (ht : P.underlying t = some (.map k e)) (he : P.underlying e = some .string) (hz : (zeroValue e).run P w = .ok (.string ⟨#[]⟩) w) (b n : Nat) (D : DataW Unit)
    (hm : a.eval m = .map (some b)) (hown : w.ownsMap P k (plainElem P e) b n D) (key : Value) (kl : Lit) (hx : a.eval x = key) (hkey : keyOf P k key = some kl)
    (hhas : Go.Maps.has D kl = false)
    (hK : wpList P ops Q rest (a.put o.dst (.tuple #[.string ⟨#[]⟩, .bool false])) w) : wpList P ops Q (o :: rest) a w := by
  refine wpList_lookup_own_ok w hg m x t hop k e K ht (plainElem P e) hz (.lit (.string [])) [] (plainElem_string he (s := ⟨#[]⟩) (by decide)) b n D hm hown key kl hx hkey (fun v ps hv => ?_)
  rw [Go.Maps.atKey_of_not_has hhas] at hv
  obtain ⟨s', rfl, e', _⟩ := plainElem_string_inv he hv
  have h1 : [] = s'.data.toList := by simpa using (congrArg Prod.fst e')
  have h2 : s' = ⟨#[]⟩ := bytes_toList_inj (by rw [ByteArray.toList_eq, ByteArray.toList_eq, ← h1])
  subst h2
  rw [hhas]
  exact hK
set_option maxHeartbeats 4000000 in
set_option maxRecDepth 100000 in
theorem impl_SealedTwice.calls (A0 : Option Addr) (c0 : Nat) (l0 : List S38) (r : Bool) (w : World) (hr0 : Kd.C k38 w A0 l0.length l0) (hc0 : l0.length ≤ c0) (h : impl_SealedTwice.f l0 = some r) :
    Calls Try.prog 10 #[.slice A0 l0.length c0] w fun e w' => e = .returned (.bool r) ∧ Below w.heap.size w w' := by
  have hu38 := Try.underlying38
  have hu49 := Try.underlying49
  unfold impl_SealedTwice.f at h
  by_cases hl : l0.length ≤ 2000000 ∧ l0.all smallS = true
  · rw [if_pos hl] at h
    cases h
    have HR := Aside0.mk hr0
    have HL := Aside0.mk hl.1
    have HS := Aside0.mk hl.2
    have HB := Aside0.mk (Below.refl w.heap.size w)
    clear hr0 hl hc0
    obtain ⟨B, hBB⟩ : ∃ B, B = w.heap.size := ⟨_, rfl⟩
    have I38 : Aside0 ((Try.prog.info? 38).map (·.size) = some 3) := ⟨by kernel_rfl⟩
    have I49 : Aside0 ((Try.prog.info? 49).map (·.size) = some 2) := ⟨by kernel_rfl⟩
    have hmm := @run_makeMap Try.prog
    go_enter Try.func10, Try.ntmps10
    go_wp2
    clear hmm
    rw [← hBB]
    have HB0 := Aside0.mk hBB
    clear hBB
    go_loopw [12] (fun v12 wr => ∃ i : Nat, i ≤ l0.length ∧ v12 = .int .i64 (i : Int) ∧ Aside0 (∀ j, j < i → twiceAt l0 j = false) ∧ (∃ D : DataW Unit, Aside0 (wr.ownsMap Try.prog 49 (plainElem Try.prog 9) B i D) ∧ Aside0 (MapOk D l0 i)) ∧ Aside0 (Below w.heap.size w wr)) (fun v12 _ => l0.length - (intOf v12).toNat)
    case atStart => exact ⟨0, Nat.zero_le _, rfl, ⟨fun j hj => by omega⟩, ⟨.map [], ⟨by rw [HB0.out]; exact World.ownsMap_made _ _ _ _⟩, ⟨MapOk.start l0⟩⟩, ⟨below_alloc (Below.refl _ _) _⟩⟩
    case round =>
      clear HB
      obtain ⟨i, hi, rfl, HN, ⟨D, HD, HM⟩, HB⟩ := hrel
      by_cases hlt : i < l0.length
      · have hC := Kd.C_below HR.out HB.out
        obtain ⟨ad, rfl, e0, e1, e2⟩ := at_T38 hC (i : Int) (by omega) (by omega)
        rw [Int.toNat_natCast] at e0 e1 e2
        have hsm : smallS (rd_T38 l0 (i : Int)) = true := by
          have := List.all_eq_true.1 HS.out (rd_T38 l0 (i : Int)) (by
            unfold rd_T38
            rw [Int.toNat_natCast, List.getD_eq_getElem?_getD, List.getElem?_eq_getElem hlt]
            exact List.getElem_mem hlt)
          exact this
        unfold smallS at hsm
        simp only [Bool.and_eq_true, decide_eq_true_eq] at hsm
        obtain ⟨kl, hkl⟩ := keyV_key (rd_T38 l0 (i : Int)).f0 (rd_T38 l0 (i : Int)).f1 hsm.1.1 hsm.1.2
        have HKL : Aside0 (keyOf Try.prog 49 (keyV l0 i) = some kl) := ⟨hkl⟩
        have HZ : Aside0 (∀ W : World, (zeroValue 9).run Try.prog W = .ok (.string ⟨#[]⟩) W) := ⟨fun W => by kernel_rfl⟩
        have b3 : ((i : Int) < (l0.length : Int)) = True := eq_true (by omega)
        have hbi : i < 4611686018427387904 := Nat.lt_of_lt_of_le hlt (Nat.le_trans HL.out (by decide))
        have hlook := HM.out.look HN.out hkl
        have HX2 : Aside0 ((rd_T38 l0 (i : Int)).f2.size ≤ 9223372036854775807) := ⟨hsm.2⟩
        have HKL2 := Aside0.mk hkl
        have HLOOK := Aside0.mk hlook
        have HE : Aside0 (plainElem (H := Unit) Try.prog 9 (.string (rd_T38 l0 (i : Int)).f2) = some (.lit (.string (rd_T38 l0 (i : Int)).f2.data.toList), [])) := ⟨plainElem_string Try.underlying9 hsm.2⟩
        have HPUT := Aside0.mk (fun hn => HM.out.put hkl hn)
        have HI := Aside0.mk hlt
        have HLT : Aside0 (i < maxLen) := ⟨by unfold maxLen; omega⟩
        have HBB : Aside0 (w.heap.size ≤ B) := ⟨Nat.le_of_eq HB0.out.symm⟩
        clear hC hsm hkl hlook hlt hi
        generalize (rd_T38 l0 (i : Int)).f0 = x0 at e0 HKL2
        generalize (rd_T38 l0 (i : Int)).f1 = x1 at e1 HKL2
        generalize (rd_T38 l0 (i : Int)).f2 = x2 at e2 HX2 HLOOK HE HPUT
        go_upto_region 6 with (first | ((with_reducible refine gate_dst (N := 5) rfl ?_); refine box_event ?hg (N := 5) ?hd (cs := #[.string (⟨#[]⟩ : ByteArray), .string (⟨#[]⟩ : ByteArray), .string (⟨#[]⟩ : ByteArray)]) (t := 38) ?hr ?_; (case hd => rfl); (case hg => rfl); (case hr => first | (go_simp; done) | (go_simp; rfl)); intro gS hg w3 hbox hb; have GS := Aside0.mk (show w.heap.size ≤ gS by rw [hg]; exact below_size HB.out); have NS := Aside0.mk (show B ≠ gS by rw [hg]; exact Nat.ne_of_lt HD.out.lt); have n0_ := Aside0.mk (below_step HB.out hb); have n1_ := Aside0.mk (ownsMap_eq HD.out (hb.block _ HD.out.lt)); clear HB HD; have HB := n0_; have HD := n1_; have BS := Aside0.mk hbox; clear n0_ n1_ hb hbox hg) | ((with_reducible refine gate_store (t := 38) (p := 5) rfl ?_); refine store_rowAll rfl 38 _ _ rfl rfl gS rfl #[.string (⟨#[]⟩ : ByteArray), .string (⟨#[]⟩ : ByteArray), .string (⟨#[]⟩ : ByteArray)] #[.string x0, .string x1, .string x2] rfl 38 BS.out I38.out rfl (one3 _ _ _) ?_; intro w4 hw ho hb; have n0_ := Aside0.mk (HB.out.trans (hb.mono GS.out)); have n1_ := Aside0.mk (ownsMap_eq HD.out (ho B NS.out)); clear HB HD BS; have HB := n0_; have HD := n1_; have BS := Aside0.mk hw; clear n0_ n1_ hw ho hb; have hz0 : w4.cell? ⟨gS, 0, none⟩ = some (.string x0) := (blk_cell BS.out 0).trans rfl; have hz1 : w4.cell? ⟨gS, 1, none⟩ = some (.string x1) := (blk_cell BS.out 1).trans rfl) | ((with_reducible refine gate_dst (N := 6) rfl ?_); refine box_event ?hg (N := 6) ?hd (cs := #[.string (⟨#[]⟩ : ByteArray), .string (⟨#[]⟩ : ByteArray)]) (t := 49) ?hr ?_; (case hd => rfl); (case hg => rfl); (case hr => first | (go_simp; done) | (go_simp; rfl)); intro gP hg w5 hbox hb; have GP := Aside0.mk (show w.heap.size ≤ gP by rw [hg]; exact below_size HB.out); have NP := Aside0.mk (show B ≠ gP by rw [hg]; exact Nat.ne_of_lt HD.out.lt); have NSP := Aside0.mk (show gS ≠ gP by rw [hg]; exact Nat.ne_of_lt (blk_lt BS.out)); have n0_ := Aside0.mk (below_step HB.out hb); have n1_ := Aside0.mk (ownsMap_eq HD.out (hb.block _ HD.out.lt)); have n2_ := Aside0.mk (blk_below BS.out hb); clear HB HD BS hz0 hz1; have HB := n0_; have HD := n1_; have BS := n2_; have BP := Aside0.mk hbox; clear n0_ n1_ n2_ hb hbox hg) | ((with_reducible refine gate_store (t := 49) (p := 6) rfl ?_); refine store_rowAll rfl 49 _ _ rfl rfl gP rfl #[.string (⟨#[]⟩ : ByteArray), .string (⟨#[]⟩ : ByteArray)] #[.string x0, .string x1] rfl 49 BP.out I49.out rfl (one2 _ _) ?_; intro w6 hw ho hb; have n0_ := Aside0.mk (HB.out.trans (hb.mono GP.out)); have n1_ := Aside0.mk (ownsMap_eq HD.out (ho B NP.out)); have n2_ := Aside0.mk ((ho gS NSP.out).trans BS.out); clear HB HD BS BP; have HB := n0_; have HD := n1_; have BS := n2_; have BP := Aside0.mk hw; clear n0_ n1_ n2_ hw ho hb))
        have hz0 : w6.cell? ⟨gS, 0, none⟩ = some (.string x0) := (blk_cell BS.out 0).trans rfl
        have hz1 : w6.cell? ⟨gS, 1, none⟩ = some (.string x1) := (blk_cell BS.out 1).trans rfl
        have hz2 : w6.cell? ⟨gS, 2, none⟩ = some (.string x2) := (blk_cell BS.out 2).trans rfl
        have hp0 : w6.cell? ⟨gP, 0, none⟩ = some (.string x0) := (blk_cell BP.out 0).trans rfl
        have hp1 : w6.cell? ⟨gP, 1, none⟩ = some (.string x1) := (blk_cell BP.out 1).trans rfl
        rcases HLOOK.out with ⟨hh, ht⟩ | ⟨t, hh, hat, _, _, ht⟩
        · have HH := Aside0.mk hh
          have HP := Aside0.mk (HPUT.out ht)
          have HT := Aside0.mk ht
          clear hh ht HLOOK HPUT
          go_upto_region 7 with (at_lookup; refine look_miss _ rfl _ _ 48 rfl 49 9 law49 Try.underlying48 Try.underlying9 (HZ.out _) B i D rfl HD.out _ kl rfl HKL2.out HH.out ?_)
          go_wp2_with (at_mapUpdate; refine wpList_mapUpdate_own _ rfl _ _ _ 48 rfl 49 9 law49 Try.underlying48 (plainElem Try.prog 9) B i D rfl HD.out HLT.out _ _ kl rfl rfl HKL2.out _ [] HE.out ?_; intro w8 hd hg; have n0_ := Aside0.mk (HB.out.grown hg (Nat.le_of_lt (Nat.lt_of_le_of_lt HBB.out HD.out.lt)) (fun k hk => by injection hk with hk; rw [← hk]; exact HBB.out)); clear HB HD; have HB := n0_; have HD := Aside0.mk hd; clear n0_ hd hg)
          refine ⟨⟨i + 1, HI.out, by go_num, ⟨fun j hj => ?_⟩, ⟨_, HD, HP⟩, HB⟩, by simp [intOf]; have := HI.out; omega⟩
          by_cases e : j = i
          · rw [e]; exact HT.out
          · exact HN.out j (by omega)
        · have HH := Aside0.mk hh
          have HAT := Aside0.mk hat
          by_cases c : t.toList = x2.toList
          · rw [decide_eq_true c] at ht
            have cb0 : (t.toList == x2.toList) = true := beq_iff_eq.mpr c
            have cb1 : (t.toList != x2.toList) = false := bne_eq_false_iff_eq.mpr c
            have HP := Aside0.mk (HPUT.out ht)
            have HT := Aside0.mk ht
            clear c hh hat ht HLOOK HPUT
            go_upto_region 7 with (at_lookup; refine look_hit _ rfl _ _ 48 rfl 49 9 law49 Try.underlying48 Try.underlying9 (HZ.out _) B i D rfl HD.out _ kl rfl HKL2.out t HH.out HAT.out ?_)
            go_wp2_with (at_mapUpdate; refine wpList_mapUpdate_own _ rfl _ _ _ 48 rfl 49 9 law49 Try.underlying48 (plainElem Try.prog 9) B i D rfl HD.out HLT.out _ _ kl rfl rfl HKL2.out _ [] HE.out ?_; intro w8 hd hg; have n0_ := Aside0.mk (HB.out.grown hg (Nat.le_of_lt (Nat.lt_of_le_of_lt HBB.out HD.out.lt)) (fun k hk => by injection hk with hk; rw [← hk]; exact HBB.out)); clear HB HD; have HB := n0_; have HD := Aside0.mk hd; clear n0_ hd hg)
            refine ⟨⟨i + 1, HI.out, by go_num, ⟨fun j hj => ?_⟩, ⟨_, HD, HP⟩, HB⟩, by simp [intOf]; have := HI.out; omega⟩
            by_cases e : j = i
            · rw [e]; exact HT.out
            · exact HN.out j (by omega)
          · rw [decide_eq_false c] at ht
            have cb0 : (t.toList == x2.toList) = false := beq_eq_false_iff_ne.mpr c
            have cb1 : (t.toList != x2.toList) = true := bne_iff_ne.mpr c
            have HT := Aside0.mk ht
            clear c hh hat ht HLOOK HPUT
            go_upto_region 7 with (at_lookup; refine look_hit _ rfl _ _ 48 rfl 49 9 law49 Try.underlying48 Try.underlying9 (HZ.out _) B i D rfl HD.out _ kl rfl HKL2.out t HH.out HAT.out ?_)
            go_wp2
            go_ret
            exact ⟨by rw [twiceB_of HI.out HT.out]; first | done | rfl, HB.out⟩
      · obtain rfl : i = l0.length := by omega
        have hno := Aside0.mk (twiceB_no HN.out)
        clear hlt hi
        go_wp2
        go_ret
        exact ⟨by rw [hno.out]; first | done | rfl, HB.out⟩
  · rw [if_neg hl] at h
    cases h

/-! ### spec_l09Has: function 30 -/
def spec_l09Has.l0 : Nat → List ByteArray → ByteArray → Int → Option (Bool)
  | 0, _, _, _ => none
  | k + 1, x0, x1, x5 => if x5 < (x0.length : Int) then (if 0 ≤ x5 then (if (rdOf ByteArray.empty x0 x5).toList = x1.toList then (some true) else (spec_l09Has.l0 k x0 x1 (wrap64 (x5 + 1)))) else (none)) else (some false)
def spec_l09Has.f (k : Nat) (l0 : List ByteArray) (a1 : ByteArray) : Option (Bool) := spec_l09Has.l0 k l0 a1 0
theorem spec_l09Has.mono_l : ∀ k, (∀ y0 y1 y2, LeO (spec_l09Has.l0 k y0 y1 y2) (spec_l09Has.l0 (k + 1) y0 y1 y2))
  | 0 => fun _ _ _ r h => by simp [spec_l09Has.l0] at h
  | k + 1 => by
    have ih0 := spec_l09Has.mono_l k
    · intro y0 y1 y2
      unfold spec_l09Has.l0
      repeat' first
      | (with_reducible exact ih0 _ _ _)
      | (with_reducible exact LeO.refl _)
      | (with_reducible exact LeO.none _)
      | (with_reducible refine LeO.ite ?_ ?_)
      | (with_reducible refine LeO.bind ?_ (fun _ => ?_))
      | exact ih0 _ _ _
      | exact LeO.none _
      | refine LeO.ite ?_ ?_
      | refine LeO.bind ?_ (fun _ => ?_)
theorem spec_l09Has.mono : ∀ a0 a1 k, LeO (spec_l09Has.f k a0 a1) (spec_l09Has.f (k + 1) a0 a1) := by
  intro a0 a1 k
  have ih0 := spec_l09Has.mono_l k
  unfold spec_l09Has.f
  repeat' first
      | (with_reducible exact ih0 _ _ _)
      | (with_reducible exact LeO.refl _)
      | (with_reducible exact LeO.none _)
      | (with_reducible refine LeO.ite ?_ ?_)
      | (with_reducible refine LeO.bind ?_ (fun _ => ?_))
      | exact ih0 _ _ _
      | exact LeO.none _
      | refine LeO.ite ?_ ?_
      | refine LeO.bind ?_ (fun _ => ?_)
set_option maxHeartbeats 8000000 in
set_option maxRecDepth 100000 in
theorem spec_l09Has.calls (k : Nat) (A0 : Option Addr) (c0 : Nat) (l0 : List ByteArray) (a1 : ByteArray) (r : Bool) (w : World) (hr0 : Kd.C Kd.string w A0 l0.length l0) (hc0 : l0.length ≤ c0) (h : spec_l09Has.f k l0 a1 = some r) :
    Calls Try.prog 30 #[.slice A0 l0.length c0, .string a1] w fun e w' => e = .returned (.bool r) ∧ Drawn0 w w' := by
  have HR0 := Aside0.mk hr0
  have HC0 := Aside0.mk hc0
  clear hr0 hc0
  have H : (spec_l09Has.l0 k l0 a1 0) = some r := h
  clear h
  have H' := Aside0.mk H
  clear H
  go_enter Try.func30, Try.ntmps30
  go_wp2
  go_loopg [5] k (fun kq v5 w' => ∃ (x5_1 : Int), v5 = .int .i64 x5_1 ∧ Aside0 (spec_l09Has.l0 kq l0 a1 x5_1 = some r) ∧ Aside0 (kq ≤ k) ∧ Drawn0 w w')
  case atStart => exact ⟨(0), (by first | rfl | (simp; done) | (simp [*]; done)), H', ⟨Nat.le_refl _⟩, by repeat (first | exact Drawn0.refl _ | apply Drawn0.step)⟩
  case round =>
    clear H'
    try clear p2
    obtain ⟨x5_1, rfl, HA, HK1, ⟨m1, rfl⟩⟩ := hrel
    cases gk with
    | zero => exact absurd HA.out (by simp [spec_l09Has.l0])
    | succ k1 =>
      have H := HA.out
      clear HA
      simp only [spec_l09Has.l0] at H
      by_cases c3 : x5_1 < (l0.length : Int)
      · rw [if_pos c3] at H
        have c3b0 : decide (x5_1 < (l0.length : Int)) = true := decide_eq_true c3
        clear c3
        by_cases c4 : 0 ≤ x5_1
        · rw [if_pos c4] at H
          have c4b0 : decide (0 ≤ x5_1) = true := decide_eq_true c4
          clear c4
          by_cases c5 : (rdOf ByteArray.empty l0 x5_1).toList = a1.toList
          · rw [if_pos c5] at H
            have c5b0 : ((rdOf ByteArray.empty l0 x5_1).toList == a1.toList) = true := beq_iff_eq.mpr c5
            have c5b1 : ((rdOf ByteArray.empty l0 x5_1).toList != a1.toList) = false := bne_eq_false_iff_eq.mpr c5
            clear c5
            obtain rfl := Option.some.inj H
            have p107 : 0 ≤ (x5_1 : Int) := of_decide_eq_true (by first | (with_reducible assumption) | assumption)
            have q107 : x5_1 < (l0.length : Int) := of_decide_eq_true (by first | (with_reducible assumption) | assumption)
            obtain ⟨ad107, e107, hx107_0⟩ := Kd.at_string HR0.out x5_1 p107 q107
            cases e107
            replace p107 := eq_true p107
            replace q107 := eq_true q107
            go_wp2
            go_ret
            exact ⟨by first | rfl | (simp; done) | (simp [*]; done), by repeat (first | exact Drawn0.refl _ | apply Drawn0.step)⟩
          · rw [if_neg c5] at H
            have c5b0 : ((rdOf ByteArray.empty l0 x5_1).toList == a1.toList) = false := beq_eq_false_iff_ne.mpr c5
            have c5b1 : ((rdOf ByteArray.empty l0 x5_1).toList != a1.toList) = true := bne_iff_ne.mpr c5
            have H' := Aside0.mk H
            clear H
            have p107 : 0 ≤ (x5_1 : Int) := of_decide_eq_true (by first | (with_reducible assumption) | assumption)
            have q107 : x5_1 < (l0.length : Int) := of_decide_eq_true (by first | (with_reducible assumption) | assumption)
            obtain ⟨ad107, e107, hx107_0⟩ := Kd.at_string HR0.out x5_1 p107 q107
            cases e107
            replace p107 := eq_true p107
            replace q107 := eq_true q107
            go_wp2
            go_roundg k1
            case measure => have := HK1.out; omega
            case rel => exact ⟨(wrap64 (x5_1 + 1)), (by first | rfl | (simp; done) | (simp [*]; done)), H', ⟨by have := HK1.out; omega⟩, by repeat (first | exact Drawn0.refl _ | apply Drawn0.step)⟩
        · rw [if_neg c4] at H
          exact absurd H (by simp)
      · rw [if_neg c3] at H
        have c3b0 : decide (x5_1 < (l0.length : Int)) = false := decide_eq_false c3
        clear c3
        obtain rfl := Option.some.inj H
        go_wp2
        go_ret
        exact ⟨by first | rfl | (simp; done) | (simp [*]; done), by repeat (first | exact Drawn0.refl _ | apply Drawn0.step)⟩

/-! ### spec_NoncesOf: function 12 -/
def spec_NoncesOf.l0 : Nat → List (S38) → List ByteArray → Int → Option (List ByteArray)
  | 0, _, _, _ => none
  | k + 1, x0, x3, x4 => if x4 < (x0.length : Int) then (if 0 ≤ x4 then ((spec_l09Has.f k x3 ((rd_T38 x0 x4).f1)).bind fun t112 => (if t112 = true then (spec_NoncesOf.l0 k x0 x3 (wrap64 (x4 + 1))) else (if x3.length < 8796093022208 then (spec_NoncesOf.l0 k x0 (x3 ++ [(rd_T38 x0 x4).f1]) (wrap64 (x4 + 1))) else (none)))) else (none)) else (some x3)
def spec_NoncesOf.f (k : Nat) (l0 : List (S38)) : Option (List ByteArray) := spec_NoncesOf.l0 k l0 (([] : List ByteArray)) 0
theorem spec_NoncesOf.mono_l : ∀ k, (∀ y0 y1 y2, LeO (spec_NoncesOf.l0 k y0 y1 y2) (spec_NoncesOf.l0 (k + 1) y0 y1 y2))
  | 0 => fun _ _ _ r h => by simp [spec_NoncesOf.l0] at h
  | k + 1 => by
    have ih0 := spec_NoncesOf.mono_l k
    · intro y0 y1 y2
      unfold spec_NoncesOf.l0
      repeat' first
      | (with_reducible exact ih0 _ _ _)
      | (with_reducible exact spec_l09Has.mono _ _ _)
      | (with_reducible exact LeO.refl _)
      | (with_reducible exact LeO.none _)
      | (with_reducible refine LeO.ite ?_ ?_)
      | (with_reducible refine LeO.bind ?_ (fun _ => ?_))
      | exact ih0 _ _ _
      | exact spec_l09Has.mono _ _ _
      | exact LeO.none _
      | refine LeO.ite ?_ ?_
      | refine LeO.bind ?_ (fun _ => ?_)
theorem spec_NoncesOf.mono : ∀ a0 k, LeO (spec_NoncesOf.f k a0) (spec_NoncesOf.f (k + 1) a0) := by
  intro a0 k
  have ih0 := spec_NoncesOf.mono_l k
  unfold spec_NoncesOf.f
  repeat' first
      | (with_reducible exact ih0 _ _ _)
      | (with_reducible exact spec_l09Has.mono _ _ _)
      | (with_reducible exact LeO.refl _)
      | (with_reducible exact LeO.none _)
      | (with_reducible refine LeO.ite ?_ ?_)
      | (with_reducible refine LeO.bind ?_ (fun _ => ?_))
      | exact ih0 _ _ _
      | exact spec_l09Has.mono _ _ _
      | exact LeO.none _
      | refine LeO.ite ?_ ?_
      | refine LeO.bind ?_ (fun _ => ?_)
set_option maxHeartbeats 8000000 in
set_option maxRecDepth 100000 in
theorem spec_NoncesOf.calls (k : Nat) (A0 : Option Addr) (c0 : Nat) (l0 : List (S38)) (r : List ByteArray) (w : World) (hr0 : Kd.C k38 w A0 l0.length l0) (hc0 : l0.length ≤ c0) (h : spec_NoncesOf.f k l0 = some r) :
    Calls Try.prog 12 #[.slice A0 l0.length c0] w fun e w' => ∃ v0_ : Value, e = .returned (v0_) ∧ Kd.R Kd.string 9 w' w.heap.size (fun _ => True) v0_ r ∧ Below w.heap.size w w' := by
  have HR0 := Aside0.mk hr0
  have HC0 := Aside0.mk hc0
  clear hr0 hc0
  have HB := Aside0.mk (Below.refl w.heap.size w)
  have H : (spec_NoncesOf.l0 k l0 (([] : List ByteArray)) 0) = some r := h
  clear h
  obtain ⟨y108, hy108⟩ : ∃ y_ : List ByteArray, y_ = (([] : List ByteArray)) := ⟨_, rfl⟩
  replace H : (spec_NoncesOf.l0 k l0 y108 0) = some r := by first | (rw [hy108]; with_reducible exact H) | (have H2_ := (Option.bind_some _ _).symm.trans H; rw [hy108]; with_reducible exact H2_) | (have H2_ := (Option.bind_some _ _).symm.trans H; with_reducible exact H2_) | with_reducible exact H | (rw [hy108]; exact H) | exact H
  have Ny108 := Aside0.mk hy108
  clear hy108
  have H' := Aside0.mk H
  clear H
  go_enter Try.func12, Try.ntmps12
  go_wp2_with (first | ((with_reducible refine gate_dst (N := 5) rfl ?_); refine Kd.R_lit Kd.string _ 9 ?hg (N := 5) ?hd (xs := ([] : List ByteArray)) (inner := []) (ok := fun _ => True) (okp := fun _ => True) ?hr ?hp (fun _ hk => hk) trivial (Below.refl _ _) (Nat.le_refl _) (by simp) ?_; (case hd => rfl); (case hg => rfl); (case hr => first | (go_simp; done) | (go_simp; rfl)); (case hp => exact (Reps.none _ _)); intro v109 w2 ho3 hb hg_ hnew_; clear hg_ hnew_; (first | rw [← Ny108.out] at ho3 | (simp only [Int.reduceToNat] at ho3; rw [← Ny108.out] at ho3)); have n0_ := Aside0.mk (Kd.R_lower ho3 (below_size (by repeat (first | (with_reducible first | exact HB.out | apply below_alloc | apply pw_below_drewN | apply below_drew1) | exact HB.out)))); have n1_ := Aside0.mk (below_step (by repeat (first | (with_reducible first | exact HB.out | apply below_alloc | apply pw_below_drewN | apply below_drew1) | exact HB.out)) hb); clear HB; have HO110 := n0_; have HB := n1_; clear n0_ n1_; clear hb ho3))
  go_loopg [3, 4] k (fun kq v3 v4 w' => ∃ (x3_1 : List ByteArray) (x4_1 : Int), v4 = .int .i64 x4_1 ∧ Aside0 (spec_NoncesOf.l0 kq l0 x3_1 x4_1 = some r) ∧ Aside0 (kq ≤ k) ∧ Aside0 (Kd.R Kd.string 9 w' w.heap.size (fun _ => True) v3 x3_1) ∧ Aside0 (Below w.heap.size w w'))
  case atStart => exact ⟨(y108), (0), (by first | rfl | (simp; done) | (simp [*]; done)), H', ⟨Nat.le_refl _⟩, ⟨by (with_reducible repeat (first | apply Kd.R_alloc | apply Kd.R_drewN | apply Kd.R_drew)); exact HO110.out⟩, ⟨by repeat (first | (with_reducible first | exact HB.out | apply below_alloc | apply pw_below_drewN | apply below_drew1) | exact HB.out)⟩⟩
  case round =>
    clear H'
    try clear c1
    try clear p2
    obtain ⟨x3_1, x4_1, rfl, HA, HK1, HO_3, HB⟩ := hrel
    cases gk with
    | zero => exact absurd HA.out (by simp [spec_NoncesOf.l0])
    | succ k1 =>
      have H := HA.out
      clear HA
      simp only [spec_NoncesOf.l0] at H
      by_cases c4 : x4_1 < (l0.length : Int)
      · rw [if_pos c4] at H
        have c4b0 : decide (x4_1 < (l0.length : Int)) = true := decide_eq_true c4
        clear c4
        by_cases c5 : 0 ≤ x4_1
        · rw [if_pos c5] at H
          have c5b0 : decide (0 ≤ x4_1) = true := decide_eq_true c5
          clear c5
          replace H := Option.bind_eq_some_iff.mp H
          obtain ⟨t112, A60, H⟩ := H
          replace H : (if t112 = true then (spec_NoncesOf.l0 k1 l0 x3_1 (wrap64 (x4_1 + 1))) else (if x3_1.length < 8796093022208 then (spec_NoncesOf.l0 k1 l0 (x3_1 ++ [(rd_T38 l0 x4_1).f1]) (wrap64 (x4_1 + 1))) else (none))) = some r := H
          have A6 := Aside0.mk A60
          clear A60
          by_cases c7 : t112 = true
          · subst c7
            have H1 : (spec_NoncesOf.l0 k1 l0 x3_1 (wrap64 (x4_1 + 1))) = some r := by rw [if_pos rfl] at H; exact H
            clear H
            have H := H1
            clear H1
            have H' := Aside0.mk H
            clear H
            have p111 : 0 ≤ (x4_1 : Int) := of_decide_eq_true (by first | (with_reducible assumption) | assumption)
            have q111 : x4_1 < (l0.length : Int) := of_decide_eq_true (by first | (with_reducible assumption) | assumption)
            obtain ⟨ad111, e111, hx111_0, hx111_1, hx111_2⟩ := at_T38 HR0.out x4_1 p111 q111
            cases e111
            replace hx111_0 := (HB.out.cell (World.block_lt_of_cell? w _ hx111_0)).trans hx111_0
            replace hx111_1 := (HB.out.cell (World.block_lt_of_cell? w _ hx111_1)).trans hx111_1
            replace hx111_2 := (HB.out.cell (World.block_lt_of_cell? w _ hx111_2)).trans hx111_2
            replace p111 := eq_true p111
            replace q111 := eq_true q111
            obtain ⟨Ao8, co8, eo8⟩ := Kd.R_slice HO_3.out
            subst eo8
            go_wp2_with (first | ((with_reducible refine gate_callee (f := 30) rfl ?_); refine goesL_ (some 18) rfl rfl Try.func30 (by kernel_rfl) rfl #[.slice Ao8 x3_1.length co8, .string ((rd_T38 l0 x4_1).f1)] rfl (by (try simp only [List.map_toArray, List.map_cons, List.map_nil]); first | done | rfl | (simp only [List.length_drop, List.length_take]; rfl)) ?_; (with_reducible refine (spec_l09Has.calls k1 _ _ x3_1 ((rd_T38 l0 x4_1).f1) true _ ?side1 ?side2 A6.out).mono ?_); (case side1 => repeat (first | exact (Kd.R_reads' HO_3.out).2.2 | (with_reducible refine Kd.C_alloc ?_ _) | (with_reducible refine Kd.C_drewN ?_ _) | (with_reducible refine Kd.C_drew ?_))); (case side2 => exact (Kd.R_reads' HO_3.out).2.1); rintro e w' ⟨rfl, ⟨nd, rfl⟩⟩; refine ⟨_, rfl, ?_⟩))
            go_roundg k1
            case measure => have := HK1.out; omega
            case rel => exact ⟨(x3_1), (wrap64 (x4_1 + 1)), (by first | rfl | (simp; done) | (simp [*]; done)), H', ⟨by have := HK1.out; omega⟩, ⟨by (with_reducible repeat (first | apply Kd.R_alloc | apply Kd.R_drewN | apply Kd.R_drew)); exact HO_3.out⟩, ⟨by repeat (first | (with_reducible first | exact HB.out | apply below_alloc | apply pw_below_drewN | apply below_drew1) | exact HB.out)⟩⟩
          · replace c7 := Bool.eq_false_iff.mpr c7
            subst c7
            have H1 : (if x3_1.length < 8796093022208 then (spec_NoncesOf.l0 k1 l0 (x3_1 ++ [(rd_T38 l0 x4_1).f1]) (wrap64 (x4_1 + 1))) else (none)) = some r := by rw [if_neg (show ¬ (false = true) by decide)] at H; exact H
            clear H
            have H := H1
            clear H1
            by_cases c9 : x3_1.length < 8796093022208
            · rw [if_pos c9] at H
              have LMc9 := Aside0.mk c9
              clear c9
              obtain ⟨y114, hy114⟩ : ∃ y_ : List ByteArray, y_ = (x3_1 ++ [(rd_T38 l0 x4_1).f1]) := ⟨_, rfl⟩
              replace H : (spec_NoncesOf.l0 k1 l0 y114 (wrap64 (x4_1 + 1))) = some r := by first | (rw [hy114]; with_reducible exact H) | (have H2_ := (Option.bind_some _ _).symm.trans H; rw [hy114]; with_reducible exact H2_) | (have H2_ := (Option.bind_some _ _).symm.trans H; with_reducible exact H2_) | with_reducible exact H | (rw [hy114]; exact H) | exact H
              have Ny114 := Aside0.mk hy114
              clear hy114
              have H' := Aside0.mk H
              clear H
              have p111 : 0 ≤ (x4_1 : Int) := of_decide_eq_true (by first | (with_reducible assumption) | assumption)
              have q111 : x4_1 < (l0.length : Int) := of_decide_eq_true (by first | (with_reducible assumption) | assumption)
              obtain ⟨ad111, e111, hx111_0, hx111_1, hx111_2⟩ := at_T38 HR0.out x4_1 p111 q111
              cases e111
              replace hx111_0 := (HB.out.cell (World.block_lt_of_cell? w _ hx111_0)).trans hx111_0
              replace hx111_1 := (HB.out.cell (World.block_lt_of_cell? w _ hx111_1)).trans hx111_1
              replace hx111_2 := (HB.out.cell (World.block_lt_of_cell? w _ hx111_2)).trans hx111_2
              replace p111 := eq_true p111
              replace q111 := eq_true q111
              obtain ⟨Ao10, co10, eo10⟩ := Kd.R_slice HO_3.out
              subst eo10
              go_wp2_with (first | ((with_reducible refine gate_callee (f := 30) rfl ?_); refine goesL_ (some 18) rfl rfl Try.func30 (by kernel_rfl) rfl #[.slice Ao10 x3_1.length co10, .string ((rd_T38 l0 x4_1).f1)] rfl (by (try simp only [List.map_toArray, List.map_cons, List.map_nil]); first | done | rfl | (simp only [List.length_drop, List.length_take]; rfl)) ?_; (with_reducible refine (spec_l09Has.calls k1 _ _ x3_1 ((rd_T38 l0 x4_1).f1) false _ ?side1 ?side2 A6.out).mono ?_); (case side1 => repeat (first | exact (Kd.R_reads' HO_3.out).2.2 | (with_reducible refine Kd.C_alloc ?_ _) | (with_reducible refine Kd.C_drewN ?_ _) | (with_reducible refine Kd.C_drew ?_))); (case side2 => exact (Kd.R_reads' HO_3.out).2.1); rintro e w' ⟨rfl, ⟨nd, rfl⟩⟩; refine ⟨_, rfl, ?_⟩; have p113 : 0 ≤ (x4_1 : Int) := of_decide_eq_true (by first | (with_reducible assumption) | assumption); have q113 : x4_1 < (l0.length : Int) := of_decide_eq_true (by first | (with_reducible assumption) | assumption); obtain ⟨ad113, e113, hx113_0, hx113_1, hx113_2⟩ := at_T38 HR0.out x4_1 p113 q113; obtain rfl : ad111 = ad113 := (by injection e113); replace hx113_0 := (HB.out.cell (World.block_lt_of_cell? w _ hx113_0)).trans hx113_0; replace hx113_1 := (HB.out.cell (World.block_lt_of_cell? w _ hx113_1)).trans hx113_1; replace hx113_2 := (HB.out.cell (World.block_lt_of_cell? w _ hx113_2)).trans hx113_2; replace p113 := eq_true p113; replace q113 := eq_true q113) | ((with_reducible refine gate_builtin (b := .append) (xs := #[.tmp 20, .tmp 26]) rfl ?_); at_builtin; refine Kd.R_append Kd.string (w0 := w) w.heap.size rfl (.tmp 20) (.tmp 26) 29 9 (.string ⟨#[]⟩) 16 rfl Try.underlying29 info9 rfl (by decide) (by omega) (.slice Ao10 x3_1.length co10) x3_1 ((rd_T38 l0 x4_1).f1) [.string ((rd_T38 l0 x4_1).f1)] (fun _ => True) (fun _ => False) rfl rfl ?aP (fun _ hk => hk.elim) ?aF ?aO ?aB ?aS ?aL ?_; (case aP => exact rfl); (case aB => exact (by repeat (first | (with_reducible first | exact HB.out | apply below_alloc | apply pw_below_drewN | apply below_drew1) | exact HB.out))); (case aF => exact (fun _ _ => trivial)); (case aO => exact (by (with_reducible repeat (first | apply Kd.R_alloc | apply Kd.R_drewN | apply Kd.R_drew)); exact HO_3.out)); (case aS => exact (below_size (by repeat (first | (with_reducible first | exact HB.out | apply below_alloc | apply pw_below_drewN | apply below_drew1) | exact HB.out)))); (case aL => have := LMc9.out; omega); intro v115 w11 ho hb hg hat; rw [← Ny114.out] at ho; have n0_ := Aside0.mk (hb); have n1_ := Aside0.mk (ho); clear HB; clear HO_3; have HB := n0_; have HO116 := n1_; clear n0_ n1_; clear ho hb hg hat))
              go_roundg k1
              case measure => have := HK1.out; omega
              case rel => exact ⟨(y114), (wrap64 (x4_1 + 1)), (by first | rfl | (simp; done) | (simp [*]; done)), H', ⟨by have := HK1.out; omega⟩, ⟨by (with_reducible repeat (first | apply Kd.R_alloc | apply Kd.R_drewN | apply Kd.R_drew)); exact HO116.out⟩, ⟨by repeat (first | (with_reducible first | exact HB.out | apply below_alloc | apply pw_below_drewN | apply below_drew1) | exact HB.out)⟩⟩
            · rw [if_neg c9] at H
              exact absurd H (by simp)
        · rw [if_neg c5] at H
          exact absurd H (by simp)
      · rw [if_neg c4] at H
        have c4b0 : decide (x4_1 < (l0.length : Int)) = false := decide_eq_false c4
        clear c4
        obtain rfl := Option.some.inj H
        go_wp2
        go_ret
        exact ⟨_, by first | rfl | (simp [errW_none, errW_some] <;> rfl) | (simp [*, errW_none, errW_some] <;> rfl), by (with_reducible repeat (first | apply Kd.R_alloc | apply Kd.R_drewN | apply Kd.R_drew)); exact HO_3.out, by repeat (first | (with_reducible first | exact HB.out | apply below_alloc | apply pw_below_drewN | apply below_drew1) | exact HB.out)⟩

end Go.Proofs.Ytcmemppkllgkmaa.PFnTwice
