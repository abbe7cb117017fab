-- Written by a program of this session for this claim; Lean checks it.
import Derived.Test.YtngdfchpknglhaaMFnExactMixColumnsx0
namespace Go.Proofs.Ytngdfchpknglhaa.PFnExactMixColumns
open Go.RowKit Go.Proofs.YtngdfchpknglhaaW.PrintWords Go.Proofs.YtngdfchpknglhaaW.PrintLast Go.Proofs.YtngdfchpknglhaaW.PrintMore
attribute [local go_sem] max2_int min2_int max_two min_two max_three min_three max_four min_four   -- for this text's walks alone
set_option linter.unusedVariables false
set_option linter.unusedSimpArgs false

/-! ### spec_l01In: function 40 -/
def spec_l01In.f (a0 : Int) (a1 : Int) (a2 : Int) : Option (Bool) := if a0 ≥ a1 then (some (decide (a0 ≤ a2))) else (some false)
set_option maxHeartbeats 8000000 in
set_option maxRecDepth 100000 in
theorem spec_l01In.calls (a0 : Int) (a1 : Int) (a2 : Int) (r : Bool) (w : World) (h : spec_l01In.f a0 a1 a2 = some r) :
    Calls Try.prog 40 #[.int .i64 a0, .int .i64 a1, .int .i64 a2] w fun e w' => e = .returned (.bool r) ∧ Drawn0 w w' := by
  have H : (if a0 ≥ a1 then (some (decide (a0 ≤ a2))) else (some false)) = some r := h
  clear h
  by_cases c4 : a0 ≥ a1
  · rw [if_pos c4] at H
    have c4b0 : decide (a1 ≤ a0) = true := decide_eq_true c4
    clear c4
    obtain rfl := Option.some.inj H
    go_enter Try.func40, Try.ntmps40
    go_wp2
    go_ret
    exact ⟨by first | rfl | (simp; done) | (simp [*]; done), by repeat (first | exact Drawn0.refl _ | apply Drawn0.step)⟩
  · rw [if_neg c4] at H
    have c4b0 : decide (a1 ≤ a0) = false := decide_eq_false c4
    clear c4
    obtain rfl := Option.some.inj H
    go_enter Try.func40, Try.ntmps40
    go_wp2
    go_ret
    exact ⟨by first | rfl | (simp; done) | (simp [*]; done), by repeat (first | exact Drawn0.refl _ | apply Drawn0.step)⟩

/-! ### spec_l05Byte: function 37 -/
def spec_l05Byte.f (a0 : Int) : Option (Bool) := (spec_l01In.f a0 0 255).bind fun t101 => (some t101)
set_option maxHeartbeats 8000000 in
set_option maxRecDepth 100000 in
theorem spec_l05Byte.calls (a0 : Int) (r : Bool) (w : World) (h : spec_l05Byte.f a0 = some r) :
    Calls Try.prog 37 #[.int .i64 a0] w fun e w' => e = .returned (.bool r) ∧ Drawn0 w w' := by
  have H : ((spec_l01In.f a0 0 255).bind fun t101 => (some t101)) = some r := h
  clear h
  replace H := Option.bind_eq_some_iff.mp H
  obtain ⟨t101, A20, H⟩ := H
  replace H : (some t101) = some r := H
  have A2 := Aside0.mk A20
  clear A20
  obtain rfl := Option.some.inj H
  go_enter Try.func37, Try.ntmps37
  go_wp2_with (first | ((with_reducible refine gate_callee (f := 40) rfl ?_); refine goesL_ (some 4) rfl rfl Try.func40 (by kernel_rfl) rfl #[.int .i64 a0, .int .i64 0, .int .i64 255] rfl (by (try simp only [List.map_toArray, List.map_cons, List.map_nil]); first | done | rfl | (simp only [List.length_drop, List.length_take]; rfl)) ?_; (with_reducible refine (spec_l01In.calls a0 0 255 t101 _ A2.out).mono ?_); rintro e w' ⟨rfl, ⟨nd, rfl⟩⟩; refine ⟨_, rfl, ?_⟩))
  go_ret
  exact ⟨by first | rfl | (simp; done) | (simp [*]; done), by repeat (first | exact Drawn0.refl _ | apply Drawn0.step)⟩

/-! ### spec_FieldDouble: function 38 -/
def spec_FieldDouble.f (a0 : Int) : Option (Int) := (spec_l05Byte.f a0).bind fun t102 => (if t102 = true then (if (wrap64 (2 * a0)) > 255 then (some (Go.bits .xor .i64 (wrap64 (2 * a0)) 283)) else (some (wrap64 (2 * a0)))) else (some 0))
set_option maxHeartbeats 8000000 in
set_option maxRecDepth 100000 in
theorem spec_FieldDouble.calls (a0 : Int) (r : Int) (w : World) (h : spec_FieldDouble.f a0 = some r) :
    Calls Try.prog 38 #[.int .i64 a0] w fun e w' => e = .returned (.int .i64 r) ∧ Drawn0 w w' := by
  have H : ((spec_l05Byte.f a0).bind fun t102 => (if t102 = true then (if (wrap64 (2 * a0)) > 255 then (some (Go.bits .xor .i64 (wrap64 (2 * a0)) 283)) else (some (wrap64 (2 * a0)))) else (some 0))) = some r := h
  clear h
  replace H := Option.bind_eq_some_iff.mp H
  obtain ⟨t102, A20, H⟩ := H
  replace H : (if t102 = true then (if (wrap64 (2 * a0)) > 255 then (some (Go.bits .xor .i64 (wrap64 (2 * a0)) 283)) else (some (wrap64 (2 * a0)))) else (some 0)) = some r := H
  have A2 := Aside0.mk A20
  clear A20
  by_cases c3 : t102 = true
  · subst c3
    have H1 : (if (wrap64 (2 * a0)) > 255 then (some (Go.bits .xor .i64 (wrap64 (2 * a0)) 283)) else (some (wrap64 (2 * a0)))) = some r := by rw [if_pos rfl] at H; exact H
    clear H
    have H := H1
    clear H1
    by_cases c4 : (wrap64 (2 * a0)) > 255
    · rw [if_pos c4] at H
      have c4b0 : decide (255 < (wrap64 (2 * a0))) = true := decide_eq_true c4
      clear c4
      obtain rfl := Option.some.inj H
      go_enter Try.func38, Try.ntmps38
      go_wp2_with (first | ((with_reducible refine gate_callee (f := 37) rfl ?_); refine goesL_ (some 4) rfl rfl Try.func37 (by kernel_rfl) rfl #[.int .i64 a0] rfl (by (try simp only [List.map_toArray, List.map_cons, List.map_nil]); first | done | rfl | (simp only [List.length_drop, List.length_take]; rfl)) ?_; (with_reducible refine (spec_l05Byte.calls a0 true _ A2.out).mono ?_); rintro e w' ⟨rfl, ⟨nd, rfl⟩⟩; refine ⟨_, rfl, ?_⟩))
      go_ret
      exact ⟨by first | rfl | (simp; done) | (simp [*]; done), by repeat (first | exact Drawn0.refl _ | apply Drawn0.step)⟩
    · rw [if_neg c4] at H
      have c4b0 : decide (255 < (wrap64 (2 * a0))) = false := decide_eq_false c4
      clear c4
      obtain rfl := Option.some.inj H
      go_enter Try.func38, Try.ntmps38
      go_wp2_with (first | ((with_reducible refine gate_callee (f := 37) rfl ?_); refine goesL_ (some 4) rfl rfl Try.func37 (by kernel_rfl) rfl #[.int .i64 a0] rfl (by (try simp only [List.map_toArray, List.map_cons, List.map_nil]); first | done | rfl | (simp only [List.length_drop, List.length_take]; rfl)) ?_; (with_reducible refine (spec_l05Byte.calls a0 true _ A2.out).mono ?_); rintro e w' ⟨rfl, ⟨nd, rfl⟩⟩; refine ⟨_, rfl, ?_⟩))
      go_ret
      exact ⟨by first | rfl | (simp; done) | (simp [*]; done), by repeat (first | exact Drawn0.refl _ | apply Drawn0.step)⟩
  · replace c3 := Bool.eq_false_iff.mpr c3
    subst c3
    have H1 : (some 0) = some r := by rw [if_neg (show ¬ (false = true) by decide)] at H; exact H
    clear H
    have H := H1
    clear H1
    obtain rfl := Option.some.inj H
    go_enter Try.func38, Try.ntmps38
    go_wp2_with (first | ((with_reducible refine gate_callee (f := 37) rfl ?_); refine goesL_ (some 4) rfl rfl Try.func37 (by kernel_rfl) rfl #[.int .i64 a0] rfl (by (try simp only [List.map_toArray, List.map_cons, List.map_nil]); first | done | rfl | (simp only [List.length_drop, List.length_take]; rfl)) ?_; (with_reducible refine (spec_l05Byte.calls a0 false _ A2.out).mono ?_); rintro e w' ⟨rfl, ⟨nd, rfl⟩⟩; refine ⟨_, rfl, ?_⟩))
    go_ret
    exact ⟨by first | rfl | (simp; done) | (simp [*]; done), by repeat (first | exact Drawn0.refl _ | apply Drawn0.step)⟩

/-! ### spec_MixColumns: function 26 -/
mutual
def spec_MixColumns.l0 : Nat → ByteArray → List Int → Int → Option (ByteArray)
  | 0, _, _, _ => none
  | k + 1, x0, x3, x4 => if x4 < 4 then (spec_MixColumns.l1 k x0 x3 x4 0) else (some (strOfNums x3))
def spec_MixColumns.l1 : Nat → ByteArray → List Int → Int → Int → Option (ByteArray)
  | 0, _, _, _, _ => none
  | k + 1, x0, x3, x4, x5 => if x5 < 4 then (if 0 ≤ (wrap64 ((wrap64 (4 * x4)) + x5)) then (if (wrap64 ((wrap64 (4 * x4)) + x5)) < (x0.size : Int) then (if 0 ≤ (wrap64 ((wrap64 (4 * x4)) + (Int.tmod (wrap64 (x5 + 1)) 4))) then (if (wrap64 ((wrap64 (4 * x4)) + (Int.tmod (wrap64 (x5 + 1)) 4))) < (x0.size : Int) then (if 0 ≤ (wrap64 ((wrap64 (4 * x4)) + (Int.tmod (wrap64 (x5 + 2)) 4))) then (if (wrap64 ((wrap64 (4 * x4)) + (Int.tmod (wrap64 (x5 + 2)) 4))) < (x0.size : Int) then (if 0 ≤ (wrap64 ((wrap64 (4 * x4)) + (Int.tmod (wrap64 (x5 + 3)) 4))) then (if (wrap64 ((wrap64 (4 * x4)) + (Int.tmod (wrap64 (x5 + 3)) 4))) < (x0.size : Int) then ((spec_FieldDouble.f (wrap64 (bt x0 (wrap64 ((wrap64 (4 * x4)) + x5))))).bind fun t106 => ((spec_FieldDouble.f (wrap64 (bt x0 (wrap64 ((wrap64 (4 * x4)) + (Int.tmod (wrap64 (x5 + 1)) 4)))))).bind fun t107 => (if (wrap64 ((wrap64 (4 * x4)) + x5)) < (x3.length : Int) then (spec_MixColumns.l1 k x0 (x3.set ((wrap64 ((wrap64 (4 * x4)) + x5)) : Int).toNat (Go.bits .xor .u8 ((Go.bits .xor .i64 (Go.bits .xor .i64 t106 t107) (wrap64 (bt x0 (wrap64 ((wrap64 (4 * x4)) + (Int.tmod (wrap64 (x5 + 1)) 4)))))) % 256) (Go.bits .xor .u8 (bt x0 (wrap64 ((wrap64 (4 * x4)) + (Int.tmod (wrap64 (x5 + 2)) 4)))) (bt x0 (wrap64 ((wrap64 (4 * x4)) + (Int.tmod (wrap64 (x5 + 3)) 4))))))) x4 (wrap64 (x5 + 1))) else (none)))) else (none)) else (none)) else (none)) else (none)) else (none)) else (none)) else (none)) else (none)) else (spec_MixColumns.l0 k x0 x3 (wrap64 (x4 + 1)))
end
def spec_MixColumns.f (k : Nat) (a0 : ByteArray) : Option (ByteArray) := if (a0.size : Int) = 16 then (if 16 ≤ 281474976710656 then (spec_MixColumns.l0 k a0 (List.replicate 16 0) 0) else (none)) else (some a0)
theorem spec_MixColumns.mono_l : ∀ k, (∀ y0 y1 y2, LeO (spec_MixColumns.l0 k y0 y1 y2) (spec_MixColumns.l0 (k + 1) y0 y1 y2)) ∧ (∀ y0 y1 y2 y3, LeO (spec_MixColumns.l1 k y0 y1 y2 y3) (spec_MixColumns.l1 (k + 1) y0 y1 y2 y3))
  | 0 => ⟨fun _ _ _ r h => by simp [spec_MixColumns.l0] at h, fun _ _ _ _ r h => by simp [spec_MixColumns.l1] at h⟩
  | k + 1 => by
    obtain ⟨ih0, ih1⟩ := spec_MixColumns.mono_l k
    refine ⟨?_, ?_⟩
    · intro y0 y1 y2
      unfold spec_MixColumns.l0
      repeat' first
      | (with_reducible exact ih0 _ _ _)
      | (with_reducible exact ih1 _ _ _ _)
      | (with_reducible exact LeO.refl _)
      | (with_reducible exact LeO.none _)
      | (with_reducible refine LeO.ite ?_ ?_)
      | (with_reducible refine LeO.bind ?_ (fun _ => ?_))
      | exact ih0 _ _ _
      | exact ih1 _ _ _ _
      | exact LeO.none _
      | refine LeO.ite ?_ ?_
      | refine LeO.bind ?_ (fun _ => ?_)
    · intro y0 y1 y2 y3
      unfold spec_MixColumns.l1
      repeat' first
      | (with_reducible exact ih0 _ _ _)
      | (with_reducible exact ih1 _ _ _ _)
      | (with_reducible exact LeO.refl _)
      | (with_reducible exact LeO.none _)
      | (with_reducible refine LeO.ite ?_ ?_)
      | (with_reducible refine LeO.bind ?_ (fun _ => ?_))
      | exact ih0 _ _ _
      | exact ih1 _ _ _ _
      | exact LeO.none _
      | refine LeO.ite ?_ ?_
      | refine LeO.bind ?_ (fun _ => ?_)
theorem spec_MixColumns.mono : ∀ a0 k, LeO (spec_MixColumns.f k a0) (spec_MixColumns.f (k + 1) a0) := by
  intro a0 k
  obtain ⟨ih0, ih1⟩ := spec_MixColumns.mono_l k
  unfold spec_MixColumns.f
  repeat' first
      | (with_reducible exact ih0 _ _ _)
      | (with_reducible exact ih1 _ _ _ _)
      | (with_reducible exact LeO.refl _)
      | (with_reducible exact LeO.none _)
      | (with_reducible refine LeO.ite ?_ ?_)
      | (with_reducible refine LeO.bind ?_ (fun _ => ?_))
      | exact ih0 _ _ _
      | exact ih1 _ _ _ _
      | exact LeO.none _
      | refine LeO.ite ?_ ?_
      | refine LeO.bind ?_ (fun _ => ?_)
set_option maxHeartbeats 8000000 in
set_option maxRecDepth 100000 in
theorem spec_MixColumns.calls (k : Nat) (a0 : ByteArray) (r : ByteArray) (w : World) (h : spec_MixColumns.f k a0 = some r) :
    Calls Try.prog 26 #[.string a0] w fun e w' => e = .returned (.string r) ∧ Below w.heap.size w w' := by
  have HB := Aside0.mk (Below.refl w.heap.size w)
  have H : (if (a0.size : Int) = 16 then (if 16 ≤ 281474976710656 then (spec_MixColumns.l0 k a0 (List.replicate 16 0) 0) else (none)) else (some a0)) = some r := h
  clear h
  by_cases c2 : (a0.size : Int) = 16
  · rw [if_pos c2] at H
    have c2b0 : ((a0.size : Int) == 16) = true := beq_iff_eq.mpr c2
    have c2b1 : ((a0.size : Int) != 16) = false := bne_eq_false_iff_eq.mpr c2
    clear c2
    by_cases c3 : 16 ≤ 281474976710656
    · rw [if_pos c3] at H
      have c3b0 := eq_true c3
      have c3b1 : decide (16 ≤ 281474976710656) = true := decide_eq_true c3
      clear c3
      obtain ⟨y103, hy103⟩ : ∃ y_ : List Int, y_ = (List.replicate 16 0) := ⟨_, rfl⟩
      replace H : (spec_MixColumns.l0 k a0 y103 0) = some r := by first | (rw [hy103]; with_reducible exact H) | (have H2_ := (Option.bind_some _ _).symm.trans H; rw [hy103]; with_reducible exact H2_) | (have H2_ := (Option.bind_some _ _).symm.trans H; with_reducible exact H2_) | with_reducible exact H | (rw [hy103]; exact H) | exact H
      have Ny103 := Aside0.mk hy103
      clear hy103
      have H' := Aside0.mk H
      clear H
      go_enter Try.func26, Try.ntmps26
      go_wp2_with (first | ((with_reducible refine gate_dst (N := 13) rfl ?_); refine Kd.R_make (Kd.int .u8) _ 5 rfl (N := 13) rfl 24 _ _ rfl 16 rfl rfl Try.underlying24 (.int .u8 0) 1 info5 rfl (by decide) (by omega) 0 (ok := fun _ => True) (okp := fun _ => True) rfl (fun _ hk => hk) trivial (by omega) (by omega) (Below.refl _ _) (Nat.le_refl _) ?_; intro v104 w4 ho5 hb hg_ hnew_; clear hg_ hnew_; (first | rw [← Ny103.out] at ho5 | (simp only [Int.reduceToNat] at ho5; rw [← Ny103.out] at ho5)); have n0_ := Aside0.mk (Kd.R_lower ho5 (below_size (by repeat (first | (with_reducible first | exact HB.out | apply below_alloc | apply pw_below_drewN | apply below_drew1) | exact HB.out)))); have n1_ := Aside0.mk (below_step (by repeat (first | (with_reducible first | exact HB.out | apply below_alloc | apply pw_below_drewN | apply below_drew1) | exact HB.out)) hb); clear HB; have HO105 := n0_; have HB := n1_; clear n0_ n1_; clear hb ho5))
      repeat (go_quiet (first | ((with_reducible refine gate_dst (N := 13) rfl ?_); refine Kd.R_make (Kd.int .u8) _ 5 rfl (N := 13) rfl 24 _ _ rfl 16 rfl rfl Try.underlying24 (.int .u8 0) 1 info5 rfl (by decide) (by omega) 0 (ok := fun _ => True) (okp := fun _ => True) rfl (fun _ hk => hk) trivial (by omega) (by omega) (Below.refl _ _) (Nat.le_refl _) ?_; intro v104 w4 ho5 hb hg_ hnew_; clear hg_ hnew_; (first | rw [← Ny103.out] at ho5 | (simp only [Int.reduceToNat] at ho5; rw [← Ny103.out] at ho5)); have n0_ := Aside0.mk (Kd.R_lower ho5 (below_size (by repeat (first | (with_reducible first | exact HB.out | apply below_alloc | apply pw_below_drewN | apply below_drew1) | exact HB.out)))); have n1_ := Aside0.mk (below_step (by repeat (first | (with_reducible first | exact HB.out | apply below_alloc | apply pw_below_drewN | apply below_drew1) | exact HB.out)) hb); clear HB; have HO105 := n0_; have HB := n1_; clear n0_ n1_; clear hb ho5)); try go_wp2_with (first | ((with_reducible refine gate_dst (N := 13) rfl ?_); refine Kd.R_make (Kd.int .u8) _ 5 rfl (N := 13) rfl 24 _ _ rfl 16 rfl rfl Try.underlying24 (.int .u8 0) 1 info5 rfl (by decide) (by omega) 0 (ok := fun _ => True) (okp := fun _ => True) rfl (fun _ hk => hk) trivial (by omega) (by omega) (Below.refl _ _) (Nat.le_refl _) ?_; intro v104 w4 ho5 hb hg_ hnew_; clear hg_ hnew_; (first | rw [← Ny103.out] at ho5 | (simp only [Int.reduceToNat] at ho5; rw [← Ny103.out] at ho5)); have n0_ := Aside0.mk (Kd.R_lower ho5 (below_size (by repeat (first | (with_reducible first | exact HB.out | apply below_alloc | apply pw_below_drewN | apply below_drew1) | exact HB.out)))); have n1_ := Aside0.mk (below_step (by repeat (first | (with_reducible first | exact HB.out | apply below_alloc | apply pw_below_drewN | apply below_drew1) | exact HB.out)) hb); clear HB; have HO105 := n0_; have HB := n1_; clear n0_ n1_; clear hb ho5)))
      go_loopg [4] k (fun kq v4 w' => ∃ (x3_1 : List Int) (x4_1 : Int), v4 = .int .i64 x4_1 ∧ Aside0 (spec_MixColumns.l0 kq a0 x3_1 x4_1 = some r) ∧ Aside0 (kq ≤ k) ∧ Aside0 (Kd.R (Kd.int .u8) 5 w' w.heap.size (fun _ => True) v104 x3_1) ∧ Aside0 (Below w.heap.size w w'))
      case atStart => exact ⟨(y103), (0), (by first | rfl | (simp; done) | (simp [*]; done)), H', ⟨Nat.le_refl _⟩, ⟨by (with_reducible repeat (first | apply Kd.R_alloc | apply Kd.R_drewN | apply Kd.R_drew)); exact HO105.out⟩, ⟨by repeat (first | (with_reducible first | exact HB.out | apply below_alloc | apply pw_below_drewN | apply below_drew1) | exact HB.out)⟩⟩
      case round =>
        clear H'
        try clear c2
        try clear c2b0
        try clear c2b1
        try clear p2
        try clear c3
        try clear c3b0
        try clear c3b1
        obtain ⟨x3_1, x4_1, rfl, HA, HK1, HO_3, HB⟩ := hrel
        cases gk with
        | zero => exact absurd HA.out (by simp [spec_MixColumns.l0])
        | succ k1 =>
          have H := HA.out
          clear HA
          simp only [spec_MixColumns.l0] at H
          by_cases c6 : x4_1 < 4
          · rw [if_pos c6] at H
            have c6b0 : decide (x4_1 < 4) = true := decide_eq_true c6
            clear c6
            have H' := Aside0.mk H
            clear H
            go_wp2
            repeat (go_quiet (fail); try go_wp2)
            go_loopg [5] k1 (fun kq v5 w' => ∃ (x3_2 : List Int) (x5_2 : Int), v5 = .int .i64 x5_2 ∧ Aside0 (spec_MixColumns.l1 kq a0 x3_2 x4_1 x5_2 = some r) ∧ Aside0 (kq ≤ k1) ∧ Aside0 (Kd.R (Kd.int .u8) 5 w' w.heap.size (fun _ => True) v104 x3_2) ∧ Aside0 (Below w.heap.size w w'))
            case atStart => exact ⟨(x3_1), (0), (by first | rfl | (simp; done) | (simp [*]; done)), H', ⟨Nat.le_refl _⟩, ⟨by (with_reducible repeat (first | apply Kd.R_alloc | apply Kd.R_drewN | apply Kd.R_drew)); exact HO_3.out⟩, ⟨by repeat (first | (with_reducible first | exact HB.out | apply below_alloc | apply pw_below_drewN | apply below_drew1) | exact HB.out)⟩⟩
            case round =>
              clear H'
              try clear c2
              try clear c2b0
              try clear c2b1
              try clear p2
              try clear c3
              try clear c3b0
              try clear c3b1
              try clear c6
              try clear c6b0
              try clear p2
              obtain ⟨x3_2, x5_2, rfl, HA, HK2, HO_3, HB⟩ := hrel
              cases gk with
              | zero => exact absurd HA.out (by simp [spec_MixColumns.l1])
              | succ k2 =>
                have H := HA.out
                clear HA
                simp only [spec_MixColumns.l1] at H
                by_cases c7 : x5_2 < 4
                · rw [if_pos c7] at H
                  have c7b0 : decide (x5_2 < 4) = true := decide_eq_true c7
                  clear c7
                  obtain ⟨ji8, hji8⟩ : ∃ j_ : Int, (wrap64 ((wrap64 (4 * x4_1)) + x5_2)) = j_ := ⟨_, rfl⟩
                  replace H : (if 0 ≤ (ji8) then (if (ji8) < (a0.size : Int) then (if 0 ≤ (wrap64 ((wrap64 (4 * x4_1)) + (Int.tmod (wrap64 (x5_2 + 1)) 4))) then (if (wrap64 ((wrap64 (4 * x4_1)) + (Int.tmod (wrap64 (x5_2 + 1)) 4))) < (a0.size : Int) then (if 0 ≤ (wrap64 ((wrap64 (4 * x4_1)) + (Int.tmod (wrap64 (x5_2 + 2)) 4))) then (if (wrap64 ((wrap64 (4 * x4_1)) + (Int.tmod (wrap64 (x5_2 + 2)) 4))) < (a0.size : Int) then (if 0 ≤ (wrap64 ((wrap64 (4 * x4_1)) + (Int.tmod (wrap64 (x5_2 + 3)) 4))) then (if (wrap64 ((wrap64 (4 * x4_1)) + (Int.tmod (wrap64 (x5_2 + 3)) 4))) < (a0.size : Int) then ((spec_FieldDouble.f (wrap64 (bt a0 (ji8)))).bind fun t106 => ((spec_FieldDouble.f (wrap64 (bt a0 (wrap64 ((wrap64 (4 * x4_1)) + (Int.tmod (wrap64 (x5_2 + 1)) 4)))))).bind fun t107 => (if (ji8) < (x3_2.length : Int) then (spec_MixColumns.l1 k2 a0 (x3_2.set ((ji8) : Int).toNat (Go.bits .xor .u8 ((Go.bits .xor .i64 (Go.bits .xor .i64 t106 t107) (wrap64 (bt a0 (wrap64 ((wrap64 (4 * x4_1)) + (Int.tmod (wrap64 (x5_2 + 1)) 4)))))) % 256) (Go.bits .xor .u8 (bt a0 (wrap64 ((wrap64 (4 * x4_1)) + (Int.tmod (wrap64 (x5_2 + 2)) 4)))) (bt a0 (wrap64 ((wrap64 (4 * x4_1)) + (Int.tmod (wrap64 (x5_2 + 3)) 4))))))) x4_1 (wrap64 (x5_2 + 1))) else (none)))) else (none)) else (none)) else (none)) else (none)) else (none)) else (none)) else (none)) else (none)) = some r := by first | (rw [hji8] at H; exact H) | (simp only [hji8] at H ⊢; exact H)
                  have hji8w : (IntKind.i64.wrap ((wrap64 (4 * x4_1)) + x5_2)) = ji8 := (i64_w _).trans hji8
                  by_cases c9 : 0 ≤ (ji8)
                  · rw [if_pos c9] at H
                    have c9b0 : decide (0 ≤ (ji8)) = true := decide_eq_true c9
                    clear c9
                    by_cases c10 : (ji8) < (a0.size : Int)
                    · rw [if_pos c10] at H
                      have c10b0 : decide ((ji8) < (a0.size : Int)) = true := decide_eq_true c10
                      clear c10
                      obtain ⟨ji12, hji12⟩ : ∃ j_ : Int, (wrap64 ((wrap64 (4 * x4_1)) + (Int.tmod (wrap64 (x5_2 + 1)) 4))) = j_ := ⟨_, rfl⟩
                      replace H : (if 0 ≤ (ji12) then (if (ji12) < (a0.size : Int) then (if 0 ≤ (wrap64 ((wrap64 (4 * x4_1)) + (Int.tmod (wrap64 (x5_2 + 2)) 4))) then (if (wrap64 ((wrap64 (4 * x4_1)) + (Int.tmod (wrap64 (x5_2 + 2)) 4))) < (a0.size : Int) then (if 0 ≤ (wrap64 ((wrap64 (4 * x4_1)) + (Int.tmod (wrap64 (x5_2 + 3)) 4))) then (if (wrap64 ((wrap64 (4 * x4_1)) + (Int.tmod (wrap64 (x5_2 + 3)) 4))) < (a0.size : Int) then ((spec_FieldDouble.f (wrap64 (bt a0 (ji8)))).bind fun t106 => ((spec_FieldDouble.f (wrap64 (bt a0 (ji12)))).bind fun t107 => (if (ji8) < (x3_2.length : Int) then (spec_MixColumns.l1 k2 a0 (x3_2.set ((ji8) : Int).toNat (Go.bits .xor .u8 ((Go.bits .xor .i64 (Go.bits .xor .i64 t106 t107) (wrap64 (bt a0 (ji12)))) % 256) (Go.bits .xor .u8 (bt a0 (wrap64 ((wrap64 (4 * x4_1)) + (Int.tmod (wrap64 (x5_2 + 2)) 4)))) (bt a0 (wrap64 ((wrap64 (4 * x4_1)) + (Int.tmod (wrap64 (x5_2 + 3)) 4))))))) x4_1 (wrap64 (x5_2 + 1))) else (none)))) else (none)) else (none)) else (none)) else (none)) else (none)) else (none)) = some r := by first | (rw [hji12] at H; exact H) | (simp only [hji12] at H ⊢; exact H)
                      have hji12w : (IntKind.i64.wrap ((wrap64 (4 * x4_1)) + (Int.tmod (wrap64 (x5_2 + 1)) 4))) = ji12 := (i64_w _).trans hji12
                      by_cases c13 : 0 ≤ (ji12)
                      · rw [if_pos c13] at H
                        have c13b0 : decide (0 ≤ (ji12)) = true := decide_eq_true c13
                        clear c13
                        by_cases c14 : (ji12) < (a0.size : Int)
                        · rw [if_pos c14] at H
                          have c14b0 : decide ((ji12) < (a0.size : Int)) = true := decide_eq_true c14
                          clear c14
                          obtain ⟨ji16, hji16⟩ : ∃ j_ : Int, (wrap64 ((wrap64 (4 * x4_1)) + (Int.tmod (wrap64 (x5_2 + 2)) 4))) = j_ := ⟨_, rfl⟩
                          replace H : (if 0 ≤ (ji16) then (if (ji16) < (a0.size : Int) then (if 0 ≤ (wrap64 ((wrap64 (4 * x4_1)) + (Int.tmod (wrap64 (x5_2 + 3)) 4))) then (if (wrap64 ((wrap64 (4 * x4_1)) + (Int.tmod (wrap64 (x5_2 + 3)) 4))) < (a0.size : Int) then ((spec_FieldDouble.f (wrap64 (bt a0 (ji8)))).bind fun t106 => ((spec_FieldDouble.f (wrap64 (bt a0 (ji12)))).bind fun t107 => (if (ji8) < (x3_2.length : Int) then (spec_MixColumns.l1 k2 a0 (x3_2.set ((ji8) : Int).toNat (Go.bits .xor .u8 ((Go.bits .xor .i64 (Go.bits .xor .i64 t106 t107) (wrap64 (bt a0 (ji12)))) % 256) (Go.bits .xor .u8 (bt a0 (ji16)) (bt a0 (wrap64 ((wrap64 (4 * x4_1)) + (Int.tmod (wrap64 (x5_2 + 3)) 4))))))) x4_1 (wrap64 (x5_2 + 1))) else (none)))) else (none)) else (none)) else (none)) else (none)) = some r := by first | (rw [hji16] at H; exact H) | (simp only [hji16] at H ⊢; exact H)
                          have hji16w : (IntKind.i64.wrap ((wrap64 (4 * x4_1)) + (Int.tmod (wrap64 (x5_2 + 2)) 4))) = ji16 := (i64_w _).trans hji16
                          by_cases c17 : 0 ≤ (ji16)
                          · rw [if_pos c17] at H
                            have c17b0 : decide (0 ≤ (ji16)) = true := decide_eq_true c17
                            clear c17
                            by_cases c18 : (ji16) < (a0.size : Int)
                            · rw [if_pos c18] at H
                              have c18b0 : decide ((ji16) < (a0.size : Int)) = true := decide_eq_true c18
                              clear c18
                              obtain ⟨ji20, hji20⟩ : ∃ j_ : Int, (wrap64 ((wrap64 (4 * x4_1)) + (Int.tmod (wrap64 (x5_2 + 3)) 4))) = j_ := ⟨_, rfl⟩
                              replace H : (if 0 ≤ (ji20) then (if (ji20) < (a0.size : Int) then ((spec_FieldDouble.f (wrap64 (bt a0 (ji8)))).bind fun t106 => ((spec_FieldDouble.f (wrap64 (bt a0 (ji12)))).bind fun t107 => (if (ji8) < (x3_2.length : Int) then (spec_MixColumns.l1 k2 a0 (x3_2.set ((ji8) : Int).toNat (Go.bits .xor .u8 ((Go.bits .xor .i64 (Go.bits .xor .i64 t106 t107) (wrap64 (bt a0 (ji12)))) % 256) (Go.bits .xor .u8 (bt a0 (ji16)) (bt a0 (ji20))))) x4_1 (wrap64 (x5_2 + 1))) else (none)))) else (none)) else (none)) = some r := by first | (rw [hji20] at H; exact H) | (simp only [hji20] at H ⊢; exact H)
                              have hji20w : (IntKind.i64.wrap ((wrap64 (4 * x4_1)) + (Int.tmod (wrap64 (x5_2 + 3)) 4))) = ji20 := (i64_w _).trans hji20
                              by_cases c21 : 0 ≤ (ji20)
                              · rw [if_pos c21] at H
                                have c21b0 : decide (0 ≤ (ji20)) = true := decide_eq_true c21
                                clear c21
                                by_cases c22 : (ji20) < (a0.size : Int)
                                · rw [if_pos c22] at H
                                  have c22b0 : decide ((ji20) < (a0.size : Int)) = true := decide_eq_true c22
                                  clear c22
                                  replace H := Option.bind_eq_some_iff.mp H
                                  obtain ⟨t106, A240, H⟩ := H
                                  replace H : ((spec_FieldDouble.f (wrap64 (bt a0 (ji12)))).bind fun t107 => (if (ji8) < (x3_2.length : Int) then (spec_MixColumns.l1 k2 a0 (x3_2.set ((ji8) : Int).toNat (Go.bits .xor .u8 ((Go.bits .xor .i64 (Go.bits .xor .i64 t106 t107) (wrap64 (bt a0 (ji12)))) % 256) (Go.bits .xor .u8 (bt a0 (ji16)) (bt a0 (ji20))))) x4_1 (wrap64 (x5_2 + 1))) else (none))) = some r := H
                                  have A24 := Aside0.mk A240
                                  clear A240
                                  replace H := Option.bind_eq_some_iff.mp H
                                  obtain ⟨t107, A250, H⟩ := H
                                  replace H : (if (ji8) < (x3_2.length : Int) then (spec_MixColumns.l1 k2 a0 (x3_2.set ((ji8) : Int).toNat (Go.bits .xor .u8 ((Go.bits .xor .i64 (Go.bits .xor .i64 t106 t107) (wrap64 (bt a0 (ji12)))) % 256) (Go.bits .xor .u8 (bt a0 (ji16)) (bt a0 (ji20))))) x4_1 (wrap64 (x5_2 + 1))) else (none)) = some r := H
                                  have A25 := Aside0.mk A250
                                  clear A250
                                  by_cases c26 : (ji8) < (x3_2.length : Int)
                                  · rw [if_pos c26] at H
                                    have c26b0 : decide ((ji8) < (x3_2.length : Int)) = true := decide_eq_true c26
                                    clear c26
                                    obtain ⟨y108, hy108⟩ : ∃ y_ : List Int, y_ = (x3_2.set ((ji8) : Int).toNat (Go.bits .xor .u8 ((Go.bits .xor .i64 (Go.bits .xor .i64 t106 t107) (wrap64 (bt a0 (ji12)))) % 256) (Go.bits .xor .u8 (bt a0 (ji16)) (bt a0 (ji20))))) := ⟨_, rfl⟩
                                    replace H : (spec_MixColumns.l1 k2 a0 y108 x4_1 (wrap64 (x5_2 + 1))) = some r := by first | (rw [hy108]; with_reducible exact H) | (have H2_ := (Option.bind_some _ _).symm.trans H; rw [hy108]; with_reducible exact H2_) | (have H2_ := (Option.bind_some _ _).symm.trans H; with_reducible exact H2_) | with_reducible exact H | (rw [hy108]; exact H) | exact H
                                    have Ny108 := Aside0.mk hy108
                                    clear hy108
                                    have H' := Aside0.mk H
                                    clear H
                                    have p11 : 0 ≤ ((ji8) : Int) := of_decide_eq_true (by first | (with_reducible assumption) | assumption)
                                    have q11 : (ji8) < (a0.size : Int) := of_decide_eq_true (by first | (with_reducible assumption) | assumption)
                                    have hx11 := bt_at a0 (ji8)
                                    replace p11 := eq_true p11
                                    replace q11 := eq_true q11
                                    have p15 : 0 ≤ ((ji12) : Int) := of_decide_eq_true (by first | (with_reducible assumption) | assumption)
                                    have q15 : (ji12) < (a0.size : Int) := of_decide_eq_true (by first | (with_reducible assumption) | assumption)
                                    have hx15 := bt_at a0 (ji12)
                                    replace p15 := eq_true p15
                                    replace q15 := eq_true q15
                                    have p19 : 0 ≤ ((ji16) : Int) := of_decide_eq_true (by first | (with_reducible assumption) | assumption)
                                    have q19 : (ji16) < (a0.size : Int) := of_decide_eq_true (by first | (with_reducible assumption) | assumption)
                                    have hx19 := bt_at a0 (ji16)
                                    replace p19 := eq_true p19
                                    replace q19 := eq_true q19
                                    have p23 : 0 ≤ ((ji20) : Int) := of_decide_eq_true (by first | (with_reducible assumption) | assumption)
                                    have q23 : (ji20) < (a0.size : Int) := of_decide_eq_true (by first | (with_reducible assumption) | assumption)
                                    have hx23 := bt_at a0 (ji20)
                                    replace p23 := eq_true p23
                                    replace q23 := eq_true q23
                                    go_wp2_with (first | (go_at_call 38; (with_reducible refine (spec_FieldDouble.calls (wrap64 (bt a0 (ji8))) t106 _ A24.out).mono ?_); rintro e w' ⟨rfl, ⟨nd, rfl⟩⟩; (try first | exact ⟨rfl, _, World.drewN_drewN _ _ _⟩ | exact ⟨rfl, _, Eq.trans (World.drewN_drewN _ _ _) (congrArg (World.drewN _) (Nat.add_assoc _ _ _))⟩)) | (go_at_call 38; (with_reducible refine (spec_FieldDouble.calls (wrap64 (bt a0 (ji12))) t107 _ A25.out).mono ?_); rintro e w' ⟨rfl, ⟨nd, rfl⟩⟩; (try first | exact ⟨rfl, _, World.drewN_drewN _ _ _⟩ | exact ⟨rfl, _, Eq.trans (World.drewN_drewN _ _ _) (congrArg (World.drewN _) (Nat.add_assoc _ _ _))⟩); have p27 : 0 ≤ ((ji8) : Int) := of_decide_eq_true (by first | (with_reducible assumption) | assumption); have q27 : ((ji8) : Int) < ((x3_2.length : Int) : Int) := of_decide_eq_true (by first | (with_reducible assumption) | assumption); obtain ⟨go27, co27, eo27, gb27, gl27, cl27, HG27⟩ := Kd.R_form HO_3.out (by omega); (first | cases eo27 | (injection eo27 with ea_ en_ ec_; (first | subst ea_ | (injection ea_ with ea_; subst ea_)); subst ec_; clear en_)); have GB27 := Aside0.mk gb27; have GG27 := Aside0.mk HG27; clear gb27 gl27 HG27; obtain ⟨hx27_0, hf27_0⟩ := Kd.R_celln 0 HO_3.out ((ji8) : Int) p27 q27; replace p27 := eq_true p27; replace q27 := eq_true q27; obtain ⟨hy28_, hz28_⟩ := Kd.R_celln 0 HO_3.out ((ji8) : Int) (of_decide_eq_true (by first | (with_reducible assumption) | assumption)) (of_decide_eq_true (by first | (with_reducible assumption) | assumption)); have HP28 := Kd.R_putg HO_3.out ((ji8) : Int) (Go.bits .xor .u8 ((Go.bits .xor .i64 (Go.bits .xor .i64 t106 t107) (wrap64 (bt a0 (ji12)))) % 256) (Go.bits .xor .u8 (bt a0 (ji16)) (bt a0 (ji20))))) | ((with_reducible refine gate_store (t := 5) (p := 70) rfl ?_); (try (rw [drewN_self wr]; generalize hq_ : World.drewN wr _ = wr; have n0_ := Aside0.mk (Kd.R_at hq_ HO_3.out); have n1_ := Aside0.mk (below_at hq_ HB.out); clear hq_ HO_3 HB; have HO_3 := n0_; have HB := n1_; clear n0_ n1_; (try (obtain ⟨hy28_, hz28_⟩ := Kd.R_celln 0 HO_3.out ((ji8) : Int) (of_decide_eq_true (by first | (with_reducible assumption) | assumption)) (of_decide_eq_true (by first | (with_reducible assumption) | assumption)))); (try (have HP28 := Kd.R_putg HO_3.out ((ji8) : Int) (Go.bits .xor .u8 ((Go.bits .xor .i64 (Go.bits .xor .i64 t106 t107) (wrap64 (bt a0 (ji12)))) % 256) (Go.bits .xor .u8 (bt a0 (ji16)) (bt a0 (ji20)))))))); refine store_event (t := 5) (p := 70) (v := ?vo_w29) (w1 := (wr.setCell ⟨go27, ((ji8) : Int).toNat, none⟩ (.int .u8 (Go.bits .xor .u8 ((Go.bits .xor .i64 (Go.bits .xor .i64 t106 t107) (wrap64 (bt a0 (ji12)))) % 256) (Go.bits .xor .u8 (bt a0 (ji16)) (bt a0 (ji20))))))) ?hg ?ho ?hn ?hr ?_; (case ho => rfl); (case hg => rfl); (case hn => rfl); (case hr => first | (go_simp; done) | (go_simp; rfl)); intro w29 hw; have hg : wr.grownBy w29 (some go27) := (by rw [hw]; exact HP28.2); have hp_ : Kd.R (Kd.int .u8) 5 w29 w.heap.size (fun _ => True) (.slice (some ⟨go27, 0, none⟩) x3_2.length co27) y108 := (by rw [hw, Ny108.out]; exact HP28.1); clear HP28; have n0_ := Aside0.mk (hp_); have n1_ := Aside0.mk ((by rw [hw]; exact below_set (HB.out) GB27.out : Below w.heap.size w w29)); clear HO_3; clear HB; have HO_3 := n0_; have HB := n1_; clear n0_ n1_; clear hg hw hp_))
                                    repeat (go_quiet (first | (go_at_call 38; (with_reducible refine (spec_FieldDouble.calls (wrap64 (bt a0 (ji8))) t106 _ A24.out).mono ?_); rintro e w' ⟨rfl, ⟨nd, rfl⟩⟩; (try first | exact ⟨rfl, _, World.drewN_drewN _ _ _⟩ | exact ⟨rfl, _, Eq.trans (World.drewN_drewN _ _ _) (congrArg (World.drewN _) (Nat.add_assoc _ _ _))⟩)) | (go_at_call 38; (with_reducible refine (spec_FieldDouble.calls (wrap64 (bt a0 (ji12))) t107 _ A25.out).mono ?_); rintro e w' ⟨rfl, ⟨nd, rfl⟩⟩; (try first | exact ⟨rfl, _, World.drewN_drewN _ _ _⟩ | exact ⟨rfl, _, Eq.trans (World.drewN_drewN _ _ _) (congrArg (World.drewN _) (Nat.add_assoc _ _ _))⟩); have p27 : 0 ≤ ((ji8) : Int) := of_decide_eq_true (by first | (with_reducible assumption) | assumption); have q27 : ((ji8) : Int) < ((x3_2.length : Int) : Int) := of_decide_eq_true (by first | (with_reducible assumption) | assumption); obtain ⟨go27, co27, eo27, gb27, gl27, cl27, HG27⟩ := Kd.R_form HO_3.out (by omega); (first | cases eo27 | (injection eo27 with ea_ en_ ec_; (first | subst ea_ | (injection ea_ with ea_; subst ea_)); subst ec_; clear en_)); have GB27 := Aside0.mk gb27; have GG27 := Aside0.mk HG27; clear gb27 gl27 HG27; obtain ⟨hx27_0, hf27_0⟩ := Kd.R_celln 0 HO_3.out ((ji8) : Int) p27 q27; replace p27 := eq_true p27; replace q27 := eq_true q27; obtain ⟨hy28_, hz28_⟩ := Kd.R_celln 0 HO_3.out ((ji8) : Int) (of_decide_eq_true (by first | (with_reducible assumption) | assumption)) (of_decide_eq_true (by first | (with_reducible assumption) | assumption)); have HP28 := Kd.R_putg HO_3.out ((ji8) : Int) (Go.bits .xor .u8 ((Go.bits .xor .i64 (Go.bits .xor .i64 t106 t107) (wrap64 (bt a0 (ji12)))) % 256) (Go.bits .xor .u8 (bt a0 (ji16)) (bt a0 (ji20))))) | ((with_reducible refine gate_store (t := 5) (p := 70) rfl ?_); (try (rw [drewN_self wr]; generalize hq_ : World.drewN wr _ = wr; have n0_ := Aside0.mk (Kd.R_at hq_ HO_3.out); have n1_ := Aside0.mk (below_at hq_ HB.out); clear hq_ HO_3 HB; have HO_3 := n0_; have HB := n1_; clear n0_ n1_; (try (obtain ⟨hy28_, hz28_⟩ := Kd.R_celln 0 HO_3.out ((ji8) : Int) (of_decide_eq_true (by first | (with_reducible assumption) | assumption)) (of_decide_eq_true (by first | (with_reducible assumption) | assumption)))); (try (have HP28 := Kd.R_putg HO_3.out ((ji8) : Int) (Go.bits .xor .u8 ((Go.bits .xor .i64 (Go.bits .xor .i64 t106 t107) (wrap64 (bt a0 (ji12)))) % 256) (Go.bits .xor .u8 (bt a0 (ji16)) (bt a0 (ji20)))))))); refine store_event (t := 5) (p := 70) (v := ?vo_w29) (w1 := (wr.setCell ⟨go27, ((ji8) : Int).toNat, none⟩ (.int .u8 (Go.bits .xor .u8 ((Go.bits .xor .i64 (Go.bits .xor .i64 t106 t107) (wrap64 (bt a0 (ji12)))) % 256) (Go.bits .xor .u8 (bt a0 (ji16)) (bt a0 (ji20))))))) ?hg ?ho ?hn ?hr ?_; (case ho => rfl); (case hg => rfl); (case hn => rfl); (case hr => first | (go_simp; done) | (go_simp; rfl)); intro w29 hw; have hg : wr.grownBy w29 (some go27) := (by rw [hw]; exact HP28.2); have hp_ : Kd.R (Kd.int .u8) 5 w29 w.heap.size (fun _ => True) (.slice (some ⟨go27, 0, none⟩) x3_2.length co27) y108 := (by rw [hw, Ny108.out]; exact HP28.1); clear HP28; have n0_ := Aside0.mk (hp_); have n1_ := Aside0.mk ((by rw [hw]; exact below_set (HB.out) GB27.out : Below w.heap.size w w29)); clear HO_3; clear HB; have HO_3 := n0_; have HB := n1_; clear n0_ n1_; clear hg hw hp_)); try go_wp2_with (first | (go_at_call 38; (with_reducible refine (spec_FieldDouble.calls (wrap64 (bt a0 (ji8))) t106 _ A24.out).mono ?_); rintro e w' ⟨rfl, ⟨nd, rfl⟩⟩; (try first | exact ⟨rfl, _, World.drewN_drewN _ _ _⟩ | exact ⟨rfl, _, Eq.trans (World.drewN_drewN _ _ _) (congrArg (World.drewN _) (Nat.add_assoc _ _ _))⟩)) | (go_at_call 38; (with_reducible refine (spec_FieldDouble.calls (wrap64 (bt a0 (ji12))) t107 _ A25.out).mono ?_); rintro e w' ⟨rfl, ⟨nd, rfl⟩⟩; (try first | exact ⟨rfl, _, World.drewN_drewN _ _ _⟩ | exact ⟨rfl, _, Eq.trans (World.drewN_drewN _ _ _) (congrArg (World.drewN _) (Nat.add_assoc _ _ _))⟩); have p27 : 0 ≤ ((ji8) : Int) := of_decide_eq_true (by first | (with_reducible assumption) | assumption); have q27 : ((ji8) : Int) < ((x3_2.length : Int) : Int) := of_decide_eq_true (by first | (with_reducible assumption) | assumption); obtain ⟨go27, co27, eo27, gb27, gl27, cl27, HG27⟩ := Kd.R_form HO_3.out (by omega); (first | cases eo27 | (injection eo27 with ea_ en_ ec_; (first | subst ea_ | (injection ea_ with ea_; subst ea_)); subst ec_; clear en_)); have GB27 := Aside0.mk gb27; have GG27 := Aside0.mk HG27; clear gb27 gl27 HG27; obtain ⟨hx27_0, hf27_0⟩ := Kd.R_celln 0 HO_3.out ((ji8) : Int) p27 q27; replace p27 := eq_true p27; replace q27 := eq_true q27; obtain ⟨hy28_, hz28_⟩ := Kd.R_celln 0 HO_3.out ((ji8) : Int) (of_decide_eq_true (by first | (with_reducible assumption) | assumption)) (of_decide_eq_true (by first | (with_reducible assumption) | assumption)); have HP28 := Kd.R_putg HO_3.out ((ji8) : Int) (Go.bits .xor .u8 ((Go.bits .xor .i64 (Go.bits .xor .i64 t106 t107) (wrap64 (bt a0 (ji12)))) % 256) (Go.bits .xor .u8 (bt a0 (ji16)) (bt a0 (ji20))))) | ((with_reducible refine gate_store (t := 5) (p := 70) rfl ?_); (try (rw [drewN_self wr]; generalize hq_ : World.drewN wr _ = wr; have n0_ := Aside0.mk (Kd.R_at hq_ HO_3.out); have n1_ := Aside0.mk (below_at hq_ HB.out); clear hq_ HO_3 HB; have HO_3 := n0_; have HB := n1_; clear n0_ n1_; (try (obtain ⟨hy28_, hz28_⟩ := Kd.R_celln 0 HO_3.out ((ji8) : Int) (of_decide_eq_true (by first | (with_reducible assumption) | assumption)) (of_decide_eq_true (by first | (with_reducible assumption) | assumption)))); (try (have HP28 := Kd.R_putg HO_3.out ((ji8) : Int) (Go.bits .xor .u8 ((Go.bits .xor .i64 (Go.bits .xor .i64 t106 t107) (wrap64 (bt a0 (ji12)))) % 256) (Go.bits .xor .u8 (bt a0 (ji16)) (bt a0 (ji20)))))))); refine store_event (t := 5) (p := 70) (v := ?vo_w29) (w1 := (wr.setCell ⟨go27, ((ji8) : Int).toNat, none⟩ (.int .u8 (Go.bits .xor .u8 ((Go.bits .xor .i64 (Go.bits .xor .i64 t106 t107) (wrap64 (bt a0 (ji12)))) % 256) (Go.bits .xor .u8 (bt a0 (ji16)) (bt a0 (ji20))))))) ?hg ?ho ?hn ?hr ?_; (case ho => rfl); (case hg => rfl); (case hn => rfl); (case hr => first | (go_simp; done) | (go_simp; rfl)); intro w29 hw; have hg : wr.grownBy w29 (some go27) := (by rw [hw]; exact HP28.2); have hp_ : Kd.R (Kd.int .u8) 5 w29 w.heap.size (fun _ => True) (.slice (some ⟨go27, 0, none⟩) x3_2.length co27) y108 := (by rw [hw, Ny108.out]; exact HP28.1); clear HP28; have n0_ := Aside0.mk (hp_); have n1_ := Aside0.mk ((by rw [hw]; exact below_set (HB.out) GB27.out : Below w.heap.size w w29)); clear HO_3; clear HB; have HO_3 := n0_; have HB := n1_; clear n0_ n1_; clear hg hw hp_)))
                                    go_roundg k2
                                    case measure => have := HK1.out; have := HK2.out; omega
                                    case rel => exact ⟨(y108), (wrap64 (x5_2 + 1)), (by first | rfl | (simp; done) | (simp [*]; done)), H', ⟨by have := HK1.out; have := HK2.out; omega⟩, ⟨by (with_reducible repeat (first | apply Kd.R_alloc | apply Kd.R_drewN | apply Kd.R_drew)); exact HO_3.out⟩, ⟨by repeat (first | (with_reducible first | exact HB.out | apply below_alloc | apply pw_below_drewN | apply below_drew1) | exact HB.out)⟩⟩
                                  · rw [if_neg c26] at H
                                    exact absurd H (by simp)
                                · rw [if_neg c22] at H
                                  exact absurd H (by simp)
                              · rw [if_neg c21] at H
                                exact absurd H (by simp)
                            · rw [if_neg c18] at H
                              exact absurd H (by simp)
                          · rw [if_neg c17] at H
                            exact absurd H (by simp)
                        · rw [if_neg c14] at H
                          exact absurd H (by simp)
                      · rw [if_neg c13] at H
                        exact absurd H (by simp)
                    · rw [if_neg c10] at H
                      exact absurd H (by simp)
                  · rw [if_neg c9] at H
                    exact absurd H (by simp)
                · rw [if_neg c7] at H
                  have c7b0 : decide (x5_2 < 4) = false := decide_eq_false c7
                  clear c7
                  have H' := Aside0.mk H
                  clear H
                  go_wp2
                  repeat (go_quiet (fail); try go_wp2)
                  go_roundg k2
                  case measure => have := HK1.out; have := HK2.out; omega
                  case rel => exact ⟨(x3_2), (wrap64 (x4_1 + 1)), (by first | rfl | (simp; done) | (simp [*]; done)), H', ⟨by have := HK1.out; have := HK2.out; omega⟩, ⟨by (with_reducible repeat (first | apply Kd.R_alloc | apply Kd.R_drewN | apply Kd.R_drew)); exact HO_3.out⟩, ⟨by repeat (first | (with_reducible first | exact HB.out | apply below_alloc | apply pw_below_drewN | apply below_drew1) | exact HB.out)⟩⟩
          · rw [if_neg c6] at H
            have c6b0 : decide (x4_1 < 4) = false := decide_eq_false c6
            clear c6
            obtain rfl := Option.some.inj H
            have hcv30 := own_string (P := Try.prog) Try.underlying24 Try.underlying5 Try.underlying9 (Kd.own_of_R HO_3.out)
            go_wp2
            repeat (go_quiet (fail); try go_wp2)
            go_ret
            exact ⟨by first | rfl | (simp [errW_none, errW_some] <;> rfl) | (simp [*, errW_none, errW_some] <;> rfl), by repeat (first | (with_reducible first | exact HB.out | apply below_alloc | apply pw_below_drewN | apply below_drew1) | exact HB.out)⟩
    · rw [if_neg c3] at H
      exact absurd H (by simp)
  · rw [if_neg c2] at H
    have c2b0 : ((a0.size : Int) == 16) = false := beq_eq_false_iff_ne.mpr c2
    have c2b1 : ((a0.size : Int) != 16) = true := bne_iff_ne.mpr c2
    obtain rfl := Option.some.inj H
    go_enter Try.func26, Try.ntmps26
    go_wp2
    repeat (go_quiet (fail); try go_wp2)
    go_ret
    exact ⟨by first | rfl | (simp [errW_none, errW_some] <;> rfl) | (simp [*, errW_none, errW_some] <;> rfl), by repeat (first | (with_reducible first | exact HB.out | apply below_alloc | apply pw_below_drewN | apply below_drew1) | exact HB.out)⟩

/-! ### impl_within: function 41 -/
def impl_within.f (a0 : Int) (a1 : Int) (a2 : Int) : Option (Bool) := if a0 ≥ a1 then (some (decide (a0 ≤ a2))) else (some false)
set_option maxHeartbeats 8000000 in
set_option maxRecDepth 100000 in
theorem impl_within.calls (a0 : Int) (a1 : Int) (a2 : Int) (r : Bool) (w : World) (h : impl_within.f a0 a1 a2 = some r) :
    Calls Try.prog 41 #[.int .i64 a0, .int .i64 a1, .int .i64 a2] w fun e w' => e = .returned (.bool r) ∧ Drawn0 w w' := by
  have H : (if a0 ≥ a1 then (some (decide (a0 ≤ a2))) else (some false)) = some r := h
  clear h
  by_cases c4 : a0 ≥ a1
  · rw [if_pos c4] at H
    have c4b0 : decide (a1 ≤ a0) = true := decide_eq_true c4
    clear c4
    obtain rfl := Option.some.inj H
    go_enter Try.func41, Try.ntmps41
    go_wp2
    go_ret
    exact ⟨by first | rfl | (simp; done) | (simp [*]; done), by repeat (first | exact Drawn0.refl _ | apply Drawn0.step)⟩
  · rw [if_neg c4] at H
    have c4b0 : decide (a1 ≤ a0) = false := decide_eq_false c4
    clear c4
    obtain rfl := Option.some.inj H
    go_enter Try.func41, Try.ntmps41
    go_wp2
    go_ret
    exact ⟨by first | rfl | (simp; done) | (simp [*]; done), by repeat (first | exact Drawn0.refl _ | apply Drawn0.step)⟩

/-! ### impl_isByte: function 39 -/
def impl_isByte.f (a0 : Int) : Option (Bool) := (impl_within.f a0 0 255).bind fun t109 => (some t109)
set_option maxHeartbeats 8000000 in
set_option maxRecDepth 100000 in
theorem impl_isByte.calls (a0 : Int) (r : Bool) (w : World) (h : impl_isByte.f a0 = some r) :
    Calls Try.prog 39 #[.int .i64 a0] w fun e w' => e = .returned (.bool r) ∧ Drawn0 w w' := by
  have H : ((impl_within.f a0 0 255).bind fun t109 => (some t109)) = some r := h
  clear h
  replace H := Option.bind_eq_some_iff.mp H
  obtain ⟨t109, A20, H⟩ := H
  replace H : (some t109) = some r := H
  have A2 := Aside0.mk A20
  clear A20
  obtain rfl := Option.some.inj H
  go_enter Try.func39, Try.ntmps39
  go_wp2_with (first | ((with_reducible refine gate_callee (f := 41) rfl ?_); refine goesL_ (some 4) rfl rfl Try.func41 (by kernel_rfl) rfl #[.int .i64 a0, .int .i64 0, .int .i64 255] rfl (by (try simp only [List.map_toArray, List.map_cons, List.map_nil]); first | done | rfl | (simp only [List.length_drop, List.length_take]; rfl)) ?_; (with_reducible refine (impl_within.calls a0 0 255 t109 _ A2.out).mono ?_); rintro e w' ⟨rfl, ⟨nd, rfl⟩⟩; refine ⟨_, rfl, ?_⟩))
  go_ret
  exact ⟨by first | rfl | (simp; done) | (simp [*]; done), by repeat (first | exact Drawn0.refl _ | apply Drawn0.step)⟩

/-! ### impl_FieldDouble: function 20 -/
def impl_FieldDouble.f (a0 : Int) : Option (Int) := (impl_isByte.f a0).bind fun t110 => (if t110 = true then (if a0 ≥ 128 then (some (Go.bits .xor .i64 (wrap64 (2 * a0)) 283)) else (some (wrap64 (2 * a0)))) else (some 0))
set_option maxHeartbeats 8000000 in
set_option maxRecDepth 100000 in
theorem impl_FieldDouble.calls (a0 : Int) (r : Int) (w : World) (h : impl_FieldDouble.f a0 = some r) :
    Calls Try.prog 20 #[.int .i64 a0] w fun e w' => e = .returned (.int .i64 r) ∧ Drawn0 w w' := by
  have H : ((impl_isByte.f a0).bind fun t110 => (if t110 = true then (if a0 ≥ 128 then (some (Go.bits .xor .i64 (wrap64 (2 * a0)) 283)) else (some (wrap64 (2 * a0)))) else (some 0))) = some r := h
  clear h
  replace H := Option.bind_eq_some_iff.mp H
  obtain ⟨t110, A20, H⟩ := H
  replace H : (if t110 = true then (if a0 ≥ 128 then (some (Go.bits .xor .i64 (wrap64 (2 * a0)) 283)) else (some (wrap64 (2 * a0)))) else (some 0)) = some r := H
  have A2 := Aside0.mk A20
  clear A20
  by_cases c3 : t110 = true
  · subst c3
    have H1 : (if a0 ≥ 128 then (some (Go.bits .xor .i64 (wrap64 (2 * a0)) 283)) else (some (wrap64 (2 * a0)))) = some r := by rw [if_pos rfl] at H; exact H
    clear H
    have H := H1
    clear H1
    by_cases c4 : a0 ≥ 128
    · rw [if_pos c4] at H
      have c4b0 : decide (128 ≤ a0) = true := decide_eq_true c4
      clear c4
      obtain rfl := Option.some.inj H
      go_enter Try.func20, Try.ntmps20
      go_wp2_with (first | ((with_reducible refine gate_callee (f := 39) rfl ?_); refine goesL_ (some 4) rfl rfl Try.func39 (by kernel_rfl) rfl #[.int .i64 a0] rfl (by (try simp only [List.map_toArray, List.map_cons, List.map_nil]); first | done | rfl | (simp only [List.length_drop, List.length_take]; rfl)) ?_; (with_reducible refine (impl_isByte.calls a0 true _ A2.out).mono ?_); rintro e w' ⟨rfl, ⟨nd, rfl⟩⟩; refine ⟨_, rfl, ?_⟩))
      go_ret
      exact ⟨by first | rfl | (simp; done) | (simp [*]; done), by repeat (first | exact Drawn0.refl _ | apply Drawn0.step)⟩
    · rw [if_neg c4] at H
      have c4b0 : decide (128 ≤ a0) = false := decide_eq_false c4
      clear c4
      obtain rfl := Option.some.inj H
      go_enter Try.func20, Try.ntmps20
      go_wp2_with (first | ((with_reducible refine gate_callee (f := 39) rfl ?_); refine goesL_ (some 4) rfl rfl Try.func39 (by kernel_rfl) rfl #[.int .i64 a0] rfl (by (try simp only [List.map_toArray, List.map_cons, List.map_nil]); first | done | rfl | (simp only [List.length_drop, List.length_take]; rfl)) ?_; (with_reducible refine (impl_isByte.calls a0 true _ A2.out).mono ?_); rintro e w' ⟨rfl, ⟨nd, rfl⟩⟩; refine ⟨_, rfl, ?_⟩))
      go_ret
      exact ⟨by first | rfl | (simp; done) | (simp [*]; done), by repeat (first | exact Drawn0.refl _ | apply Drawn0.step)⟩
  · replace c3 := Bool.eq_false_iff.mpr c3
    subst c3
    have H1 : (some 0) = some r := by rw [if_neg (show ¬ (false = true) by decide)] at H; exact H
    clear H
    have H := H1
    clear H1
    obtain rfl := Option.some.inj H
    go_enter Try.func20, Try.ntmps20
    go_wp2_with (first | ((with_reducible refine gate_callee (f := 39) rfl ?_); refine goesL_ (some 4) rfl rfl Try.func39 (by kernel_rfl) rfl #[.int .i64 a0] rfl (by (try simp only [List.map_toArray, List.map_cons, List.map_nil]); first | done | rfl | (simp only [List.length_drop, List.length_take]; rfl)) ?_; (with_reducible refine (impl_isByte.calls a0 false _ A2.out).mono ?_); rintro e w' ⟨rfl, ⟨nd, rfl⟩⟩; refine ⟨_, rfl, ?_⟩))
    go_ret
    exact ⟨by first | rfl | (simp; done) | (simp [*]; done), by repeat (first | exact Drawn0.refl _ | apply Drawn0.step)⟩

/-! ### impl_FieldMul: function 14 -/
mutual
def impl_FieldMul.j0 : Nat → Int → Int → Bool → Option (Int)
  | 0, _, _, _ => none
  | k + 1, x0, x1, x13 => if x13 = true then (some 0) else (impl_FieldMul.l0 k x0 x1 0)
def impl_FieldMul.l0 : Nat → Int → Int → Int → Option (Int)
  | 0, _, _, _ => none
  | k + 1, x0, x1, x5 => if x1 > 0 then (if (Go.bits .and .i64 x1 1) = 1 then ((impl_FieldDouble.f x0).bind fun t113 => (impl_FieldMul.l0 k t113 (x1 / 2) (Go.bits .xor .i64 x5 x0))) else ((impl_FieldDouble.f x0).bind fun t114 => (impl_FieldMul.l0 k t114 (x1 / 2) x5))) else (some x5)
end
def impl_FieldMul.f (k : Nat) (a0 : Int) (a1 : Int) : Option (Int) := (impl_isByte.f a0).bind fun t111 => (if t111 = true then ((impl_isByte.f a1).bind fun t112 => (impl_FieldMul.j0 k a0 a1 (!t112))) else (impl_FieldMul.j0 k a0 a1 true))
theorem impl_FieldMul.mono_l : ∀ k, (∀ y0 y1 y2, LeO (impl_FieldMul.j0 k y0 y1 y2) (impl_FieldMul.j0 (k + 1) y0 y1 y2)) ∧ (∀ y0 y1 y2, LeO (impl_FieldMul.l0 k y0 y1 y2) (impl_FieldMul.l0 (k + 1) y0 y1 y2))
  | 0 => ⟨fun _ _ _ r h => by simp [impl_FieldMul.j0] at h, fun _ _ _ r h => by simp [impl_FieldMul.l0] at h⟩
  | k + 1 => by
    obtain ⟨ih0, ih1⟩ := impl_FieldMul.mono_l k
    refine ⟨?_, ?_⟩
    · intro y0 y1 y2
      unfold impl_FieldMul.j0
      repeat' first
      | (with_reducible exact ih0 _ _ _)
      | (with_reducible exact ih1 _ _ _)
      | (with_reducible exact LeO.refl _)
      | (with_reducible exact LeO.none _)
      | (with_reducible refine LeO.ite ?_ ?_)
      | (with_reducible refine LeO.bind ?_ (fun _ => ?_))
      | exact ih0 _ _ _
      | exact ih1 _ _ _
      | exact LeO.none _
      | refine LeO.ite ?_ ?_
      | refine LeO.bind ?_ (fun _ => ?_)
    · intro y0 y1 y2
      unfold impl_FieldMul.l0
      repeat' first
      | (with_reducible exact ih0 _ _ _)
      | (with_reducible exact ih1 _ _ _)
      | (with_reducible exact LeO.refl _)
      | (with_reducible exact LeO.none _)
      | (with_reducible refine LeO.ite ?_ ?_)
      | (with_reducible refine LeO.bind ?_ (fun _ => ?_))
      | exact ih0 _ _ _
      | exact ih1 _ _ _
      | exact LeO.none _
      | refine LeO.ite ?_ ?_
      | refine LeO.bind ?_ (fun _ => ?_)
theorem impl_FieldMul.mono : ∀ a0 a1 k, LeO (impl_FieldMul.f k a0 a1) (impl_FieldMul.f (k + 1) a0 a1) := by
  intro a0 a1 k
  obtain ⟨ih0, ih1⟩ := impl_FieldMul.mono_l k
  unfold impl_FieldMul.f
  repeat' first
      | (with_reducible exact ih0 _ _ _)
      | (with_reducible exact ih1 _ _ _)
      | (with_reducible exact LeO.refl _)
      | (with_reducible exact LeO.none _)
      | (with_reducible refine LeO.ite ?_ ?_)
      | (with_reducible refine LeO.bind ?_ (fun _ => ?_))
      | exact ih0 _ _ _
      | exact ih1 _ _ _
      | exact LeO.none _
      | refine LeO.ite ?_ ?_
      | refine LeO.bind ?_ (fun _ => ?_)
set_option maxHeartbeats 8000000 in
set_option maxRecDepth 100000 in
theorem impl_FieldMul.calls (k : Nat) (a0 : Int) (a1 : Int) (r : Int) (w : World) (h : impl_FieldMul.f k a0 a1 = some r) :
    Calls Try.prog 14 #[.int .i64 a0, .int .i64 a1] w fun e w' => e = .returned (.int .i64 r) ∧ Drawn0 w w' := by
  have H : ((impl_isByte.f a0).bind fun t111 => (if t111 = true then ((impl_isByte.f a1).bind fun t112 => (impl_FieldMul.j0 k a0 a1 (!t112))) else (impl_FieldMul.j0 k a0 a1 true))) = some r := h
  clear h
  have HC3 := Aside0.mk H
  clear H
  go_enter Try.func14, Try.ntmps14
  go_upto_region 1 with (fail)
  go_cut [13] (fun v13 wc => ∃ (kq : Nat) (x13_2 : Bool), v13 = .bool x13_2 ∧ Aside0 (impl_FieldMul.j0 kq a0 a1 x13_2 = some r) ∧ Aside0 (kq ≤ k) ∧ Drawn0 w wc)
  case first =>
    have H := HC3.out
    clear HC3
    replace H := Option.bind_eq_some_iff.mp H
    obtain ⟨t111, A40, H⟩ := H
    replace H : (if t111 = true then ((impl_isByte.f a1).bind fun t112 => (impl_FieldMul.j0 k a0 a1 (!t112))) else (impl_FieldMul.j0 k a0 a1 true)) = some r := H
    have A4 := Aside0.mk A40
    clear A40
    by_cases c5 : t111 = true
    · subst c5
      have H1 : ((impl_isByte.f a1).bind fun t112 => (impl_FieldMul.j0 k a0 a1 (!t112))) = some r := by rw [if_pos rfl] at H; exact H
      clear H
      have H := H1
      clear H1
      replace H := Option.bind_eq_some_iff.mp H
      obtain ⟨t112, A60, H⟩ := H
      replace H : (impl_FieldMul.j0 k a0 a1 (!t112)) = some r := H
      have A6 := Aside0.mk A60
      clear A60
      have H' := Aside0.mk H
      clear H
      go_wp2_with (first | ((with_reducible refine gate_callee (f := 39) rfl ?_); refine goesL_ (some 7) rfl rfl Try.func39 (by kernel_rfl) rfl #[.int .i64 a0] rfl (by (try simp only [List.map_toArray, List.map_cons, List.map_nil]); first | done | rfl | (simp only [List.length_drop, List.length_take]; rfl)) ?_; (with_reducible refine (impl_isByte.calls a0 true _ A4.out).mono ?_); rintro e w' ⟨rfl, ⟨nd, rfl⟩⟩; refine ⟨_, rfl, ?_⟩) | (go_at_call 39; (with_reducible refine (impl_isByte.calls a1 t112 _ A6.out).mono ?_); rintro e w' ⟨rfl, ⟨nd, rfl⟩⟩))
      go_meet
      case rel => exact ⟨_, (!t112), (by first | rfl | (simp; done) | (simp [*]; done)), H', ⟨by first | omega | exact Nat.le_refl _⟩, by repeat (first | exact Drawn0.refl _ | apply Drawn0.step)⟩
    · replace c5 := Bool.eq_false_iff.mpr c5
      subst c5
      have H1 : (impl_FieldMul.j0 k a0 a1 true) = some r := by rw [if_neg (show ¬ (false = true) by decide)] at H; exact H
      clear H
      have H := H1
      clear H1
      have H' := Aside0.mk H
      clear H
      go_wp2_with (first | ((with_reducible refine gate_callee (f := 39) rfl ?_); refine goesL_ (some 7) rfl rfl Try.func39 (by kernel_rfl) rfl #[.int .i64 a0] rfl (by (try simp only [List.map_toArray, List.map_cons, List.map_nil]); first | done | rfl | (simp only [List.length_drop, List.length_take]; rfl)) ?_; (with_reducible refine (impl_isByte.calls a0 false _ A4.out).mono ?_); rintro e w' ⟨rfl, ⟨nd, rfl⟩⟩; refine ⟨_, rfl, ?_⟩))
      go_meet
      case rel => exact ⟨_, (true), (by first | rfl | (simp; done) | (simp [*]; done)), H', ⟨by first | omega | exact Nat.le_refl _⟩, by repeat (first | exact Drawn0.refl _ | apply Drawn0.step)⟩
  case rest =>
    clear HC3
    try clear c1
    try clear p2
    try clear c3
    try clear c5
    obtain ⟨kq, x13_2, rfl, HA, HJ2, ⟨mc2, rfl⟩⟩ := hcut
    cases kq with
    | zero => exact absurd HA.out (by simp [impl_FieldMul.j0])
    | succ kj2 =>
      have H := HA.out
      clear HA
      simp only [impl_FieldMul.j0] at H
      by_cases c7 : x13_2 = true
      · subst c7
        have H1 : (some 0) = some r := by rw [if_pos rfl] at H; exact H
        clear H
        have H := H1
        clear H1
        obtain rfl := Option.some.inj H
        go_wp2
        go_ret
        exact ⟨by first | rfl | (simp; done) | (simp [*]; done), by repeat (first | exact Drawn0.refl _ | apply Drawn0.step)⟩
      · replace c7 := Bool.eq_false_iff.mpr c7
        subst c7
        have H1 : (impl_FieldMul.l0 kj2 a0 a1 0) = some r := by rw [if_neg (show ¬ (false = true) by decide)] at H; exact H
        clear H
        have H := H1
        clear H1
        have H' := Aside0.mk H
        clear H
        go_wp2
        go_loopg [0, 1, 5] kj2 (fun kq v0 v1 v5 w' => ∃ (x0_2 : Int) (x1_2 : Int) (x5_2 : Int), v0 = .int .i64 x0_2 ∧ v1 = .int .i64 x1_2 ∧ v5 = .int .i64 x5_2 ∧ Aside0 (impl_FieldMul.l0 kq x0_2 x1_2 x5_2 = some r) ∧ Aside0 (kq ≤ kj2) ∧ Drawn0 w w')
        case atStart => exact ⟨(a0), (a1), (0), (by first | rfl | (simp; done) | (simp [*]; done)), (by first | rfl | (simp; done) | (simp [*]; done)), (by first | rfl | (simp; done) | (simp [*]; done)), H', ⟨Nat.le_refl _⟩, by repeat (first | exact Drawn0.refl _ | apply Drawn0.step)⟩
        case round =>
          clear H'
          try clear c1
          try clear c2
          try clear p2
          try clear c3
          try clear c5
          try clear c7
          try clear p2
          obtain ⟨x0_2, x1_2, x5_2, rfl, rfl, rfl, HA, HK2, ⟨m2, rfl⟩⟩ := hrel
          cases gk with
          | zero => exact absurd HA.out (by simp [impl_FieldMul.l0])
          | succ k2 =>
            have H := HA.out
            clear HA
            simp only [impl_FieldMul.l0] at H
            by_cases c8 : x1_2 > 0
            · rw [if_pos c8] at H
              have c8b0 : decide (0 < x1_2) = true := decide_eq_true c8
              clear c8
              by_cases c9 : (Go.bits .and .i64 x1_2 1) = 1
              · rw [if_pos c9] at H
                have c9b0 : ((Go.bits .and .i64 x1_2 1) == 1) = true := beq_iff_eq.mpr c9
                have c9b1 : ((Go.bits .and .i64 x1_2 1) != 1) = false := bne_eq_false_iff_eq.mpr c9
                clear c9
                replace H := Option.bind_eq_some_iff.mp H
                obtain ⟨t113, A100, H⟩ := H
                replace H : (impl_FieldMul.l0 k2 t113 (x1_2 / 2) (Go.bits .xor .i64 x5_2 x0_2)) = some r := H
                have A10 := Aside0.mk A100
                clear A100
                have H' := Aside0.mk H
                clear H
                go_wp2_with (first | ((with_reducible refine gate_callee (f := 20) rfl ?_); refine goesL_ (some 25) rfl rfl Try.func20 (by kernel_rfl) rfl #[.int .i64 x0_2] rfl (by (try simp only [List.map_toArray, List.map_cons, List.map_nil]); first | done | rfl | (simp only [List.length_drop, List.length_take]; rfl)) ?_; (with_reducible refine (impl_FieldDouble.calls x0_2 t113 _ A10.out).mono ?_); rintro e w' ⟨rfl, ⟨nd, rfl⟩⟩; refine ⟨_, rfl, ?_⟩))
                go_roundg k2
                case measure => have := HJ2.out; have := HK2.out; omega
                case rel => exact ⟨(t113), (x1_2 / 2), (Go.bits .xor .i64 x5_2 x0_2), (by first | rfl | (simp; done) | (simp [*]; done)), (by first | rfl | (simp; done) | (simp [*]; done)), (by first | rfl | (simp; done) | (simp [*]; done)), H', ⟨by have := HJ2.out; have := HK2.out; omega⟩, by repeat (first | exact Drawn0.refl _ | apply Drawn0.step)⟩
              · rw [if_neg c9] at H
                have c9b0 : ((Go.bits .and .i64 x1_2 1) == 1) = false := beq_eq_false_iff_ne.mpr c9
                have c9b1 : ((Go.bits .and .i64 x1_2 1) != 1) = true := bne_iff_ne.mpr c9
                replace H := Option.bind_eq_some_iff.mp H
                obtain ⟨t114, A110, H⟩ := H
                replace H : (impl_FieldMul.l0 k2 t114 (x1_2 / 2) x5_2) = some r := H
                have A11 := Aside0.mk A110
                clear A110
                have H' := Aside0.mk H
                clear H
                go_wp2_with (first | ((with_reducible refine gate_callee (f := 20) rfl ?_); refine goesL_ (some 25) rfl rfl Try.func20 (by kernel_rfl) rfl #[.int .i64 x0_2] rfl (by (try simp only [List.map_toArray, List.map_cons, List.map_nil]); first | done | rfl | (simp only [List.length_drop, List.length_take]; rfl)) ?_; (with_reducible refine (impl_FieldDouble.calls x0_2 t114 _ A11.out).mono ?_); rintro e w' ⟨rfl, ⟨nd, rfl⟩⟩; refine ⟨_, rfl, ?_⟩))
                go_roundg k2
                case measure => have := HJ2.out; have := HK2.out; omega
                case rel => exact ⟨(t114), (x1_2 / 2), (x5_2), (by first | rfl | (simp; done) | (simp [*]; done)), (by first | rfl | (simp; done) | (simp [*]; done)), (by first | rfl | (simp; done) | (simp [*]; done)), H', ⟨by have := HJ2.out; have := HK2.out; omega⟩, by repeat (first | exact Drawn0.refl _ | apply Drawn0.step)⟩
            · rw [if_neg c8] at H
              have c8b0 : decide (0 < x1_2) = false := decide_eq_false c8
              clear c8
              obtain rfl := Option.some.inj H
              go_wp2
              go_ret
              exact ⟨by first | rfl | (simp; done) | (simp [*]; done), by repeat (first | exact Drawn0.refl _ | apply Drawn0.step)⟩

/-! ### impl_MixColumns: function 27 -/
/-- Block g holds n bytes that may be written. -/
structure RowF (w : World) (g n : Nat) (val : Nat → Int) : Prop where
  cell : ∀ j, j < n → w.cell? ⟨g, j, none⟩ = some (.int .u8 (val j))
  free : ∀ j, j < n → w.frozen? ⟨g, j, none⟩ = false
theorem RowF.conv (W : World) (e : TypeId) (s : ByteArray) : RowF (Lib.bytesWorld W e s) W.heap.size s.size (fun j => bt s (j : Int)) := by
  refine ⟨fun j hj => ?_, fun j hj => ?_⟩
  · rw [Lib.bytesWorld_cell W e s j hj]
    have h' : j < s.data.toList.length := by rw [data_length]; exact hj
    simp [bt, hj, List.getD_eq_getElem?_getD, List.getElem?_eq_getElem h']
    rfl
  · have h := Lib.bytesWorld_at_new W e s
    have hs : s.size ≤ (Lib.bytesCells W e s).size := by
      have := Lib.bytesWorld_cell W e s j hj
      unfold Lib.bytesCells; simp
    simp only [World.frozen?, h]
    simp
    omega
theorem RowF.set {w : World} {g n : Nat} {val : Nat → Int} (h : RowF w g n val) (i : Nat) (hi : i < n) (x : Int) : RowF (w.setCell ⟨g, i, none⟩ (.int .u8 x)) g n (fun j => if j = i then x else val j) := by
  refine ⟨fun j hj => ?_, fun j hj => by rw [World.frozen?_setCell]; exact h.free j hj⟩
  by_cases e : j = i
  · subst e
    rw [if_pos rfl]
    exact World.cell?_setCell_same _ _ _ (h.cell j hj)
  · rw [if_neg e, World.cell?_setCell_other _ _ _ _ (fun he => e (by injection he with _ h2; exact h2.symm))]
    exact h.cell j hj
theorem RowF.drewN {w : World} {g n : Nat} {val : Nat → Int} (h : RowF w g n val) (m : Nat) : RowF (w.drewN m) g n val := ⟨h.cell, h.free⟩
theorem RowF.drew {w : World} {g n : Nat} {val : Nat → Int} (h : RowF w g n val) : RowF w.drew g n val := ⟨h.cell, h.free⟩
/-- The values of v at 0, 1, .., n - 1, where all of them are there. -/
def optL (v : Nat → Option Int) : Nat → Option (List Int)
  | 0 => some []
  | n + 1 => (optL v n).bind fun l => (v n).bind fun x => some (l ++ [x])
theorem optL_at {v : Nat → Option Int} : ∀ {n : Nat} {l : List Int}, optL v n = some l → l.length = n ∧ ∀ i, i < n → v i = some (l.getD i 0)
  | 0, l, h => by
    cases h
    exact ⟨rfl, fun i hi => absurd hi (by omega)⟩
  | n + 1, l, h => by
    unfold optL at h
    obtain ⟨l0, h0, h⟩ := Option.bind_eq_some_iff.1 h
    obtain ⟨x, hx, h⟩ := Option.bind_eq_some_iff.1 h
    cases h
    obtain ⟨hl, ha⟩ := optL_at h0
    refine ⟨by simp [hl], fun i hi => ?_⟩
    by_cases e : i < n
    · rw [ha i e]; simp [List.getD_eq_getElem?_getD, List.getElem?_append_left (show i < l0.length by omega)]
    · obtain rfl : i = n := by omega
      rw [hx]; simp [List.getD_eq_getElem?_getD, ← hl]
theorem optL_of {v : Nat → Option Int} {g : Nat → Int} : ∀ (n : Nat), (∀ i, i < n → v i = some (g i)) → optL v n = some ((List.range n).map g)
  | 0, _ => rfl
  | n + 1, h => by
    unfold optL
    rw [optL_of n (fun i hi => h i (by omega)), h n (by omega)]
    simp [List.range_succ]
theorem optL_mono {v v' : Nat → Option Int} (h : ∀ i, LeO (v i) (v' i)) : ∀ n, LeO (optL v n) (optL v' n)
  | 0 => LeO.refl _
  | n + 1 => by
    unfold optL
    exact LeO.bind (optL_mono h n) fun _ => LeO.bind (h n) fun _ => LeO.refl _
/-- Of a list, the first i; then what was there before. -/
def optSt (l : List Int) (a : Nat → Int) (i j : Nat) : Int := if j < i then l.getD j 0 else a j
theorem optSt_set (l : List Int) (a : Nat → Int) (i : Nat) : (fun j => if j = i then l.getD i 0 else optSt l a i j) = optSt l a (i + 1) := by
  funext j
  unfold optSt
  by_cases e : j = i
  · subst e; rw [if_pos rfl, if_pos (by omega)]
  · rw [if_neg e]
    by_cases e2 : j < i
    · rw [if_pos e2, if_pos (by omega)]
    · rw [if_neg e2, if_neg (by omega)]
/-- The bytes of a row, read off as a string. -/
theorem RowF.string {P : Program} {w : World} {g n c : Nat} {val : Nat → Int} (h : RowF w g n val) (l : List Int) (hl : l.length = n) (hv : ∀ j, j < n → val j = l.getD j 0) (src dst e : TypeId) (hs : P.underlying src = some (.slice e)) (he : P.underlying e = some (.int .u8)) (hd : P.underlying dst = some .string) :
    (convert src dst (.slice (some ⟨g, 0, none⟩) n c)).run P w = .ok (.string (strOfNums l)) w :=
  run_convert_bytes_arg (P := P) w src e hs he g 0 n c l hl (fun i hi => by
    have := h.cell i hi
    rw [Nat.zero_add, this, hv i hi]) dst hd
def mixAt (a : ByteArray) (i : Nat) (j : Int) : Int := bt a (4 * ((i : Int) / 4) + ((i : Int) % 4 + j) % 4)
def mixV (k : Nat) (a : ByteArray) (i : Nat) : Option Int :=
  (impl_FieldMul.f k 2 (mixAt a i 0)).bind fun x => (impl_FieldMul.f k 3 (mixAt a i 1)).bind fun y => some ((Go.bits .xor .i64 (Go.bits .xor .i64 (Go.bits .xor .i64 x y) (mixAt a i 2)) (mixAt a i 3)) % 256)
theorem mixV_mono (a : ByteArray) (k i : Nat) : LeO (mixV k a i) (mixV (k + 1) a i) := by
  unfold mixV
  exact LeO.bind (impl_FieldMul.mono _ _ _) fun _ => LeO.bind (impl_FieldMul.mono _ _ _) fun _ => LeO.refl _
def impl_MixColumns.f (k : Nat) (a0 : ByteArray) : Option (ByteArray) :=
  if a0.size = 16 then (optL (mixV k a0) 16).bind fun l => some (strOfNums l) else some a0
theorem impl_MixColumns.mono : ∀ a0 k, LeO (impl_MixColumns.f k a0) (impl_MixColumns.f (k + 1) a0) := by
  intro a0 k
  unfold impl_MixColumns.f
  exact LeO.ite (LeO.bind (optL_mono (fun i => mixV_mono _ _ _) _) fun _ => LeO.refl _) (LeO.refl _)
/-- What the closure reads. -/
theorem mix_at (g0 g1 g2 : Nat) (a : ByteArray) (c q j m : Int) (w : World) (h16 : 16 ≤ a.size) (hc0 : 0 ≤ c) (hc1 : c ≤ 3) (hq0 : 0 ≤ q) (hq1 : q ≤ 3) (hj0 : 0 ≤ j) (hj1 : j ≤ 3) (hm : 4 * c + (q + j) % 4 = m)
    (h0 : w.cell? ⟨g0, 0, none⟩ = some (.string a)) (h1 : w.cell? ⟨g1, 0, none⟩ = some (.int .i64 c)) (h2 : w.cell? ⟨g2, 0, none⟩ = some (.int .i64 q)) :
    Calls Try.prog 48 #[.int .i64 j, .pointer (some ⟨g0, 0, none⟩), .pointer (some ⟨g1, 0, none⟩), .pointer (some ⟨g2, 0, none⟩)] w fun e w' => e = .returned (.int .i64 (bt a m)) ∧ w = w' := by
  have p0 : (0 ≤ m) = True := eq_true (by omega)
  have p1 : (m < (a.size : Int)) = True := eq_true (by omega)
  have hx := bt_at a m
  have hr := bt_range a m
  generalize bt a m = x at hx hr ⊢
  go_enter Try.func48, Try.ntmps48
  go_wp2
  go_ret
  exact ⟨rfl, rfl⟩
theorem mixSet (l : List Int) (i n : Nat) (hl : l.length = n) (hi : i < n) : (l.take i ++ List.replicate (n - i) (0 : Int)).set i (l.getD i 0) = l.take (i + 1) ++ List.replicate (n - (i + 1)) 0 := by
  have h1 : (l.take i).length = i := by rw [List.length_take]; omega
  rw [List.set_append_right _ _ (by omega), h1, Nat.sub_self]
  obtain ⟨m, hm⟩ : ∃ m, n - i = m + 1 := ⟨n - i - 1, by omega⟩
  rw [hm, show n - (i + 1) = m by omega, List.replicate_succ, List.set_cons_zero, List.take_add_one, List.append_assoc]
  congr 1
  rw [List.getD_eq_getElem?_getD, List.getElem?_eq_getElem (by omega)]
  rfl
set_option maxHeartbeats 8000000 in
set_option maxRecDepth 100000 in
theorem impl_MixColumns.calls (k : Nat) (a0 : ByteArray) (r : ByteArray) (w : World) (h : impl_MixColumns.f k a0 = some r) :
    Calls Try.prog 27 #[.string a0] w fun e w' => e = .returned (.string r) ∧ Below w.heap.size w w' := by
  unfold impl_MixColumns.f at h
  by_cases c : a0.size = 16
  · rw [if_pos c] at h
    obtain ⟨l, hl, hr⟩ := Option.bind_eq_some_iff.1 h
    cases hr
    have HL := Aside0.mk (optL_at hl)
    have c1 : ((a0.size : Int) != 16) = false := bne_eq_false_iff_eq.mpr (by omega)
    have c2 : ((a0.size : Int) == 16) = true := beq_iff_eq.mpr (by omega)
    have C := Aside0.mk c
    clear h hl c
    have HB := Aside0.mk (Below.refl w.heap.size w)
    have hmf : ∀ (fn : Fn) (first cap : Array Value) (w : World), (Instr.makeFunc fn first cap).run Try.prog w = .ok (.func fn first cap) w := fun _ _ _ _ => rfl
    go_enter Try.func27, Try.ntmps27
    go_wp2_with (first | ((with_reducible refine gate_dst (N := 1) rfl ?_); refine box_event ?hg (N := 1) ?hd (cs := #[.string a0]) (t := 9) ?hr ?_; (case hd => rfl); (case hg => rfl); (case hr => first | (go_simp; done) | (go_simp; rfl)); intro g0 hg w3 hbox hb; have G0 := Aside0.mk (show w.heap.size ≤ g0 by rw [hg]; exact below_size HB.out); have n0_ := Aside0.mk (below_step HB.out hb); clear HB; have HB := n0_; have B0 := Aside0.mk hbox; clear n0_ hb hbox hg; have h0 : w3.cell? ⟨g0, 0, none⟩ = some (.string a0) := (blk_cell B0.out 0).trans rfl) | ((with_reducible refine gate_dst (N := 12) rfl ?_); refine Kd.R_make (Kd.int .u8) _ 5 rfl (N := 12) rfl 24 _ _ rfl 16 rfl rfl Try.underlying24 (.int .u8 0) 1 (by kernel_rfl) rfl (by decide) (by omega) 0 (ok := fun _ => True) (okp := fun _ => True) rfl (fun _ hk => hk) trivial (by omega) (by omega) (Below.refl _ _) (Nat.le_refl _) ?_; intro v1 w4 ho hb hg_ hnew_; clear hg_ hnew_; have n0_ := Aside0.mk (Kd.R_lower ho (below_size HB.out)); have n1_ := Aside0.mk (below_step HB.out hb); have n2_ := Aside0.mk (blk_below B0.out hb); clear HB B0 h0; have HO := n0_; have HB := n1_; have B0 := n2_; clear n0_ n1_ n2_; clear hb ho; obtain ⟨Ao, co, eo⟩ := Kd.R_slice HO.out; subst eo))
    go_loopw [15] (fun v wr => ∃ i : Nat, i ≤ 16 ∧ v = .int .i64 (i : Int) ∧ Aside0 (Kd.R (Kd.int .u8) 5 wr w.heap.size (fun _ => True) (.slice Ao 16 co) (l.take i ++ List.replicate (16 - i) 0)) ∧ Aside0 (wr.heap[g0]? = some (.cells #[.string a0] 9 (0, 0))) ∧ Aside0 (Below w.heap.size w wr)) (fun v _ => 16 - (intOf v).toNat)
    case atStart => exact ⟨0, by omega, rfl, HO, B0, HB⟩
    case round =>
      clear HO B0 HB
      obtain ⟨i, hi, rfl, HO, B0, HB⟩ := hrel
      by_cases hlt : i < 16
      · have hv := HL.out.2 i hlt
        have hll := HL.out.1
        unfold mixV at hv
        obtain ⟨x, hx, hv⟩ := Option.bind_eq_some_iff.1 hv
        obtain ⟨y, hy, hv⟩ := Option.bind_eq_some_iff.1 hv
        have HX := Aside0.mk hx
        have HY := Aside0.mk hy
        have HV := Aside0.mk (Option.some.inj hv)
        have HLL := Aside0.mk hll
        clear hx hy hv hll
        go_upto_region 8 with (fail)
        obtain ⟨w5, hw5⟩ : ∃ w5, w5 = (wr.alloc (Obj.cells #[Value.int IntKind.i64 ((i : Int) / 4)] 3)).alloc (Obj.cells #[Value.int IntKind.i64 ((i : Int) % 4)] 3) := ⟨_, rfl⟩
        obtain ⟨g5, hg5⟩ : ∃ g, g = wr.heap.size := ⟨_, rfl⟩
        obtain ⟨g6, hg6⟩ : ∃ g, g = wr.heap.size + 1 := ⟨_, rfl⟩
        have hb5 : Below wr.heap.size wr w5 := by rw [hw5]; exact below_alloc (below_alloc (Below.refl _ _) _) _
        have h5 : w5.cell? ⟨g5, 0, none⟩ = some (.int .i64 ((i : Int) / 4)) := by
          rw [hw5, hg5]
          exact (cell_of_row _ _ 0 _ _ (0, 0) (heap_alloc2_old wr _ _)).trans rfl
        have h6 : w5.cell? ⟨g6, 0, none⟩ = some (.int .i64 ((i : Int) % 4)) := by
          rw [hw5, hg6]
          exact (cell_of_row _ _ 0 _ _ (0, 0) (heap_alloc2_new wr _ _)).trans rfl
        rw [← hw5, ← hg6, ← hg5]
        clear hw5 hg5 hg6
        have n0_ := Aside0.mk (Kd.R_below HO.out hb5)
        have n1_ := Aside0.mk (blk_below B0.out hb5)
        have n2_ := Aside0.mk (below_step HB.out hb5)
        clear HO B0 HB hb5
        have HO := n0_
        have B0 := n1_
        have HB := n2_
        clear n0_ n1_ n2_
        have h0 : w5.cell? ⟨g0, 0, none⟩ = some (.string a0) := (blk_cell B0.out 0).trans rfl
        have CL : ∀ (j : Int), 0 ≤ j → j ≤ 3 → ∀ W : World, (∀ x, W.cell? x = w5.cell? x) → Calls Try.prog 48 #[.int .i64 j, .pointer (some ⟨g0, 0, none⟩), .pointer (some ⟨g5, 0, none⟩), .pointer (some ⟨g6, 0, none⟩)] W fun e w' => e = .returned (.int .i64 (mixAt a0 i j)) ∧ W = w' := fun j hj0 hj1 W hW =>
          mix_at g0 g5 g6 a0 ((i : Int) / 4) ((i : Int) % 4) j _ W (by have := C.out; omega) (by omega) (by omega) (by omega) (by omega) hj0 hj1 rfl ((hW _).trans h0) ((hW _).trans h5) ((hW _).trans h6)
        have C0 := CL 0 (by decide) (by decide)
        have C1 := CL 1 (by decide) (by decide)
        have C2 := CL 2 (by decide) (by decide)
        have C3 := CL 3 (by decide) (by decide)
        have hlen : (l.take i ++ List.replicate (16 - i) (0 : Int)).length = 16 := by have := HLL.out; simp; omega
        obtain ⟨go, co', eo, gb, gl, cl⟩ := Kd.R_form HO.out (by omega)
        rw [hlen] at eo
        cases eo
        have GB := Aside0.mk gb
        obtain ⟨hc, hf⟩ := Kd.R_celln 0 HO.out (i : Int) (by omega) (by omega)
        rw [Int.toNat_natCast] at hc hf
        have HP := Aside0.mk (fun n x => Kd.R_putg (show Kd.R (Kd.int .u8) 5 (w5.drewN n) w.heap.size (fun _ => True) (.slice (some ⟨go, 0, none⟩) 16 co) (l.take i ++ List.replicate (16 - i) 0) from Kd.R_drewN HO.out n) (i : Int) x)
        clear gb gl cl CL h0 h5 h6 hlen
        generalize rdOf 0 (l.take i ++ List.replicate (16 - i) (0 : Int)) (i : Int) = old at hc
        generalize mixAt a0 i 0 = z0 at HX HV C0
        generalize mixAt a0 i 1 = z1 at HY HV C1
        generalize mixAt a0 i 2 = z2 at HV C2
        generalize mixAt a0 i 3 = z3 at HV C3
        have D0 := Aside0.mk (C0 w5 (fun _ => rfl))
        have D1 := Aside0.mk (fun n => C1 (w5.drewN n) (fun _ => rfl))
        have D2 := Aside0.mk (fun n => C2 (w5.drewN n) (fun _ => rfl))
        have D3 := Aside0.mk (fun n => C3 (w5.drewN n) (fun _ => rfl))
        clear C0 C1 C2 C3
        go_wp2_with (first | (go_at_call 48; ((with_reducible refine (D0.out).mono ?_)); rintro e wz ⟨rfl, rfl⟩) | (go_at_call 48; ((with_reducible refine (D1.out _).mono ?_)); rintro e wz ⟨rfl, rfl⟩) | (go_at_call 48; ((with_reducible refine (D2.out _).mono ?_)); rintro e wz ⟨rfl, rfl⟩) | (go_at_call 48; ((with_reducible refine (D3.out _).mono ?_)); rintro e wz ⟨rfl, rfl⟩) | (go_at_call 14; ((with_reducible refine (impl_FieldMul.calls k 2 z0 x _ HX.out).mono ?_)); rintro e wz ⟨rfl, ⟨nd, rfl⟩⟩) | (go_at_call 14; ((with_reducible refine (impl_FieldMul.calls k 3 z1 y _ HY.out).mono ?_)); rintro e wz ⟨rfl, ⟨ne, rfl⟩⟩))
        rw [HV.out]
        have e1 : (l.take i ++ List.replicate (16 - i) (0 : Int)).set i (l.getD i 0) = l.take (i + 1) ++ List.replicate (16 - (i + 1)) 0 := mixSet l i 16 HLL.out hlt
        refine ⟨⟨i + 1, by omega, by go_num, ⟨?_⟩, ⟨?_⟩, ⟨?_⟩⟩, by simp [intOf]; omega⟩
        · have e2 := (HP.out (nd + ne) (l.getD i 0)).1
          rw [Int.toNat_natCast, e1] at e2
          exact e2
        · have e2 := (HP.out (nd + ne) (l.getD i 0)).2
          rw [Int.toNat_natCast] at e2
          exact blk_grown (blk_drewN B0.out _) e2 (Kd.R_ne (Kd.R_drewN HO.out (nd + ne)) (blk_drewN B0.out _) (by decide))
        · exact below_set (pw_below_drewN HB.out _) GB.out
      · obtain rfl : i = 16 := by omega
        have hcv := own_string (P := Try.prog) Try.underlying24 Try.underlying5 Try.underlying9 (Kd.own_of_R HO.out)
        have hll := HL.out.1
        have e1 : l.take 16 ++ List.replicate (16 - 16) (0 : Int) = l := by rw [Nat.sub_self, List.replicate_zero, List.append_nil, List.take_of_length_le (by omega)]
        rw [e1] at hcv
        clear e1 hll
        go_wp2
        go_ret
        exact ⟨rfl, HB.out⟩
  · rw [if_neg c] at h
    cases h
    have c1 : ((a0.size : Int) != 16) = true := bne_iff_ne.mpr (by omega)
    have c2 : ((a0.size : Int) == 16) = false := beq_eq_false_iff_ne.mpr (by omega)
    clear c
    go_enter Try.func27, Try.ntmps27
    go_wp2
    go_ret
    exact ⟨rfl, below_alloc (Below.refl _ _) _⟩

end Go.Proofs.Ytngdfchpknglhaa.PFnExactMixColumns
