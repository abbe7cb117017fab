-- Written by a program of this session for this claim; Lean checks it.
import Derived.Test.YtkkadcpgjniojaaMFnExactInodeOkx0
import Derived.Test.YtkkadcpgjniojaaMFnExactInodeOkx4
namespace Go.Proofs.Ytkkadcpgjniojaa.PFnExactInodeOk
open Go.RowKit Go.Proofs.YtkkadcpgjniojaaW.PrintWords Go.Proofs.YtkkadcpgjniojaaW.PrintLast Go.Proofs.YtkkadcpgjniojaaW.PrintMore
attribute [local go_sem] max2_int min2_int max_two min_two max_three min_three max_four min_four   -- for this text's walks alone
set_option linter.unusedVariables false
set_option linter.unusedSimpArgs false

/-! ### impl_RecWord: function 79 -/
def impl_RecWord.j0 : Nat → Bool → Int → Int → ByteArray → Option (ByteArray)
  | 0, _, _, _, _ => none
  | k + 1, x18, x185000, x185001, x185002 => if x18 = true then (some (⟨#[]⟩ : ByteArray)) else ((impl_NumText.f k x185000 1).bind fun t187 => ((impl_NumText.f k x185001 3).bind fun t188 => (if t187.size + t188.size ≤ 9223372036854775807 then (if (t187 ++ t188).size + x185002.size ≤ 9223372036854775807 then (some ((t187 ++ t188) ++ x185002)) else (none)) else (none))))
def impl_RecWord.f (k : Nat) (a0_0 : Int) (a0_1 : Int) (a0_2 : ByteArray) : Option (ByteArray) := (impl_within.f a0_0 1 12).bind fun t185 => (if t185 = true then ((impl_within.f a0_1 1 16777215).bind fun t186 => (if t186 = true then (impl_RecWord.j0 k ((a0_2.size : Int) != 4) a0_0 a0_1 a0_2) else (impl_RecWord.j0 k true a0_0 a0_1 a0_2))) else (impl_RecWord.j0 k true a0_0 a0_1 a0_2))
theorem impl_RecWord.mono_l : ∀ k, (∀ y0 y1 y2 y3, LeO (impl_RecWord.j0 k y0 y1 y2 y3) (impl_RecWord.j0 (k + 1) y0 y1 y2 y3))
  | 0 => fun _ _ _ _ r h => by simp [impl_RecWord.j0] at h
  | k + 1 => by
    have ih0 := impl_RecWord.mono_l k
    · intro y0 y1 y2 y3
      unfold impl_RecWord.j0
      repeat' first
      | (with_reducible exact ih0 _ _ _ _)
      | (with_reducible exact impl_NumText.mono _ _ _)
      | (with_reducible exact LeO.refl _)
      | (with_reducible exact LeO.none _)
      | (with_reducible refine LeO.ite ?_ ?_)
      | (with_reducible refine LeO.bind ?_ (fun _ => ?_))
      | exact ih0 _ _ _ _
      | exact impl_NumText.mono _ _ _
      | exact LeO.none _
      | refine LeO.ite ?_ ?_
      | refine LeO.bind ?_ (fun _ => ?_)
theorem impl_RecWord.mono : ∀ a0 a1 a2 k, LeO (impl_RecWord.f k a0 a1 a2) (impl_RecWord.f (k + 1) a0 a1 a2) := by
  intro a0 a1 a2 k
  have ih0 := impl_RecWord.mono_l k
  unfold impl_RecWord.f
  repeat' first
      | (with_reducible exact ih0 _ _ _ _)
      | (with_reducible exact impl_NumText.mono _ _ _)
      | (with_reducible exact LeO.refl _)
      | (with_reducible exact LeO.none _)
      | (with_reducible refine LeO.ite ?_ ?_)
      | (with_reducible refine LeO.bind ?_ (fun _ => ?_))
      | exact ih0 _ _ _ _
      | exact impl_NumText.mono _ _ _
      | exact LeO.none _
      | refine LeO.ite ?_ ?_
      | refine LeO.bind ?_ (fun _ => ?_)
def impl_RecWord.T3 : Bool × List (List Nat × List Nat) := (true, [([], []), ([0], [0]), ([1], [1]), ([], []), ([3], [3]), ([4, 2], [4]), ([2, 5], [2, 5]), ([], []), ([7], [7]), ([6, 8], [6, 8]), ([9, 5, 0, 1, 2, 3, 4, 5, 6, 7, 8, 9], [9])])
def impl_RecWord.B3 : List Nat := [0, 1, 3, 0, 8, 31, 63, 0, 128, 511, 1023]
theorem impl_RecWord.tab3 : rtab .any (opsOf Try.f79 3) = impl_RecWord.T3 := by kernel_rfl
theorem impl_RecWord.bits3 : waitsOk impl_RecWord.T3.2 impl_RecWord.B3 = true := by kernel_rfl
set_option maxHeartbeats 8000000 in
set_option maxRecDepth 100000 in
theorem impl_RecWord.calls (k : Nat) (a0_0 : Int) (a0_1 : Int) (a0_2 : ByteArray) (r : ByteArray) (w : World) (h : impl_RecWord.f k a0_0 a0_1 a0_2 = some r) :
    Calls Try.prog 79 #[.agg #[.int .i64 a0_0, .int .i64 a0_1, .string a0_2]] w fun e w' => e = .returned (.string r) ∧ Below w.heap.size w w' := by
  have hu84 := Try.underlying84
  have HB := Aside0.mk (Below.refl w.heap.size w)
  have H : ((impl_within.f a0_0 1 12).bind fun t185 => (if t185 = true then ((impl_within.f a0_1 1 16777215).bind fun t186 => (if t186 = true then (impl_RecWord.j0 k ((a0_2.size : Int) != 4) a0_0 a0_1 a0_2) else (impl_RecWord.j0 k true a0_0 a0_1 a0_2))) else (impl_RecWord.j0 k true a0_0 a0_1 a0_2))) = some r := h
  clear h
  have HC2 := Aside0.mk H
  clear H
  go_enter Try.func79, Try.ntmps79
  go_upto_region 1 with (first | ((with_reducible refine gate_dst (N := 1) rfl ?_); (try (refine gate_guard (by rfl) ?_; dsimp only)); refine box_event ?hg (N := 1) ?hd (cs := #[.int .i64 a0_0, .int .i64 a0_1, .string a0_2]) (t := 84) ?hr ?_; (case hd => rfl); (case hg => rfl); (case hr => first | (go_simp; done) | (go_simp; rfl)); intro gb184 hg w3 hbox hb; have n0_ := Aside0.mk (below_step (by repeat (first | (with_reducible first | exact HB.out | apply below_alloc | apply pw_below_drewN | apply below_drew1) | exact HB.out)) hb); have n1_ := Aside0.mk (hbox); have n2_ := Aside0.mk ((by rw [hg]; exact (below_size (by repeat (first | (with_reducible first | exact HB.out | apply below_alloc | apply pw_below_drewN | apply below_drew1) | exact HB.out))) : w.heap.size ≤ gb184)); have n3_ := Aside0.mk ((by rw [hg]; exact (below_size (by repeat (first | (with_reducible first | exact HB.out | apply below_alloc | apply pw_below_drewN | apply below_drew1) | exact HB.out))) : w.heap.size ≤ gb184)); clear HB; have HB := n0_; have BK184 := n1_; have GW184 := n2_; have GE184 := n3_; clear n0_ n1_ n2_ n3_; clear hb hbox hg))
  (try simp only [Act.put, List.setIfInBounds_toArray, List.set_cons_zero, List.set_cons_succ])
  go_cut [18] (fun v18 wc => ∃ (kq : Nat) (x18_1 : Bool), v18 = .bool x18_1 ∧ Aside0 (impl_RecWord.j0 kq x18_1 a0_0 a0_1 a0_2 = some r) ∧ Aside0 (kq ≤ k) ∧ Aside0 (wc.heap[gb184]? = some (.cells #[.int .i64 a0_0, .int .i64 a0_1, .string a0_2] 84 (0, 0))) ∧ Aside0 (Below w.heap.size w wc))
  case first =>
    have H := HC2.out
    clear HC2
    replace H := Option.bind_eq_some_iff.mp H
    obtain ⟨t185, A40, H⟩ := H
    replace H : (if t185 = true then ((impl_within.f a0_1 1 16777215).bind fun t186 => (if t186 = true then (impl_RecWord.j0 k ((a0_2.size : Int) != 4) a0_0 a0_1 a0_2) else (impl_RecWord.j0 k true a0_0 a0_1 a0_2))) else (impl_RecWord.j0 k true a0_0 a0_1 a0_2)) = some r := H
    have A4 := Aside0.mk A40
    clear A40
    by_cases c5 : t185 = true
    · subst c5
      have H1 : ((impl_within.f a0_1 1 16777215).bind fun t186 => (if t186 = true then (impl_RecWord.j0 k ((a0_2.size : Int) != 4) a0_0 a0_1 a0_2) else (impl_RecWord.j0 k true a0_0 a0_1 a0_2))) = some r := by rw [if_pos rfl] at H; exact H
      clear H
      have H := H1
      clear H1
      replace H := Option.bind_eq_some_iff.mp H
      obtain ⟨t186, A60, H⟩ := H
      replace H : (if t186 = true then (impl_RecWord.j0 k ((a0_2.size : Int) != 4) a0_0 a0_1 a0_2) else (impl_RecWord.j0 k true a0_0 a0_1 a0_2)) = some r := H
      have A6 := Aside0.mk A60
      clear A60
      by_cases c7 : t186 = true
      · subst c7
        have H1 : (impl_RecWord.j0 k ((a0_2.size : Int) != 4) a0_0 a0_1 a0_2) = some r := by rw [if_pos rfl] at H; exact H
        clear H
        have H := H1
        clear H1
        have H' := Aside0.mk H
        clear H
        have hcz8_0 : w3.cell? ⟨gb184, 0, none⟩ = some (.int .i64 a0_0) := (blk_cell BK184.out 0).trans rfl
        have hcz8_1 : w3.cell? ⟨gb184, 1, none⟩ = some (.int .i64 a0_1) := (blk_cell BK184.out 1).trans rfl
        have hcz8_2 : w3.cell? ⟨gb184, 2, none⟩ = some (.string a0_2) := (blk_cell BK184.out 2).trans rfl
        have hfz8_0 := blk_frozen BK184.out 0
        have hfz8_1 := blk_frozen BK184.out 1
        have hfz8_2 := blk_frozen BK184.out 2
        go_wp2_with (first | ((with_reducible refine gate_callee (f := 41) rfl ?_); refine goesL_ (some 5) rfl rfl Try.func41 (by kernel_rfl) rfl #[.int .i64 a0_0, .int .i64 1, .int .i64 12] rfl (by (try simp only [List.map_toArray, List.map_cons, List.map_nil]); first | done | rfl | (simp only [List.length_drop, List.length_take]; rfl)) ?_; (with_reducible refine (impl_within.calls a0_0 1 12 true _ A4.out).mono ?_); rintro e w' ⟨rfl, ⟨nd, rfl⟩⟩; refine ⟨_, rfl, ?_⟩) | (go_at_call 41; (with_reducible refine (impl_within.calls a0_1 1 16777215 true _ A6.out).mono ?_); rintro e w' ⟨rfl, ⟨nd, rfl⟩⟩))
        go_meet
        case rel => exact ⟨_, (((a0_2.size : Int) != 4)), (by first | rfl | (simp; done) | (simp [*]; done)), H', ⟨by first | omega | exact Nat.le_refl _⟩, ⟨by (with_reducible repeat (first | refine blk_drewN ?_ _ | refine blk_drew ?_ | refine blk_alloc ?_ _)); exact BK184.out⟩, ⟨by repeat (first | (with_reducible first | exact HB.out | apply below_alloc | apply pw_below_drewN | apply below_drew1 | refine below_set ?_ GE184.out) | exact HB.out)⟩⟩
      · replace c7 := Bool.eq_false_iff.mpr c7
        subst c7
        have H1 : (impl_RecWord.j0 k true a0_0 a0_1 a0_2) = some r := by rw [if_neg (show ¬ (false = true) by decide)] at H; exact H
        clear H
        have H := H1
        clear H1
        have H' := Aside0.mk H
        clear H
        have hcz9_0 : w3.cell? ⟨gb184, 0, none⟩ = some (.int .i64 a0_0) := (blk_cell BK184.out 0).trans rfl
        have hcz9_1 : w3.cell? ⟨gb184, 1, none⟩ = some (.int .i64 a0_1) := (blk_cell BK184.out 1).trans rfl
        have hcz9_2 : w3.cell? ⟨gb184, 2, none⟩ = some (.string a0_2) := (blk_cell BK184.out 2).trans rfl
        have hfz9_0 := blk_frozen BK184.out 0
        have hfz9_1 := blk_frozen BK184.out 1
        have hfz9_2 := blk_frozen BK184.out 2
        go_wp2_with (first | ((with_reducible refine gate_callee (f := 41) rfl ?_); refine goesL_ (some 5) rfl rfl Try.func41 (by kernel_rfl) rfl #[.int .i64 a0_0, .int .i64 1, .int .i64 12] rfl (by (try simp only [List.map_toArray, List.map_cons, List.map_nil]); first | done | rfl | (simp only [List.length_drop, List.length_take]; rfl)) ?_; (with_reducible refine (impl_within.calls a0_0 1 12 true _ A4.out).mono ?_); rintro e w' ⟨rfl, ⟨nd, rfl⟩⟩; refine ⟨_, rfl, ?_⟩) | (go_at_call 41; (with_reducible refine (impl_within.calls a0_1 1 16777215 false _ A6.out).mono ?_); rintro e w' ⟨rfl, ⟨nd, rfl⟩⟩))
        go_meet
        case rel => exact ⟨_, (true), (by first | rfl | (simp; done) | (simp [*]; done)), H', ⟨by first | omega | exact Nat.le_refl _⟩, ⟨by (with_reducible repeat (first | refine blk_drewN ?_ _ | refine blk_drew ?_ | refine blk_alloc ?_ _)); exact BK184.out⟩, ⟨by repeat (first | (with_reducible first | exact HB.out | apply below_alloc | apply pw_below_drewN | apply below_drew1 | refine below_set ?_ GE184.out) | exact HB.out)⟩⟩
    · replace c5 := Bool.eq_false_iff.mpr c5
      subst c5
      have H1 : (impl_RecWord.j0 k true a0_0 a0_1 a0_2) = some r := by rw [if_neg (show ¬ (false = true) by decide)] at H; exact H
      clear H
      have H := H1
      clear H1
      have H' := Aside0.mk H
      clear H
      have hcz10_0 : w3.cell? ⟨gb184, 0, none⟩ = some (.int .i64 a0_0) := (blk_cell BK184.out 0).trans rfl
      have hcz10_1 : w3.cell? ⟨gb184, 1, none⟩ = some (.int .i64 a0_1) := (blk_cell BK184.out 1).trans rfl
      have hcz10_2 : w3.cell? ⟨gb184, 2, none⟩ = some (.string a0_2) := (blk_cell BK184.out 2).trans rfl
      have hfz10_0 := blk_frozen BK184.out 0
      have hfz10_1 := blk_frozen BK184.out 1
      have hfz10_2 := blk_frozen BK184.out 2
      go_wp2_with (first | ((with_reducible refine gate_callee (f := 41) rfl ?_); refine goesL_ (some 5) rfl rfl Try.func41 (by kernel_rfl) rfl #[.int .i64 a0_0, .int .i64 1, .int .i64 12] rfl (by (try simp only [List.map_toArray, List.map_cons, List.map_nil]); first | done | rfl | (simp only [List.length_drop, List.length_take]; rfl)) ?_; (with_reducible refine (impl_within.calls a0_0 1 12 false _ A4.out).mono ?_); rintro e w' ⟨rfl, ⟨nd, rfl⟩⟩; refine ⟨_, rfl, ?_⟩))
      go_meet
      case rel => exact ⟨_, (true), (by first | rfl | (simp; done) | (simp [*]; done)), H', ⟨by first | omega | exact Nat.le_refl _⟩, ⟨by (with_reducible repeat (first | refine blk_drewN ?_ _ | refine blk_drew ?_ | refine blk_alloc ?_ _)); exact BK184.out⟩, ⟨by repeat (first | (with_reducible first | exact HB.out | apply below_alloc | apply pw_below_drewN | apply below_drew1 | refine below_set ?_ GE184.out) | exact HB.out)⟩⟩
  case rest =>
    clear HC2
    try clear p2
    try clear c4
    try clear c5
    try clear c7
    try clear hcz10_0
    try clear hcz10_1
    try clear hcz10_2
    try clear hcz8_0
    try clear hcz8_1
    try clear hcz8_2
    try clear hcz9_0
    try clear hcz9_1
    try clear hcz9_2
    try clear hfz10_0
    try clear hfz10_1
    try clear hfz10_2
    try clear hfz8_0
    try clear hfz8_1
    try clear hfz8_2
    try clear hfz9_0
    try clear hfz9_1
    try clear hfz9_2
    obtain ⟨kq, x18_1, rfl, HA, HJ1, BK184, HB⟩ := hcut
    cases kq with
    | zero => exact absurd HA.out (by simp [impl_RecWord.j0])
    | succ kj1 =>
      have H := HA.out
      clear HA
      simp only [impl_RecWord.j0] at H
      by_cases c11 : x18_1 = true
      · subst c11
        have H1 : (some (⟨#[]⟩ : ByteArray)) = some r := by rw [if_pos rfl] at H; exact H
        clear H
        have H := H1
        clear H1
        obtain rfl := Option.some.inj H
        go_wp2
        go_ret
        exact ⟨by first | rfl | (simp [errW_none, errW_some] <;> rfl) | (simp [*, errW_none, errW_some] <;> rfl), by repeat (first | (with_reducible first | exact HB.out | apply below_alloc | apply pw_below_drewN | apply below_drew1 | refine below_set ?_ GE184.out) | exact HB.out)⟩
      · replace c11 := Bool.eq_false_iff.mpr c11
        subst c11
        have H1 : ((impl_NumText.f kj1 a0_0 1).bind fun t187 => ((impl_NumText.f kj1 a0_1 3).bind fun t188 => (if t187.size + t188.size ≤ 9223372036854775807 then (if (t187 ++ t188).size + a0_2.size ≤ 9223372036854775807 then (some ((t187 ++ t188) ++ a0_2)) else (none)) else (none)))) = some r := by rw [if_neg (show ¬ (false = true) by decide)] at H; exact H
        clear H
        have H := H1
        clear H1
        replace H := Option.bind_eq_some_iff.mp H
        obtain ⟨t187, A120, H⟩ := H
        replace H : ((impl_NumText.f kj1 a0_1 3).bind fun t188 => (if t187.size + t188.size ≤ 9223372036854775807 then (if (t187 ++ t188).size + a0_2.size ≤ 9223372036854775807 then (some ((t187 ++ t188) ++ a0_2)) else (none)) else (none))) = some r := H
        have A12 := Aside0.mk A120
        clear A120
        replace H := Option.bind_eq_some_iff.mp H
        obtain ⟨t188, A130, H⟩ := H
        replace H : (if t187.size + t188.size ≤ 9223372036854775807 then (if (t187 ++ t188).size + a0_2.size ≤ 9223372036854775807 then (some ((t187 ++ t188) ++ a0_2)) else (none)) else (none)) = some r := H
        have A13 := Aside0.mk A130
        clear A130
        by_cases c14 : t187.size + t188.size ≤ 9223372036854775807
        · rw [if_pos c14] at H
          have c14b0 := eq_true c14
          have c14b1 : decide (t187.size + t188.size ≤ 9223372036854775807) = true := decide_eq_true c14
          try have c14b2 : (9223372036854775807 < t187.size + t188.size) = False := eq_false (Nat.not_lt.2 c14)
          by_cases c15 : (t187 ++ t188).size + a0_2.size ≤ 9223372036854775807
          · rw [if_pos c15] at H
            have c15b0 := eq_true c15
            have c15b1 : decide ((t187 ++ t188).size + a0_2.size ≤ 9223372036854775807) = true := decide_eq_true c15
            try have c15b2 : (9223372036854775807 < (t187 ++ t188).size + a0_2.size) = False := eq_false (Nat.not_lt.2 c15)
            try have c15b9 := c15b2
            try simp only [ByteArray.size_append] at c15b9
            obtain rfl := Option.some.inj H
            try go_wp2
            have n0_ := Aside0.mk (blk_drew BK184.out)
            have n1_ := Aside0.mk (below_drew1 HB.out)
            clear BK184
            clear HB
            have BK184 := n0_
            have HB := n1_
            clear n0_ n1_
            refine start_ (n := 11) (S := fun w' => w'.cell? ⟨gb184, 0, none⟩ = some (.int .i64 a0_0) ∧ w'.cell? ⟨gb184, 1, none⟩ = some (.int .i64 a0_1) ∧ w'.cell? ⟨gb184, 2, none⟩ = some (.string a0_2)) (ds := []) #[false, false, false, false, false, false, false, false, false, false, false] (by kernel_rfl) rfl rfl ⟨(blk_cell BK184.out 0).trans rfl, (blk_cell BK184.out 1).trans rfl, (blk_cell BK184.out 2).trans rfl⟩ (fun hHeld => ?_); refine with_tabW impl_RecWord.tab3 impl_RecWord.bits3 (fun HT_ HW_ => ?_)
            generalize wc.drew = w16 at BK184 HB hHeld ⊢
            refine pure_ (i := 0) (N := some 19) (v := ?_) (a' := ?_) #[true, false, false, false, false, false, false, false, false, false, false] rfl rfl (any_of HT_.out (by kernel_rfl)) (fun _ _ _ h => h) (Or.inl ⟨by rfl, ?_⟩) ?_ ?_
            rotate_left
            · intro w'
              go_simp
              with_reducible rfl
            rotate_left
            · simp only [Act.put, List.setIfInBounds_toArray, List.set_cons_zero, List.set_cons_succ, i64_w, i32_w]
              rfl
            refine pure_ (i := 3) (N := some 22) (v := ?_) (a' := ?_) #[true, false, false, true, false, false, false, false, false, false, false] rfl rfl (any_of HT_.out (by kernel_rfl)) (fun _ _ _ h => h) (Or.inl ⟨by rfl, ?_⟩) ?_ ?_
            rotate_left
            · intro w'
              go_simp
              with_reducible rfl
            rotate_left
            · simp only [Act.put, List.setIfInBounds_toArray, List.set_cons_zero, List.set_cons_succ, i64_w, i32_w]
              rfl
            refine pure_ (i := 7) (N := some 26) (v := ?_) (a' := ?_) #[true, false, false, true, false, false, false, true, false, false, false] rfl rfl (any_of HT_.out (by kernel_rfl)) (fun _ _ _ h => h) (Or.inl ⟨by rfl, ?_⟩) ?_ ?_
            rotate_left
            · intro w'
              go_simp
              with_reducible rfl
            rotate_left
            · simp only [Act.put, List.setIfInBounds_toArray, List.set_cons_zero, List.set_cons_succ, i64_w, i32_w]
              rfl
            refine take_ (i := 1) (N := some 20) (v := ?_) (a' := ?_) #[true, true, false, true, false, false, false, true, false, false, false] rfl rfl (take_ofW HT_.out HW_.out (by kernel_rfl)) (fun _ _ _ h => h) (Or.inl ⟨by rfl, ?_⟩) hHeld ?_ ?_
            rotate_left
            · rintro w' ⟨s0, s1, s2⟩
              go_simp
              with_reducible rfl
            rotate_left
            · simp only [Act.put, List.setIfInBounds_toArray, List.set_cons_zero, List.set_cons_succ, i64_w, i32_w]
              rfl
            refine take_ (i := 4) (N := some 23) (v := ?_) (a' := ?_) #[true, true, false, true, true, false, false, true, false, false, false] rfl rfl (take_ofW HT_.out HW_.out (by kernel_rfl)) (fun _ _ _ h => h) (Or.inl ⟨by rfl, ?_⟩) hHeld ?_ ?_
            rotate_left
            · rintro w' ⟨s0, s1, s2⟩
              go_simp
              with_reducible rfl
            rotate_left
            · simp only [Act.put, List.setIfInBounds_toArray, List.set_cons_zero, List.set_cons_succ, i64_w, i32_w]
              rfl
            refine take_ (i := 8) (N := some 27) (v := ?_) (a' := ?_) #[true, true, false, true, true, false, false, true, true, false, false] rfl rfl (take_ofW HT_.out HW_.out (by kernel_rfl)) (fun _ _ _ h => h) (Or.inl ⟨by rfl, ?_⟩) hHeld ?_ ?_
            rotate_left
            · rintro w' ⟨s0, s1, s2⟩
              go_simp
              with_reducible rfl
            rotate_left
            · simp only [Act.put, List.setIfInBounds_toArray, List.set_cons_zero, List.set_cons_succ, i64_w, i32_w]
              rfl
            refine one_ (i := 2) (N := some 21) #[true, true, true, true, true, false, false, true, true, false, false] rfl rfl (one_of HT_.out (by kernel_rfl)) (by decide) (fun K hK => ?_)
            refine goes_ Try.func50 (by kernel_rfl) rfl #[.int .i64 a0_0, .int .i64 1] (by rfl) rfl rfl (by (try simp only [List.map_toArray, List.map_cons, List.map_nil]); first | done | rfl | (simp only [List.length_drop, List.length_take]; rfl)) ?_
            with_reducible refine (impl_NumText.calls kj1 a0_0 1 t187 _ A12.out).mono ?_
            rintro e w17 ⟨rfl, hb⟩
            refine ⟨_, rfl, ?_⟩
            have n0_ := Aside0.mk (blk_below (g := gb184) (o := .cells #[.int .i64 a0_0, .int .i64 a0_1, .string a0_2] 84 (0, 0)) (by (with_reducible repeat (first | refine blk_drewN ?_ _ | refine blk_drew ?_ | refine blk_alloc ?_ _)); exact BK184.out) hb)
            have n1_ := Aside0.mk (below_step (by repeat (first | (with_reducible first | exact HB.out | apply below_alloc | apply pw_below_drewN | apply below_drew1 | refine below_set ?_ GE184.out) | exact HB.out)) hb)
            clear BK184
            clear HB
            have BK184 := n0_
            have HB := n1_
            clear n0_ n1_
            (try clear hb)
            (try clear hb2)
            (try clear hk)
            (try clear hi)
            refine hK.out _ _ ⟨(blk_cell BK184.out 0).trans rfl, (blk_cell BK184.out 1).trans rfl, (blk_cell BK184.out 2).trans rfl⟩ (fun hHeld => ?_)
            clear hK K
            refine norm_ (a' := ?_) ?_ ?_
            rotate_left
            · show Act.put _ (some 21) _ = _
              simp only [Act.put, List.setIfInBounds_toArray, List.set_cons_zero, List.set_cons_succ, i64_w, i32_w]
              rfl
            refine one_ (i := 5) (N := some 24) #[true, true, true, true, true, true, false, true, true, false, false] rfl rfl (one_of HT_.out (by kernel_rfl)) (by decide) (fun K hK => ?_)
            refine goes_ Try.func50 (by kernel_rfl) rfl #[.int .i64 a0_1, .int .i64 3] (by rfl) rfl rfl (by (try simp only [List.map_toArray, List.map_cons, List.map_nil]); first | done | rfl | (simp only [List.length_drop, List.length_take]; rfl)) ?_
            with_reducible refine (impl_NumText.calls kj1 a0_1 3 t188 _ A13.out).mono ?_
            rintro e w18 ⟨rfl, hb⟩
            refine ⟨_, rfl, ?_⟩
            have n0_ := Aside0.mk (blk_below (g := gb184) (o := .cells #[.int .i64 a0_0, .int .i64 a0_1, .string a0_2] 84 (0, 0)) (by (with_reducible repeat (first | refine blk_drewN ?_ _ | refine blk_drew ?_ | refine blk_alloc ?_ _)); exact BK184.out) hb)
            have n1_ := Aside0.mk (below_step (by repeat (first | (with_reducible first | exact HB.out | apply below_alloc | apply pw_below_drewN | apply below_drew1 | refine below_set ?_ GE184.out) | exact HB.out)) hb)
            clear BK184
            clear HB
            have BK184 := n0_
            have HB := n1_
            clear n0_ n1_
            (try clear hb)
            (try clear hb2)
            (try clear hk)
            (try clear hi)
            refine hK.out _ _ ⟨(blk_cell BK184.out 0).trans rfl, (blk_cell BK184.out 1).trans rfl, (blk_cell BK184.out 2).trans rfl⟩ (fun hHeld => ?_)
            clear hK K
            refine norm_ (a' := ?_) ?_ ?_
            rotate_left
            · show Act.put _ (some 24) _ = _
              simp only [Act.put, List.setIfInBounds_toArray, List.set_cons_zero, List.set_cons_succ, i64_w, i32_w]
              rfl
            refine pure_ (i := 6) (N := some 25) (v := ?_) (a' := ?_) #[true, true, true, true, true, true, true, true, true, false, false] rfl rfl (any_of HT_.out (by kernel_rfl)) (fun _ _ _ h => h) (Or.inl ⟨by rfl, ?_⟩) ?_ ?_
            rotate_left
            · intro w'
              go_simp
              with_reducible rfl
            rotate_left
            · simp only [Act.put, List.setIfInBounds_toArray, List.set_cons_zero, List.set_cons_succ, i64_w, i32_w]
              rfl
            refine pure_ (i := 9) (N := some 28) (v := ?_) (a' := ?_) #[true, true, true, true, true, true, true, true, true, true, false] rfl rfl (any_of HT_.out (by kernel_rfl)) (fun _ _ _ h => h) (Or.inl ⟨by rfl, ?_⟩) ?_ ?_
            rotate_left
            · intro w'
              go_simp
              with_reducible rfl
            rotate_left
            · simp only [Act.put, List.setIfInBounds_toArray, List.set_cons_zero, List.set_cons_succ, i64_w, i32_w]
              rfl
            refine pure_ (i := 10) (N := some 2) (v := ?_) (a' := ?_) #[true, true, true, true, true, true, true, true, true, true, true] rfl rfl (any_of HT_.out (by kernel_rfl)) (fun _ _ _ h => h) (Or.inl ⟨by rfl, ?_⟩) ?_ ?_
            rotate_left
            · intro w'
              go_simp
              with_reducible rfl
            rotate_left
            · simp only [Act.put, List.setIfInBounds_toArray, List.set_cons_zero, List.set_cons_succ, i64_w, i32_w]
              rfl
            refine done_ (done_of HT_.out (by kernel_rfl)) ?_
            try go_wp2
            go_ret
            exact ⟨by first | rfl | (simp [errW_none, errW_some] <;> rfl) | (simp [*, errW_none, errW_some] <;> rfl), by repeat (first | (with_reducible first | exact HB.out | apply below_alloc | apply pw_below_drewN | apply below_drew1 | refine below_set ?_ GE184.out) | exact HB.out)⟩
          · rw [if_neg c15] at H
            exact absurd H (by simp)
        · rw [if_neg c14] at H
          exact absurd H (by simp)

-- NOT PRINTED: function 90 (impl_Rec_90)

-- NOT PRINTED: function 80 (impl_Rec_80)

/-! ### impl_PagesFor: function 82 -/
def impl_PagesFor.f (a0 : Int) : Option (Int) := if a0 < 0 then (some 0) else (if (Int.tmod a0 32) > 0 then (some (wrap64 ((wrap64 (Int.tdiv a0 32)) + 1))) else (some (wrap64 (Int.tdiv a0 32))))
set_option maxHeartbeats 8000000 in
set_option maxRecDepth 100000 in
theorem impl_PagesFor.calls (a0 : Int) (r : Int) (w : World) (h : impl_PagesFor.f a0 = some r) :
    Calls Try.prog 82 #[.int .i64 a0] w fun e w' => e = .returned (.int .i64 r) ∧ Drawn0 w w' := by
  have H : (if a0 < 0 then (some 0) else (if (Int.tmod a0 32) > 0 then (some (wrap64 ((wrap64 (Int.tdiv a0 32)) + 1))) else (some (wrap64 (Int.tdiv a0 32))))) = some r := h
  clear h
  by_cases c2 : a0 < 0
  · rw [if_pos c2] at H
    have c2b0 : decide (a0 < 0) = true := decide_eq_true c2
    clear c2
    obtain rfl := Option.some.inj H
    go_enter Try.func82, Try.ntmps82
    go_wp2
    go_ret
    exact ⟨by first | rfl | (simp; done) | (simp [*]; done), by repeat (first | exact Drawn0.refl _ | apply Drawn0.step)⟩
  · rw [if_neg c2] at H
    have c2b0 : decide (a0 < 0) = false := decide_eq_false c2
    clear c2
    by_cases c3 : (Int.tmod a0 32) > 0
    · rw [if_pos c3] at H
      have c3b0 : decide (0 < (Int.tmod a0 32)) = true := decide_eq_true c3
      clear c3
      obtain rfl := Option.some.inj H
      go_enter Try.func82, Try.ntmps82
      go_wp2
      go_ret
      exact ⟨by first | rfl | (simp; done) | (simp [*]; done), by repeat (first | exact Drawn0.refl _ | apply Drawn0.step)⟩
    · rw [if_neg c3] at H
      have c3b0 : decide (0 < (Int.tmod a0 32)) = false := decide_eq_false c3
      clear c3
      obtain rfl := Option.some.inj H
      go_enter Try.func82, Try.ntmps82
      go_wp2
      go_ret
      exact ⟨by first | rfl | (simp; done) | (simp [*]; done), by repeat (first | exact Drawn0.refl _ | apply Drawn0.step)⟩

/-! ### impl_isFile: function 65 -/
/-- Does a page stand among the first n? -/
def hasPg (l : List S84) (p : Int) : Bool := l.any fun x => decide (x.f0 = p)
theorem rec_is (g : Nat) (p : Int) (a b : Int) (s : ByteArray) (w : World) (hg : g < w.heap.size) (hc : w.cell? ⟨g, 0, none⟩ = some (.int .i64 p)) :
    Calls Try.prog 81 #[.agg #[.int .i64 a, .int .i64 b, .string s], .pointer (some ⟨g, 0, none⟩)] w fun e w' => e = .returned (.bool (decide (a = p))) ∧ Below w.heap.size w w' := by
  have hu84 := Try.underlying84
  have HB := Aside0.mk (Below.refl w.heap.size w)
  have HC := Aside0.mk hc
  have HG := Aside0.mk hg
  have hd : (a == p) = decide (a = p) := by rw [Bool.eq_iff_iff]; simp
  clear hc hg
  go_enter Try.func81, Try.ntmps81
  go_wp2_with ((with_reducible refine gate_dst (N := 2) rfl ?_); refine box_event ?hg (N := 2) ?hd (cs := #[.int .i64 a, .int .i64 b, .string s]) (t := 84) ?hr ?_; (case hd => rfl); (case hg => rfl); (case hr => first | (go_simp; done) | (go_simp; rfl)); intro gb hg w4 hbox hb; have n0_ := Aside0.mk (below_step HB.out hb); clear HB; have HB := n0_; have hz0 : w4.cell? ⟨gb, 0, none⟩ = some (.int .i64 a) := (blk_cell hbox 0).trans rfl; have hz1 : w4.cell? ⟨g, 0, none⟩ = some (.int .i64 p) := (hb.cell (p := ⟨g, 0, none⟩) HG.out).trans HC.out; clear n0_ hb hbox hg)
  go_ret
  exact ⟨by first | rfl | rw [hd], HB.out⟩
set_option maxHeartbeats 4000000 in
set_option maxRecDepth 100000 in
theorem rec_index (g : Nat) (p : Int) (A0 : Option Addr) (c0 : Nat) (l : List S84) (w : World) (hr : Kd.C k84 w A0 l.length l) (hl : l.length < 4611686018427387904) (hg : g < w.heap.size) (hc : w.cell? ⟨g, 0, none⟩ = some (.int .i64 p)) :
    Calls Try.prog 90 #[.slice A0 l.length c0, .func (.func 81) #[] #[.pointer (some ⟨g, 0, none⟩)]] w fun e w' => ∃ x : Int, e = .returned (.int .i64 x) ∧ decide (x ≥ 0) = hasPg l p ∧ Below w.heap.size w w' := by
  have hu84 := Try.underlying84
  have HR := Aside0.mk hr
  have HL := Aside0.mk hl
  have HG := Aside0.mk hg
  have HC := Aside0.mk hc
  have HB := Aside0.mk (Below.refl w.heap.size w)
  clear hr hl hg hc
  go_enter Try.func90, Try.ntmps90
  go_wp2
  go_loopw [8] (fun v8 wr => ∃ i : Nat, i ≤ l.length ∧ v8 = .int .i64 (i : Int) ∧ Aside0 (hasPg (l.take i) p = false) ∧ Aside0 (Below w.heap.size w wr)) (fun v8 _ => l.length - (intOf v8).toNat)
  case atStart => exact ⟨0, Nat.zero_le _, rfl, ⟨rfl⟩, HB⟩
  case round =>
    clear HB
    obtain ⟨i, hi, rfl, HN, HB⟩ := hrel
    by_cases hlt : i < l.length
    · have hC := Kd.C_below HR.out HB.out
      obtain ⟨ad, rfl, e0, e1, e2⟩ := at_T84 hC (i : Int) (by omega) (by omega)
      rw [Int.toNat_natCast] at e0 e1 e2
      have hz : Aside0 (hasPg (l.take (i + 1)) p = decide ((rd_T84 l (i : Int)).f0 = p)) := ⟨by
        have hn := HN.out
        unfold hasPg at hn ⊢
        rw [List.take_add_one, List.getElem?_eq_getElem hlt, List.any_append, hn]
        have : rd_T84 l (i : Int) = l[i] := by
          unfold rd_T84
          rw [Int.toNat_natCast, List.getD_eq_getElem?_getD, List.getElem?_eq_getElem hlt]; rfl
        rw [this]; simp⟩
      have CC := fun W h1 h2 => rec_is g p (rd_T84 l (i : Int)).f0 (rd_T84 l (i : Int)).f1 (rd_T84 l (i : Int)).f2 W h1 h2
      clear hC
      generalize (rd_T84 l (i : Int)).f0 = x0 at e0 CC hz
      generalize (rd_T84 l (i : Int)).f1 = x1 at e1 CC
      generalize (rd_T84 l (i : Int)).f2 = x2 at e2 CC
      have b3 : ((i : Int) < (l.length : Int)) = True := eq_true (by omega)
      have CC := Aside0.mk CC
      have hbi : i < 4611686018427387904 := Nat.lt_trans hlt HL.out
      go_upto_if 99 with fail
      refine (CC.out _ (Nat.lt_of_lt_of_le HG.out HB.out.size) ((HB.out.cell (p := ⟨g, 0, none⟩) HG.out).trans HC.out)).mono ?_
      rintro e w' ⟨rfl, hb⟩
      have n0_ := Aside0.mk (below_step HB.out hb)
      clear HB hb CC e0 e1 e2
      have HB := n0_
      clear n0_
      dsimp only
      by_cases hx : x0 = p
      · have hzz : decide (x0 = p) = true := decide_eq_true hx
        rw [hzz]
        clear hx
        go_wp2
        go_ret
        refine ⟨_, rfl, ?_, HB.out⟩
        have h1 := hz.out
        rw [hzz] at h1
        rw [decide_eq_true (by omega)]
        unfold hasPg at h1 ⊢
        rw [List.any_eq_true] at h1
        obtain ⟨y, hy, h2⟩ := h1
        exact (List.any_eq_true.2 ⟨y, List.mem_of_mem_take hy, h2⟩).symm
      · have hzz : decide (x0 = p) = false := decide_eq_false hx
        rw [hzz]
        clear hx
        go_wp2
        refine ⟨⟨i + 1, by omega, by go_num, ⟨by rw [hz.out, hzz]⟩, HB⟩, by simp [intOf]; omega⟩
    · obtain rfl : i = l.length := by omega
      have hn := HN.out
      rw [List.take_length] at hn
      clear hlt hi
      go_wp2
      go_ret
      exact ⟨_, rfl, by rw [hn]; rfl, HB.out⟩
theorem rec_contains (g : Nat) (p : Int) (A0 : Option Addr) (c0 : Nat) (l : List S84) (w : World) (hr : Kd.C k84 w A0 l.length l) (hl : l.length < 4611686018427387904) (hg : g < w.heap.size) (hc : w.cell? ⟨g, 0, none⟩ = some (.int .i64 p)) :
    Calls Try.prog 80 #[.slice A0 l.length c0, .func (.func 81) #[] #[.pointer (some ⟨g, 0, none⟩)]] w fun e w' => e = .returned (.bool (hasPg l p)) ∧ Below w.heap.size w w' := by
  have CC := Aside0.mk (rec_index g p A0 c0 l w hr hl hg hc)
  clear hr hl hg hc
  go_enter Try.func80, Try.ntmps80
  go_wp2_with (go_at_call 90; refine (CC.out).mono ?_; rintro e w' ⟨x, rfl, hx, hb⟩; have HX := Aside0.mk hx; have HB := Aside0.mk hb; clear hx hb)
  go_ret
  exact ⟨by first | rfl | (rw [HX.out]; rfl), HB.out⟩
/-- A whole array into a block that holds one. -/
theorem store_rowAll {P : Program} {ops : Array Oper} {rest : List Oper} {o : Oper} {a : Act} {Q : Exit → Act → World → Prop} {W : World} (hgd : o.guard = none) (t : TypeId) (x y : Operand) (ho : o.op = .store t x y) (hN : o.dst = none) (g : Nat)
    (hx : a.eval x = .pointer (some ⟨g, 0, none⟩)) (c c' : Array Value) (hy : a.eval y = .agg c') (t' : TypeId) (hg : W.heap[g]? = some (.cells c t' (0, 0))) (hi : (P.info? t).map (·.size) = some c'.size) (hs : c.size = c'.size) (h1 : c'.all (·.oneCell') = true)
    (h : ∀ w1, w1.heap[g]? = some (.cells c' t' (0, 0)) → (∀ q, q ≠ g → w1.heap[q]? = W.heap[q]?) → Below g W w1 → wpList P ops Q rest a w1) : wpList P ops Q (o :: rest) a W := by
  have hrun : (Instr.storeAt t (.pointer (some ⟨g, 0, none⟩)) (.agg c')).run P W = .ok () (W.setRow g c') := by
    simp only [Instr.storeAt, Instr.sureAddr, Sem.run_bind, Sem.run_pure, Result.andThen_ok]
    exact run_storeVar_row W g t' t c c' hg hi hs h1
  refine wpList_plain hgd fun K hK => ?_
  unfold Oper.wp execOp
  simp only [ho, hx, hy, Sem.run_bind, Sem.run_pure, Result.andThen_ok, hrun]
  show K (a.put o.dst undef) _
  rw [hN]
  exact hK a _ (h _ (setRow_heap W g c c' t' (0, 0) hg) (fun q hq => setRow_other W g q c' hq) ⟨rfl, rfl, rfl, by simp [size_setRow], fun k hk => setRow_other W g k c' (Nat.ne_of_lt hk)⟩)
theorem oneR (a b : Int) (c : ByteArray) : (#[.int .i64 a, .int .i64 b, .string c] : Array Value).all (·.oneCell') = true := by simp [Value.oneCell']
/-- The rounds of isFile. -/
def fileL (k : Nat) (l : List S84) : Nat → Nat → Option Bool
  | 0, _ => some true
  | d + 1, i => (impl_RecWord.f k (rd_T84 l (i : Int)).f0 (rd_T84 l (i : Int)).f1 (rd_T84 l (i : Int)).f2).bind fun t => if t.toList = ([] : List UInt8) then some false else if hasPg (l.take i) (rd_T84 l (i : Int)).f0 = true then some false else fileL k l d (i + 1)
def fileE (a1 : Int) (ks n m : Nat) : Option Bool := (impl_within.f a1 0 128).bind fun b => if b = true then (if (ks : Int) = 8 then ((impl_PagesFor.f a1).bind fun p => some (decide ((n : Int) = p) && decide ((m : Int) = 0))) else some false) else some false
def impl_isFile.f (k : Nat) (a0_0 : Int) (a0_1 : Int) (a0_2 : Int) (a0_3 : ByteArray) (l0_4 : List (S84)) (l0_5 : List (S34)) : Option (Bool) := if l0_4.length ≤ 2000000 then (fileL k l0_4 l0_4.length 0).bind fun b => if b = true then fileE a0_1 a0_3.size l0_4.length l0_5.length else some false else none
theorem fileL_mono (l : List S84) (k : Nat) : ∀ (d i : Nat), LeO (fileL k l d i) (fileL (k + 1) l d i)
  | 0, _ => LeO.refl _
  | d + 1, i => by
    unfold fileL
    exact LeO.bind (impl_RecWord.mono _ _ _ _) fun _ => LeO.ite (LeO.refl _) (LeO.ite (LeO.refl _) (fileL_mono l k d (i + 1)))
theorem impl_isFile.mono : ∀ a0_0 a0_1 a0_2 a0_3 l0_4 l0_5 k, LeO (impl_isFile.f k a0_0 a0_1 a0_2 a0_3 l0_4 l0_5) (impl_isFile.f (k + 1) a0_0 a0_1 a0_2 a0_3 l0_4 l0_5) := by
  intro a0_0 a0_1 a0_2 a0_3 l0_4 l0_5 k
  unfold impl_isFile.f
  exact LeO.ite (LeO.bind (fileL_mono _ _ _ _) fun _ => LeO.refl _) (LeO.refl _)
theorem quiet_D {f : FuncId} {args : Array Value} {w : World} {n : Nat} {v : Value} (h : Calls Try.prog f args (w.drewN n) fun e w' => e = .returned v ∧ Drawn0 (w.drewN n) w') : Calls Try.prog f args (w.drewN n) fun e w'' => e = .returned v ∧ ∃ m, w'' = w.drewN m :=
  Calls.quiet_of (h.mono fun _ _ ⟨he, ⟨m, hm⟩⟩ => ⟨he, m, hm⟩)
theorem beq_dec (a b : Int) : (a == b) = decide (a = b) := by rw [Bool.eq_iff_iff]; simp
theorem contains_at (g : Nat) (p : Int) (A0 : Option Addr) (c0 : Nat) (l : List S84) (i : Nat) (b : Bool) (w : World) (hi : (l.take i).length = i) (hr : Kd.C k84 w A0 (l.take i).length (l.take i)) (hb : hasPg (l.take i) p = b) (hg : g < w.heap.size) (hc : w.cell? ⟨g, 0, none⟩ = some (.int .i64 p)) (hL : l.length ≤ 2000000 := by assumption) :
    Calls Try.prog 80 #[.slice A0 i c0, .func (.func 81) #[] #[.pointer (some ⟨g, 0, none⟩)]] w fun e w' => e = .returned (.bool b) ∧ Below w.heap.size w w' := by
  have := rec_contains g p A0 c0 (l.take i) w hr (by rw [List.length_take]; omega) hg hc
  rw [hi, hb] at this
  exact this
set_option maxHeartbeats 4000000 in
set_option maxRecDepth 100000 in
theorem impl_isFile.calls (k : Nat) (a0_0 : Int) (a0_1 : Int) (a0_2 : Int) (a0_3 : ByteArray) (A0_4 : Option Addr) (c0_4 : Nat) (l0_4 : List (S84)) (A0_5 : Option Addr) (c0_5 : Nat) (l0_5 : List (S34)) (r : Bool) (w : World) (hr0_4 : Kd.C k84 w A0_4 l0_4.length l0_4) (hc0_4 : l0_4.length ≤ c0_4) (hr0_5 : Kd.C k34 w A0_5 l0_5.length l0_5) (hc0_5 : l0_5.length ≤ c0_5) (h : impl_isFile.f k a0_0 a0_1 a0_2 a0_3 l0_4 l0_5 = some r) :
    Calls Try.prog 65 #[.agg #[.int .i64 a0_0, .int .i64 a0_1, .int .i64 a0_2, .string a0_3, .slice A0_4 l0_4.length c0_4, .slice A0_5 l0_5.length c0_5]] w fun e w' => e = .returned (.bool r) ∧ Below w.heap.size w w' := by
  have hu57 := Try.underlying57
  have hu84 := Try.underlying84
  unfold impl_isFile.f at h
  by_cases hl : l0_4.length ≤ 2000000
  · rw [if_pos hl] at h
    obtain ⟨bl, hbl, h⟩ := Option.bind_eq_some_iff.1 h
    have HR := Aside0.mk hr0_4
    have HC := Aside0.mk hc0_4
    have HL := Aside0.mk hl
    have HF := Aside0.mk hbl
    have HE := Aside0.mk h
    have HB := Aside0.mk (Below.refl w.heap.size w)
    have I84 : Aside0 ((Try.prog.info? 84).map (·.size) = some 3) := ⟨by kernel_rfl⟩
    clear hr0_4 hc0_4 hr0_5 hc0_5 hl hbl h
    have hmf : ∀ (fn : Fn) (first cap : Array Value) (w : World), (Instr.makeFunc fn first cap).run Try.prog w = .ok (.func fn first cap) w := fun _ _ _ _ => rfl
    go_enter Try.func65, Try.ntmps65
    go_wp2_with ((with_reducible refine gate_dst (N := 1) rfl ?_); refine box_event ?hg (N := 1) ?hd (cs := #[.int .i64 a0_0, .int .i64 a0_1, .int .i64 a0_2, .string a0_3, .slice A0_4 l0_4.length c0_4, .slice A0_5 l0_5.length c0_5]) (t := 57) ?hr ?_; (case hd => rfl); (case hg => rfl); (case hr => first | (go_simp; done) | (go_simp; rfl)); intro gN hg w2 hbox hb; have GN := Aside0.mk (show w.heap.size ≤ gN by rw [hg]; exact below_size HB.out); have n0_ := Aside0.mk (below_step HB.out hb); clear HB; have HB := n0_; have BN := Aside0.mk hbox; clear n0_ hb hbox hg; have hz4 : w2.cell? ⟨gN, 4, none⟩ = some (.slice A0_4 l0_4.length c0_4) := (blk_cell BN.out 4).trans rfl)
    clear hz4
    go_loopw [8] (fun v8 wr => ∃ i : Nat, i ≤ l0_4.length ∧ v8 = .int .i64 (i : Int) ∧ Aside0 (fileL k l0_4 (l0_4.length - i) i = some bl) ∧ Aside0 (wr.heap[gN]? = some (.cells #[.int .i64 a0_0, .int .i64 a0_1, .int .i64 a0_2, .string a0_3, .slice A0_4 l0_4.length c0_4, .slice A0_5 l0_5.length c0_5] 57 (0, 0))) ∧ Aside0 (Below w.heap.size w wr)) (fun v8 _ => l0_4.length - (intOf v8).toNat)
    case atStart => exact ⟨0, Nat.zero_le _, rfl, HF, BN, HB⟩
    case round =>
      clear HB HF BN
      obtain ⟨i, hi, rfl, HF, BN, HB⟩ := hrel
      have hz1 : wr.cell? ⟨gN, 1, none⟩ = some (.int .i64 a0_1) := (blk_cell BN.out 1).trans rfl
      have hz3 : wr.cell? ⟨gN, 3, none⟩ = some (.string a0_3) := (blk_cell BN.out 3).trans rfl
      have hz4 : wr.cell? ⟨gN, 4, none⟩ = some (.slice A0_4 l0_4.length c0_4) := (blk_cell BN.out 4).trans rfl
      have hz5 : wr.cell? ⟨gN, 5, none⟩ = some (.slice A0_5 l0_5.length c0_5) := (blk_cell BN.out 5).trans rfl
      by_cases hlt : i < l0_4.length
      · clear hz1 hz3 hz4 hz5
        have hC := Kd.C_below HR.out HB.out
        obtain ⟨ad, rfl, e0, e1, e2⟩ := at_T84 hC (i : Int) (by omega) (by omega)
        rw [Int.toNat_natCast] at e0 e1 e2
        have b3 : ((i : Int) < (l0_4.length : Int)) = True := eq_true (by omega)
        have hbi : i < 4611686018427387904 := by have := HL.out; omega
        have hf := HF.out
        rw [show l0_4.length - i = (l0_4.length - (i + 1)) + 1 by omega] at hf
        unfold fileL at hf
        obtain ⟨t, ht, hf⟩ := Option.bind_eq_some_iff.1 hf
        have HT := Aside0.mk ht
        have HF2 := Aside0.mk hf
        have CT : Aside0 (Kd.C k84 wr (some ad) (l0_4.take i).length (l0_4.take i)) := ⟨Kd.C_take hC hi⟩
        have CT0 : Aside0 (Kd.C k84 w (some ad) (l0_4.take i).length (l0_4.take i)) := ⟨Kd.C_take HR.out hi⟩
        have HI := Aside0.mk hlt
        obtain ⟨i84, hi84, _⟩ := Option.map_eq_some_iff.1 I84.out
        have hcut := cut_to (P := Try.prog) 54 84 .i64 Try.underlying54 hi84 (some ad) l0_4.length c0_4 (i : Int) (by omega) (by omega) HC.out
        rw [Int.toNat_natCast] at hcut
        have hti : (l0_4.take i).length = i := by rw [List.length_take]; omega
        have HTI := Aside0.mk hti
        clear hC ht hf hi hlt HF hi84 hti
        generalize (rd_T84 l0_4 (i : Int)).f0 = x0 at e0 HT HF2
        generalize (rd_T84 l0_4 (i : Int)).f1 = x1 at e1 HT
        generalize (rd_T84 l0_4 (i : Int)).f2 = x2 at e2 HT
        go_upto_region 4 with (first | ((with_reducible refine gate_dst (N := 4) rfl ?_); refine box_event ?hg (N := 4) ?hd (cs := #[.int .i64 0, .int .i64 0, .string (⟨#[]⟩ : ByteArray)]) (t := 84) ?hr ?_; (case hd => rfl); (case hg => rfl); (case hr => first | (go_simp; done) | (go_simp; rfl)); intro gC hg w3 hbox hb; have GC := Aside0.mk (show w.heap.size ≤ gC by rw [hg]; exact below_size HB.out); have NC := Aside0.mk (show gN ≠ gC by rw [hg]; exact Nat.ne_of_lt (blk_lt BN.out)); have n0_ := Aside0.mk (below_step HB.out hb); have n1_ := Aside0.mk (blk_below BN.out hb); have n2_ := Aside0.mk (Kd.C_below CT.out hb); clear HB BN CT; have HB := n0_; have BN := n1_; have CT := n2_; have BC := Aside0.mk hbox; clear n0_ n1_ n2_ hb hbox hg) | ((with_reducible refine gate_store (t := 84) (p := 4) rfl ?_); refine store_rowAll rfl 84 _ _ rfl rfl gC rfl #[.int .i64 0, .int .i64 0, .string (⟨#[]⟩ : ByteArray)] #[.int .i64 x0, .int .i64 x1, .string x2] rfl 84 BC.out I84.out rfl (oneR _ _ _) ?_; intro w4 hw ho hb; have n0_ := Aside0.mk (HB.out.trans (hb.mono GC.out)); have n1_ := Aside0.mk ((ho gN NC.out).trans BN.out); have n2_ := Aside0.mk (Kd.C_below CT0.out (HB.out.trans (hb.mono GC.out))); clear HB BN BC CT; have HB := n0_; have BN := n1_; have CT := n2_; clear n2_; have BC := Aside0.mk hw; clear n0_ n1_ hw ho hb))
        have hc0 : w4.cell? ⟨gC, 0, none⟩ = some (.int .i64 x0) := (blk_cell BC.out 0).trans rfl
        have hc1 : w4.cell? ⟨gC, 1, none⟩ = some (.int .i64 x1) := (blk_cell BC.out 1).trans rfl
        have hc2 : w4.cell? ⟨gC, 2, none⟩ = some (.string x2) := (blk_cell BC.out 2).trans rfl
        by_cases c : t.toList = ([] : List UInt8)
        · have cb0 : (t.toList == ([] : List UInt8)) = true := beq_iff_eq.mpr c
          have hf := HF2.out
          rw [if_pos c] at hf
          cases hf
          clear c
          have hE := HE.out
          rw [if_neg (by simp)] at hE
          have HE2 := Aside0.mk (Option.some.inj hE)
          clear hE
          go_wp2_with (go_at_call 79; ((with_reducible refine (impl_RecWord.calls k x0 x1 x2 t _ HT.out).mono ?_)); rintro e w5 ⟨rfl, hb⟩; have n0_ := Aside0.mk (below_step HB.out hb); have n1_ := Aside0.mk (blk_below BN.out hb); have n2_ := Aside0.mk (Kd.C_below CT.out hb); have n3_ := Aside0.mk (blk_below BC.out hb); clear HB BN CT BC hb hc0 hc1 hc2; have HB := n0_; have BN := n1_; have CT := n2_; have BC := n3_; clear n0_ n1_ n2_ n3_; have hz4 : w5.cell? ⟨gN, 4, none⟩ = some (.slice (some ad) l0_4.length c0_4) := (blk_cell BN.out 4).trans rfl)
          go_ret
          exact ⟨by rw [← HE2.out]; first | done | rfl, HB.out⟩
        · have cb0 : (t.toList == ([] : List UInt8)) = false := beq_eq_false_iff_ne.mpr c
          have hf := HF2.out
          rw [if_neg c] at hf
          clear c
          by_cases c : hasPg (l0_4.take i) x0 = true
          · rw [if_pos c] at hf
            cases hf
            have hE := HE.out
            rw [if_neg (by simp)] at hE
            have HE2 := Aside0.mk (Option.some.inj hE)
            have HP := Aside0.mk c
            clear hE c
            go_wp2_with (first | (go_at_call 79; ((with_reducible refine (impl_RecWord.calls k x0 x1 x2 t _ HT.out).mono ?_)); rintro e w5 ⟨rfl, hb⟩; have n0_ := Aside0.mk (below_step HB.out hb); have n1_ := Aside0.mk (blk_below BN.out hb); have n2_ := Aside0.mk (Kd.C_below CT.out hb); have n3_ := Aside0.mk (blk_below BC.out hb); clear HB BN CT BC hb hc0 hc1 hc2; have HB := n0_; have BN := n1_; have CT := n2_; have BC := n3_; clear n0_ n1_ n2_ n3_; have hz4 : w5.cell? ⟨gN, 4, none⟩ = some (.slice (some ad) l0_4.length c0_4) := (blk_cell BN.out 4).trans rfl) | (go_at_call 80; ((with_reducible refine (contains_at gC x0 (some ad) c0_4 l0_4 i _ _ HTI.out CT.out HP.out (blk_lt BC.out) ((blk_cell BC.out 0).trans rfl) HL.out).mono ?_)); rintro e w6 ⟨rfl, hb⟩; have n0_ := Aside0.mk (below_step HB.out hb); have n1_ := Aside0.mk (blk_below BN.out hb); clear HB BN CT BC hb hz4; have HB := n0_; have BN := n1_; clear n0_ n1_))
            go_ret
            exact ⟨by rw [← HE2.out]; first | done | rfl, HB.out⟩
          · rw [if_neg c] at hf
            have HF := Aside0.mk hf
            have HP : Aside0 (hasPg (l0_4.take i) x0 = false) := ⟨by simpa using c⟩
            clear hf c
            go_wp2_with (first | (go_at_call 79; ((with_reducible refine (impl_RecWord.calls k x0 x1 x2 t _ HT.out).mono ?_)); rintro e w5 ⟨rfl, hb⟩; have n0_ := Aside0.mk (below_step HB.out hb); have n1_ := Aside0.mk (blk_below BN.out hb); have n2_ := Aside0.mk (Kd.C_below CT.out hb); have n3_ := Aside0.mk (blk_below BC.out hb); clear HB BN CT BC hb hc0 hc1 hc2; have HB := n0_; have BN := n1_; have CT := n2_; have BC := n3_; clear n0_ n1_ n2_ n3_; have hz4 : w5.cell? ⟨gN, 4, none⟩ = some (.slice (some ad) l0_4.length c0_4) := (blk_cell BN.out 4).trans rfl) | (go_at_call 80; ((with_reducible refine (contains_at gC x0 (some ad) c0_4 l0_4 i _ _ HTI.out CT.out HP.out (blk_lt BC.out) ((blk_cell BC.out 0).trans rfl) HL.out).mono ?_)); rintro e w6 ⟨rfl, hb⟩; have n0_ := Aside0.mk (below_step HB.out hb); have n1_ := Aside0.mk (blk_below BN.out hb); clear HB BN CT BC hb hz4; have HB := n0_; have BN := n1_; clear n0_ n1_))
            refine ⟨⟨i + 1, HI.out, by go_num, HF, BN, HB⟩, by simp [intOf]; have := HI.out; omega⟩
      · obtain rfl : i = l0_4.length := by omega
        have hf := HF.out
        rw [Nat.sub_self] at hf
        cases hf
        have hE := HE.out
        rw [if_pos rfl] at hE
        unfold fileE at hE
        obtain ⟨bw, hw, hE⟩ := Option.bind_eq_some_iff.1 hE
        have HW := Aside0.mk hw
        clear hw hlt hi HF
        cases bw
        · rw [if_neg (by simp)] at hE
          have HE2 := Aside0.mk (Option.some.inj hE)
          clear hE
          go_upto_region 7 with fail
          go_quiet ((go_at_call 41; exact quiet_D (impl_within.calls a0_1 0 128 _ _ HW.out)))
          go_wp2
          go_ret
          exact ⟨by rw [← HE2.out]; first | done | rfl, pw_below_drewN HB.out _⟩
        · rw [if_pos rfl] at hE
          by_cases c : (a0_3.size : Int) = 8
          · rw [if_pos c] at hE
            obtain ⟨pg, hp, hE⟩ := Option.bind_eq_some_iff.1 hE
            have HPF := Aside0.mk hp
            have HE2 := Aside0.mk (Option.some.inj hE)
            have cb0 : ((a0_3.size : Int) == 8) = true := beq_iff_eq.mpr c
            clear hE hp
            by_cases c2 : (l0_4.length : Int) = pg
            · have cb2 : ((l0_4.length : Int) == pg) = true := beq_iff_eq.mpr c2
              have hd2 := Aside0.mk c2
              clear c c2
              go_upto_region 7 with fail
              go_quiet ((first | (go_at_call 41; exact quiet_D (impl_within.calls a0_1 0 128 _ _ HW.out)) | (go_at_call 82; exact quiet_D (impl_PagesFor.calls a0_1 _ _ HPF.out))))
              go_wp2
              go_ret
              exact ⟨by rw [← HE2.out, decide_eq_true hd2.out, Bool.true_and, ← beq_dec]; rfl, pw_below_drewN HB.out _⟩
            · have cb2 : ((l0_4.length : Int) == pg) = false := beq_eq_false_iff_ne.mpr c2
              have hd2 := Aside0.mk c2
              clear c c2
              go_upto_region 7 with fail
              go_quiet ((first | (go_at_call 41; exact quiet_D (impl_within.calls a0_1 0 128 _ _ HW.out)) | (go_at_call 82; exact quiet_D (impl_PagesFor.calls a0_1 _ _ HPF.out))))
              go_wp2
              go_ret
              exact ⟨by rw [← HE2.out, decide_eq_false hd2.out]; first | done | rfl, pw_below_drewN HB.out _⟩
          · rw [if_neg c] at hE
            have HE2 := Aside0.mk (Option.some.inj hE)
            have cb0 : ((a0_3.size : Int) == 8) = false := beq_eq_false_iff_ne.mpr c
            clear hE c
            go_upto_region 7 with fail
            go_quiet ((go_at_call 41; exact quiet_D (impl_within.calls a0_1 0 128 _ _ HW.out)))
            go_wp2
            go_ret
            exact ⟨by rw [← HE2.out]; first | done | rfl, pw_below_drewN HB.out _⟩
  · rw [if_neg hl] at h
    cases h

/-! ### bits_Mul32: function 85 -/
def bits_Mul32.f (a0 : Int) (a1 : Int) : Option (Int × Int) := some (((IntKind.u64.wrap ((IntKind.u64.wrap (a0)) * (IntKind.u64.wrap (a1)))) / 4294967296) % 4294967296, (IntKind.u64.wrap ((IntKind.u64.wrap (a0)) * (IntKind.u64.wrap (a1)))) % 4294967296)
set_option maxHeartbeats 8000000 in
set_option maxRecDepth 100000 in
theorem bits_Mul32.calls (a0 : Int) (a1 : Int) (r1 : Int) (r2 : Int) (w : World) (h : bits_Mul32.f a0 a1 = some (r1, r2)) :
    Calls Try.prog 85 #[.int .u32 a0, .int .u32 a1] w fun e w' => e = .returned (.tuple #[.int .u32 r1, .int .u32 r2]) ∧ Drawn0 w w' := by
  have H : (some (((IntKind.u64.wrap ((IntKind.u64.wrap (a0)) * (IntKind.u64.wrap (a1)))) / 4294967296) % 4294967296, (IntKind.u64.wrap ((IntKind.u64.wrap (a0)) * (IntKind.u64.wrap (a1)))) % 4294967296)) = some (r1, r2) := h
  clear h
  simp only [Option.some.injEq, Prod.mk.injEq] at H
  obtain ⟨rfl, rfl⟩ := H
  go_enter Try.func85, Try.ntmps85
  go_wp2
  go_ret2
  exact ⟨by first | rfl | (simp; done) | (simp [*]; done), by repeat (first | exact Drawn0.refl _ | apply Drawn0.step)⟩

/-! ### bits_Mul64: function 86 -/
def bits_Mul64.f (a0 : Int) (a1 : Int) : Option (Int × Int) := some (IntKind.u64.wrap ((IntKind.u64.wrap ((IntKind.u64.wrap ((a0 / 4294967296) * (a1 / 4294967296))) + ((IntKind.u64.wrap ((IntKind.u64.wrap ((a0 / 4294967296) * (Go.bits .and .u64 a1 4294967295))) + ((IntKind.u64.wrap ((Go.bits .and .u64 a0 4294967295) * (Go.bits .and .u64 a1 4294967295))) / 4294967296))) / 4294967296))) + ((IntKind.u64.wrap ((Go.bits .and .u64 (IntKind.u64.wrap ((IntKind.u64.wrap ((a0 / 4294967296) * (Go.bits .and .u64 a1 4294967295))) + ((IntKind.u64.wrap ((Go.bits .and .u64 a0 4294967295) * (Go.bits .and .u64 a1 4294967295))) / 4294967296))) 4294967295) + (IntKind.u64.wrap ((Go.bits .and .u64 a0 4294967295) * (a1 / 4294967296))))) / 4294967296)), IntKind.u64.wrap (a0 * a1))
set_option maxHeartbeats 8000000 in
set_option maxRecDepth 100000 in
theorem bits_Mul64.calls (a0 : Int) (a1 : Int) (r1 : Int) (r2 : Int) (w : World) (h : bits_Mul64.f a0 a1 = some (r1, r2)) :
    Calls Try.prog 86 #[.int .u64 a0, .int .u64 a1] w fun e w' => e = .returned (.tuple #[.int .u64 r1, .int .u64 r2]) ∧ Drawn0 w w' := by
  have H : (some (IntKind.u64.wrap ((IntKind.u64.wrap ((IntKind.u64.wrap ((a0 / 4294967296) * (a1 / 4294967296))) + ((IntKind.u64.wrap ((IntKind.u64.wrap ((a0 / 4294967296) * (Go.bits .and .u64 a1 4294967295))) + ((IntKind.u64.wrap ((Go.bits .and .u64 a0 4294967295) * (Go.bits .and .u64 a1 4294967295))) / 4294967296))) / 4294967296))) + ((IntKind.u64.wrap ((Go.bits .and .u64 (IntKind.u64.wrap ((IntKind.u64.wrap ((a0 / 4294967296) * (Go.bits .and .u64 a1 4294967295))) + ((IntKind.u64.wrap ((Go.bits .and .u64 a0 4294967295) * (Go.bits .and .u64 a1 4294967295))) / 4294967296))) 4294967295) + (IntKind.u64.wrap ((Go.bits .and .u64 a0 4294967295) * (a1 / 4294967296))))) / 4294967296)), IntKind.u64.wrap (a0 * a1))) = some (r1, r2) := h
  clear h
  simp only [Option.some.injEq, Prod.mk.injEq] at H
  obtain ⟨rfl, rfl⟩ := H
  go_enter Try.func86, Try.ntmps86
  go_wp2
  go_ret2
  exact ⟨by first | rfl | (simp; done) | (simp [*]; done), by repeat (first | exact Drawn0.refl _ | apply Drawn0.step)⟩

/-! ### bits_Mul: function 69 -/
def bits_Mul.f (a0 : Int) (a1 : Int) : Option (Int × Int) := (bits_Mul64.f a0 a1).bind fun bt189 => (some (bt189.1, bt189.2))
set_option maxHeartbeats 8000000 in
set_option maxRecDepth 100000 in
theorem bits_Mul.calls (a0 : Int) (a1 : Int) (r1 : Int) (r2 : Int) (w : World) (h : bits_Mul.f a0 a1 = some (r1, r2)) :
    Calls Try.prog 69 #[.int .u64 a0, .int .u64 a1] w fun e w' => e = .returned (.tuple #[.int .u64 r1, .int .u64 r2]) ∧ Drawn0 w w' := by
  have H : ((bits_Mul64.f a0 a1).bind fun bt189 => (some (bt189.1, bt189.2))) = some (r1, r2) := h
  clear h
  replace H := Option.bind_eq_some_iff.mp H
  obtain ⟨⟨t189, t190⟩, A30, H⟩ := H
  replace H : (some (t189, t190)) = some (r1, r2) := H
  have A3 := Aside0.mk A30
  clear A30
  simp only [Option.some.injEq, Prod.mk.injEq] at H
  obtain ⟨rfl, rfl⟩ := H
  go_enter Try.func69, Try.ntmps69
  go_wp2_with (first | ((with_reducible refine gate_callee (f := 86) rfl ?_); refine goesL_ (some 25) rfl rfl Try.func86 (by kernel_rfl) rfl #[.int .u64 a0, .int .u64 a1] rfl (by (try simp only [List.map_toArray, List.map_cons, List.map_nil]); first | done | rfl | (simp only [List.length_drop, List.length_take]; rfl)) ?_; (with_reducible refine (bits_Mul64.calls a0 a1 t189 t190 _ A3.out).mono ?_); rintro e w' ⟨rfl, ⟨nd, rfl⟩⟩; refine ⟨_, rfl, ?_⟩))
  go_ret2
  exact ⟨by first | rfl | (simp; done) | (simp [*]; done), by repeat (first | exact Drawn0.refl _ | apply Drawn0.step)⟩

/-! ### stringslite_HasPrefix: function 87 -/
def stringslite_HasPrefix.f (a0 : ByteArray) (a1 : ByteArray) : Option (Bool) := if (a0.size : Int) ≥ (a1.size : Int) then (if 0 ≤ (a1.size : Int) then (if (a1.size : Int) ≤ (a0.size : Int) then (some ((a0.extract 0 ((a1.size : Int) : Int).toNat).toList == a1.toList)) else (none)) else (none)) else (some false)
set_option maxHeartbeats 8000000 in
set_option maxRecDepth 100000 in
theorem stringslite_HasPrefix.calls (a0 : ByteArray) (a1 : ByteArray) (r : Bool) (w : World) (h : stringslite_HasPrefix.f a0 a1 = some r) :
    Calls Try.prog 87 #[.string a0, .string a1] w fun e w' => e = .returned (.bool r) ∧ Drawn0 w w' := by
  have H : (if (a0.size : Int) ≥ (a1.size : Int) then (if 0 ≤ (a1.size : Int) then (if (a1.size : Int) ≤ (a0.size : Int) then (some ((a0.extract 0 ((a1.size : Int) : Int).toNat).toList == a1.toList)) else (none)) else (none)) else (some false)) = some r := h
  clear h
  by_cases c3 : (a0.size : Int) ≥ (a1.size : Int)
  · rw [if_pos c3] at H
    have c3b0 : decide ((a1.size : Int) ≤ (a0.size : Int)) = true := decide_eq_true c3
    have c3b1 : decide (a1.size ≤ a0.size) = true := decide_eq_true (Int.ofNat_le.mp c3)
    clear c3
    by_cases c4 : 0 ≤ (a1.size : Int)
    · rw [if_pos c4] at H
      have c4b0 := eq_true c4
      have c4b1 : decide (0 ≤ (a1.size : Int)) = true := decide_eq_true c4
      clear c4
      by_cases c5 : (a1.size : Int) ≤ (a0.size : Int)
      · rw [if_pos c5] at H
        have c5b0 := eq_true c5
        have c5b1 : decide ((a1.size : Int) ≤ (a0.size : Int)) = true := decide_eq_true c5
        clear c5
        obtain rfl := Option.some.inj H
        go_enter Try.func87, Try.ntmps87
        go_wp2
        go_ret
        exact ⟨by first | rfl | (simp; done) | (simp [*]; done), by repeat (first | exact Drawn0.refl _ | apply Drawn0.step)⟩
      · rw [if_neg c5] at H
        exact absurd H (by simp)
    · rw [if_neg c4] at H
      exact absurd H (by simp)
  · rw [if_neg c3] at H
    have c3b0 : decide ((a1.size : Int) ≤ (a0.size : Int)) = false := decide_eq_false c3
    have c3b1 : decide (a1.size ≤ a0.size) = false := decide_eq_false (fun h => c3 (Int.ofNat_le.mpr h))
    clear c3
    obtain rfl := Option.some.inj H
    go_enter Try.func87, Try.ntmps87
    go_wp2
    go_ret
    exact ⟨by first | rfl | (simp; done) | (simp [*]; done), by repeat (first | exact Drawn0.refl _ | apply Drawn0.step)⟩

/-! ### strings_HasPrefix: function 70 -/
def strings_HasPrefix.f (a0 : ByteArray) (a1 : ByteArray) : Option (Bool) := (stringslite_HasPrefix.f a0 a1).bind fun t191 => (some t191)
set_option maxHeartbeats 8000000 in
set_option maxRecDepth 100000 in
theorem strings_HasPrefix.calls (a0 : ByteArray) (a1 : ByteArray) (r : Bool) (w : World) (h : strings_HasPrefix.f a0 a1 = some r) :
    Calls Try.prog 70 #[.string a0, .string a1] w fun e w' => e = .returned (.bool r) ∧ Drawn0 w w' := by
  have H : ((stringslite_HasPrefix.f a0 a1).bind fun t191 => (some t191)) = some r := h
  clear h
  replace H := Option.bind_eq_some_iff.mp H
  obtain ⟨t191, A30, H⟩ := H
  replace H : (some t191) = some r := H
  have A3 := Aside0.mk A30
  clear A30
  obtain rfl := Option.some.inj H
  go_enter Try.func70, Try.ntmps70
  go_wp2_with (first | ((with_reducible refine gate_callee (f := 87) rfl ?_); refine goesL_ (some 7) rfl rfl Try.func87 (by kernel_rfl) rfl #[.string a0, .string a1] rfl (by (try simp only [List.map_toArray, List.map_cons, List.map_nil]); first | done | rfl | (simp only [List.length_drop, List.length_take]; rfl)) ?_; (with_reducible refine (stringslite_HasPrefix.calls a0 a1 t191 _ A3.out).mono ?_); rintro e w' ⟨rfl, ⟨nd, rfl⟩⟩; refine ⟨_, rfl, ?_⟩))
  go_ret
  exact ⟨by first | rfl | (simp; done) | (simp [*]; done), by repeat (first | exact Drawn0.refl _ | apply Drawn0.step)⟩

-- NOT PRINTED: function 91 (abi_NoEscape)

-- NOT PRINTED: function 88 (strings_Builder_copyCheck)

-- NOT PRINTED: function 92 (bytealg_MakeNoZero)

-- NOT PRINTED: function 89 (strings_Builder_grow)

-- NOT PRINTED: function 71 (strings_Builder_Grow)

-- NOT PRINTED: function 72 (strings_Builder_WriteString)

-- NOT PRINTED: function 73 (strings_Builder_Len)

-- NOT PRINTED: function 74 (strings_Builder_String)

/-! ### strings_Repeat: function 43 -/
def rep_.f (s : ByteArray) (c : Int) : Option ByteArray := if 0 ≤ c ∧ s.size * c.toNat ≤ 140737488355328 ∧ c ≤ 9223372036854775807 then some ⟨(Lib.repeatL s.data.toList c.toNat).toArray⟩ else none
def strings_Repeat.f (a0 : ByteArray) (a1 : Int) : Option (ByteArray) := rep_.f a0 a1
theorem strings_Repeat.calls (a0 : ByteArray) (a1 : Int) (r : ByteArray) (w : World) (h : strings_Repeat.f a0 a1 = some r) :
    Calls Try.prog 43 #[.string a0, .int .i64 a1] w fun e w' => e = .returned (.string r) ∧ Below w.heap.size w w' := by
  unfold strings_Repeat.f rep_.f at h
  split at h
  · rename_i hc
    obtain ⟨c, rfl⟩ := Int.eq_ofNat_of_zero_le hc.1
    cases h
    exact Go.Proofs.Try.strings_Repeat a0 c w (by omega) hc.2.1
  · cases h

/-! ### impl_padded: function 42 -/
def impl_padded.f (a0 : ByteArray) (a1 : Int) : Option (ByteArray) := (strings_Repeat.f (⟨#[0]⟩ : ByteArray) (mx 0 (wrap64 (a1 - (a0.size : Int))))).bind fun t192 => (if a0.size + t192.size ≤ 9223372036854775807 then (some (a0 ++ t192)) else (none))
set_option maxHeartbeats 8000000 in
set_option maxRecDepth 100000 in
theorem impl_padded.calls (a0 : ByteArray) (a1 : Int) (r : ByteArray) (w : World) (h : impl_padded.f a0 a1 = some r) :
    Calls Try.prog 42 #[.string a0, .int .i64 a1] w fun e w' => e = .returned (.string r) ∧ Below w.heap.size w w' := by
  have HB := Aside0.mk (Below.refl w.heap.size w)
  have H : ((strings_Repeat.f (⟨#[0]⟩ : ByteArray) (mx 0 (wrap64 (a1 - (a0.size : Int))))).bind fun t192 => (if a0.size + t192.size ≤ 9223372036854775807 then (some (a0 ++ t192)) else (none))) = some r := h
  clear h
  obtain ⟨ji3, hji3⟩ : ∃ j_ : Int, (mx 0 (wrap64 (a1 - (a0.size : Int)))) = j_ := ⟨_, rfl⟩
  replace H : ((strings_Repeat.f (⟨#[0]⟩ : ByteArray) (ji3)).bind fun t192 => (if a0.size + t192.size ≤ 9223372036854775807 then (some (a0 ++ t192)) else (none))) = some r := by first | (rw [hji3] at H; exact H) | (simp only [hji3] at H ⊢; exact H)
  (try (have hji3l : 0 ≤ ji3 := by (rw [← hji3]; unfold mx; (repeat' split) <;> omega)))
  (try (have hji3m : 0 ≤ ji3 := by omega))
  have hji3_ : (if 0 < (wrap64 (a1 - (a0.size : Int))) then (wrap64 (a1 - (a0.size : Int))) else 0) = ji3 := hji3
  replace H := Option.bind_eq_some_iff.mp H
  obtain ⟨t192, A40, H⟩ := H
  replace H : (if a0.size + t192.size ≤ 9223372036854775807 then (some (a0 ++ t192)) else (none)) = some r := H
  have A4 := Aside0.mk A40
  clear A40
  by_cases c5 : a0.size + t192.size ≤ 9223372036854775807
  · rw [if_pos c5] at H
    have c5b0 := eq_true c5
    have c5b1 : decide (a0.size + t192.size ≤ 9223372036854775807) = true := decide_eq_true c5
    try have c5b2 : (9223372036854775807 < a0.size + t192.size) = False := eq_false (Nat.not_lt.2 c5)
    obtain rfl := Option.some.inj H
    go_enter Try.func42, Try.ntmps42
    go_wp2_with (first | ((with_reducible refine gate_callee (f := 43) rfl ?_); refine goesL_ (some 11) rfl rfl Try.func43 (by kernel_rfl) rfl #[.string (⟨#[0]⟩ : ByteArray), .int .i64 ji3] rfl (by (try simp only [List.map_toArray, List.map_cons, List.map_nil]); first | done | (simp only [hji3]; rfl) | rfl | (simp only [List.length_drop, List.length_take]; rfl)) ?_; (with_reducible refine (strings_Repeat.calls (⟨#[0]⟩ : ByteArray) ji3 t192 _ A4.out).mono ?_); rintro e w6 ⟨rfl, hb⟩; refine ⟨_, rfl, ?_⟩; have n0_ := Aside0.mk (below_step (by repeat (first | (with_reducible first | exact HB.out | apply below_alloc | apply pw_below_drewN | apply below_drew1) | exact HB.out)) hb); clear HB; have HB := n0_; clear n0_; (try clear hb); (try clear hb2); (try clear hk); (try clear hi)))
    go_ret
    exact ⟨by first | rfl | (simp [errW_none, errW_some] <;> rfl) | (simp only [← hji3]; first | rfl | (simp [errW_none, errW_some] <;> rfl)) | (simp [*, errW_none, errW_some] <;> rfl), by repeat (first | (with_reducible first | exact HB.out | apply below_alloc | apply pw_below_drewN | apply below_drew1) | exact HB.out)⟩
  · rw [if_neg c5] at H
    exact absurd H (by simp)

/-! ### impl_WordText: function 14 -/
def impl_WordText.f (a0 : ByteArray) : Option (ByteArray) := if (a0.size : Int) > 8 then (some (⟨#[]⟩ : ByteArray)) else ((impl_padded.f a0 8).bind fun t193 => (some t193))
set_option maxHeartbeats 8000000 in
set_option maxRecDepth 100000 in
theorem impl_WordText.calls (a0 : ByteArray) (r : ByteArray) (w : World) (h : impl_WordText.f a0 = some r) :
    Calls Try.prog 14 #[.string a0] w fun e w' => e = .returned (.string r) ∧ Below w.heap.size w w' := by
  have HB := Aside0.mk (Below.refl w.heap.size w)
  have H : (if (a0.size : Int) > 8 then (some (⟨#[]⟩ : ByteArray)) else ((impl_padded.f a0 8).bind fun t193 => (some t193))) = some r := h
  clear h
  by_cases c2 : (a0.size : Int) > 8
  · rw [if_pos c2] at H
    have c2b0 : decide (8 < (a0.size : Int)) = true := decide_eq_true c2
    have c2b1 : decide (8 < a0.size) = true := decide_eq_true (by omega)
    clear c2
    obtain rfl := Option.some.inj H
    go_enter Try.func14, Try.ntmps14
    go_wp2
    go_ret
    exact ⟨by first | rfl | (simp [errW_none, errW_some] <;> rfl) | (simp [*, errW_none, errW_some] <;> rfl), by repeat (first | (with_reducible first | exact HB.out | apply below_alloc | apply pw_below_drewN | apply below_drew1) | exact HB.out)⟩
  · rw [if_neg c2] at H
    have c2b0 : decide (8 < (a0.size : Int)) = false := decide_eq_false c2
    have c2b1 : decide (8 < a0.size) = false := decide_eq_false (by omega)
    clear c2
    replace H := Option.bind_eq_some_iff.mp H
    obtain ⟨t193, A30, H⟩ := H
    replace H : (some t193) = some r := H
    have A3 := Aside0.mk A30
    clear A30
    obtain rfl := Option.some.inj H
    go_enter Try.func14, Try.ntmps14
    go_wp2_with (first | ((with_reducible refine gate_callee (f := 42) rfl ?_); refine goesL_ (some 7) rfl rfl Try.func42 (by kernel_rfl) rfl #[.string a0, .int .i64 8] rfl (by (try simp only [List.map_toArray, List.map_cons, List.map_nil]); first | done | rfl | (simp only [List.length_drop, List.length_take]; rfl)) ?_; (with_reducible refine (impl_padded.calls a0 8 t193 _ A3.out).mono ?_); rintro e w4 ⟨rfl, hb⟩; refine ⟨_, rfl, ?_⟩; have n0_ := Aside0.mk (below_step (by repeat (first | (with_reducible first | exact HB.out | apply below_alloc | apply pw_below_drewN | apply below_drew1) | exact HB.out)) hb); clear HB; have HB := n0_; clear n0_; (try clear hb); (try clear hb2); (try clear hk); (try clear hi)))
    go_ret
    exact ⟨by first | rfl | (simp [errW_none, errW_some] <;> rfl) | (simp [*, errW_none, errW_some] <;> rfl), by repeat (first | (with_reducible first | exact HB.out | apply below_alloc | apply pw_below_drewN | apply below_drew1) | exact HB.out)⟩

end Go.Proofs.Ytkkadcpgjniojaa.PFnExactInodeOk
