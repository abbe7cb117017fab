-- Written by a program of this session for this claim; Lean checks it.
import Derived.Test.YtcfdabmeejfcoaaMFnExactFlushLinex0
import Derived.Test.YtcfdabmeejfcoaaMFnExactFlushLinex6
namespace Go.Proofs.Ytcfdabmeejfcoaa.PFnExactFlushLine
open Go.RowKit Go.Proofs.YtcfdabmeejfcoaaW.PrintWords Go.Proofs.YtcfdabmeejfcoaaW.PrintLast Go.Proofs.YtcfdabmeejfcoaaW.PrintMore
attribute [local go_sem] max2_int min2_int max_two min_two max_three min_three max_four min_four   -- for this text's walks alone
set_option linter.unusedVariables false
set_option linter.unusedSimpArgs false

/-! ### impl_Cell: function 55 -/
def impl_Cell.f (l0 : List S47) : Option (List S47) := if l0.length < 4398046511104 then some l0 else none
set_option maxHeartbeats 4000000 in
set_option maxRecDepth 100000 in
theorem impl_Cell.calls (A0 : Option Addr) (c0 : Nat) (l0 : List S47) (r : List S47) (w : World) (hr0 : Kd.C k47 w A0 l0.length l0) (hc0 : l0.length ≤ c0) (h : impl_Cell.f l0 = some r) :
    Calls Try.prog 55 #[.slice A0 l0.length c0] w fun e w' => ∃ v_ : Value, e = .returned v_ ∧ Kd.R k47 47 w' w.heap.size (fun _ => True) v_ r ∧ Below w.heap.size w w' := by
  have q27 : ∀ (w : World) (a : Option Addr) (n c n' c' : Nat), (binOp .eql 27 (.slice a n c) (.slice none n' c')).run Try.prog w = .ok (.bool a.isNone) w := fun w a n c n' c' => Lib.run_eql_slice_nil w _ _ a n c n' c' Try.underlying27
  unfold impl_Cell.f at h
  by_cases hl : l0.length < 4398046511104
  · rw [if_pos hl] at h
    cases h
    have HB := Aside0.mk (Below.refl w.heap.size w)
    have HR := Aside0.mk hr0
    have HL := Aside0.mk hl
    clear hl
    cases A0 with
    | none =>
      have h0 : l0 = [] := by
        cases l0 with
        | nil => rfl
        | cons a l =>
          obtain ⟨ad, e, _⟩ := hr0.2.2 (by simp)
          cases e
      subst h0
      clear hr0 hc0
      go_enter Try.func55, Try.ntmps55
      go_wp2
      go_ret
      exact ⟨_, rfl, Kd.R_nil _ _ _ _ _, Below.refl _ _⟩
    | some ad =>
      clear hr0 hc0
      go_enter Try.func55, Try.ntmps55
      go_wp2_with (first | ((with_reducible refine gate_dst (N := 5) rfl ?_); refine Kd.R_lit k47 _ 47 ?hg (N := 5) ?hd (xs := ([] : List (S47))) (inner := []) (ok := fun _ => True) (okp := fun _ => True) ?hr ?hp (fun _ hk => hk) trivial (Below.refl _ _) (Nat.le_refl _) (by simp) ?_; (case hd => rfl); (case hg => rfl); (case hr => first | (go_simp; done) | (go_simp; rfl)); (case hp => exact (Reps.none _ _)); intro v159 w6 ho7 hb hg_ hnew_; clear hg_ hnew_; have n0_ := Aside0.mk (Kd.R_lower ho7 (below_size HB.out)); have n1_ := Aside0.mk (below_step HB.out hb); clear HB; have HO := n0_; have HB := n1_; clear n0_ n1_; clear hb ho7) | (at_builtin; refine Kd.R_append_rows k47 (w0 := w) w.heap.size rfl (.tmp 5) (.tmp 6) 27 47 (.agg #[(.int .i64 0), (.string ⟨#[]⟩), (.bool false)]) 32 rfl Try.underlying27 info47 rfl (by decide) (by omega) v159 [] l0 _ _ _ (fun _ => True) (fun _ => False) rfl rfl ?aO ?aR (fun _ _ h => h) (fun _ h => h.elim) ?aF ?aB ?aS ?aL ?_; (case aR => exact (Kd.C_below HR.out HB.out)); (case aB => exact HB.out); (case aF => exact (fun _ _ => trivial)); (case aO => exact HO.out); (case aS => exact below_size HB.out); (case aL => have := HL.out; simp only [List.length_nil]; omega); intro v162 w8 ho hb hg hat; rw [List.nil_append] at ho; have n1_ := Aside0.mk hb; have n2_ := Aside0.mk ho; clear HB HO ho hb hg hat; have HB := n1_; have HO := n2_; clear n1_ n2_))
      go_ret
      exact ⟨_, rfl, HO.out, HB.out⟩
  · rw [if_neg hl] at h
    cases h

/-! ### impl_copyMemory: function 41 -/
def impl_copyMemory.f (a0_0 : ByteArray) (l0_1 : List (S47)) : Option (ByteArray × (List (S47))) := (impl_Cell.f l0_1).bind fun t183 => (some (a0_0, t183))
set_option maxHeartbeats 8000000 in
set_option maxRecDepth 100000 in
theorem impl_copyMemory.calls (a0_0 : ByteArray) (A0_1 : Option Addr) (c0_1 : Nat) (l0_1 : List (S47)) (r1 : ByteArray) (r2 : List (S47)) (w : World) (hr0_1 : Kd.C k47 w A0_1 l0_1.length l0_1) (hc0_1 : l0_1.length ≤ c0_1) (h : impl_copyMemory.f a0_0 l0_1 = some (r1, r2)) :
    Calls Try.prog 41 #[.agg #[.string a0_0, .slice A0_1 l0_1.length c0_1]] w fun e w' => ∃ v1_ : Value, e = .returned (.agg #[.string r1, v1_]) ∧ Kd.R k47 47 w' w.heap.size (fun _ => True) v1_ r2 ∧ Below w.heap.size w w' := by
  have hu29 := Try.underlying29
  have HR0_1 := Aside0.mk hr0_1
  have HC0_1 := Aside0.mk hc0_1
  clear hr0_1 hc0_1
  have HB := Aside0.mk (Below.refl w.heap.size w)
  have H : ((impl_Cell.f l0_1).bind fun t183 => (some (a0_0, t183))) = some (r1, r2) := h
  clear h
  replace H := Option.bind_eq_some_iff.mp H
  obtain ⟨t183, A20, H⟩ := H
  replace H : (some (a0_0, t183)) = some (r1, r2) := H
  have A2 := Aside0.mk A20
  clear A20
  simp only [Option.some.injEq, Prod.mk.injEq] at H
  obtain ⟨rfl, rfl⟩ := H
  go_enter Try.func41, Try.ntmps41
  try go_wp2_with (first | ((with_reducible refine gate_dst (N := 1) rfl ?_); refine box_event ?hg (N := 1) ?hd (cs := #[.string a0_0, .slice A0_1 l0_1.length c0_1]) (t := 29) ?hr ?_; (case hd => rfl); (case hg => rfl); (case hr => first | (go_simp; done) | (go_simp; rfl)); intro gb181 hg w3 hbox hb; have n0_ := Aside0.mk (below_step (by repeat (first | (with_reducible first | exact HB.out | apply below_alloc | apply pw_below_drewN | apply below_drew1) | exact HB.out)) hb); have n1_ := Aside0.mk (hbox); have n2_ := Aside0.mk ((by rw [hg]; exact (below_size (by repeat (first | (with_reducible first | exact HB.out | apply below_alloc | apply pw_below_drewN | apply below_drew1) | exact HB.out))) : w.heap.size ≤ gb181)); have n3_ := Aside0.mk ((by rw [hg]; exact (below_size (by repeat (first | (with_reducible first | exact HB.out | apply below_alloc | apply pw_below_drewN | apply below_drew1) | exact HB.out))) : w.heap.size ≤ gb181)); clear HB; have HB := n0_; have BK181 := n1_; have GW181 := n2_; have GE181 := n3_; clear n0_ n1_ n2_ n3_; clear hb hbox hg) | ((with_reducible refine gate_dst (N := 2) rfl ?_); refine box_event ?hg (N := 2) ?hd (cs := #[.string (⟨#[]⟩ : ByteArray), .slice none 0 0]) (t := 29) ?hr ?_; (case hd => rfl); (case hg => rfl); (case hr => first | (go_simp; done) | (go_simp; rfl)); intro gb182 hg w4 hbox hb; have n0_ := Aside0.mk (blk_below (g := gb181) (o := .cells #[.string a0_0, .slice A0_1 l0_1.length c0_1] 29 (0, 0)) (by (with_reducible repeat (first | refine blk_drewN ?_ _ | refine blk_drew ?_ | refine blk_alloc ?_ _)); exact BK181.out) hb); have n1_ := Aside0.mk (below_step (by repeat (first | (with_reducible first | exact HB.out | apply below_alloc | apply pw_below_drewN | apply below_drew1 | refine below_set ?_ GE181.out) | exact HB.out)) hb); have n2_ := Aside0.mk (hbox); have n3_ := Aside0.mk ((by rw [hg]; exact (below_size (by repeat (first | (with_reducible first | exact HB.out | apply below_alloc | apply pw_below_drewN | apply below_drew1 | refine below_set ?_ GE181.out) | exact HB.out))) : w.heap.size ≤ gb182)); have n4_ := Aside0.mk ((by rw [hg]; exact (below_size (by repeat (first | (with_reducible first | exact HB.out | apply below_alloc | apply pw_below_drewN | apply below_drew1 | refine below_set ?_ GE181.out) | exact HB.out))) : w.heap.size ≤ gb182)); have n5_ := Aside0.mk ((by rw [hg]; exact Nat.ne_of_lt (blk_lt (g := gb181) (o := .cells #[.string a0_0, .slice A0_1 l0_1.length c0_1] 29 (0, 0)) (by (with_reducible repeat (first | refine blk_drewN ?_ _ | refine blk_drew ?_ | refine blk_alloc ?_ _)); exact BK181.out)) : gb181 ≠ gb182)); have n6_ := Aside0.mk ((by rw [hg]; exact Nat.ne_of_gt (blk_lt (g := gb181) (o := .cells #[.string a0_0, .slice A0_1 l0_1.length c0_1] 29 (0, 0)) (by (with_reducible repeat (first | refine blk_drewN ?_ _ | refine blk_drew ?_ | refine blk_alloc ?_ _)); exact BK181.out)) : gb182 ≠ gb181)); clear BK181; clear HB; have BK181 := n0_; have HB := n1_; have BK182 := n2_; have GW182 := n3_; have GE182 := n4_; have NB181_182 := n5_; have NB182_181 := n6_; clear n0_ n1_ n2_ n3_ n4_ n5_ n6_; clear hb hbox hg))
  have n0_ := Aside0.mk (blk_drew BK181.out)
  have n1_ := Aside0.mk (blk_drew BK182.out)
  have n2_ := Aside0.mk (below_drew1 HB.out)
  clear BK181
  clear BK182
  clear HB
  have BK181 := n0_
  have BK182 := n1_
  have HB := n2_
  clear n0_ n1_ n2_
  refine start_ (n := 7) (S := fun w' => w'.cell? ⟨gb181, 0, none⟩ = some (.string a0_0) ∧ w'.cell? ⟨gb181, 1, none⟩ = some (.slice A0_1 l0_1.length c0_1)) (ds := []) #[false, false, false, false, false, false, false] (by kernel_rfl) rfl rfl ⟨(blk_cell BK181.out 0).trans rfl, (blk_cell BK181.out 1).trans rfl⟩ (fun hHeld => ?_)
  generalize w4.drew = w5 at BK181 BK182 HB hHeld ⊢
  refine pure_ (i := 0) (N := some 3) (v := ?_) (a' := ?_) #[true, false, false, false, false, false, false] rfl rfl (by kernel_rfl) (fun _ _ _ h => h) (Or.inl ⟨by rfl, ?_⟩) ?_ ?_
  rotate_left
  · intro w'
    go_simp
    with_reducible rfl
  rotate_left
  · simp only [Act.put, List.setIfInBounds_toArray, List.set_cons_zero, List.set_cons_succ, i64_w, i32_w]
    rfl
  refine pure_ (i := 2) (N := some 5) (v := ?_) (a' := ?_) #[true, false, true, false, false, false, false] rfl rfl (by kernel_rfl) (fun _ _ _ h => h) (Or.inl ⟨by rfl, ?_⟩) ?_ ?_
  rotate_left
  · intro w'
    go_simp
    with_reducible rfl
  rotate_left
  · simp only [Act.put, List.setIfInBounds_toArray, List.set_cons_zero, List.set_cons_succ, i64_w, i32_w]
    rfl
  refine take_ (i := 1) (N := some 4) (v := ?_) (a' := ?_) #[true, true, true, false, false, false, false] rfl rfl (by kernel_rfl) (fun _ _ _ h => h) (Or.inl ⟨by rfl, ?_⟩) hHeld ?_ ?_
  rotate_left
  · rintro w' ⟨s0, s1⟩
    go_simp
    with_reducible rfl
  rotate_left
  · simp only [Act.put, List.setIfInBounds_toArray, List.set_cons_zero, List.set_cons_succ, i64_w, i32_w]
    rfl
  refine take_ (i := 3) (N := some 6) (v := ?_) (a' := ?_) #[true, true, true, true, false, false, false] rfl rfl (by kernel_rfl) (fun _ _ _ h => h) (Or.inl ⟨by rfl, ?_⟩) hHeld ?_ ?_
  rotate_left
  · rintro w' ⟨s0, s1⟩
    go_simp
    with_reducible rfl
  rotate_left
  · simp only [Act.put, List.setIfInBounds_toArray, List.set_cons_zero, List.set_cons_succ, i64_w, i32_w]
    rfl
  refine one_ (i := 4) (N := some 7) #[true, true, true, true, true, false, false] rfl rfl (by kernel_rfl) (by decide) (fun K hK => ?_)
  refine goes_ Try.func55 (by kernel_rfl) rfl #[.slice A0_1 l0_1.length c0_1] (by rfl) rfl rfl (by (try simp only [List.map_toArray, List.map_cons, List.map_nil]); first | done | rfl | (simp only [List.length_drop, List.length_take]; rfl)) ?_
  with_reducible refine (impl_Cell.calls _ _ l0_1 t183 _ ?side1 ?side2 A2.out).mono ?_
  (case side1 => repeat (first | exact (Kd.C_below HR0_1.out HB.out) | (with_reducible refine Kd.C_alloc ?_ _) | (with_reducible refine Kd.C_drewN ?_ _) | (with_reducible refine Kd.C_drew ?_)))
  (case side2 => exact HC0_1.out)
  rintro e w6 ⟨v184, rfl, ho0, hb⟩
  refine ⟨_, rfl, ?_⟩
  have n0_ := Aside0.mk (Kd.R_lower ho0 (below_size (by repeat (first | (with_reducible first | exact HB.out | apply below_alloc | apply pw_below_drewN | apply below_drew1 | refine below_set ?_ GE181.out | refine below_set ?_ GE182.out) | exact HB.out))))
  have n1_ := Aside0.mk (blk_below (g := gb181) (o := .cells #[.string a0_0, .slice A0_1 l0_1.length c0_1] 29 (0, 0)) (by (with_reducible repeat (first | refine blk_drewN ?_ _ | refine blk_drew ?_ | refine blk_alloc ?_ _)); exact BK181.out) hb)
  have n2_ := Aside0.mk (blk_below (g := gb182) (o := .cells #[.string (⟨#[]⟩ : ByteArray), .slice none 0 0] 29 (0, 0)) (by (with_reducible repeat (first | refine blk_drewN ?_ _ | refine blk_drew ?_ | refine blk_alloc ?_ _)); exact BK182.out) hb)
  have n3_ := Aside0.mk (below_step (by repeat (first | (with_reducible first | exact HB.out | apply below_alloc | apply pw_below_drewN | apply below_drew1 | refine below_set ?_ GE181.out | refine below_set ?_ GE182.out) | exact HB.out)) hb)
  clear BK181
  clear BK182
  clear HB
  have HO185 := n0_
  have BK181 := n1_
  have BK182 := n2_
  have HB := n3_
  clear n0_ n1_ n2_ n3_
  (try clear hb)
  (try clear hb2)
  (try clear hk)
  (try clear hi)
  (try clear ho0)
  obtain ⟨Ao7, co7, eo7⟩ := Kd.R_slice HO185.out
  (first | subst eo7 | (injection eo7 with f1_ f2_ f3_; have f4_ := f1_.symm; have f5_ := f3_.symm; clear f1_ f2_ f3_; subst f4_; subst f5_))
  refine hK.out _ _ ⟨(blk_cell BK181.out 0).trans rfl, (blk_cell BK181.out 1).trans rfl⟩ (fun hHeld => ?_)
  clear hK K
  refine norm_ (a' := ?_) ?_ ?_
  rotate_left
  · show Act.put _ (some 7) _ = _
    simp only [Act.put, List.setIfInBounds_toArray, List.set_cons_zero, List.set_cons_succ, i64_w, i32_w]
    rfl
  refine pure_ (i := 5) (N := some 8) (v := ?_) (a' := ?_) #[true, true, true, true, true, true, false] rfl rfl (by kernel_rfl) (fun _ _ _ h => h) (Or.inl ⟨by rfl, ?_⟩) ?_ ?_
  rotate_left
  · intro w'
    go_simp
    with_reducible rfl
  rotate_left
  · simp only [Act.put, List.setIfInBounds_toArray, List.set_cons_zero, List.set_cons_succ, i64_w, i32_w]
    rfl
  refine one_ (i := 6) (N := none) #[true, true, true, true, true, true, true] rfl rfl (by kernel_rfl) (by decide) (fun K hK => ?_)
  have hs8 : w6.cell? ⟨gb182, 0, none⟩ = some (.string (⟨#[]⟩ : ByteArray)) := (blk_cell BK182.out 0).trans rfl
  have hfs8 := blk_frozen BK182.out 0
  have hns8_0 := NB181_182.out
  have hms8_0 := NB182_181.out
  have hs9 : w6.cell? ⟨gb182, 1, none⟩ = some (.slice none 0 0) := (blk_cell BK182.out 1).trans rfl
  have hfs9 := blk_frozen BK182.out 1
  have hns9_0 := NB181_182.out
  have hms9_0 := NB182_181.out
  refine skip_ (w1 := ?_) (by rfl) rfl ?_ ?_
  rotate_left
  · go_simp
    rfl
  refine hK.out _ _ ⟨((cell_far (p := ⟨gb182, _, none⟩) NB181_182.out _).trans (((cell_far (p := ⟨gb182, _, none⟩) NB181_182.out _).trans (hHeld.1)))), ((cell_far (p := ⟨gb182, _, none⟩) NB181_182.out _).trans (((cell_far (p := ⟨gb182, _, none⟩) NB181_182.out _).trans (hHeld.2))))⟩ (fun hHeld => ?_)
  clear hK K
  refine done_ (by kernel_rfl) ?_
  try go_wp2
  refine bodyPost_ret (results_cell_row rfl _ _ gb182 29 #[.string a0_0, .slice Ao7 t183.length co7] (0, 0) _ rfl (by (with_reducible repeat (first | refine blk_drewN ?_ _ | refine blk_drew ?_ | refine blk_alloc ?_ _)); refine blk_put (cs := #[.string a0_0, .slice none 0 0]) ?_ 1 _ rfl; (with_reducible repeat (first | refine blk_drewN ?_ _ | refine blk_drew ?_ | refine blk_alloc ?_ _)); refine blk_put (cs := #[.string (⟨#[]⟩ : ByteArray), .slice none 0 0]) ?_ 0 _ rfl; (with_reducible repeat (first | refine blk_drewN ?_ _ | refine blk_drew ?_ | refine blk_alloc ?_ _)); exact BK182.out) Try.underlying29 rfl (by kernel_rfl)) rfl ?_
  exact ⟨_, by first | rfl | (simp [errW_none, errW_some] <;> rfl) | (simp [*, errW_none, errW_some] <;> rfl), by (with_reducible repeat (first | apply Kd.R_alloc | apply Kd.R_drewN | apply Kd.R_drew)); exact Kd.R_mono (Kd.R_far (p := ⟨gb182, 1, none⟩) (Kd.R_far (p := ⟨gb182, 0, none⟩) (Kd.R_types HO185.out BK182.out (by decide)) (fun _ hk => hk.2) (.string a0_0)) (fun _ hk => hk.2) (.slice Ao7 t183.length co7)) (fun _ hk => trivial), by repeat (first | (with_reducible first | exact HB.out | apply below_alloc | apply pw_below_drewN | apply below_drew1 | refine below_set ?_ GE181.out | refine below_set ?_ GE182.out) | exact HB.out)⟩

-- NOT PRINTED: function 61 (impl_Cell_int)

/-! ### impl_Memory_findCell: function 56 -/
/-- What cmp.Compare says of two whole numbers. -/
def cmpI (x y : Int) : Int := if x < y then -1 else if y < x then 1 else 0
theorem cmpI_isnan (x : Int) (w : World) : Calls Try.prog 66 #[.int .i64 x] w fun e w' => e = .returned (.bool false) ∧ Below w.heap.size w w' := by
  have c0 : (x != x) = false := bne_self_eq_false x
  have c1 : (x == x) = true := beq_self_eq_true x
  go_enter Try.func66, Try.ntmps66
  go_wp2
  go_ret
  exact ⟨rfl, Below.refl _ _⟩
theorem cmpI_calls (x y : Int) (w : World) : Calls Try.prog 63 #[.int .i64 x, .int .i64 y] w fun e w' => e = .returned (.int .i64 (cmpI x y)) ∧ Below w.heap.size w w' := by
  have HB := Aside0.mk (Below.refl w.heap.size w)
  unfold cmpI
  by_cases c0 : x < y
  · have c1 : decide (x < y) = true := decide_eq_true c0
    rw [if_pos c0]
    clear c0
    go_enter Try.func63, Try.ntmps63
    go_wp2_with (go_at_call 66; refine (cmpI_isnan _ _).mono ?_; rintro e w' ⟨rfl, hb⟩; have n0_ := Aside0.mk (below_step HB.out hb); clear HB hb; have HB := n0_; clear n0_)
    go_ret
    exact ⟨rfl, HB.out⟩
  · have c1 : decide (x < y) = false := decide_eq_false c0
    rw [if_neg c0]
    clear c0
    by_cases c2 : y < x
    · have c3 : decide (x > y) = true := decide_eq_true c2
      rw [if_pos c2]
      clear c2
      go_enter Try.func63, Try.ntmps63
      go_wp2_with (go_at_call 66; refine (cmpI_isnan _ _).mono ?_; rintro e w' ⟨rfl, hb⟩; have n0_ := Aside0.mk (below_step HB.out hb); clear HB hb; have HB := n0_; clear n0_)
      go_ret
      exact ⟨rfl, HB.out⟩
    · have c3 : decide (x > y) = false := decide_eq_false c2
      rw [if_neg c2]
      clear c2
      go_enter Try.func63, Try.ntmps63
      go_wp2_with (go_at_call 66; refine (cmpI_isnan _ _).mono ?_; rintro e w' ⟨rfl, hb⟩; have n0_ := Aside0.mk (below_step HB.out hb); clear HB hb; have HB := n0_; clear n0_)
      go_ret
      exact ⟨rfl, HB.out⟩
theorem findCell_cmp (a : Int) (s : ByteArray) (b : Bool) (t : Int) (w : World) : Calls Try.prog 62 #[.agg #[.int .i64 a, .string s, .bool b], .int .i64 t] w fun e w' => e = .returned (.int .i64 (cmpI a t)) ∧ Below w.heap.size w w' := by
  have hu47 := Try.underlying47
  have HB := Aside0.mk (Below.refl w.heap.size w)
  go_enter Try.func62, Try.ntmps62
  go_wp2_with (first | ((with_reducible refine gate_dst (N := 2) rfl ?_); refine box_event ?hg (N := 2) ?hd (cs := #[.int .i64 a, .string s, .bool b]) (t := 47) ?hr ?_; (case hd => rfl); (case hg => rfl); (case hr => first | (go_simp; done) | (go_simp; rfl)); intro gb101 hg w4 hbox hb; have n0_ := Aside0.mk (below_step HB.out hb); clear HB; have HB := n0_; have hcz5_0 : w4.cell? ⟨gb101, 0, none⟩ = some (.int .i64 a) := (blk_cell hbox 0).trans rfl; clear n0_ hb hbox hg) | (go_at_call 63; refine (cmpI_calls a t _).mono ?_; rintro e w' ⟨rfl, hb⟩; have n0_ := Aside0.mk (below_step HB.out hb); clear HB hb; have HB := n0_; clear n0_))
  go_ret
  exact ⟨rfl, HB.out⟩
/-- slices.BinarySearchFunc over the cells, by their lines: how many stand ahead, and whether the next is the line's. -/
def impl_Memory_findCell.l : Nat → List S47 → Int → Nat → Nat → Option (Int × Bool)
  | 0, _, _, _, _ => none
  | k + 1, l, t, i, j => if i < j then (if (rd_T47 l (((i + j) / 2 : Nat) : Int)).f0 < t then impl_Memory_findCell.l k l t ((i + j) / 2 + 1) j else impl_Memory_findCell.l k l t i ((i + j) / 2)) else some ((i : Int), decide (i < l.length) && decide ((rd_T47 l (i : Int)).f0 = t))
def impl_Memory_findCell.f (k : Nat) (a0_0 : ByteArray) (l0_1 : List S47) (a1 : Int) : Option (Int × Bool) := if l0_1.length < 4611686018427387904 then impl_Memory_findCell.l k l0_1 a1 0 l0_1.length else none
theorem impl_Memory_findCell.mono_l : ∀ (k : Nat) (l : List S47) (t : Int) (i j : Nat), LeO (impl_Memory_findCell.l k l t i j) (impl_Memory_findCell.l (k + 1) l t i j)
  | 0, _, _, _, _ => fun r h => by simp [impl_Memory_findCell.l] at h
  | k + 1, l, t, i, j => fun r h => by
    unfold impl_Memory_findCell.l at h
    unfold impl_Memory_findCell.l
    by_cases h1 : i < j
    · rw [if_pos h1] at h
      rw [if_pos h1]
      by_cases h2 : (rd_T47 l (((i + j) / 2 : Nat) : Int)).f0 < t
      · rw [if_pos h2] at h
        rw [if_pos h2]
        exact impl_Memory_findCell.mono_l k _ _ _ _ r h
      · rw [if_neg h2] at h
        rw [if_neg h2]
        exact impl_Memory_findCell.mono_l k _ _ _ _ r h
    · rw [if_neg h1] at h
      rw [if_neg h1]
      exact h
theorem impl_Memory_findCell.mono (a0_0 : ByteArray) (l0_1 : List S47) (a1 : Int) (k : Nat) : LeO (impl_Memory_findCell.f k a0_0 l0_1 a1) (impl_Memory_findCell.f (k + 1) a0_0 l0_1 a1) := fun r h => by
  unfold impl_Memory_findCell.f at h
  unfold impl_Memory_findCell.f
  by_cases h1 : l0_1.length < 4611686018427387904
  · rw [if_pos h1] at h
    rw [if_pos h1]
    exact impl_Memory_findCell.mono_l k _ _ _ _ r h
  · rw [if_neg h1] at h
    cases h
theorem findCell_of (k : IntKind) (n : Int) : intOf (.int k n) = n := rfl
theorem findCell_next (x : Int) (h0 : 0 ≤ x) (h1 : x < 4611686018427387904) : wrap64 (x + 1) = x + 1 := by unfold wrap64; omega
set_option maxHeartbeats 4000000 in
set_option maxRecDepth 100000 in
theorem findCell_search (k : Nat) (A0 : Option Addr) (c0 : Nat) (l0 : List S47) (t : Int) (r1 : Int) (r2 : Bool) (w : World) (hr0 : Kd.C k47 w A0 l0.length l0) (hl : l0.length < 4611686018427387904) (h : impl_Memory_findCell.l k l0 t 0 l0.length = some (r1, r2)) :
    Calls Try.prog 61 #[.slice A0 l0.length c0, .int .i64 t, .func (.func 62) #[] #[]] w fun e w' => e = .returned (.tuple #[.int .i64 r1, .bool r2]) ∧ Below w.heap.size w w' := by
  have hu47 := Try.underlying47
  have HR := Aside0.mk hr0
  have HF := Aside0.mk h
  have HB := Aside0.mk (Below.refl w.heap.size w)
  clear hr0 h
  go_enter Try.func61, Try.ntmps61
  go_wp2
  go_loopw [9, 10] (fun s9 s10 wr => ∃ (kq lo hi : Nat), s9 = .int .i64 (lo : Int) ∧ s10 = .int .i64 (hi : Int) ∧ lo ≤ hi ∧ hi ≤ l0.length ∧ Aside0 (impl_Memory_findCell.l kq l0 t lo hi = some (r1, r2)) ∧ Aside0 (Below w.heap.size w wr)) (fun s9 s10 _ => (intOf s10 - intOf s9).toNat)
  case atStart => exact ⟨k, 0, l0.length, rfl, rfl, Nat.zero_le _, Nat.le_refl _, HF, HB⟩
  case round =>
    clear HF HB
    obtain ⟨kq, lo, hi, rfl, rfl, hlh, hin, HF, HB⟩ := hrel
    obtain ⟨kq, rfl⟩ : ∃ z, kq = z + 1 := by
      cases kq with
      | zero => have := HF.out; simp [impl_Memory_findCell.l] at this
      | succ z => exact ⟨z, rfl⟩
    have H := HF.out
    clear HF
    unfold impl_Memory_findCell.l at H
    by_cases hlt : lo < hi
    · rw [if_pos hlt] at H
      have hC := Kd.C_below HR.out HB.out
      obtain ⟨ad, rfl, e0, e1, e2⟩ := at_T47 hC (((lo + hi) / 2 : Nat) : Int) (by omega) (by omega)
      have CC := fun W => findCell_cmp (rd_T47 l0 (((lo + hi) / 2 : Nat) : Int)).f0 (rd_T47 l0 (((lo + hi) / 2 : Nat) : Int)).f1 (rd_T47 l0 (((lo + hi) / 2 : Nat) : Int)).f2 t W
      have hm : ((lo : Int) + (hi : Int)) / 2 = (((lo + hi) / 2 : Nat) : Int) := by omega
      have b1 : lo ≤ (lo + hi) / 2 := by omega
      have b2 : (lo + hi) / 2 < hi := by omega
      have b3 : (((lo + hi) / 2 : Nat) : Int) < (l0.length : Int) := by omega
      have b4 : (0 : Int) ≤ (((lo + hi) / 2 : Nat) : Int) := by omega
      have HM := Aside0.mk hm
      have BD : Aside0 (lo ≤ (lo + hi) / 2 ∧ (lo + hi) / 2 < hi) := ⟨⟨b1, b2⟩⟩
      clear hm hC b1 b2
      replace b3 := eq_true b3
      replace b4 := eq_true b4
      generalize hx0 : (rd_T47 l0 (((lo + hi) / 2 : Nat) : Int)).f0 = x0 at H e0 CC
      generalize (rd_T47 l0 (((lo + hi) / 2 : Nat) : Int)).f1 = x1 at e1 CC
      generalize (rd_T47 l0 (((lo + hi) / 2 : Nat) : Int)).f2 = x2 at e2 CC
      have H' := Aside0.mk H
      clear H hx0
      go_upto_region 5 with fail
      rw [HM.out]
      clear HM
      generalize hm2 : (((lo + hi) / 2 : Nat) : Int) = m at e0 e1 e2 b3 b4 ⊢
      have HM := Aside0.mk hm2
      clear hm2
      go_upto_if 31 with fail
      refine (CC _).mono ?_
      rintro e w' ⟨rfl, hb⟩
      have n0_ := Aside0.mk (below_step HB.out hb)
      clear HB hb CC e0 e1 e2
      have HB := n0_
      clear n0_
      dsimp only
      by_cases hx : x0 < t
      · have hz : cmpI x0 t = -1 := by unfold cmpI; rw [if_pos hx]
        have H := H'.out
        rw [if_pos hx] at H
        have H' := Aside0.mk H
        clear H
        rw [hz]
        clear hx hz
        go_wp2
        have e := HM.out
        have q := BD.out
        clear b3 b4
        have hw : wrap64 (m + 1) = (((lo + hi) / 2 + 1 : Nat) : Int) := (findCell_next m (by omega) (by omega)).trans (by omega)
        clear e
        refine ⟨⟨kq, (lo + hi) / 2 + 1, hi, by rw [hw], rfl, by omega, hin, H', HB⟩, ?_⟩
        rw [findCell_of, findCell_of, findCell_of, hw]; omega
      · have hz : (cmpI x0 t < 0) = False := eq_false (by unfold cmpI; rw [if_neg hx]; split <;> omega)
        have H := H'.out
        rw [if_neg hx] at H
        have H' := Aside0.mk H
        clear H
        generalize cmpI x0 t = z at hz ⊢
        clear hx
        go_wp2
        have e := HM.out
        have q := BD.out
        refine ⟨⟨kq, lo, (lo + hi) / 2, rfl, by go_num, by omega, by omega, H', HB⟩, ?_⟩
        rw [findCell_of, findCell_of, findCell_of]; omega
    · rw [if_neg hlt] at H
      obtain rfl : lo = hi := by omega
      have H2 := Option.some.inj H
      have H3 := congrArg Prod.fst H2
      have H4 := congrArg Prod.snd H2
      dsimp only at H3 H4
      clear H H2
      subst H3
      by_cases hn : lo < l0.length
      · have hC := Kd.C_below HR.out HB.out
        obtain ⟨ad, rfl, e0, e1, e2⟩ := at_T47 hC (lo : Int) (by omega) (by omega)
        rw [Int.toNat_natCast] at e0 e1 e2
        have CC := fun W => findCell_cmp (rd_T47 l0 (lo : Int)).f0 (rd_T47 l0 (lo : Int)).f1 (rd_T47 l0 (lo : Int)).f2 t W
        clear hC
        rw [decide_eq_true hn, Bool.true_and] at H4
        have b3 : ((lo : Int) < (l0.length : Int)) = True := eq_true (by omega)
        generalize (rd_T47 l0 (lo : Int)).f0 = x0 at H4 e0 CC
        generalize (rd_T47 l0 (lo : Int)).f1 = x1 at e1 CC
        generalize (rd_T47 l0 (lo : Int)).f2 = x2 at e2 CC
        have H' := Aside0.mk H4
        clear H4
        go_upto_if 99 with fail
        refine (CC _).mono ?_
        rintro e w' ⟨rfl, hb⟩
        have n0_ := Aside0.mk (below_step HB.out hb)
        clear HB hb CC e0 e1 e2
        have HB := n0_
        clear n0_
        dsimp only
        by_cases hx : x0 = t
        · have hz : cmpI x0 t = 0 := by unfold cmpI; rw [if_neg (by omega), if_neg (by omega)]
          have H := H'.out
          rw [decide_eq_true hx] at H
          subst H
          rw [hz]
          clear hx hz H'
          go_wp2
          go_ret2
          exact ⟨rfl, HB.out⟩
        · have hz : (cmpI x0 t == 0) = false := by unfold cmpI; split <;> first | rfl | (split <;> first | rfl | omega)
          have hz2 : (cmpI x0 t = 0) = False := eq_false (by simpa using hz)
          have H := H'.out
          rw [decide_eq_false hx] at H
          subst H
          generalize cmpI x0 t = z at hz hz2 ⊢
          clear hx H'
          go_wp2
          go_ret2
          exact ⟨rfl, HB.out⟩
      · rw [decide_eq_false hn, Bool.false_and] at H4
        subst H4
        have b3 : ((lo : Int) < (l0.length : Int)) = False := eq_false (by omega)
        go_wp2
        go_ret2
        exact ⟨rfl, HB.out⟩
set_option maxHeartbeats 4000000 in
set_option maxRecDepth 100000 in
theorem impl_Memory_findCell.calls (k : Nat) (a0_0 : ByteArray) (A0_1 : Option Addr) (c0_1 : Nat) (l0_1 : List (S47)) (a1 : Int) (r1 : Int) (r2 : Bool) (w : World) (hr0_1 : Kd.C k47 w A0_1 l0_1.length l0_1) (hc0_1 : l0_1.length ≤ c0_1) (h : impl_Memory_findCell.f k a0_0 l0_1 a1 = some (r1, r2)) :
    Calls Try.prog 56 #[.agg #[.string a0_0, .slice A0_1 l0_1.length c0_1], .int .i64 a1] w fun e w' => e = .returned (.tuple #[.int .i64 r1, .bool r2]) ∧ Below w.heap.size w w' := by
  have hu29 := Try.underlying29
  unfold impl_Memory_findCell.f at h
  by_cases hl : l0_1.length < 4611686018427387904
  · rw [if_pos hl] at h
    have HB := Aside0.mk (Below.refl w.heap.size w)
    have HR := Aside0.mk hr0_1
    have HH := Aside0.mk h
    have HL := Aside0.mk hl
    clear hr0_1 hc0_1 h hl
    go_enter Try.func56, Try.ntmps56
    go_wp2_with (first | ((with_reducible refine gate_dst (N := 2) rfl ?_); refine box_event ?hg (N := 2) ?hd (cs := #[.string a0_0, .slice A0_1 l0_1.length c0_1]) (t := 29) ?hr ?_; (case hd => rfl); (case hg => rfl); (case hr => first | (go_simp; done) | (go_simp; rfl)); intro gb101 hg w4 hbox hb; have n0_ := Aside0.mk (below_step HB.out hb); clear HB; have HB := n0_; have hcz5_1 : w4.cell? ⟨gb101, 1, none⟩ = some (.slice A0_1 l0_1.length c0_1) := (blk_cell hbox 1).trans rfl; clear n0_ hb hbox hg) | (go_at_call 61; refine (findCell_search k A0_1 c0_1 l0_1 a1 r1 r2 _ (Kd.C_below HR.out HB.out) HL.out HH.out).mono ?_; rintro e w' ⟨rfl, hb⟩; have n0_ := Aside0.mk (below_step HB.out hb); clear HB hb; have HB := n0_; clear n0_))
    go_ret2
    exact ⟨rfl, HB.out⟩
  · rw [if_neg hl] at h
    cases h

-- NOT PRINTED: function 46 (impl_Memory_flush)

/-! ### impl_FlushLine: function 21 -/
/-- Every block of the type of a memory, but one, is as it was. -/
def Keep29 (g : Nat) (w w' : World) : Prop := ∀ q cs, q ≠ g → w.heap[q]? = some (.cells cs 29 (0, 0)) → w'.heap[q]? = some (.cells cs 29 (0, 0))
theorem Keep29_refl (g : Nat) (w : World) : Keep29 g w w := fun _ _ _ h => h
theorem Keep29_trans {g : Nat} {w w1 w2 : World} (h : Keep29 g w w1) (k : Keep29 g w1 w2) : Keep29 g w w2 := fun q cs hq hb => k q cs hq (h q cs hq hb)
theorem Keep29_below {g : Nat} {w w1 : World} (h : Below w.heap.size w w1) : Keep29 g w w1 := fun q cs _ hb => blk_below hb h
theorem Keep29_grown {g : Nat} {w w1 : World} {row : Nat} {cells : Array Value} (hg : w.grownBy w1 (some row)) (hr : w.heap[row]? = some (.cells cells 47 (0, 0))) : Keep29 g w w1 := fun q cs _ hb => blk_grown hb hg (fun e => by
  injection e with e
  subst e
  rw [hr] at hb
  injection hb with hb
  injection hb with _ hb
  cases hb)
theorem blkFar29 {w : World} {q : Nat} {o : Obj} (h : w.heap[q]? = some o) (p : Addr) (u : Value) (hne : q ≠ p.block) : (w.setCell p u).heap[q]? = some o := (Below.heap_setCell w p u q hne).trans h
/-- The cells with that of a line marked, if there is one. -/
def flushF (k : Nat) (kept : ByteArray) (l : List S47) (x : Int) : Option (List S47) :=
  (impl_Memory_findCell.f k kept l x).bind fun p => if p.2 = true then (if 0 ≤ p.1 then (if p.1 < (l.length : Int) then some (l.set p.1.toNat ⟨(rd_T47 l p.1).f0, (rd_T47 l p.1).f1, true⟩) else none) else none) else some l
theorem flushF_mono (k : Nat) (kept : ByteArray) (l : List S47) (x : Int) : LeO (flushF k kept l x) (flushF (k + 1) kept l x) := by
  unfold flushF
  exact LeO.bind (impl_Memory_findCell.mono _ _ _ _) fun _ => LeO.refl _
def impl_FlushLine.f (k : Nat) (a0_0 : ByteArray) (l0_1 : List S47) (a1 : Int) : Option (ByteArray × List S47) :=
  (impl_copyMemory.f a0_0 l0_1).bind fun m => (impl_MemoryOk.f k a0_0 l0_1).bind fun b => if b = true then (flushF k m.1 m.2 a1).bind fun l => some (m.1, l) else some m
theorem impl_FlushLine.mono : ∀ a0_0 l0_1 a1 k, LeO (impl_FlushLine.f k a0_0 l0_1 a1) (impl_FlushLine.f (k + 1) a0_0 l0_1 a1) := by
  intro a0_0 l0_1 a1 k
  unfold impl_FlushLine.f
  exact LeO.bind (LeO.refl _) fun _ => LeO.bind (impl_MemoryOk.mono _ _ _) fun _ => LeO.ite (LeO.bind (flushF_mono _ _ _ _) fun _ => LeO.refl _) (LeO.refl _)
set_option maxHeartbeats 4000000 in
set_option maxRecDepth 100000 in
theorem flush_at (k g : Nat) (kept : ByteArray) (l r2 : List S47) (v1 : Value) (x : Int) (w0 w : World) (hB : Below w0.heap.size w0 w) (hg : w0.heap.size ≤ g) (hbk : w.heap[g]? = some (.cells #[.string kept, v1] 29 (0, 0)))
    (HO : Kd.R k47 47 w w0.heap.size (fun _ => True) v1 l) (h : flushF k kept l x = some r2) :
    Calls Try.prog 46 #[.pointer (some ⟨g, 0, none⟩), .int .i64 x] w fun e w' => e = .returned (.tuple #[]) ∧ w'.heap[g]? = some (.cells #[.string kept, v1] 29 (0, 0)) ∧ Kd.R k47 47 w' w0.heap.size (fun _ => True) v1 r2 ∧ Below w0.heap.size w0 w' ∧ Keep29 g w w' := by
  obtain ⟨A, c, rfl, hlc, hC⟩ := Kd.R_reads HO
  have hz0 : w.cell? ⟨g, 0, none⟩ = some (.string kept) := (blk_cell hbk 0).trans rfl
  have hz1 : w.cell? ⟨g, 1, none⟩ = some (.slice A l.length c) := (blk_cell hbk 1).trans rfl
  unfold flushF at h
  obtain ⟨⟨i, b⟩, hp, h⟩ := Option.bind_eq_some_iff.1 h
  dsimp only at h
  have HO := Aside0.mk HO
  have HB := Aside0.mk hB
  have BK := Aside0.mk hbk
  have HC := Aside0.mk hC
  have HL := Aside0.mk hlc
  have HP := Aside0.mk hp
  have HG := Aside0.mk hg
  clear hB hbk hC hlc hp hg
  cases b
  · rw [if_neg (by simp)] at h
    cases h
    go_enter Try.func46, Try.ntmps46
    go_wp2_with (go_at_call 56; ((with_reducible refine (impl_Memory_findCell.calls k kept A c l x i false w HC.out HL.out HP.out).mono ?_)); rintro e w' ⟨rfl, hb⟩; have n0_ := Aside0.mk (blk_below BK.out hb); have n1_ := Aside0.mk (Kd.R_below HO.out hb); have n2_ := Aside0.mk (below_step HB.out hb); have KP := Aside0.mk (Keep29_below (g := g) hb); clear BK HO HB hb hz0 hz1; have BK := n0_; have HO := n1_; have HB := n2_; clear n0_ n1_ n2_)
    go_end0
    exact ⟨rfl, BK.out, HO.out, HB.out, KP.out⟩
  · rw [if_pos rfl] at h
    by_cases h0 : 0 ≤ i
    · rw [if_pos h0] at h
      by_cases h1 : i < (l.length : Int)
      · rw [if_pos h1] at h
        obtain ⟨y, hy⟩ : ∃ y : List S47, y = l.set i.toNat (⟨(rd_T47 l i).f0, (rd_T47 l i).f1, true⟩ : S47) := ⟨_, rfl⟩
        rw [← hy] at h
        cases h
        have NY := Aside0.mk hy
        clear hy
        obtain ⟨go, co, eo, gb, gl, cl, HGC⟩ := Kd.R_form HO.out (by omega)
        have HGC := Aside0.mk HGC
        (first | cases eo | (injection eo with ea_ en_ ec_; (first | subst ea_ | (injection ea_ with ea_; subst ea_)); subst ec_; clear en_))
        have GB := Aside0.mk gb
        clear gb gl
        have h0' := Aside0.mk h0
        have h1' := Aside0.mk h1
        replace h0 := eq_true h0
        replace h1 := eq_true h1
        go_enter Try.func46, Try.ntmps46
        go_wp2_with (first | (go_at_call 56; ((with_reducible refine (impl_Memory_findCell.calls k kept (some ⟨go, 0, none⟩) c l x i true w HC.out HL.out HP.out).mono ?_)); rintro e w' ⟨rfl, hb⟩; have n0_ := Aside0.mk (blk_below BK.out hb); have n1_ := Aside0.mk (Kd.R_below HO.out hb); have n2_ := Aside0.mk (below_step HB.out hb); have KP := Aside0.mk (Keep29_below (g := g) hb); have GC := Aside0.mk (blk_below HGC.out hb); clear BK HO HB hb hz0 hz1; have BK := n0_; have HO := n1_; have HB := n2_; clear n0_ n1_ n2_; have hz1 : w'.cell? ⟨g, 1, none⟩ = some (.slice (some ⟨go, 0, none⟩) l.length c) := (blk_cell BK.out 1).trans rfl; obtain ⟨ce, hcl, hM, hcc, hfr⟩ := Kd.R_elem HO.out z47 i h0'.out h1'.out; obtain rfl := k47_openM hM; have HP10 := Aside0.mk (Kd.R_seg HO.out i h0'.out h1'.out (seg := [.bool true]) (j := 2) hcl hcc (show 3 ≤ 3 from by decide) (x' := (⟨(rd_T47 l i).f0, (rd_T47 l i).f1, true⟩ : S47)) (k47_mkM _ _ _ (⟨(rd_T47 l i).f0, (rd_T47 l i).f1, true⟩ : S47)) (fun _ hk => hk)); have hx2 : w'.cell? ⟨go, i.toNat * 3 + 2, none⟩ = some (.bool ((rd_T47 l i).f2)) := hcc 2 _ rfl; have hf2 : w'.frozen? ⟨go, i.toNat * 3 + 2, none⟩ = false := hfr 2; clear hcl hcc hfr hM))
        go_end0
        exact ⟨rfl, blk_grown BK.out HP10.out.2 (Kd.R_ne HO.out BK.out (by decide)), by rw [NY.out]; exact HP10.out.1, below_set (HB.out) GB.out, Keep29_trans KP.out (Keep29_grown HP10.out.2 GC.out)⟩
      · rw [if_neg h1] at h; cases h
    · rw [if_neg h0] at h; cases h
set_option maxHeartbeats 8000000 in
set_option maxRecDepth 100000 in
theorem impl_FlushLine.calls (k : Nat) (a0_0 : ByteArray) (A0_1 : Option Addr) (c0_1 : Nat) (l0_1 : List (S47)) (a1 : Int) (r1 : ByteArray) (r2 : List (S47)) (w : World) (hr0_1 : Kd.C k47 w A0_1 l0_1.length l0_1) (hc0_1 : l0_1.length ≤ c0_1) (h : impl_FlushLine.f k a0_0 l0_1 a1 = some (r1, r2)) :
    Calls Try.prog 21 #[.agg #[.string a0_0, .slice A0_1 l0_1.length c0_1], .int .i64 a1] w fun e w' => ∃ v1_ : Value, e = .returned (.agg #[.string r1, v1_]) ∧ Kd.R k47 47 w' w.heap.size (fun _ => True) v1_ r2 ∧ Below w.heap.size w w' := by
  have hu29 := Try.underlying29
  unfold impl_FlushLine.f at h
  obtain ⟨⟨m1, m2⟩, hm, h⟩ := Option.bind_eq_some_iff.1 h
  obtain ⟨b, hb0, h⟩ := Option.bind_eq_some_iff.1 h
  have HM := Aside0.mk hm
  have HK := Aside0.mk hb0
  have HR := Aside0.mk hr0_1
  have HC := Aside0.mk hc0_1
  have HB := Aside0.mk (Below.refl w.heap.size w)
  clear hm hb0 hr0_1 hc0_1
  cases b
  · rw [if_neg (by simp)] at h
    obtain ⟨rfl, rfl⟩ : m1 = r1 ∧ m2 = r2 := by simpa using h
    clear h
    go_enter Try.func21, Try.ntmps21
    go_wp2_with (first | ((with_reducible refine gate_dst (N := 2) rfl ?_); refine box_event ?hg (N := 2) ?hd (cs := #[.string a0_0, .slice A0_1 l0_1.length c0_1]) (t := 29) ?hr ?_; (case hd => rfl); (case hg => rfl); (case hr => first | (go_simp; done) | (go_simp; rfl)); intro gA hg w3 hbox hb; have GA := Aside0.mk (show w.heap.size ≤ gA by rw [hg]; exact below_size HB.out); have n0_ := Aside0.mk (below_step HB.out hb); clear HB; have HB := n0_; have BA := Aside0.mk hbox; clear n0_ hb hbox hg) | ((with_reducible refine gate_dst (N := 4) rfl ?_); refine box_event ?hg (N := 4) ?hd (cs := #[.string (⟨#[]⟩ : ByteArray), .slice none 0 0]) (t := 29) ?hr ?_; (case hd => rfl); (case hg => rfl); (case hr => first | (go_simp; done) | (go_simp; rfl)); intro gR hg w4 hbox hb; have GR := Aside0.mk (show w.heap.size ≤ gR by rw [hg]; exact below_size HB.out); have n0_ := Aside0.mk (below_step HB.out hb); have n1_ := Aside0.mk (blk_below BA.out hb); clear HB BA; have HB := n0_; have BA := n1_; have BR := Aside0.mk hbox; clear n0_ n1_ hb hbox hg; have hA0 : w4.cell? ⟨gA, 0, none⟩ = some (.string a0_0) := (blk_cell BA.out 0).trans rfl; have hA1 : w4.cell? ⟨gA, 1, none⟩ = some (.slice A0_1 l0_1.length c0_1) := (blk_cell BA.out 1).trans rfl) | (go_at_call 41; ((with_reducible refine (impl_copyMemory.calls a0_0 A0_1 c0_1 l0_1 m1 m2 w4 (Kd.C_below HR.out HB.out) HC.out HM.out).mono ?_)); rintro e w5 ⟨v1, rfl, ho, hb⟩; obtain ⟨Ao, co, rfl⟩ := Kd.R_slice ho; have n0_ := Aside0.mk (below_step HB.out hb); have n1_ := Aside0.mk (blk_below BA.out hb); have n2_ := Aside0.mk (blk_below BR.out hb); have n3_ := Aside0.mk (Kd.R_lower ho (below_size HB.out)); clear HB BA BR hA0 hA1; have HB := n0_; have BA := n1_; have BR := n2_; have HO := n3_; clear n0_ n1_ n2_ n3_ hb ho) | ((with_reducible refine gate_dst (N := 5) rfl ?_); refine box_event ?hg (N := 5) ?hd (cs := #[.string (⟨#[]⟩ : ByteArray), .slice none 0 0]) (t := 29) ?hr ?_; (case hd => rfl); (case hg => rfl); (case hr => first | (go_simp; done) | (go_simp; rfl)); intro gM hg w6 hbox hb; have GM := Aside0.mk (show w.heap.size ≤ gM by rw [hg]; exact below_size HB.out); have NA := Aside0.mk (show gA ≠ gM by rw [hg]; exact Nat.ne_of_lt (blk_lt BA.out)); have NR := Aside0.mk (show gR ≠ gM by rw [hg]; exact Nat.ne_of_lt (blk_lt BR.out)); have n0_ := Aside0.mk (below_step HB.out hb); have n1_ := Aside0.mk (blk_below BA.out hb); have n2_ := Aside0.mk (blk_below BR.out hb); have n3_ := Aside0.mk (Kd.R_below HO.out hb); clear HB BA BR HO; have HB := n0_; have BA := n1_; have BR := n2_; have HO := n3_; have BM := Aside0.mk hbox; clear n0_ n1_ n2_ n3_ hb hbox hg; have hM0 : w6.cell? ⟨gM, 0, none⟩ = some (.string (⟨#[]⟩ : ByteArray)) := (blk_cell BM.out 0).trans rfl; have hM1 : w6.cell? ⟨gM, 1, none⟩ = some (.slice none 0 0) := (blk_cell BM.out 1).trans rfl; have fM0 := blk_frozen BM.out 0; have fM1 := blk_frozen BM.out 1; have hA0 : w6.cell? ⟨gA, 0, none⟩ = some (.string a0_0) := (blk_cell BA.out 0).trans rfl; have hA1 : w6.cell? ⟨gA, 1, none⟩ = some (.slice A0_1 l0_1.length c0_1) := (blk_cell BA.out 1).trans rfl; have hnA := NA.out; have hnA' := NA.out.symm) | (go_at_call 12; ((with_reducible refine (impl_MemoryOk.calls k a0_0 A0_1 c0_1 l0_1 _ _ (Kd.C_below HR.out (below_set (below_set (j := 0) (v := .string m1) HB.out GM.out) GM.out)) HC.out HK.out).mono ?_)); rintro e w8 ⟨rfl, hb⟩; have m0_ := Aside0.mk (show ((w6.setCell ⟨gM, 0, none⟩ (.string m1)).setCell ⟨gM, 1, none⟩ (.slice Ao m2.length co)).heap[gM]? = some (.cells #[.string m1, .slice Ao m2.length co] 29 (0, 0)) from blk_put (cs := #[.string m1, .slice none 0 0]) (blk_put (cs := #[.string (⟨#[]⟩ : ByteArray), .slice none 0 0]) BM.out 0 _ rfl) 1 _ rfl); have m2_ := Aside0.mk (show ((w6.setCell ⟨gM, 0, none⟩ (.string m1)).setCell ⟨gM, 1, none⟩ (.slice Ao m2.length co)).heap[gR]? = some (.cells #[.string (⟨#[]⟩ : ByteArray), .slice none 0 0] 29 (0, 0)) from blkFar29 (blkFar29 BR.out ⟨gM, 0, none⟩ _ NR.out) ⟨gM, 1, none⟩ _ NR.out); have m3_ := Aside0.mk (show Kd.R k47 47 ((w6.setCell ⟨gM, 0, none⟩ (.string m1)).setCell ⟨gM, 1, none⟩ (.slice Ao m2.length co)) w.heap.size (fun _ => True) (.slice Ao m2.length co) m2 from Kd.R_mono (Kd.R_far (p := ⟨gM, 1, none⟩) (Kd.R_far (p := ⟨gM, 0, none⟩) (Kd.R_types HO.out BM.out (by decide)) (fun _ hk => hk.2) (.string m1)) (fun _ hk => hk.2) (.slice Ao m2.length co)) (fun _ hk => trivial)); have m4_ := Aside0.mk (show Below w.heap.size w ((w6.setCell ⟨gM, 0, none⟩ (.string m1)).setCell ⟨gM, 1, none⟩ (.slice Ao m2.length co)) from below_set (below_set HB.out GM.out) GM.out); have n0_ := Aside0.mk (below_step m4_.out hb); have n2_ := Aside0.mk (blk_below m2_.out hb); have n3_ := Aside0.mk (Kd.R_below m3_.out hb); have n4_ := Aside0.mk (blk_below m0_.out hb); clear HB BA BR HO BM hA0 hA1 hM0 hM1 fM0 fM1 hnA hnA' m0_ m2_ m3_ m4_; have HB := n0_; have BR := n2_; have HO := n3_; have BM := n4_; clear n0_ n2_ n3_ n4_ hb; have hM0 : w8.cell? ⟨gM, 0, none⟩ = some (.string m1) := (blk_cell BM.out 0).trans rfl; have hM1 : w8.cell? ⟨gM, 1, none⟩ = some (.slice Ao m2.length co) := (blk_cell BM.out 1).trans rfl; have hR0 : w8.cell? ⟨gR, 0, none⟩ = some (.string (⟨#[]⟩ : ByteArray)) := (blk_cell BR.out 0).trans rfl; have hR1 : w8.cell? ⟨gR, 1, none⟩ = some (.slice none 0 0) := (blk_cell BR.out 1).trans rfl; have fR0 := blk_frozen BR.out 0; have fR1 := blk_frozen BR.out 1))
    refine bodyPost_ret (results_cell_row rfl _ _ gR 29 #[.string m1, .slice Ao m2.length co] (0, 0) _ rfl (blk_put (cs := #[.string m1, .slice none 0 0]) (blk_put (cs := #[.string (⟨#[]⟩ : ByteArray), .slice none 0 0]) BR.out 0 _ rfl) 1 _ rfl) Try.underlying29 rfl (by kernel_rfl)) rfl ?_
    exact ⟨_, rfl, Kd.R_mono (Kd.R_far (p := ⟨gR, 1, none⟩) (Kd.R_far (p := ⟨gR, 0, none⟩) (Kd.R_types HO.out BR.out (by decide)) (fun _ hk => hk.2) (.string m1)) (fun _ hk => hk.2) (.slice Ao m2.length co)) (fun _ hk => trivial), below_set (below_set HB.out GR.out) GR.out⟩
  · rw [if_pos rfl] at h
    obtain ⟨l2, hf, h⟩ := Option.bind_eq_some_iff.1 h
    obtain ⟨rfl, rfl⟩ : m1 = r1 ∧ l2 = r2 := by simpa using h
    have HF := Aside0.mk hf
    clear hf h
    go_enter Try.func21, Try.ntmps21
    go_wp2_with (first | ((with_reducible refine gate_dst (N := 2) rfl ?_); refine box_event ?hg (N := 2) ?hd (cs := #[.string a0_0, .slice A0_1 l0_1.length c0_1]) (t := 29) ?hr ?_; (case hd => rfl); (case hg => rfl); (case hr => first | (go_simp; done) | (go_simp; rfl)); intro gA hg w3 hbox hb; have GA := Aside0.mk (show w.heap.size ≤ gA by rw [hg]; exact below_size HB.out); have n0_ := Aside0.mk (below_step HB.out hb); clear HB; have HB := n0_; have BA := Aside0.mk hbox; clear n0_ hb hbox hg) | ((with_reducible refine gate_dst (N := 4) rfl ?_); refine box_event ?hg (N := 4) ?hd (cs := #[.string (⟨#[]⟩ : ByteArray), .slice none 0 0]) (t := 29) ?hr ?_; (case hd => rfl); (case hg => rfl); (case hr => first | (go_simp; done) | (go_simp; rfl)); intro gR hg w4 hbox hb; have GR := Aside0.mk (show w.heap.size ≤ gR by rw [hg]; exact below_size HB.out); have n0_ := Aside0.mk (below_step HB.out hb); have n1_ := Aside0.mk (blk_below BA.out hb); clear HB BA; have HB := n0_; have BA := n1_; have BR := Aside0.mk hbox; clear n0_ n1_ hb hbox hg; have hA0 : w4.cell? ⟨gA, 0, none⟩ = some (.string a0_0) := (blk_cell BA.out 0).trans rfl; have hA1 : w4.cell? ⟨gA, 1, none⟩ = some (.slice A0_1 l0_1.length c0_1) := (blk_cell BA.out 1).trans rfl) | (go_at_call 41; ((with_reducible refine (impl_copyMemory.calls a0_0 A0_1 c0_1 l0_1 m1 m2 w4 (Kd.C_below HR.out HB.out) HC.out HM.out).mono ?_)); rintro e w5 ⟨v1, rfl, ho, hb⟩; obtain ⟨Ao, co, rfl⟩ := Kd.R_slice ho; have n0_ := Aside0.mk (below_step HB.out hb); have n1_ := Aside0.mk (blk_below BA.out hb); have n2_ := Aside0.mk (blk_below BR.out hb); have n3_ := Aside0.mk (Kd.R_lower ho (below_size HB.out)); clear HB BA BR hA0 hA1; have HB := n0_; have BA := n1_; have BR := n2_; have HO := n3_; clear n0_ n1_ n2_ n3_ hb ho) | ((with_reducible refine gate_dst (N := 5) rfl ?_); refine box_event ?hg (N := 5) ?hd (cs := #[.string (⟨#[]⟩ : ByteArray), .slice none 0 0]) (t := 29) ?hr ?_; (case hd => rfl); (case hg => rfl); (case hr => first | (go_simp; done) | (go_simp; rfl)); intro gM hg w6 hbox hb; have GM := Aside0.mk (show w.heap.size ≤ gM by rw [hg]; exact below_size HB.out); have NA := Aside0.mk (show gA ≠ gM by rw [hg]; exact Nat.ne_of_lt (blk_lt BA.out)); have NR := Aside0.mk (show gR ≠ gM by rw [hg]; exact Nat.ne_of_lt (blk_lt BR.out)); have n0_ := Aside0.mk (below_step HB.out hb); have n1_ := Aside0.mk (blk_below BA.out hb); have n2_ := Aside0.mk (blk_below BR.out hb); have n3_ := Aside0.mk (Kd.R_below HO.out hb); clear HB BA BR HO; have HB := n0_; have BA := n1_; have BR := n2_; have HO := n3_; have BM := Aside0.mk hbox; clear n0_ n1_ n2_ n3_ hb hbox hg; have hM0 : w6.cell? ⟨gM, 0, none⟩ = some (.string (⟨#[]⟩ : ByteArray)) := (blk_cell BM.out 0).trans rfl; have hM1 : w6.cell? ⟨gM, 1, none⟩ = some (.slice none 0 0) := (blk_cell BM.out 1).trans rfl; have fM0 := blk_frozen BM.out 0; have fM1 := blk_frozen BM.out 1; have hA0 : w6.cell? ⟨gA, 0, none⟩ = some (.string a0_0) := (blk_cell BA.out 0).trans rfl; have hA1 : w6.cell? ⟨gA, 1, none⟩ = some (.slice A0_1 l0_1.length c0_1) := (blk_cell BA.out 1).trans rfl; have hnA := NA.out; have hnA' := NA.out.symm) | (go_at_call 12; ((with_reducible refine (impl_MemoryOk.calls k a0_0 A0_1 c0_1 l0_1 _ _ (Kd.C_below HR.out (below_set (below_set (j := 0) (v := .string m1) HB.out GM.out) GM.out)) HC.out HK.out).mono ?_)); rintro e w8 ⟨rfl, hb⟩; have m0_ := Aside0.mk (show ((w6.setCell ⟨gM, 0, none⟩ (.string m1)).setCell ⟨gM, 1, none⟩ (.slice Ao m2.length co)).heap[gM]? = some (.cells #[.string m1, .slice Ao m2.length co] 29 (0, 0)) from blk_put (cs := #[.string m1, .slice none 0 0]) (blk_put (cs := #[.string (⟨#[]⟩ : ByteArray), .slice none 0 0]) BM.out 0 _ rfl) 1 _ rfl); have m2_ := Aside0.mk (show ((w6.setCell ⟨gM, 0, none⟩ (.string m1)).setCell ⟨gM, 1, none⟩ (.slice Ao m2.length co)).heap[gR]? = some (.cells #[.string (⟨#[]⟩ : ByteArray), .slice none 0 0] 29 (0, 0)) from blkFar29 (blkFar29 BR.out ⟨gM, 0, none⟩ _ NR.out) ⟨gM, 1, none⟩ _ NR.out); have m3_ := Aside0.mk (show Kd.R k47 47 ((w6.setCell ⟨gM, 0, none⟩ (.string m1)).setCell ⟨gM, 1, none⟩ (.slice Ao m2.length co)) w.heap.size (fun _ => True) (.slice Ao m2.length co) m2 from Kd.R_mono (Kd.R_far (p := ⟨gM, 1, none⟩) (Kd.R_far (p := ⟨gM, 0, none⟩) (Kd.R_types HO.out BM.out (by decide)) (fun _ hk => hk.2) (.string m1)) (fun _ hk => hk.2) (.slice Ao m2.length co)) (fun _ hk => trivial)); have m4_ := Aside0.mk (show Below w.heap.size w ((w6.setCell ⟨gM, 0, none⟩ (.string m1)).setCell ⟨gM, 1, none⟩ (.slice Ao m2.length co)) from below_set (below_set HB.out GM.out) GM.out); have n0_ := Aside0.mk (below_step m4_.out hb); have n2_ := Aside0.mk (blk_below m2_.out hb); have n3_ := Aside0.mk (Kd.R_below m3_.out hb); have n4_ := Aside0.mk (blk_below m0_.out hb); clear HB BA BR HO BM hA0 hA1 hM0 hM1 fM0 fM1 hnA hnA' m0_ m2_ m3_ m4_; have HB := n0_; have BR := n2_; have HO := n3_; have BM := n4_; clear n0_ n2_ n3_ n4_ hb; have hM0 : w8.cell? ⟨gM, 0, none⟩ = some (.string m1) := (blk_cell BM.out 0).trans rfl; have hM1 : w8.cell? ⟨gM, 1, none⟩ = some (.slice Ao m2.length co) := (blk_cell BM.out 1).trans rfl; have hR0 : w8.cell? ⟨gR, 0, none⟩ = some (.string (⟨#[]⟩ : ByteArray)) := (blk_cell BR.out 0).trans rfl; have hR1 : w8.cell? ⟨gR, 1, none⟩ = some (.slice none 0 0) := (blk_cell BR.out 1).trans rfl; have fR0 := blk_frozen BR.out 0; have fR1 := blk_frozen BR.out 1) | (go_at_call 46; ((with_reducible refine (flush_at k gM m1 m2 _ _ a1 w w8 HB.out GM.out BM.out HO.out HF.out).mono ?_)); rintro e w9 ⟨rfl, bm, ho, hb, hk⟩; have n0_ := Aside0.mk (hk gR _ NR.out BR.out); clear BR HB HO BM; have BR := n0_; have HB := Aside0.mk hb; have HO := Aside0.mk ho; have BM := Aside0.mk bm; clear n0_ hb ho bm hk hM0 hM1 hR0 hR1 fR0 fR1; have hM0 : w9.cell? ⟨gM, 0, none⟩ = some (.string m1) := (blk_cell BM.out 0).trans rfl; have hM1 : w9.cell? ⟨gM, 1, none⟩ = some (.slice Ao m2.length co) := (blk_cell BM.out 1).trans rfl; have hR0 : w9.cell? ⟨gR, 0, none⟩ = some (.string (⟨#[]⟩ : ByteArray)) := (blk_cell BR.out 0).trans rfl; have hR1 : w9.cell? ⟨gR, 1, none⟩ = some (.slice none 0 0) := (blk_cell BR.out 1).trans rfl; have fR0 := blk_frozen BR.out 0; have fR1 := blk_frozen BR.out 1))
    refine bodyPost_ret (results_cell_row rfl _ _ gR 29 #[.string m1, .slice Ao m2.length co] (0, 0) _ rfl (blk_put (cs := #[.string m1, .slice none 0 0]) (blk_put (cs := #[.string (⟨#[]⟩ : ByteArray), .slice none 0 0]) BR.out 0 _ rfl) 1 _ rfl) Try.underlying29 rfl (by kernel_rfl)) rfl ?_
    exact ⟨_, rfl, Kd.R_mono (Kd.R_far (p := ⟨gR, 1, none⟩) (Kd.R_far (p := ⟨gR, 0, none⟩) (Kd.R_types HO.out BR.out (by decide)) (fun _ hk => hk.2) (.string m1)) (fun _ hk => hk.2) (.slice Ao m2.length co)) (fun _ hk => trivial), below_set (below_set HB.out GR.out) GR.out⟩

end Go.Proofs.Ytcfdabmeejfcoaa.PFnExactFlushLine
