-- Written by a program of this session for this claim; Lean checks it.
import Derived.Test.YtcfdabmeejfcoaaMFnExactFencex0
import Derived.Test.YtcfdabmeejfcoaaMFnExactFencex5
import Derived.Test.YtcfdabmeejfcoaaMFnExactFencex6
namespace Go.Proofs.Ytcfdabmeejfcoaa.PFnExactFence
open Go.RowKit Go.Proofs.YtcfdabmeejfcoaaW.PrintWords Go.Proofs.YtcfdabmeejfcoaaW.PrintLast Go.Proofs.YtcfdabmeejfcoaaW.PrintMore
attribute [local go_sem] max2_int min2_int max_two min_two max_three min_three max_four min_four   -- for this text's walks alone
set_option linter.unusedVariables false
set_option linter.unusedSimpArgs false

/-! ### impl_Cell: function 55 -/
def impl_Cell.f (l0 : List S47) : Option (List S47) := if l0.length < 4398046511104 then some l0 else none
set_option maxHeartbeats 4000000 in
set_option maxRecDepth 100000 in
theorem impl_Cell.calls (A0 : Option Addr) (c0 : Nat) (l0 : List S47) (r : List S47) (w : World) (hr0 : Kd.C k47 w A0 l0.length l0) (hc0 : l0.length ≤ c0) (h : impl_Cell.f l0 = some r) :
    Calls Try.prog 55 #[.slice A0 l0.length c0] w fun e w' => ∃ v_ : Value, e = .returned v_ ∧ Kd.R k47 47 w' w.heap.size (fun _ => True) v_ r ∧ Below w.heap.size w w' := by
  have q27 : ∀ (w : World) (a : Option Addr) (n c n' c' : Nat), (binOp .eql 27 (.slice a n c) (.slice none n' c')).run Try.prog w = .ok (.bool a.isNone) w := fun w a n c n' c' => Lib.run_eql_slice_nil w _ _ a n c n' c' Try.underlying27
  unfold impl_Cell.f at h
  by_cases hl : l0.length < 4398046511104
  · rw [if_pos hl] at h
    cases h
    have HB := Aside0.mk (Below.refl w.heap.size w)
    have HR := Aside0.mk hr0
    have HL := Aside0.mk hl
    clear hl
    cases A0 with
    | none =>
      have h0 : l0 = [] := by
        cases l0 with
        | nil => rfl
        | cons a l =>
          obtain ⟨ad, e, _⟩ := hr0.2.2 (by simp)
          cases e
      subst h0
      clear hr0 hc0
      go_enter Try.func55, Try.ntmps55
      go_wp2
      go_ret
      exact ⟨_, rfl, Kd.R_nil _ _ _ _ _, Below.refl _ _⟩
    | some ad =>
      clear hr0 hc0
      go_enter Try.func55, Try.ntmps55
      go_wp2_with (first | ((with_reducible refine gate_dst (N := 5) rfl ?_); refine Kd.R_lit k47 _ 47 ?hg (N := 5) ?hd (xs := ([] : List (S47))) (inner := []) (ok := fun _ => True) (okp := fun _ => True) ?hr ?hp (fun _ hk => hk) trivial (Below.refl _ _) (Nat.le_refl _) (by simp) ?_; (case hd => rfl); (case hg => rfl); (case hr => first | (go_simp; done) | (go_simp; rfl)); (case hp => exact (Reps.none _ _)); intro v159 w6 ho7 hb hg_ hnew_; clear hg_ hnew_; have n0_ := Aside0.mk (Kd.R_lower ho7 (below_size HB.out)); have n1_ := Aside0.mk (below_step HB.out hb); clear HB; have HO := n0_; have HB := n1_; clear n0_ n1_; clear hb ho7) | (at_builtin; refine Kd.R_append_rows k47 (w0 := w) w.heap.size rfl (.tmp 5) (.tmp 6) 27 47 (.agg #[(.int .i64 0), (.string ⟨#[]⟩), (.bool false)]) 32 rfl Try.underlying27 info47 rfl (by decide) (by omega) v159 [] l0 _ _ _ (fun _ => True) (fun _ => False) rfl rfl ?aO ?aR (fun _ _ h => h) (fun _ h => h.elim) ?aF ?aB ?aS ?aL ?_; (case aR => exact (Kd.C_below HR.out HB.out)); (case aB => exact HB.out); (case aF => exact (fun _ _ => trivial)); (case aO => exact HO.out); (case aS => exact below_size HB.out); (case aL => have := HL.out; simp only [List.length_nil]; omega); intro v162 w8 ho hb hg hat; rw [List.nil_append] at ho; have n1_ := Aside0.mk hb; have n2_ := Aside0.mk ho; clear HB HO ho hb hg hat; have HB := n1_; have HO := n2_; clear n1_ n2_))
      go_ret
      exact ⟨_, rfl, HO.out, HB.out⟩
  · rw [if_neg hl] at h
    cases h

/-! ### impl_copyMemory: function 41 -/
def impl_copyMemory.f (a0_0 : ByteArray) (l0_1 : List (S47)) : Option (ByteArray × (List (S47))) := (impl_Cell.f l0_1).bind fun t186 => (some (a0_0, t186))
set_option maxHeartbeats 8000000 in
set_option maxRecDepth 100000 in
theorem impl_copyMemory.calls (a0_0 : ByteArray) (A0_1 : Option Addr) (c0_1 : Nat) (l0_1 : List (S47)) (r1 : ByteArray) (r2 : List (S47)) (w : World) (hr0_1 : Kd.C k47 w A0_1 l0_1.length l0_1) (hc0_1 : l0_1.length ≤ c0_1) (h : impl_copyMemory.f a0_0 l0_1 = some (r1, r2)) :
    Calls Try.prog 41 #[.agg #[.string a0_0, .slice A0_1 l0_1.length c0_1]] w fun e w' => ∃ v1_ : Value, e = .returned (.agg #[.string r1, v1_]) ∧ Kd.R k47 47 w' w.heap.size (fun _ => True) v1_ r2 ∧ Below w.heap.size w w' := by
  have hu29 := Try.underlying29
  have HR0_1 := Aside0.mk hr0_1
  have HC0_1 := Aside0.mk hc0_1
  clear hr0_1 hc0_1
  have HB := Aside0.mk (Below.refl w.heap.size w)
  have H : ((impl_Cell.f l0_1).bind fun t186 => (some (a0_0, t186))) = some (r1, r2) := h
  clear h
  replace H := Option.bind_eq_some_iff.mp H
  obtain ⟨t186, A20, H⟩ := H
  replace H : (some (a0_0, t186)) = some (r1, r2) := H
  have A2 := Aside0.mk A20
  clear A20
  simp only [Option.some.injEq, Prod.mk.injEq] at H
  obtain ⟨rfl, rfl⟩ := H
  go_enter Try.func41, Try.ntmps41
  try go_wp2_with (first | ((with_reducible refine gate_dst (N := 1) rfl ?_); refine box_event ?hg (N := 1) ?hd (cs := #[.string a0_0, .slice A0_1 l0_1.length c0_1]) (t := 29) ?hr ?_; (case hd => rfl); (case hg => rfl); (case hr => first | (go_simp; done) | (go_simp; rfl)); intro gb184 hg w3 hbox hb; have n0_ := Aside0.mk (below_step (by repeat (first | (with_reducible first | exact HB.out | apply below_alloc | apply pw_below_drewN | apply below_drew1) | exact HB.out)) hb); have n1_ := Aside0.mk (hbox); have n2_ := Aside0.mk ((by rw [hg]; exact (below_size (by repeat (first | (with_reducible first | exact HB.out | apply below_alloc | apply pw_below_drewN | apply below_drew1) | exact HB.out))) : w.heap.size ≤ gb184)); have n3_ := Aside0.mk ((by rw [hg]; exact (below_size (by repeat (first | (with_reducible first | exact HB.out | apply below_alloc | apply pw_below_drewN | apply below_drew1) | exact HB.out))) : w.heap.size ≤ gb184)); clear HB; have HB := n0_; have BK184 := n1_; have GW184 := n2_; have GE184 := n3_; clear n0_ n1_ n2_ n3_; clear hb hbox hg) | ((with_reducible refine gate_dst (N := 2) rfl ?_); refine box_event ?hg (N := 2) ?hd (cs := #[.string (⟨#[]⟩ : ByteArray), .slice none 0 0]) (t := 29) ?hr ?_; (case hd => rfl); (case hg => rfl); (case hr => first | (go_simp; done) | (go_simp; rfl)); intro gb185 hg w4 hbox hb; have n0_ := Aside0.mk (blk_below (g := gb184) (o := .cells #[.string a0_0, .slice A0_1 l0_1.length c0_1] 29 (0, 0)) (by (with_reducible repeat (first | refine blk_drewN ?_ _ | refine blk_drew ?_ | refine blk_alloc ?_ _)); exact BK184.out) hb); have n1_ := Aside0.mk (below_step (by repeat (first | (with_reducible first | exact HB.out | apply below_alloc | apply pw_below_drewN | apply below_drew1 | refine below_set ?_ GE184.out) | exact HB.out)) hb); have n2_ := Aside0.mk (hbox); have n3_ := Aside0.mk ((by rw [hg]; exact (below_size (by repeat (first | (with_reducible first | exact HB.out | apply below_alloc | apply pw_below_drewN | apply below_drew1 | refine below_set ?_ GE184.out) | exact HB.out))) : w.heap.size ≤ gb185)); have n4_ := Aside0.mk ((by rw [hg]; exact (below_size (by repeat (first | (with_reducible first | exact HB.out | apply below_alloc | apply pw_below_drewN | apply below_drew1 | refine below_set ?_ GE184.out) | exact HB.out))) : w.heap.size ≤ gb185)); have n5_ := Aside0.mk ((by rw [hg]; exact Nat.ne_of_lt (blk_lt (g := gb184) (o := .cells #[.string a0_0, .slice A0_1 l0_1.length c0_1] 29 (0, 0)) (by (with_reducible repeat (first | refine blk_drewN ?_ _ | refine blk_drew ?_ | refine blk_alloc ?_ _)); exact BK184.out)) : gb184 ≠ gb185)); have n6_ := Aside0.mk ((by rw [hg]; exact Nat.ne_of_gt (blk_lt (g := gb184) (o := .cells #[.string a0_0, .slice A0_1 l0_1.length c0_1] 29 (0, 0)) (by (with_reducible repeat (first | refine blk_drewN ?_ _ | refine blk_drew ?_ | refine blk_alloc ?_ _)); exact BK184.out)) : gb185 ≠ gb184)); clear BK184; clear HB; have BK184 := n0_; have HB := n1_; have BK185 := n2_; have GW185 := n3_; have GE185 := n4_; have NB184_185 := n5_; have NB185_184 := n6_; clear n0_ n1_ n2_ n3_ n4_ n5_ n6_; clear hb hbox hg))
  have n0_ := Aside0.mk (blk_drew BK184.out)
  have n1_ := Aside0.mk (blk_drew BK185.out)
  have n2_ := Aside0.mk (below_drew1 HB.out)
  clear BK184
  clear BK185
  clear HB
  have BK184 := n0_
  have BK185 := n1_
  have HB := n2_
  clear n0_ n1_ n2_
  refine start_ (n := 7) (S := fun w' => w'.cell? ⟨gb184, 0, none⟩ = some (.string a0_0) ∧ w'.cell? ⟨gb184, 1, none⟩ = some (.slice A0_1 l0_1.length c0_1)) (ds := []) #[false, false, false, false, false, false, false] (by kernel_rfl) rfl rfl ⟨(blk_cell BK184.out 0).trans rfl, (blk_cell BK184.out 1).trans rfl⟩ (fun hHeld => ?_)
  generalize w4.drew = w5 at BK184 BK185 HB hHeld ⊢
  refine pure_ (i := 0) (N := some 3) (v := ?_) (a' := ?_) #[true, false, false, false, false, false, false] rfl rfl (by kernel_rfl) (fun _ _ _ h => h) (Or.inl ⟨by rfl, ?_⟩) ?_ ?_
  rotate_left
  · intro w'
    go_simp
    with_reducible rfl
  rotate_left
  · simp only [Act.put, List.setIfInBounds_toArray, List.set_cons_zero, List.set_cons_succ, i64_w, i32_w]
    rfl
  refine pure_ (i := 2) (N := some 5) (v := ?_) (a' := ?_) #[true, false, true, false, false, false, false] rfl rfl (by kernel_rfl) (fun _ _ _ h => h) (Or.inl ⟨by rfl, ?_⟩) ?_ ?_
  rotate_left
  · intro w'
    go_simp
    with_reducible rfl
  rotate_left
  · simp only [Act.put, List.setIfInBounds_toArray, List.set_cons_zero, List.set_cons_succ, i64_w, i32_w]
    rfl
  refine take_ (i := 1) (N := some 4) (v := ?_) (a' := ?_) #[true, true, true, false, false, false, false] rfl rfl (by kernel_rfl) (fun _ _ _ h => h) (Or.inl ⟨by rfl, ?_⟩) hHeld ?_ ?_
  rotate_left
  · rintro w' ⟨s0, s1⟩
    go_simp
    with_reducible rfl
  rotate_left
  · simp only [Act.put, List.setIfInBounds_toArray, List.set_cons_zero, List.set_cons_succ, i64_w, i32_w]
    rfl
  refine take_ (i := 3) (N := some 6) (v := ?_) (a' := ?_) #[true, true, true, true, false, false, false] rfl rfl (by kernel_rfl) (fun _ _ _ h => h) (Or.inl ⟨by rfl, ?_⟩) hHeld ?_ ?_
  rotate_left
  · rintro w' ⟨s0, s1⟩
    go_simp
    with_reducible rfl
  rotate_left
  · simp only [Act.put, List.setIfInBounds_toArray, List.set_cons_zero, List.set_cons_succ, i64_w, i32_w]
    rfl
  refine one_ (i := 4) (N := some 7) #[true, true, true, true, true, false, false] rfl rfl (by kernel_rfl) (by decide) (fun K hK => ?_)
  refine goes_ Try.func55 (by kernel_rfl) rfl #[.slice A0_1 l0_1.length c0_1] (by rfl) rfl rfl (by (try simp only [List.map_toArray, List.map_cons, List.map_nil]); first | done | rfl | (simp only [List.length_drop, List.length_take]; rfl)) ?_
  with_reducible refine (impl_Cell.calls _ _ l0_1 t186 _ ?side1 ?side2 A2.out).mono ?_
  (case side1 => repeat (first | exact (Kd.C_below HR0_1.out HB.out) | (with_reducible refine Kd.C_alloc ?_ _) | (with_reducible refine Kd.C_drewN ?_ _) | (with_reducible refine Kd.C_drew ?_)))
  (case side2 => exact HC0_1.out)
  rintro e w6 ⟨v187, rfl, ho0, hb⟩
  refine ⟨_, rfl, ?_⟩
  have n0_ := Aside0.mk (Kd.R_lower ho0 (below_size (by repeat (first | (with_reducible first | exact HB.out | apply below_alloc | apply pw_below_drewN | apply below_drew1 | refine below_set ?_ GE184.out | refine below_set ?_ GE185.out) | exact HB.out))))
  have n1_ := Aside0.mk (blk_below (g := gb184) (o := .cells #[.string a0_0, .slice A0_1 l0_1.length c0_1] 29 (0, 0)) (by (with_reducible repeat (first | refine blk_drewN ?_ _ | refine blk_drew ?_ | refine blk_alloc ?_ _)); exact BK184.out) hb)
  have n2_ := Aside0.mk (blk_below (g := gb185) (o := .cells #[.string (⟨#[]⟩ : ByteArray), .slice none 0 0] 29 (0, 0)) (by (with_reducible repeat (first | refine blk_drewN ?_ _ | refine blk_drew ?_ | refine blk_alloc ?_ _)); exact BK185.out) hb)
  have n3_ := Aside0.mk (below_step (by repeat (first | (with_reducible first | exact HB.out | apply below_alloc | apply pw_below_drewN | apply below_drew1 | refine below_set ?_ GE184.out | refine below_set ?_ GE185.out) | exact HB.out)) hb)
  clear BK184
  clear BK185
  clear HB
  have HO188 := n0_
  have BK184 := n1_
  have BK185 := n2_
  have HB := n3_
  clear n0_ n1_ n2_ n3_
  (try clear hb)
  (try clear hb2)
  (try clear hk)
  (try clear hi)
  (try clear ho0)
  obtain ⟨Ao7, co7, eo7⟩ := Kd.R_slice HO188.out
  (first | subst eo7 | (injection eo7 with f1_ f2_ f3_; have f4_ := f1_.symm; have f5_ := f3_.symm; clear f1_ f2_ f3_; subst f4_; subst f5_))
  refine hK.out _ _ ⟨(blk_cell BK184.out 0).trans rfl, (blk_cell BK184.out 1).trans rfl⟩ (fun hHeld => ?_)
  clear hK K
  refine norm_ (a' := ?_) ?_ ?_
  rotate_left
  · show Act.put _ (some 7) _ = _
    simp only [Act.put, List.setIfInBounds_toArray, List.set_cons_zero, List.set_cons_succ, i64_w, i32_w]
    rfl
  refine pure_ (i := 5) (N := some 8) (v := ?_) (a' := ?_) #[true, true, true, true, true, true, false] rfl rfl (by kernel_rfl) (fun _ _ _ h => h) (Or.inl ⟨by rfl, ?_⟩) ?_ ?_
  rotate_left
  · intro w'
    go_simp
    with_reducible rfl
  rotate_left
  · simp only [Act.put, List.setIfInBounds_toArray, List.set_cons_zero, List.set_cons_succ, i64_w, i32_w]
    rfl
  refine one_ (i := 6) (N := none) #[true, true, true, true, true, true, true] rfl rfl (by kernel_rfl) (by decide) (fun K hK => ?_)
  have hs8 : w6.cell? ⟨gb185, 0, none⟩ = some (.string (⟨#[]⟩ : ByteArray)) := (blk_cell BK185.out 0).trans rfl
  have hfs8 := blk_frozen BK185.out 0
  have hns8_0 := NB184_185.out
  have hms8_0 := NB185_184.out
  have hs9 : w6.cell? ⟨gb185, 1, none⟩ = some (.slice none 0 0) := (blk_cell BK185.out 1).trans rfl
  have hfs9 := blk_frozen BK185.out 1
  have hns9_0 := NB184_185.out
  have hms9_0 := NB185_184.out
  refine skip_ (w1 := ?_) (by rfl) rfl ?_ ?_
  rotate_left
  · go_simp
    rfl
  refine hK.out _ _ ⟨((cell_far (p := ⟨gb185, _, none⟩) NB184_185.out _).trans (((cell_far (p := ⟨gb185, _, none⟩) NB184_185.out _).trans (hHeld.1)))), ((cell_far (p := ⟨gb185, _, none⟩) NB184_185.out _).trans (((cell_far (p := ⟨gb185, _, none⟩) NB184_185.out _).trans (hHeld.2))))⟩ (fun hHeld => ?_)
  clear hK K
  refine done_ (by kernel_rfl) ?_
  try go_wp2
  refine bodyPost_ret (results_cell_row rfl _ _ gb185 29 #[.string a0_0, .slice Ao7 t186.length co7] (0, 0) _ rfl (by (with_reducible repeat (first | refine blk_drewN ?_ _ | refine blk_drew ?_ | refine blk_alloc ?_ _)); refine blk_put (cs := #[.string a0_0, .slice none 0 0]) ?_ 1 _ rfl; (with_reducible repeat (first | refine blk_drewN ?_ _ | refine blk_drew ?_ | refine blk_alloc ?_ _)); refine blk_put (cs := #[.string (⟨#[]⟩ : ByteArray), .slice none 0 0]) ?_ 0 _ rfl; (with_reducible repeat (first | refine blk_drewN ?_ _ | refine blk_drew ?_ | refine blk_alloc ?_ _)); exact BK185.out) Try.underlying29 rfl (by kernel_rfl)) rfl ?_
  exact ⟨_, by first | rfl | (simp [errW_none, errW_some] <;> rfl) | (simp [*, errW_none, errW_some] <;> rfl), by (with_reducible repeat (first | apply Kd.R_alloc | apply Kd.R_drewN | apply Kd.R_drew)); exact Kd.R_mono (Kd.R_far (p := ⟨gb185, 1, none⟩) (Kd.R_far (p := ⟨gb185, 0, none⟩) (Kd.R_types HO188.out BK185.out (by decide)) (fun _ hk => hk.2) (.string a0_0)) (fun _ hk => hk.2) (.slice Ao7 t186.length co7)) (fun _ hk => trivial), by repeat (first | (with_reducible first | exact HB.out | apply below_alloc | apply pw_below_drewN | apply below_drew1 | refine below_set ?_ GE184.out | refine below_set ?_ GE185.out) | exact HB.out)⟩

-- NOT PRINTED: function 59 (impl_Memory_keep)

-- NOT PRINTED: function 48 (impl_Memory_fence)

/-! ### impl_Fence: function 23 -/
/-- Every block of the type of a memory, but one, is as it was. -/
def Keep29 (g : Nat) (w w' : World) : Prop := ∀ q cs, q ≠ g → w.heap[q]? = some (.cells cs 29 (0, 0)) → w'.heap[q]? = some (.cells cs 29 (0, 0))
theorem Keep29_refl (g : Nat) (w : World) : Keep29 g w w := fun _ _ _ h => h
theorem Keep29_trans {g : Nat} {w w1 w2 : World} (h : Keep29 g w w1) (k : Keep29 g w1 w2) : Keep29 g w w2 := fun q cs hq hb => k q cs hq (h q cs hq hb)
theorem Keep29_below {g : Nat} {w w1 : World} (h : Below w.heap.size w w1) : Keep29 g w w1 := fun q cs _ hb => blk_below hb h
theorem Keep29_grown {g : Nat} {w w1 : World} {row : Nat} {cells : Array Value} (hg : w.grownBy w1 (some row)) (hr : w.heap[row]? = some (.cells cells 47 (0, 0))) : Keep29 g w w1 := fun q cs _ hb => blk_grown hb hg (fun e => by
  injection e with e
  subst e
  rw [hr] at hb
  injection hb with hb
  injection hb with _ hb
  cases hb)
theorem blkFar29 {w : World} {q : Nat} {o : Obj} (h : w.heap[q]? = some o) (p : Addr) (u : Value) (hne : q ≠ p.block) : (w.setCell p u).heap[q]? = some o := (Below.heap_setCell w p u q hne).trans h
/-- A whole array into a block that holds one. -/
theorem store_rowAll {P : Program} {ops : Array Oper} {rest : List Oper} {o : Oper} {a : Act} {Q : Exit → Act → World → Prop} {W : World} (hgd : o.guard = none) (t : TypeId) (x y : Operand) (ho : o.op = .store t x y) (hN : o.dst = none) (g : Nat)
    (hx : a.eval x = .pointer (some ⟨g, 0, none⟩)) (c c' : Array Value) (hy : a.eval y = .agg c') (t' : TypeId) (hg : W.heap[g]? = some (.cells c t' (0, 0))) (hi : (P.info? t).map (·.size) = some c'.size) (hs : c.size = c'.size) (h1 : c'.all (·.oneCell') = true)
    (h : ∀ w1, w1.heap[g]? = some (.cells c' t' (0, 0)) → (∀ q, q ≠ g → w1.heap[q]? = W.heap[q]?) → Below g W w1 → wpList P ops Q rest a w1) : wpList P ops Q (o :: rest) a W := by
  have hrun : (Instr.storeAt t (.pointer (some ⟨g, 0, none⟩)) (.agg c')).run P W = .ok () (W.setRow g c') := by
    simp only [Instr.storeAt, Instr.sureAddr, Sem.run_bind, Sem.run_pure, Result.andThen_ok]
    exact run_storeVar_row W g t' t c c' hg hi hs h1
  refine wpList_plain hgd fun K hK => ?_
  unfold Oper.wp execOp
  simp only [ho, hx, hy, Sem.run_bind, Sem.run_pure, Result.andThen_ok, hrun]
  show K (a.put o.dst undef) _
  rw [hN]
  exact hK a _ (h _ (setRow_heap W g c c' t' (0, 0) hg) (fun q hq => setRow_other W g q c' hq) ⟨rfl, rfl, rfl, by simp [size_setRow], fun k hk => setRow_other W g k c' (Nat.ne_of_lt hk)⟩)
/-- A row of bytes that may be appended to: no cell of its block is frozen (the frozen range may lie behind its end, as a conversion of a string lays it). -/
def OwnU (w : World) (base : Nat) (e : TypeId) (v : Value) (xs : List Int) : Prop :=
  ∃ g cap cur fz, v = .slice (some ⟨g, 0, none⟩) xs.length cap ∧ base ≤ g ∧ w.heap[g]? = some (.cells cur e fz) ∧ (∀ j, j < cur.size → ¬ (fz.1 ≤ j ∧ j < fz.2)) ∧ xs.length ≤ cap ∧ cap ≤ maxLen ∧ cur.size = cap ∧ cur.toList.take xs.length = nums .u8 xs
theorem OwnU.conv (w : World) (e : TypeId) (s : ByteArray) (hs : s.size ≤ maxLen) : OwnU (Lib.bytesWorld w e s) w.heap.size e (.slice (some ⟨w.heap.size, 0, none⟩) s.size (grownCap w s.size 0 e)) (bytesOf s) := by
  have hge := grownCap_ge w s.size 0 e
  have hle := grownCap_le_maxLen w s.size 0 e hs
  have hl : (bytesOf s).length = s.size := bytesOf_length s
  have hsz : (Lib.bytesCells w e s).size = grownCap w s.size 0 e := by
    unfold Lib.bytesCells
    rw [Array.size_append, Array.size_map, Array.size_replicate]
    have : s.data.size = s.size := rfl
    omega
  refine ⟨w.heap.size, grownCap w s.size 0 e, _, _, by rw [hl], Nat.le_refl _, Lib.bytesWorld_at_new w e s, fun j hj => by simp only; omega, by omega, hle, hsz, ?_⟩
  have hml : (s.data.map fun b => Value.int .u8 (b.toNat : Int)).toList.length = (bytesOf s).length := by
    rw [hl]
    simp
  unfold Lib.bytesCells
  rw [Array.toList_append, List.take_append_of_le_length (Nat.le_of_eq hml.symm), List.take_of_length_le (Nat.le_of_eq hml)]
  simp [bytesOf, nums]
theorem OwnU.cell {w : World} {base : Nat} {e : TypeId} {v : Value} {xs : List Int} (h : OwnU w base e v xs) : ∃ g cap, v = .slice (some ⟨g, 0, none⟩) xs.length cap ∧ base ≤ g ∧ g < w.heap.size ∧ ∀ j u, (nums .u8 xs)[j]? = some u → w.cell? ((⟨g, 0, none⟩ : Addr).add j) = some u := by
  obtain ⟨g, cap, cur, fz, rfl, hb, hg, hf, hn, hm, hc, ht⟩ := h
  refine ⟨g, cap, rfl, hb, (Array.getElem?_eq_some_iff.1 hg).1, fun j u hu => ?_⟩
  rw [add_plain, cell_of_row w g j cur e fz hg]
  rw [← ht, List.getElem?_take] at hu
  split at hu
  · simpa using hu
  · cases hu
theorem OwnU.keep {w w1 : World} {base : Nat} {e : TypeId} {v : Value} {xs : List Int} (h : OwnU w base e v xs) (hm : ∀ k, v.ownBlock = some k → w1.heap[k]? = w.heap[k]?) : OwnU w1 base e v xs := by
  obtain ⟨g, cap, cur, fz, rfl, hb, hg, r⟩ := h
  exact ⟨g, cap, cur, fz, rfl, hb, (hm g (by simp [Value.ownBlock])).trans hg, r⟩
/-- 'run_storeCells_at', where no cell of the row is frozen. -/
theorem storeCells_U (P : Program) (g o : Nat) (t : TypeId) (fz : Nat × Nat) : ∀ (vs : List Value) (i : Nat) (cur : Array Value) (w : World), w.heap[g]? = some (.cells cur t fz) → (∀ j, j < cur.size → ¬ (fz.1 ≤ j ∧ j < fz.2)) → o + i + vs.length ≤ cur.size → (∀ v ∈ vs, v.oneCell' = true) →
    (storeCells ⟨g, o, none⟩ vs i).run P w = .ok () (w.setRow g (cur.toList.take (o + i) ++ vs ++ cur.toList.drop (o + i + vs.length)).toArray)
  | [], i, cur, w, hg, _, _, _ => by
    simp only [storeCells, List.append_nil, List.length_nil, Nat.add_zero, List.take_append_drop, Array.toArray_toList]
    rw [setRow_self w g cur t fz hg]
    rfl
  | v :: rest, i, cur, w, hg, hfz, hl, h1 => by
    have hi : o + i < cur.size := by simp at hl; omega
    have hadd : (⟨g, o, none⟩ : Addr).add i = ⟨g, o + i, none⟩ := by unfold Addr.add; split <;> simp_all
    have hcell : w.cell? ⟨g, o + i, none⟩ = some cur[o + i] := by simp [World.cell?, hg, hi]
    have hfro : w.frozen? ⟨g, o + i, none⟩ = false := by
      have h_ := hfz (o + i) hi
      obtain ⟨lo, hi'⟩ := fz
      simp only [World.frozen?, hg, Bool.and_eq_false_iff, decide_eq_false_iff_not]
      simp only at h_
      omega
    have hst : (store ((⟨g, o, none⟩ : Addr).add i) v).run P w = .ok () (w.setRow g (cur.setIfInBounds (o + i) v)) := by
      rw [hadd, run_store P w _ v _ (h1 v (by simp)), hcell]
      simp [hfro, setCell_eq_setRow w g (o + i) cur t fz v hg]
    have ih := storeCells_U P g o t fz rest (i + 1) (cur.setIfInBounds (o + i) v) (w.setRow g (cur.setIfInBounds (o + i) v)) (setRow_heap w g cur _ t _ hg) (by simpa using hfz) (by simp at hl ⊢; omega) (fun x hx => h1 x (by simp [hx]))
    simp only [storeCells, Sem.run_bind, hst, Result.andThen_ok, ih, setRow_setRow]
    congr 3
    have e := list_seg_step cur.toList (o + i) v rest (by simp at hl ⊢; omega)
    simpa [Array.toList_setIfInBounds, Nat.add_assoc] using e
/-- 'append' to such a row. -/
theorem OwnU.append {P : Program} {w : World} {base : Nat} (t ty e : TypeId) (i : TypeInfo) (ht : P.underlying t = some (.slice e)) (hi : P.info? e = some i) (hz : i.zero = some (.int .u8 0)) (hsize : i.size = 1) (hby : i.bytes = 1)
    {v : Value} {xs : List Int} (h : OwnU w base e v xs) (a : Addr) (m c : Nat) (ys : List Int) (hl : ys.length = m) (hnews : ∀ j u, (nums .u8 ys)[j]? = some u → w.cell? (a.add j) = some u) (h48 : xs.length + m ≤ 140737488355328) (hbase : base ≤ w.heap.size) :
    ∃ v' w', (Builtin.append_ #[t, t] ty #[v, .slice (some a) m c]).run P w = .ok v' w' ∧ OwnU w' base e v' (xs ++ ys) ∧ w.grownBy w' v.ownBlock ∧ (v'.ownBlock = v.ownBlock ∨ ∃ b, v'.ownBlock = some b ∧ w.heap.size ≤ b) := by
  have hce := h.cell
  obtain ⟨g, cap, cur, fz, rfl, hbg, hg, hfz, hnc, hcm, hcs, htake⟩ := h
  obtain ⟨g2, cap2, e2, _, _, holds⟩ := hce
  obtain ⟨rfl, rfl⟩ : g2 = g ∧ cap2 = cap := by simpa [eq_comm] using e2
  have hnl : (nums .u8 ys).length = m := by simp [nums, hl]
  have hxl : (nums .u8 xs).length = xs.length := by simp [nums]
  have h1 : ∀ u ∈ nums .u8 ys, u.oneCell' = true := by
    intro u hu
    obtain ⟨x, _, rfl⟩ := List.mem_map.1 hu
    rfl
  have hn : nums .u8 (xs ++ ys) = nums .u8 xs ++ nums .u8 ys := by simp [nums]
  have hm : xs.length + m ≤ maxLen := by unfold maxLen; omega
  by_cases hroom : xs.length + m ≤ cap2
  · have hf := run_firstCells_some (P := P) w i.size m a m c (nums .u8 ys) (by rw [hsize, hnl, Nat.mul_one]) hnews
    have hst := storeCells_U P g2 (xs.length * i.size) e fz (nums .u8 ys) 0 cur w hg hfz (by rw [hsize, hnl]; omega) h1
    simp only [Nat.add_zero] at hst
    refine ⟨.slice (some ⟨g2, 0, none⟩) (xs.length + m) cap2, w.setRow g2 (cur.toList.take (xs.length * i.size) ++ nums .u8 ys ++ cur.toList.drop (xs.length * i.size + (nums .u8 ys).length)).toArray, by simp [Builtin.append_, run_underlying ht, sizeOf, typeInfo, hi, Builtin.lenOf, hroom, hf, Addr.add_lit, hst], ⟨g2, cap2, _, fz, by rw [List.length_append, hl], hbg, setRow_heap w g2 cur _ e _ hg, ?_, by rw [List.length_append, hl]; exact hroom, hcm, ?_, ?_⟩, ⟨rfl, rfl, rfl, by simp, fun k _ hk => setRow_other w g2 k _ (fun e => hk (by simp [Value.ownBlock, e]))⟩, .inl rfl⟩
    · intro j hj
      refine hfz j ?_
      simp [hsize, hnl] at hj
      omega
    · simp [hsize, hnl]
      omega
    · rw [hsize, Nat.mul_one, htake, hn, List.length_append, hl]
      have : xs.length + m = (nums .u8 xs ++ nums .u8 ys).length := by rw [List.length_append, hxl, hnl]
      rw [this]
      exact List.take_left
  · have hr := run_append_grow (P := P) w t ty e i (.int .u8 0) ht hi hz ⟨g2, 0, none⟩ xs.length cap2 (nums .u8 xs) (by rw [hsize, hxl, Nat.mul_one]) holds a m c (nums .u8 ys) (by rw [hsize, hnl, Nat.mul_one]) hnews (by omega) (by unfold maxLen at hm; omega) (by rw [hby]; exact growslice_fits (by omega) (by omega))
    have hge := grownCap_ge w (xs.length + m) cap2 e
    have hcm2 : grownCap w (xs.length + m) cap2 e ≤ maxLen := grownCap_le_maxLen w (xs.length + m) cap2 e hm
    refine ⟨_, _, hr, ⟨w.heap.size, _, _, (0, 0), by rw [List.length_append, hl], hbase, heap_alloc_new w.drew _, fun j _ => by simp, by rw [List.length_append, hl]; exact hge, hcm2, ?_, ?_⟩, ⟨rfl, rfl, rfl, by simp, fun k hk _ => heap_alloc_old w.drew _ hk⟩, .inr ⟨_, rfl, Nat.le_refl _⟩⟩
    · have hz1 : (Value.int IntKind.u8 0).cells.size = 1 := rfl
      simp only [Array.size_append, List.size_toArray, size_zeroCells, hz1, hxl, hnl]
      omega
    · simp only [Array.toList_append, List.append_assoc]
      have : (xs ++ ys).length = (nums .u8 xs ++ nums .u8 ys).length := by rw [List.length_append, List.length_append, hxl, hnl, hl]
      rw [← List.append_assoc, hn, this]
      exact List.take_left
/-- The operation, for the walk: the literal that is appended has just been laid. -/
theorem OwnU.append_wp {P : Program} {ops : Array Oper} {rest : List Oper} {o : Oper} {a : Act} {Q : Exit → Act → World → Prop} {w0 W : World} (base : Nat) (hgd : o.guard = none) (sl x : Operand) (t e : TypeId)
    (ho : o.op = .call { callee := .builtin .append, args := #[sl, x], argTypes := #[t, t] }) (ht : P.underlying t = some (.slice e)) (hinfo : (P.info? e).map (fun i => (i.zero, i.size, i.bytes)) = some (some (.int .u8 0), 1, 1))
    (v : Value) (xs ys : List Int) (hs : a.eval sl = v) (hx : a.eval x = .slice (some ⟨W.heap.size, 0, none⟩) ys.length ys.length) (HO : OwnU W base e v xs) (HB : Below base w0 W) (hbase : base ≤ W.heap.size) (hl : xs.length + ys.length ≤ 140737488355328)
    (h : ∀ v1 w1, OwnU w1 base e v1 (xs ++ ys) → Below base w0 w1 → wpList P ops Q rest (a.put o.dst v1) w1) : wpList P ops Q (o :: rest) a (W.alloc (.cells (nums .u8 ys).toArray e)) := by
  obtain ⟨i, hi, hz⟩ := Option.map_eq_some_iff.1 hinfo
  simp only [Prod.mk.injEq] at hz
  obtain ⟨hz0, hz1, hz2⟩ := hz
  have hsz : (W.alloc (.cells (nums .u8 ys).toArray e)).heap.size = W.heap.size + 1 := by simp
  have hlt : ∀ k, v.ownBlock = some k → base ≤ k ∧ k < W.heap.size := by
    intro k hk
    obtain ⟨g, cap, rfl, hb, hg, _⟩ := HO.cell
    have : g = k := by simpa [Value.ownBlock] using hk
    subst this
    exact ⟨hb, hg⟩
  have HO2 : OwnU (W.alloc (.cells (nums .u8 ys).toArray e)) base e v xs := HO.keep (fun k hk => heap_alloc_old W _ (hlt k hk).2)
  obtain ⟨v', w', hr, h2, h3, h4⟩ := OwnU.append (P := P) t o.type e i ht hi hz0 hz1 hz2 HO2 ⟨W.heap.size, 0, none⟩ ys.length ys.length ys rfl (fun j u hu => by
    rw [add_plain, cell_of_row _ W.heap.size j _ e _ (heap_alloc_new W _)]
    simpa using hu) hl (by omega)
  refine wpList_plain hgd fun _ hK => ?_
  unfold Oper.wp execOp
  simp only [ho, resolve, invoke, builtin, Sem.run_bind, Sem.run_pure, Result.andThen_ok, List.map_toArray, List.map_cons, List.map_nil, hs, hx, hr]
  exact hK _ _ (h v' w' h2 ((HB.alloc hbase _).grown h3 (by omega) (fun k hk => (hlt k hk).1)))
/-- Such a row, as a string. -/
theorem OwnU.string {P : Program} {w : World} {base : Nat} {e e' src dst : TypeId} {v : Value} {xs : List Int} (hs : P.underlying src = some (.slice e)) (he : P.underlying e = some (.int .u8)) (hd : P.underlying dst = some .string) (h : OwnU w base e' v xs) : (convert src dst v).run P w = .ok (.string (strOfNums xs)) w := by
  obtain ⟨g, cap, rfl, _, _, hc⟩ := h.cell
  refine run_convert_bytes_arg w src e hs he g 0 xs.length cap xs rfl (fun i hi => ?_) dst hd
  have e := hc i (.int .u8 (xs.getD i 0)) (by simp [nums, List.getD_eq_getElem?_getD, List.getElem?_eq_getElem hi])
  rw [add_plain] at e
  rw [Nat.zero_add]
  exact e

theorem byteCells_nums (t : ByteArray) : Lib.byteCells t.data.toList = nums .u8 (bytesOf t) := by
  simp [Lib.byteCells, nums, bytesOf, List.map_map, Function.comp_def]
/-- 'copy' of a text into such a row. -/
theorem OwnU.copyAt {P : Program} {w : World} {base : Nat} {e : TypeId} {v : Value} {xs : List Int} (h : OwnU w base e v xs) (dT sT elem : TypeId) (hu : P.underlying dT = some (.slice elem)) (hs : (P.info? elem).map (·.size) = some 1) (p : Nat) (t : ByteArray) (hfit : p + t.size ≤ xs.length) (ht : 0 < t.size) (g cap : Nat) (hv : v = .slice (some ⟨g, 0, none⟩) xs.length cap) :
    ∃ w', (∀ ty, (Builtin.copy_ #[dT, sT] ty #[.slice (some ⟨g, p, none⟩) (xs.length - p) (cap - p), .string t]).run P w = .ok (goInt t.size) w') ∧ OwnU w' base e v (xs.take p ++ bytesOf t ++ xs.drop (p + t.size)) ∧ (∀ q, q ≠ g → w'.heap[q]? = w.heap[q]?) ∧ Below g w w' := by
  obtain ⟨g2, cap2, cur, fz, e2, hb, hg, hf, hn, hm, hc, htk⟩ := h
  obtain ⟨rfl, rfl⟩ : g2 = g ∧ cap2 = cap := by
    rw [hv] at e2
    simpa [eq_comm] using e2
  have hlen : (Lib.byteCells t.data.toList).length = t.size := by rw [byteCells_nums]; simp [nums, bytesOf_length]
  have h1 : ∀ u ∈ Lib.byteCells t.data.toList, u.oneCell' = true := by
    intro u hu
    simp only [Lib.byteCells, List.mem_map] at hu
    obtain ⟨b, _, rfl⟩ := hu
    rfl
  have hst := storeCells_U P g2 p e fz (Lib.byteCells t.data.toList) 0 cur w hg hf (by rw [hlen]; omega) h1
  simp only [Nat.add_zero] at hst
  have hmin : Nat.min t.size (xs.length - p) = t.size := Nat.min_eq_left (by omega)
  have htk2 : List.take t.size (List.map (fun b : UInt8 => Value.int IntKind.u8 (b.toNat : Int)) t.data.toList) = Lib.byteCells t.data.toList := by
    rw [List.take_of_length_le (by rw [List.length_map]; exact Nat.le_of_eq (by simp [← ByteArray.size_data]))]
    rfl
  have hcur : cur.toList = nums .u8 xs ++ cur.toList.drop xs.length := by rw [← htk, List.take_append_drop]
  have hxl : (nums .u8 xs).length = xs.length := by simp [nums]
  have hdl : (cur.toList.drop xs.length).length = cap2 - xs.length := by rw [List.length_drop, Array.length_toList, hc]
  generalize cur.toList.drop xs.length = rest at hcur hdl
  have hnew : cur.toList.take p ++ Lib.byteCells t.data.toList ++ cur.toList.drop (p + t.size) = nums .u8 (xs.take p ++ bytesOf t ++ xs.drop (p + t.size)) ++ rest := by
    rw [hcur, List.take_append_of_le_length (by omega), List.drop_append_of_le_length (by omega), byteCells_nums]
    simp [nums, List.map_take, List.map_drop]
  have hln : (xs.take p ++ bytesOf t ++ xs.drop (p + t.size)).length = xs.length := by
    rw [List.length_append, List.length_append, List.length_take, List.length_drop, bytesOf_length]; omega
  rw [hlen] at hst
  rw [hnew] at hst
  refine ⟨w.setRow g2 (nums .u8 (xs.take p ++ bytesOf t ++ xs.drop (p + t.size)) ++ rest).toArray, fun ty => ?_, ⟨g2, cap2, (nums .u8 (xs.take p ++ bytesOf t ++ xs.drop (p + t.size)) ++ rest).toArray, fz, by rw [hln]; exact hv, hb, setRow_heap w g2 cur _ e _ hg, ?_, by rw [hln]; exact hn, hm, ?_, ?_⟩, fun q hq => setRow_other w g2 q _ hq, ⟨rfl, rfl, rfl, by simp [size_setRow], fun k hk => setRow_other w g2 k _ (Nat.ne_of_lt hk)⟩⟩
  · cases hq : P.info? elem with
    | none => simp [hq] at hs
    | some i =>
      simp [Builtin.copy_, run_underlying hu, Builtin.lenOf, Builtin.firstCells, sizeOf, typeInfo, hq, hmin]
      rw [htk2, hst]
      simp [Result.andThen]
  · intro j hj
    refine hf j ?_
    simp only [List.size_toArray, List.length_append, nums, List.length_map] at hj
    rw [← List.length_append, ← List.length_append, hln, hdl] at hj
    omega
  · simp only [List.size_toArray, List.length_append, nums, List.length_map]
    rw [← List.length_append, ← List.length_append, hln, hdl]
    omega
  · have e3 : (nums .u8 (xs.take p ++ bytesOf t ++ xs.drop (p + t.size))).length = (xs.take p ++ bytesOf t ++ xs.drop (p + t.size)).length := by simp [nums]
    rw [List.toList_toArray, ← e3]
    exact List.take_left
theorem copy_step {P : Program} {w : World} {ops : Array Oper} {o : Oper} {a : Act} {K : Act → World → Prop} {Q : Exit → Act → World → Prop} {E : Prop}
    (hg : o.guard = none) (d x : Operand) (dT sT : TypeId) (hop : o.op = Op.call { callee := Callee.builtin Builtin.copy, args := #[d, x], argTypes := #[dT, sT] })
    (v u : Value) (hd : a.eval d = v) (hx : a.eval x = u) {v' : Value} {w' : World} (hr : (Builtin.copy_ #[dT, sT] o.type #[v, u]).run P w = .ok v' w') (hK : K (a.put o.dst v') w') :
    if Region.wanted o (yielded ops a.tmps) = true then Oper.wp P o a w K Q else E := by
  have hw : Region.wanted o (yielded ops a.tmps) = true := by simp [Region.wanted, hg]
  rw [if_pos hw]
  unfold Oper.wp
  simp [execOp, hop, resolve, invoke, builtin, hd, hx, hr, Result.andThen]
  exact hK
theorem R_type47 {w : World} {base : Nat} {ok : Nat → Prop} {v : Value} {xs : List S47} (h : Kd.R k47 47 w base ok v xs) {g t : Nat} {cur : Array Value} {fz : Nat × Nat} (hg : w.heap[g]? = some (.cells cur t fz)) (hne : ∀ q, q ∈ 47 :: k47.E → q ≠ t) : Kd.R k47 47 w base (fun k => ok k ∧ k ≠ g) v xs :=
  Kd.R_mono (Kd.R_bound h) (fun k hk => ⟨hk.1, fun e => by
    subst e
    obtain ⟨q, hq, cells, hc⟩ := hk.2.2.2
    rw [hg] at hc
    injection hc with hc
    injection hc with _ hc _
    exact hne q hq hc.symm⟩)
theorem OwnU.below {w w1 : World} {base : Nat} {e : TypeId} {v : Value} {xs : List Int} (h : OwnU w base e v xs) (hb : Below w.heap.size w w1) : OwnU w1 base e v xs := by
  obtain ⟨g, cap, e1, _, hlt, _⟩ := h.cell
  refine h.keep (fun k hk => hb.block k ?_)
  have : g = k := by rw [e1] at hk; simpa [Value.ownBlock] using hk
  omega
theorem str_bytesOf (s : ByteArray) : strOfNums (bytesOf s) = s := by
  have h : (strOfNums (bytesOf s)).data.toList = s.data.toList := by
    rw [strOfNums_data]
    unfold bytesOf
    simp [List.map_map, Function.comp_def]
  generalize strOfNums (bytesOf s) = q at h ⊢
  cases s
  cases q
  simp only [ByteArray.mk.injEq]
  exact Array.toList_inj.1 h
theorem fence_is (i a : Int) (s : ByteArray) (b : Bool) (w : World) :
    Calls Try.prog 60 #[.int .i64 i, .agg #[.int .i64 a, .string s, .bool b]] w fun e w' => e = .returned (.bool b) ∧ Below w.heap.size w w' := by
  have hu47 := Try.underlying47
  have HB := Aside0.mk (Below.refl w.heap.size w)
  go_enter Try.func60, Try.ntmps60
  go_wp2_with ((with_reducible refine gate_dst (N := 3) rfl ?_); refine box_event ?hg (N := 3) ?hd (cs := #[.int .i64 a, .string s, .bool b]) (t := 47) ?hr ?_; (case hd => rfl); (case hg => rfl); (case hr => first | (go_simp; done) | (go_simp; rfl)); intro gb hg w4 hbox hb; have n0_ := Aside0.mk (below_step HB.out hb); clear HB; have HB := n0_; have hz0 : w4.cell? ⟨gb, 2, none⟩ = some (.bool b) := (blk_cell hbox 2).trans rfl; clear n0_ hb hbox hg)
  go_ret
  exact ⟨rfl, HB.out⟩
theorem oneC (a : Int) (b : ByteArray) (c : Bool) : (#[.int .i64 a, .string b, .bool c] : Array Value).all (·.oneCell') = true := by simp [Value.oneCell']
theorem drop_rd47 (l : List S47) (i : Nat) (h : i < l.length) : l.drop i = rd_T47 l (i : Int) :: l.drop (i + 1) := by
  rw [List.drop_eq_getElem_cons h]
  unfold rd_T47
  rw [Int.toNat_natCast, List.getD_eq_getElem?_getD, List.getElem?_eq_getElem h]
  rfl
set_option maxHeartbeats 4000000 in
set_option maxRecDepth 100000 in
theorem keep_at (g : Nat) (kept : ByteArray) (l : List S47) (K' : ByteArray) (L' : List S47) (v1 : Value) (w0 w : World) (hB : Below w0.heap.size w0 w) (hg : w0.heap.size ≤ g) (hbk : w.heap[g]? = some (.cells #[.string kept, v1] 29 (0, 0)))
    (HO : Kd.R k47 47 w w0.heap.size (fun _ => True) v1 l) (hks : kept.size ≤ 1048576) (hls : l.length ≤ 2000000) (h : keepL l kept [] = some (K', L')) :
    Calls Try.prog 59 #[.pointer (some ⟨g, 0, none⟩), .func (.func 60) #[] #[], .bool true] w fun e w' => ∃ v', e = .returned (.tuple #[]) ∧ w'.heap[g]? = some (.cells #[.string K', v'] 29 (0, 0)) ∧ Kd.R k47 47 w' w0.heap.size (fun _ => True) v' L' ∧ Below w0.heap.size w0 w' ∧ Keep29 g w w' := by
  obtain ⟨A, c, rfl, hlc, hC⟩ := Kd.R_reads HO
  have hz0 : w.cell? ⟨g, 0, none⟩ = some (.string kept) := (blk_cell hbk 0).trans rfl
  have hz1 : w.cell? ⟨g, 1, none⟩ = some (.slice A l.length c) := (blk_cell hbk 1).trans rfl
  have kb := fun W => print_bytes (P := Try.prog) 9 73 5 Try.underlying9 Try.underlying73 Try.underlying5 kept W
  have I47 : Aside0 ((Try.prog.info? 47).map (·.size) = some 3) := ⟨by kernel_rfl⟩
  have IU8 : Aside0 ((Try.prog.info? 5).map (·.size) = some 1) := ⟨by kernel_rfl⟩
  have HU := Aside0.mk (OwnU.conv w 5 kept (by unfold maxLen; omega))
  have HC := Aside0.mk hC
  have HLC := Aside0.mk hlc
  have HKS := Aside0.mk hks
  have HLS := Aside0.mk hls
  have HF := Aside0.mk h
  have HB0 := Aside0.mk hB
  have HG := Aside0.mk hg
  have HBK := Aside0.mk hbk
  have hgw := blk_lt hbk
  have HGW := Aside0.mk hgw
  have HB := Aside0.mk (bytes_below (Below.refl w.heap.size w) (Nat.le_refl _) 5 kept)
  obtain ⟨gK, hgK⟩ : ∃ gK, gK = w.heap.size := ⟨_, rfl⟩
  obtain ⟨cp, hcp⟩ : ∃ cp, cp = grownCap w kept.size 0 5 := ⟨_, rfl⟩
  have HGK := Aside0.mk hgK
  have HCP := Aside0.mk hcp
  clear hC hlc hks hls h hB hg hbk hgw HO hgK hcp
  go_enter Try.func59, Try.ntmps59
  go_upto_region 1 with fail
  rw [← HGK.out, ← HCP.out]
  rw [← HGK.out, ← HCP.out] at HU
  obtain ⟨w1, hw1⟩ : ∃ w1, w1 = Lib.bytesWorld w 5 kept := ⟨_, rfl⟩
  rw [← hw1] at HU HB ⊢
  clear hw1 hz0 hz1 kb
  have hz1 : w1.cell? ⟨g, 1, none⟩ = some (.slice A l.length c) := (blk_cell (blk_below HBK.out HB.out) 1).trans rfl
  go_wp2_with ((with_reducible refine gate_dst (N := 15) rfl ?_); refine Kd.R_lit k47 _ 47 ?hg (N := 15) ?hd (xs := ([] : List (S47))) (inner := []) (ok := fun _ => True) (okp := fun _ => True) ?hr ?hp (fun _ hk => hk) trivial (Below.refl _ _) (Nat.le_refl _) (by simp) ?_; (case hd => rfl); (case hg => rfl); (case hr => first | (go_simp; done) | (go_simp; rfl)); (case hp => exact (Reps.none _ _)); intro v7 w2 ho hb hg_ hnew_; clear hg_ hnew_; have n0_ := Aside0.mk (Kd.R_lower ho (below_size HB.out)); have n1_ := Aside0.mk (below_step HB.out hb); have n2_ := Aside0.mk (HU.out.below hb); clear HB HU hz1; have HO := n0_; have HB := n1_; have HU := n2_; clear n0_ n1_ n2_; clear hb ho; have hz1 : w2.cell? ⟨g, 1, none⟩ = some (.slice A l.length c) := (blk_cell (blk_below HBK.out HB.out) 1).trans rfl)
  clear hz1
  go_loopw [7, 21] (fun v7 v21 wr => ∃ (i : Nat) (K : ByteArray) (L : List S47), i ≤ l.length ∧ v21 = .int .i64 (i : Int) ∧ Aside0 (keepL (l.drop i) K L = some (K', L')) ∧ Aside0 (K.size = kept.size ∧ L.length ≤ i) ∧ Aside0 (OwnU wr gK 5 (.slice (some ⟨gK, 0, none⟩) kept.size cp) (bytesOf K)) ∧ Aside0 (Kd.R k47 47 wr w.heap.size (fun _ => True) v7 L) ∧ Aside0 (Below w.heap.size w wr)) (fun _ v21 _ => l.length - (intOf v21).toNat)
  case atStart => exact ⟨0, kept, [], Nat.zero_le _, rfl, HF, ⟨rfl, Nat.zero_le _⟩, HU, HO, HB⟩
  case round =>
    clear HU HO HB HF
    obtain ⟨i, K, L, hi, rfl, HF, HKL, HU, HO, HB⟩ := hrel
    by_cases hlt : i < l.length
    · have hCw := Kd.C_below HC.out HB.out
      obtain ⟨ad, rfl, e0, e1, e2⟩ := at_T47 hCw (i : Int) (by omega) (by omega)
      rw [Int.toNat_natCast] at e0 e1 e2
      have b3 : ((i : Int) < (l.length : Int)) = True := eq_true (by omega)
      have hbi : i < 4611686018427387904 := by have := HLS.out; omega
      have hf := HF.out
      rw [drop_rd47 l i hlt] at hf
      unfold keepL at hf
      have HF2 := Aside0.mk hf
      have HI := Aside0.mk hlt
      clear hCw hf hi hlt HF
      obtain ⟨xc, hxc⟩ : ∃ xc, xc = rd_T47 l (i : Int) := ⟨_, rfl⟩
      rw [← hxc] at e0 e1 e2 HF2
      obtain ⟨x0, x1, x2⟩ := xc
      dsimp only at e0 e1 e2 HF2
      clear hxc
      have CC := fun W => fence_is (i : Int) x0 x1 x2 W
      go_upto_region 5 with (first | ((with_reducible refine gate_dst (N := 9) rfl ?_); refine box_event ?hg (N := 9) ?hd (cs := #[.int .i64 0, .string (⟨#[]⟩ : ByteArray), .bool false]) (t := 47) ?hr ?_; (case hd => rfl); (case hg => rfl); (case hr => first | (go_simp; done) | (go_simp; rfl)); intro gC hg w3 hbox hb; have GC := Aside0.mk (show wr.heap.size ≤ gC by rw [hg]; exact Nat.le_refl _); have HR3 := Aside0.mk hb; have BC := Aside0.mk hbox; clear hbox hb hg) | ((with_reducible refine gate_store (t := 47) (p := 9) rfl ?_); refine store_rowAll rfl 47 _ _ rfl rfl gC rfl #[.int .i64 0, .string (⟨#[]⟩ : ByteArray), .bool false] #[.int .i64 x0, .string x1, .bool x2] rfl 47 BC.out I47.out rfl (oneC _ _ _) ?_; intro w4 hw ho hb; have n0_ := Aside0.mk (HR3.out.trans (hb.mono GC.out)); clear HR3 BC; have HR4 := n0_; have BC := Aside0.mk hw; clear n0_ hw ho hb))
      have HU4 := Aside0.mk (HU.out.below HR4.out)
      have HO4 := Aside0.mk (Kd.R_below HO.out HR4.out)
      have HB4 := Aside0.mk (below_step HB.out HR4.out)
      clear HU HO HB HR4 e0 e1 e2
      have hc0 : w4.cell? ⟨gC, 0, none⟩ = some (.int .i64 x0) := (blk_cell BC.out 0).trans rfl
      have hc1 : w4.cell? ⟨gC, 1, none⟩ = some (.string x1) := (blk_cell BC.out 1).trans rfl
      have hc2 : w4.cell? ⟨gC, 2, none⟩ = some (.bool x2) := (blk_cell BC.out 2).trans rfl
      go_upto_if 99 with fail
      refine (CC _).mono ?_
      rintro e w5 ⟨rfl, hb⟩
      have HU := Aside0.mk (HU4.out.below hb)
      have HO := Aside0.mk (Kd.R_below HO4.out hb)
      have HB := Aside0.mk (below_step HB4.out hb)
      have BC5 := Aside0.mk (blk_below BC.out hb)
      clear HU4 HO4 HB4 hb CC BC hc0 hc1 hc2
      dsimp only
      have hc0 : w5.cell? ⟨gC, 0, none⟩ = some (.int .i64 x0) := (blk_cell BC5.out 0).trans rfl
      have hc1 : w5.cell? ⟨gC, 1, none⟩ = some (.string x1) := (blk_cell BC5.out 1).trans rfl
      have hc2 : w5.cell? ⟨gC, 2, none⟩ = some (.bool x2) := (blk_cell BC5.out 2).trans rfl
      have hf := HF2.out
      clear HF2
      cases x2 with
      | true =>
        rw [if_pos rfl] at hf
        by_cases cnd : 0 ≤ x0 ∧ x0.toNat * 16 + 16 ≤ K.size ∧ x1.size = 16
        · rw [if_pos cnd] at hf
          obtain ⟨n, rfl⟩ := Int.eq_ofNat_of_zero_le cnd.1
          rw [Int.toNat_natCast] at cnd hf
          have hkl := HKL.out
          have hcp : kept.size ≤ cp := by
            obtain ⟨g_, cap_, cur_, fz_, e_, _, _, _, hn_, _⟩ := HU.out
            have e1 : cap_ = cp := by simp only [Value.slice.injEq] at e_; exact e_.2.2.symm
            rw [bytesOf_length] at hn_
            omega
          have hUd : OwnU w5.drew gK 5 (.slice (some ⟨gK, 0, none⟩) kept.size cp) (bytesOf K) := HU.out.keep (fun _ _ => rfl)
          obtain ⟨w6, hrun, hu6, ho6, hb6⟩ := OwnU.copyAt hUd 73 9 5 Try.underlying73 IU8.out (n * 16) x1 (by rw [bytesOf_length]; omega) (by omega) gK cp (by rw [bytesOf_length, hkl.1])
          rw [bytesOf_length, hkl.1] at hrun
          have q0 : (0 : Int) ≤ (n : Int) * 16 := by omega
          have q1 : (n : Int) * 16 ≤ (kept.size : Int) := by omega
          have q2 : ((n : Int) * 16).toNat = n * 16 := by omega
          have q3 : (cp = n * 16) = False := eq_false (by omega)
          have q4 : IntKind.i64.wrap ((n : Int) * 16) = (n : Int) * 16 := by have := HKS.out; rw [IntKind.wrap_i64]; omega
          have HU6 : Aside0 (OwnU w6 gK 5 (.slice (some ⟨gK, 0, none⟩) kept.size cp) (bytesOf (putAt K (n * 16) x1))) := ⟨by rw [bytesOf_put K (n * 16) x1 (by omega)]; exact hu6⟩
          have HO6 : Aside0 (Kd.R k47 47 w6 w.heap.size (fun _ => True) u7 L) := ⟨by
            obtain ⟨g_, cap_, cur_, fz_, e_, _, hg_, _⟩ := HU.out
            have e1 : g_ = gK := by simp only [Value.slice.injEq, Option.some.injEq, Addr.mk.injEq] at e_; exact e_.1.1.symm
            subst e1
            exact Kd.R_mono (Kd.R_step (R_type47 HO.out hg_ (by decide)) (fun k hk _ => ho6 k hk.2)) (fun _ _ => trivial)⟩
          have HB6 : Aside0 (Below w.heap.size w w6) := ⟨(below_drew1 HB.out).trans (hb6.mono (Nat.le_of_eq HGK.out.symm))⟩
          have HKL6 : Aside0 ((putAt K (n * 16) x1).size = kept.size ∧ L.length ≤ i + 1) := ⟨by rw [putAt_size K (n * 16) x1 (by omega)]; exact ⟨hkl.1, by omega⟩⟩
          have HFF := Aside0.mk hf
          clear HU HO HB
          clear hUd hu6 ho6 hb6 cnd hf hkl hcp
          go_upto_region 6 with fail
          go_region_law (refine copy_step rfl _ _ 73 9 rfl (.slice (some ⟨gK, n * 16, none⟩) (kept.size - n * 16) (cp - n * 16)) (.string x1) (by simp [Act.eval, Act.put]) (by simp [Act.eval, Act.put]) (hrun _) ?_)
          all_goals go_wp2
          all_goals exact ⟨⟨i + 1, putAt K (n * 16) x1, L, HI.out, by go_num, HFF, HKL6, HU6, HO6, HB6⟩, by simp [intOf]; have := HI.out; omega⟩
        · rw [if_neg cnd] at hf
          cases hf
      | false =>
        rw [if_neg (by simp)] at hf
        have HFF := Aside0.mk hf
        have HKL6 : Aside0 (K.size = kept.size ∧ (L ++ [(⟨x0, x1, false⟩ : S47)]).length ≤ i + 1) := ⟨by have := HKL.out; rw [List.length_append, List.length_singleton]; omega⟩
        have HUL : Aside0 (gK < w5.heap.size) := ⟨by
          obtain ⟨g_, cap_, e_, _, hl_, _⟩ := HU.out.cell
          have e1 : g_ = gK := by simp only [Value.slice.injEq, Option.some.injEq, Addr.mk.injEq] at e_; exact e_.1.1.symm
          rw [← e1]; exact hl_⟩
        have HUN : Aside0 (some gK ≠ u7.ownBlock) := ⟨by
          obtain ⟨g_, cap_, cur_, fz_, e_, _, hg_, _⟩ := HU.out
          have e1 : g_ = gK := by simp only [Value.slice.injEq, Option.some.injEq, Addr.mk.injEq] at e_; exact e_.1.1.symm
          subst e1
          exact Kd.R_away (R_type47 HO.out hg_ (by decide)) (fun _ hk => hk.2)⟩
        clear hf
        go_wp2_with (at_builtin; refine Kd.R_append k47 (w0 := w) w.heap.size rfl (.tmp 39) (.tmp 41) 27 47 (.agg #[(.int .i64 0), (.string ⟨#[]⟩), (.bool false)]) 32 rfl Try.underlying27 info47 rfl (by decide) (by omega) _ L (⟨x0, x1, false⟩ : S47) [.int .i64 x0, .string x1, .bool false] (fun _ => True) (fun _ => False) rfl (by first | (go_simp; done) | (go_simp; rfl)) ?aP (fun _ hk => hk.elim) ?aF ?aO ?aB ?aS ?aL ?_; (case aP => exact k47_mkM _ _ _ _); (case aB => exact HB.out); (case aF => exact (fun _ _ => trivial)); (case aO => exact HO.out); (case aS => exact below_size HB.out); (case aL => have := HKL.out.2; have := HI.out; have := HLS.out; omega); intro v9 w6 ho hb hg hat; have n0_ := Aside0.mk ho; have n1_ := Aside0.mk hb; have n2_ := Aside0.mk (HU.out.keep (fun k hk => by have e : gK = k := (by simpa [Value.ownBlock] using hk); subst e; exact hg.block _ HUL.out HUN.out)); clear HO HB HU ho hb hg hat; have HO := n0_; have HB := n1_; have HU := n2_; clear n0_ n1_ n2_)
        exact ⟨⟨i + 1, K, L ++ [(⟨x0, x1, false⟩ : S47)], HI.out, by go_num, HFF, HKL6, HU, HO, HB⟩, by simp [intOf]; have := HI.out; omega⟩
    · obtain rfl : i = l.length := by omega
      have hf := HF.out
      rw [List.drop_length] at hf
      unfold keepL at hf
      obtain ⟨rfl, rfl⟩ : K = K' ∧ L = L' := by simpa using hf
      have hcv := OwnU.string (P := Try.prog) (src := 73) (dst := 9) Try.underlying73 Try.underlying5 Try.underlying9 HU.out
      rw [str_bytesOf] at hcv
      have hbw := blk_below HBK.out HB.out
      have HBW := Aside0.mk hbw
      have hz0 : wr.cell? ⟨g, 0, none⟩ = some (.string kept) := (blk_cell hbw 0).trans rfl
      have hz1 : wr.cell? ⟨g, 1, none⟩ = some (.slice A l.length c) := (blk_cell hbw 1).trans rfl
      have hf0 := blk_frozen hbw 0
      have hf1 := blk_frozen hbw 1
      obtain ⟨Au, cu, rfl⟩ := Kd.R_slice HO.out
      clear hf hlt hi hbw
      go_wp2
      go_end0
      refine ⟨_, rfl, blk_put (cs := #[.string K, .slice A l.length c]) (blk_put (cs := #[.string kept, .slice A l.length c]) HBW.out 0 _ rfl) 1 _ rfl, ?_, below_set (below_set (below_step HB0.out HB.out) HG.out) HG.out, ?_⟩
      · exact Kd.R_lower (Kd.R_mono (Kd.R_far (p := ⟨g, 1, none⟩) (Kd.R_far (p := ⟨g, 0, none⟩) (Kd.R_types HO.out HBW.out (by decide)) (fun _ hk => hk.2) (.string K)) (fun _ hk => hk.2) (.slice Au L.length cu)) (fun _ hk => trivial)) (below_size HB0.out)
      · exact Keep29_trans (Keep29_below HB.out) (fun q cs hq hb => blkFar29 (blkFar29 hb ⟨g, 0, none⟩ _ hq) ⟨g, 1, none⟩ _ hq)
set_option maxHeartbeats 4000000 in
set_option maxRecDepth 100000 in
theorem fence_at (g : Nat) (kept : ByteArray) (l : List S47) (K' : ByteArray) (L' : List S47) (v1 : Value) (w0 w : World) (hB : Below w0.heap.size w0 w) (hg : w0.heap.size ≤ g) (hbk : w.heap[g]? = some (.cells #[.string kept, v1] 29 (0, 0)))
    (HO : Kd.R k47 47 w w0.heap.size (fun _ => True) v1 l) (hks : kept.size ≤ 1048576) (hls : l.length ≤ 2000000) (h : keepL l kept [] = some (K', L')) :
    Calls Try.prog 48 #[.pointer (some ⟨g, 0, none⟩)] w fun e w' => ∃ v', e = .returned (.tuple #[]) ∧ w'.heap[g]? = some (.cells #[.string K', v'] 29 (0, 0)) ∧ Kd.R k47 47 w' w0.heap.size (fun _ => True) v' L' ∧ Below w0.heap.size w0 w' ∧ Keep29 g w w' := by
  have CC := Aside0.mk (keep_at g kept l K' L' v1 w0 w hB hg hbk HO hks hls h)
  clear hB hg hbk HO hks hls h
  go_enter Try.func48, Try.ntmps48
  go_wp2_with (go_at_call 59; refine (CC.out).mono ?_; rintro e w' ⟨v', rfl, h1, h2, h3, h4⟩; have H1 := Aside0.mk h1; have H2 := Aside0.mk h2; have H3 := Aside0.mk h3; have H4 := Aside0.mk h4; clear h1 h2 h3 h4)
  go_end0
  exact ⟨v', rfl, H1.out, H2.out, H3.out, H4.out⟩
def impl_Fence.f (k : Nat) (a0_0 : ByteArray) (l0_1 : List S47) : Option (ByteArray × List S47) :=
  (impl_copyMemory.f a0_0 l0_1).bind fun m => (impl_MemoryOk.f k a0_0 l0_1).bind fun b => if b = true then (if m.1.size ≤ 1048576 ∧ m.2.length ≤ 2000000 then keepL m.2 m.1 [] else none) else some m
theorem impl_Fence.mono : ∀ a0_0 l0_1 k, LeO (impl_Fence.f k a0_0 l0_1) (impl_Fence.f (k + 1) a0_0 l0_1) := by
  intro a0_0 l0_1 k
  unfold impl_Fence.f
  exact LeO.bind (LeO.refl _) fun _ => LeO.bind (impl_MemoryOk.mono _ _ _) fun _ => LeO.refl _
set_option maxHeartbeats 8000000 in
set_option maxRecDepth 100000 in
theorem impl_Fence.calls (k : Nat) (a0_0 : ByteArray) (A0_1 : Option Addr) (c0_1 : Nat) (l0_1 : List (S47)) (r1 : ByteArray) (r2 : List (S47)) (w : World) (hr0_1 : Kd.C k47 w A0_1 l0_1.length l0_1) (hc0_1 : l0_1.length ≤ c0_1) (h : impl_Fence.f k a0_0 l0_1 = some (r1, r2)) :
    Calls Try.prog 23 #[.agg #[.string a0_0, .slice A0_1 l0_1.length c0_1]] w fun e w' => ∃ v1_ : Value, e = .returned (.agg #[.string r1, v1_]) ∧ Kd.R k47 47 w' w.heap.size (fun _ => True) v1_ r2 ∧ Below w.heap.size w w' := by
  have hu29 := Try.underlying29
  unfold impl_Fence.f at h
  obtain ⟨⟨m1, m2⟩, hm, h⟩ := Option.bind_eq_some_iff.1 h
  obtain ⟨b, hb0, h⟩ := Option.bind_eq_some_iff.1 h
  have HM := Aside0.mk hm
  have HK := Aside0.mk hb0
  have HR := Aside0.mk hr0_1
  have HC := Aside0.mk hc0_1
  have HB := Aside0.mk (Below.refl w.heap.size w)
  clear hm hb0 hr0_1 hc0_1
  cases b
  · rw [if_neg (by simp)] at h
    obtain ⟨rfl, rfl⟩ : m1 = r1 ∧ m2 = r2 := by simpa using h
    clear h
    go_enter Try.func23, Try.ntmps23
    go_wp2_with (first | ((with_reducible refine gate_dst (N := 1) rfl ?_); refine box_event ?hg (N := 1) ?hd (cs := #[.string a0_0, .slice A0_1 l0_1.length c0_1]) (t := 29) ?hr ?_; (case hd => rfl); (case hg => rfl); (case hr => first | (go_simp; done) | (go_simp; rfl)); intro gA hg w3 hbox hb; have GA := Aside0.mk (show w.heap.size ≤ gA by rw [hg]; exact below_size HB.out); have n0_ := Aside0.mk (below_step HB.out hb); clear HB; have HB := n0_; have BA := Aside0.mk hbox; clear n0_ hb hbox hg) | ((with_reducible refine gate_dst (N := 2) rfl ?_); refine box_event ?hg (N := 2) ?hd (cs := #[.string (⟨#[]⟩ : ByteArray), .slice none 0 0]) (t := 29) ?hr ?_; (case hd => rfl); (case hg => rfl); (case hr => first | (go_simp; done) | (go_simp; rfl)); intro gR hg w4 hbox hb; have GR := Aside0.mk (show w.heap.size ≤ gR by rw [hg]; exact below_size HB.out); have n0_ := Aside0.mk (below_step HB.out hb); have n1_ := Aside0.mk (blk_below BA.out hb); clear HB BA; have HB := n0_; have BA := n1_; have BR := Aside0.mk hbox; clear n0_ n1_ hb hbox hg; have hA0 : w4.cell? ⟨gA, 0, none⟩ = some (.string a0_0) := (blk_cell BA.out 0).trans rfl; have hA1 : w4.cell? ⟨gA, 1, none⟩ = some (.slice A0_1 l0_1.length c0_1) := (blk_cell BA.out 1).trans rfl) | (go_at_call 41; ((with_reducible refine (impl_copyMemory.calls a0_0 A0_1 c0_1 l0_1 m1 m2 w4 (Kd.C_below HR.out HB.out) HC.out HM.out).mono ?_)); rintro e w5 ⟨v1, rfl, ho, hb⟩; obtain ⟨Ao, co, rfl⟩ := Kd.R_slice ho; have n0_ := Aside0.mk (below_step HB.out hb); have n1_ := Aside0.mk (blk_below BA.out hb); have n2_ := Aside0.mk (blk_below BR.out hb); have n3_ := Aside0.mk (Kd.R_lower ho (below_size HB.out)); clear HB BA BR hA0 hA1; have HB := n0_; have BA := n1_; have BR := n2_; have HO := n3_; clear n0_ n1_ n2_ n3_ hb ho) | ((with_reducible refine gate_dst (N := 3) rfl ?_); refine box_event ?hg (N := 3) ?hd (cs := #[.string (⟨#[]⟩ : ByteArray), .slice none 0 0]) (t := 29) ?hr ?_; (case hd => rfl); (case hg => rfl); (case hr => first | (go_simp; done) | (go_simp; rfl)); intro gM hg w6 hbox hb; have GM := Aside0.mk (show w.heap.size ≤ gM by rw [hg]; exact below_size HB.out); have NA := Aside0.mk (show gA ≠ gM by rw [hg]; exact Nat.ne_of_lt (blk_lt BA.out)); have NR := Aside0.mk (show gR ≠ gM by rw [hg]; exact Nat.ne_of_lt (blk_lt BR.out)); have n0_ := Aside0.mk (below_step HB.out hb); have n1_ := Aside0.mk (blk_below BA.out hb); have n2_ := Aside0.mk (blk_below BR.out hb); have n3_ := Aside0.mk (Kd.R_below HO.out hb); clear HB BA BR HO; have HB := n0_; have BA := n1_; have BR := n2_; have HO := n3_; have BM := Aside0.mk hbox; clear n0_ n1_ n2_ n3_ hb hbox hg; have hM0 : w6.cell? ⟨gM, 0, none⟩ = some (.string (⟨#[]⟩ : ByteArray)) := (blk_cell BM.out 0).trans rfl; have hM1 : w6.cell? ⟨gM, 1, none⟩ = some (.slice none 0 0) := (blk_cell BM.out 1).trans rfl; have fM0 := blk_frozen BM.out 0; have fM1 := blk_frozen BM.out 1; have hA0 : w6.cell? ⟨gA, 0, none⟩ = some (.string a0_0) := (blk_cell BA.out 0).trans rfl; have hA1 : w6.cell? ⟨gA, 1, none⟩ = some (.slice A0_1 l0_1.length c0_1) := (blk_cell BA.out 1).trans rfl; have hnA := NA.out; have hnA' := NA.out.symm) | (go_at_call 12; ((with_reducible refine (impl_MemoryOk.calls k a0_0 A0_1 c0_1 l0_1 _ _ (Kd.C_below HR.out (below_set (below_set (j := 0) (v := .string m1) HB.out GM.out) GM.out)) HC.out HK.out).mono ?_)); rintro e w8 ⟨rfl, hb⟩; have m0_ := Aside0.mk (show ((w6.setCell ⟨gM, 0, none⟩ (.string m1)).setCell ⟨gM, 1, none⟩ (.slice Ao m2.length co)).heap[gM]? = some (.cells #[.string m1, .slice Ao m2.length co] 29 (0, 0)) from blk_put (cs := #[.string m1, .slice none 0 0]) (blk_put (cs := #[.string (⟨#[]⟩ : ByteArray), .slice none 0 0]) BM.out 0 _ rfl) 1 _ rfl); have m2_ := Aside0.mk (show ((w6.setCell ⟨gM, 0, none⟩ (.string m1)).setCell ⟨gM, 1, none⟩ (.slice Ao m2.length co)).heap[gR]? = some (.cells #[.string (⟨#[]⟩ : ByteArray), .slice none 0 0] 29 (0, 0)) from blkFar29 (blkFar29 BR.out ⟨gM, 0, none⟩ _ NR.out) ⟨gM, 1, none⟩ _ NR.out); have m3_ := Aside0.mk (show Kd.R k47 47 ((w6.setCell ⟨gM, 0, none⟩ (.string m1)).setCell ⟨gM, 1, none⟩ (.slice Ao m2.length co)) w.heap.size (fun _ => True) (.slice Ao m2.length co) m2 from Kd.R_mono (Kd.R_far (p := ⟨gM, 1, none⟩) (Kd.R_far (p := ⟨gM, 0, none⟩) (Kd.R_types HO.out BM.out (by decide)) (fun _ hk => hk.2) (.string m1)) (fun _ hk => hk.2) (.slice Ao m2.length co)) (fun _ hk => trivial)); have m4_ := Aside0.mk (show Below w.heap.size w ((w6.setCell ⟨gM, 0, none⟩ (.string m1)).setCell ⟨gM, 1, none⟩ (.slice Ao m2.length co)) from below_set (below_set HB.out GM.out) GM.out); have n0_ := Aside0.mk (below_step m4_.out hb); have n2_ := Aside0.mk (blk_below m2_.out hb); have n3_ := Aside0.mk (Kd.R_below m3_.out hb); have n4_ := Aside0.mk (blk_below m0_.out hb); clear HB BA BR HO BM hA0 hA1 hM0 hM1 fM0 fM1 hnA hnA' m0_ m2_ m3_ m4_; have HB := n0_; have BR := n2_; have HO := n3_; have BM := n4_; clear n0_ n2_ n3_ n4_ hb; have hM0 : w8.cell? ⟨gM, 0, none⟩ = some (.string m1) := (blk_cell BM.out 0).trans rfl; have hM1 : w8.cell? ⟨gM, 1, none⟩ = some (.slice Ao m2.length co) := (blk_cell BM.out 1).trans rfl; have hR0 : w8.cell? ⟨gR, 0, none⟩ = some (.string (⟨#[]⟩ : ByteArray)) := (blk_cell BR.out 0).trans rfl; have hR1 : w8.cell? ⟨gR, 1, none⟩ = some (.slice none 0 0) := (blk_cell BR.out 1).trans rfl; have fR0 := blk_frozen BR.out 0; have fR1 := blk_frozen BR.out 1))
    refine bodyPost_ret (results_cell_row rfl _ _ gR 29 #[.string m1, .slice Ao m2.length co] (0, 0) _ rfl (blk_put (cs := #[.string m1, .slice none 0 0]) (blk_put (cs := #[.string (⟨#[]⟩ : ByteArray), .slice none 0 0]) BR.out 0 _ rfl) 1 _ rfl) Try.underlying29 rfl (by kernel_rfl)) rfl ?_
    exact ⟨_, rfl, Kd.R_mono (Kd.R_far (p := ⟨gR, 1, none⟩) (Kd.R_far (p := ⟨gR, 0, none⟩) (Kd.R_types HO.out BR.out (by decide)) (fun _ hk => hk.2) (.string m1)) (fun _ hk => hk.2) (.slice Ao m2.length co)) (fun _ hk => trivial), below_set (below_set HB.out GR.out) GR.out⟩
  · rw [if_pos rfl] at h
    dsimp only at h
    by_cases hs : m1.size ≤ 1048576 ∧ m2.length ≤ 2000000
    · rw [if_pos hs] at h
      have HS1 := Aside0.mk hs.1
      have HS2 := Aside0.mk hs.2
      have HF := Aside0.mk h
      clear hs h
      go_enter Try.func23, Try.ntmps23
      go_wp2_with (first | ((with_reducible refine gate_dst (N := 1) rfl ?_); refine box_event ?hg (N := 1) ?hd (cs := #[.string a0_0, .slice A0_1 l0_1.length c0_1]) (t := 29) ?hr ?_; (case hd => rfl); (case hg => rfl); (case hr => first | (go_simp; done) | (go_simp; rfl)); intro gA hg w3 hbox hb; have GA := Aside0.mk (show w.heap.size ≤ gA by rw [hg]; exact below_size HB.out); have n0_ := Aside0.mk (below_step HB.out hb); clear HB; have HB := n0_; have BA := Aside0.mk hbox; clear n0_ hb hbox hg) | ((with_reducible refine gate_dst (N := 2) rfl ?_); refine box_event ?hg (N := 2) ?hd (cs := #[.string (⟨#[]⟩ : ByteArray), .slice none 0 0]) (t := 29) ?hr ?_; (case hd => rfl); (case hg => rfl); (case hr => first | (go_simp; done) | (go_simp; rfl)); intro gR hg w4 hbox hb; have GR := Aside0.mk (show w.heap.size ≤ gR by rw [hg]; exact below_size HB.out); have n0_ := Aside0.mk (below_step HB.out hb); have n1_ := Aside0.mk (blk_below BA.out hb); clear HB BA; have HB := n0_; have BA := n1_; have BR := Aside0.mk hbox; clear n0_ n1_ hb hbox hg; have hA0 : w4.cell? ⟨gA, 0, none⟩ = some (.string a0_0) := (blk_cell BA.out 0).trans rfl; have hA1 : w4.cell? ⟨gA, 1, none⟩ = some (.slice A0_1 l0_1.length c0_1) := (blk_cell BA.out 1).trans rfl) | (go_at_call 41; ((with_reducible refine (impl_copyMemory.calls a0_0 A0_1 c0_1 l0_1 m1 m2 w4 (Kd.C_below HR.out HB.out) HC.out HM.out).mono ?_)); rintro e w5 ⟨v1, rfl, ho, hb⟩; obtain ⟨Ao, co, rfl⟩ := Kd.R_slice ho; have n0_ := Aside0.mk (below_step HB.out hb); have n1_ := Aside0.mk (blk_below BA.out hb); have n2_ := Aside0.mk (blk_below BR.out hb); have n3_ := Aside0.mk (Kd.R_lower ho (below_size HB.out)); clear HB BA BR hA0 hA1; have HB := n0_; have BA := n1_; have BR := n2_; have HO := n3_; clear n0_ n1_ n2_ n3_ hb ho) | ((with_reducible refine gate_dst (N := 3) rfl ?_); refine box_event ?hg (N := 3) ?hd (cs := #[.string (⟨#[]⟩ : ByteArray), .slice none 0 0]) (t := 29) ?hr ?_; (case hd => rfl); (case hg => rfl); (case hr => first | (go_simp; done) | (go_simp; rfl)); intro gM hg w6 hbox hb; have GM := Aside0.mk (show w.heap.size ≤ gM by rw [hg]; exact below_size HB.out); have NA := Aside0.mk (show gA ≠ gM by rw [hg]; exact Nat.ne_of_lt (blk_lt BA.out)); have NR := Aside0.mk (show gR ≠ gM by rw [hg]; exact Nat.ne_of_lt (blk_lt BR.out)); have n0_ := Aside0.mk (below_step HB.out hb); have n1_ := Aside0.mk (blk_below BA.out hb); have n2_ := Aside0.mk (blk_below BR.out hb); have n3_ := Aside0.mk (Kd.R_below HO.out hb); clear HB BA BR HO; have HB := n0_; have BA := n1_; have BR := n2_; have HO := n3_; have BM := Aside0.mk hbox; clear n0_ n1_ n2_ n3_ hb hbox hg; have hM0 : w6.cell? ⟨gM, 0, none⟩ = some (.string (⟨#[]⟩ : ByteArray)) := (blk_cell BM.out 0).trans rfl; have hM1 : w6.cell? ⟨gM, 1, none⟩ = some (.slice none 0 0) := (blk_cell BM.out 1).trans rfl; have fM0 := blk_frozen BM.out 0; have fM1 := blk_frozen BM.out 1; have hA0 : w6.cell? ⟨gA, 0, none⟩ = some (.string a0_0) := (blk_cell BA.out 0).trans rfl; have hA1 : w6.cell? ⟨gA, 1, none⟩ = some (.slice A0_1 l0_1.length c0_1) := (blk_cell BA.out 1).trans rfl; have hnA := NA.out; have hnA' := NA.out.symm) | (go_at_call 12; ((with_reducible refine (impl_MemoryOk.calls k a0_0 A0_1 c0_1 l0_1 _ _ (Kd.C_below HR.out (below_set (below_set (j := 0) (v := .string m1) HB.out GM.out) GM.out)) HC.out HK.out).mono ?_)); rintro e w8 ⟨rfl, hb⟩; have m0_ := Aside0.mk (show ((w6.setCell ⟨gM, 0, none⟩ (.string m1)).setCell ⟨gM, 1, none⟩ (.slice Ao m2.length co)).heap[gM]? = some (.cells #[.string m1, .slice Ao m2.length co] 29 (0, 0)) from blk_put (cs := #[.string m1, .slice none 0 0]) (blk_put (cs := #[.string (⟨#[]⟩ : ByteArray), .slice none 0 0]) BM.out 0 _ rfl) 1 _ rfl); have m2_ := Aside0.mk (show ((w6.setCell ⟨gM, 0, none⟩ (.string m1)).setCell ⟨gM, 1, none⟩ (.slice Ao m2.length co)).heap[gR]? = some (.cells #[.string (⟨#[]⟩ : ByteArray), .slice none 0 0] 29 (0, 0)) from blkFar29 (blkFar29 BR.out ⟨gM, 0, none⟩ _ NR.out) ⟨gM, 1, none⟩ _ NR.out); have m3_ := Aside0.mk (show Kd.R k47 47 ((w6.setCell ⟨gM, 0, none⟩ (.string m1)).setCell ⟨gM, 1, none⟩ (.slice Ao m2.length co)) w.heap.size (fun _ => True) (.slice Ao m2.length co) m2 from Kd.R_mono (Kd.R_far (p := ⟨gM, 1, none⟩) (Kd.R_far (p := ⟨gM, 0, none⟩) (Kd.R_types HO.out BM.out (by decide)) (fun _ hk => hk.2) (.string m1)) (fun _ hk => hk.2) (.slice Ao m2.length co)) (fun _ hk => trivial)); have m4_ := Aside0.mk (show Below w.heap.size w ((w6.setCell ⟨gM, 0, none⟩ (.string m1)).setCell ⟨gM, 1, none⟩ (.slice Ao m2.length co)) from below_set (below_set HB.out GM.out) GM.out); have n0_ := Aside0.mk (below_step m4_.out hb); have n2_ := Aside0.mk (blk_below m2_.out hb); have n3_ := Aside0.mk (Kd.R_below m3_.out hb); have n4_ := Aside0.mk (blk_below m0_.out hb); clear HB BA BR HO BM hA0 hA1 hM0 hM1 fM0 fM1 hnA hnA' m0_ m2_ m3_ m4_; have HB := n0_; have BR := n2_; have HO := n3_; have BM := n4_; clear n0_ n2_ n3_ n4_ hb; have hM0 : w8.cell? ⟨gM, 0, none⟩ = some (.string m1) := (blk_cell BM.out 0).trans rfl; have hM1 : w8.cell? ⟨gM, 1, none⟩ = some (.slice Ao m2.length co) := (blk_cell BM.out 1).trans rfl; have hR0 : w8.cell? ⟨gR, 0, none⟩ = some (.string (⟨#[]⟩ : ByteArray)) := (blk_cell BR.out 0).trans rfl; have hR1 : w8.cell? ⟨gR, 1, none⟩ = some (.slice none 0 0) := (blk_cell BR.out 1).trans rfl; have fR0 := blk_frozen BR.out 0; have fR1 := blk_frozen BR.out 1) | (go_at_call 48; ((with_reducible refine (fence_at gM m1 m2 r1 r2 _ w w8 HB.out GM.out BM.out HO.out HS1.out HS2.out HF.out).mono ?_)); rintro e w9 ⟨v9, rfl, bm, ho, hb, hk⟩; obtain ⟨A9, c9, rfl⟩ := Kd.R_slice ho; have n0_ := Aside0.mk (hk gR _ NR.out BR.out); clear BR HB HO BM; have BR := n0_; have HB := Aside0.mk hb; have HO := Aside0.mk ho; have BM := Aside0.mk bm; clear n0_ hb ho bm hk hM0 hM1 hR0 hR1 fR0 fR1; have hM0 : w9.cell? ⟨gM, 0, none⟩ = some (.string r1) := (blk_cell BM.out 0).trans rfl; have hM1 : w9.cell? ⟨gM, 1, none⟩ = some (.slice A9 r2.length c9) := (blk_cell BM.out 1).trans rfl; have hR0 : w9.cell? ⟨gR, 0, none⟩ = some (.string (⟨#[]⟩ : ByteArray)) := (blk_cell BR.out 0).trans rfl; have hR1 : w9.cell? ⟨gR, 1, none⟩ = some (.slice none 0 0) := (blk_cell BR.out 1).trans rfl; have fR0 := blk_frozen BR.out 0; have fR1 := blk_frozen BR.out 1))
      refine bodyPost_ret (results_cell_row rfl _ _ gR 29 #[.string r1, .slice A9 r2.length c9] (0, 0) _ rfl (blk_put (cs := #[.string r1, .slice none 0 0]) (blk_put (cs := #[.string (⟨#[]⟩ : ByteArray), .slice none 0 0]) BR.out 0 _ rfl) 1 _ rfl) Try.underlying29 rfl (by kernel_rfl)) rfl ?_
      exact ⟨_, rfl, Kd.R_mono (Kd.R_far (p := ⟨gR, 1, none⟩) (Kd.R_far (p := ⟨gR, 0, none⟩) (Kd.R_types HO.out BR.out (by decide)) (fun _ hk => hk.2) (.string r1)) (fun _ hk => hk.2) (.slice A9 r2.length c9)) (fun _ hk => trivial), below_set (below_set HB.out GR.out) GR.out⟩
    · rw [if_neg hs] at h
      cases h

end Go.Proofs.Ytcfdabmeejfcoaa.PFnExactFence
