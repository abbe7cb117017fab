-- Written by a program of this session for this claim; Lean checks it.
import Derived.Test.YtngdfchpknglhaaMFnFieldx0
import Derived.Test.YtngdfchpknglhaaMFnFieldx1
namespace Go.Proofs.Ytngdfchpknglhaa.PFnField
open Go.RowKit Go.Proofs.YtngdfchpknglhaaW.PrintWords Go.Proofs.YtngdfchpknglhaaW.PrintLast Go.Proofs.YtngdfchpknglhaaW.PrintMore
attribute [local go_sem] max2_int min2_int max_two min_two max_three min_three max_four min_four   -- for this text's walks alone
set_option linter.unusedVariables false
set_option linter.unusedSimpArgs false

/-! ### spec_DrawPlaces: function 18 -/
def spec_DrawPlaces.l0 : Nat → List Int → Int → List Int → Int → Int → Option (List Int)
  | 0, _, _, _, _, _ => none
  | k + 1, x4, x5, x135000, x135001, x135002 => if x5 < 12 then ((spec_l01Below.f x135000 x135001 x135002 10000).bind fun bt138 => (if x4.length < 17592186044416 then (spec_DrawPlaces.l0 k (x4 ++ [bt138.1]) (wrap64 (x5 + 1)) x135000 bt138.2.1 bt138.2.2) else (none))) else (some x4)
def spec_DrawPlaces.f (k : Nat) (l0 : List Int) : Option (List Int) := (spec_l01New.f k l0).bind fun bt131 => (spec_DrawPlaces.l0 k (([] : List Int)) 0 bt131.1 bt131.2.1 bt131.2.2)
theorem spec_DrawPlaces.mono_l : ∀ k, (∀ y0 y1 y2 y3 y4, LeO (spec_DrawPlaces.l0 k y0 y1 y2 y3 y4) (spec_DrawPlaces.l0 (k + 1) y0 y1 y2 y3 y4))
  | 0 => fun _ _ _ _ _ r h => by simp [spec_DrawPlaces.l0] at h
  | k + 1 => by
    have ih0 := spec_DrawPlaces.mono_l k
    · intro y0 y1 y2 y3 y4
      unfold spec_DrawPlaces.l0
      repeat' first
      | (with_reducible exact ih0 _ _ _ _ _)
      | (with_reducible exact spec_l01New.mono _ _)
      | (with_reducible exact LeO.refl _)
      | (with_reducible exact LeO.none _)
      | (with_reducible refine LeO.ite ?_ ?_)
      | (with_reducible refine LeO.bind ?_ (fun _ => ?_))
      | exact ih0 _ _ _ _ _
      | exact spec_l01New.mono _ _
      | exact LeO.none _
      | refine LeO.ite ?_ ?_
      | refine LeO.bind ?_ (fun _ => ?_)
theorem spec_DrawPlaces.mono : ∀ a0 k, LeO (spec_DrawPlaces.f k a0) (spec_DrawPlaces.f (k + 1) a0) := by
  intro a0 k
  have ih0 := spec_DrawPlaces.mono_l k
  unfold spec_DrawPlaces.f
  repeat' first
      | (with_reducible exact ih0 _ _ _ _ _)
      | (with_reducible exact spec_l01New.mono _ _)
      | (with_reducible exact LeO.refl _)
      | (with_reducible exact LeO.none _)
      | (with_reducible refine LeO.ite ?_ ?_)
      | (with_reducible refine LeO.bind ?_ (fun _ => ?_))
      | exact ih0 _ _ _ _ _
      | exact spec_l01New.mono _ _
      | exact LeO.none _
      | refine LeO.ite ?_ ?_
      | refine LeO.bind ?_ (fun _ => ?_)
set_option maxHeartbeats 8000000 in
set_option maxRecDepth 100000 in
theorem spec_DrawPlaces.calls (k : Nat) (A0 : Option Addr) (c0 : Nat) (l0 : List Int) (r : List Int) (w : World) (hr0 : Kd.C (Kd.int .u8) w A0 l0.length l0) (hc0 : l0.length ≤ c0) (h : spec_DrawPlaces.f k l0 = some r) :
    Calls Try.prog 18 #[.slice A0 l0.length c0] w fun e w' => ∃ v0_ : Value, e = .returned (v0_) ∧ Kd.R (Kd.int .i64) 3 w' w.heap.size (fun _ => True) v0_ r ∧ Below w.heap.size w w' := by
  have HR0 := Aside0.mk hr0
  have HC0 := Aside0.mk hc0
  clear hr0 hc0
  have HB := Aside0.mk (Below.refl w.heap.size w)
  have H : ((spec_l01New.f k l0).bind fun bt131 => (spec_DrawPlaces.l0 k (([] : List Int)) 0 bt131.1 bt131.2.1 bt131.2.2)) = some r := h
  clear h
  replace H := Option.bind_eq_some_iff.mp H
  obtain ⟨⟨t131, t132, t133⟩, A20, H⟩ := H
  replace H : (spec_DrawPlaces.l0 k (([] : List Int)) 0 t131 t132 t133) = some r := H
  have A2 := Aside0.mk A20
  clear A20
  obtain ⟨y135, hy135⟩ : ∃ y_ : List Int, y_ = (([] : List Int)) := ⟨_, rfl⟩
  replace H : (spec_DrawPlaces.l0 k y135 0 t131 t132 t133) = some r := by first | (rw [hy135]; with_reducible exact H) | (have H2_ := (Option.bind_some _ _).symm.trans H; rw [hy135]; with_reducible exact H2_) | (have H2_ := (Option.bind_some _ _).symm.trans H; with_reducible exact H2_) | with_reducible exact H | (rw [hy135]; exact H) | exact H
  have Ny135 := Aside0.mk hy135
  clear hy135
  have H' := Aside0.mk H
  clear H
  go_enter Try.func18, Try.ntmps18
  go_wp2_with (first | ((with_reducible refine gate_callee (f := 42) rfl ?_); refine goesL_ (some 7) rfl rfl Try.func42 (by kernel_rfl) rfl #[.slice A0 l0.length c0] rfl (by (try simp only [List.map_toArray, List.map_cons, List.map_nil]); first | done | rfl | (simp only [List.length_drop, List.length_take]; rfl)) ?_; (with_reducible refine (spec_l01New.calls k _ _ l0 t131 t132 t133 w _ ?side1 ?side2 ?side3 A2.out).mono ?_); (case side1 => repeat (first | (with_reducible first | exact HB.out | apply below_alloc | apply pw_below_drewN | apply below_drew1) | exact HB.out)); (case side2 => exact HR0.out); (case side3 => exact HC0.out); rintro e w3 ⟨g134, rfl, hi, hb, hb2⟩; refine ⟨_, rfl, ?_⟩; have n0_ := Aside0.mk (hb); have n1_ := Aside0.mk (hi); clear HB; have HB := n0_; have HI134 := n1_; clear n0_ n1_; (try clear hb); (try clear hb2); (try clear hk); (try clear hi)) | ((with_reducible refine gate_dst (N := 8) rfl ?_); refine Kd.R_lit (Kd.int .i64) _ 3 ?hg (N := 8) ?hd (xs := ([] : List Int)) (inner := []) (ok := fun _ => True) (okp := fun _ => True) ?hr ?hp (fun _ hk => hk) trivial (Below.refl _ _) (Nat.le_refl _) (by simp) ?_; (case hd => rfl); (case hg => rfl); (case hr => first | (go_simp; done) | (go_simp; rfl)); (case hp => exact (Reps.none _ _)); intro v136 w4 ho5 hb hg_ hnew_; clear hg_ hnew_; (first | rw [← Ny135.out] at ho5 | (simp only [Int.reduceToNat] at ho5; rw [← Ny135.out] at ho5)); have n0_ := Aside0.mk (Kd.R_lower ho5 (below_size (by repeat (first | (with_reducible first | exact HB.out | apply below_alloc | apply pw_below_drewN | apply below_drew1 | refine below_set ?_ (IsS51.ge HI134.out)) | exact HB.out)))); have n1_ := Aside0.mk (IsS51.below (by repeat (first | (with_reducible first | exact HI134.out | apply IsS51.alloc | apply IsS51.drewN | apply IsS51.drew | apply IsS51.set_1 | apply IsS51.set_2) | exact HI134.out)) hb); have n2_ := Aside0.mk (below_step (by repeat (first | (with_reducible first | exact HB.out | apply below_alloc | apply pw_below_drewN | apply below_drew1 | refine below_set ?_ (IsS51.ge HI134.out)) | exact HB.out)) hb); clear HI134; clear HB; have HO137 := n0_; have HI134 := n1_; have HB := n2_; clear n0_ n1_ n2_; clear hb ho5))
  go_loopg [4, 5] k (fun kq v4 v5 w' => ∃ (x4_1 : List Int) (x5_1 : Int) (x135001_1 : Int) (x135002_1 : Int), v5 = .int .i64 x5_1 ∧ Aside0 (spec_DrawPlaces.l0 kq x4_1 x5_1 t131 x135001_1 x135002_1 = some r) ∧ Aside0 (kq ≤ k) ∧ Aside0 (Kd.R (Kd.int .i64) 3 w' w.heap.size (fun _ => True) v4 x4_1) ∧ Aside0 (IsS51 w w' g134 t131 x135001_1 x135002_1) ∧ Aside0 (Below w.heap.size w w'))
  case atStart => exact ⟨(y135), (0), (t132), (t133), (by first | rfl | (simp; done) | (simp [*]; done)), H', ⟨Nat.le_refl _⟩, ⟨by (with_reducible repeat (first | apply Kd.R_alloc | apply Kd.R_drewN | apply Kd.R_drew)); exact HO137.out⟩, ⟨by repeat (first | (with_reducible first | exact HI134.out | apply IsS51.alloc | apply IsS51.drewN | apply IsS51.drew | apply IsS51.set_1 | apply IsS51.set_2) | exact HI134.out)⟩, ⟨by repeat (first | (with_reducible first | exact HB.out | apply below_alloc | apply pw_below_drewN | apply below_drew1 | refine below_set ?_ (IsS51.ge HI134.out)) | exact HB.out)⟩⟩
  case round =>
    clear H'
    try clear c1
    try clear p2
    try clear c4
    obtain ⟨x4_1, x5_1, x135001_1, x135002_1, rfl, HA, HK1, HO_4, HI134, HB⟩ := hrel
    cases gk with
    | zero => exact absurd HA.out (by simp [spec_DrawPlaces.l0])
    | succ k1 =>
      have H := HA.out
      clear HA
      simp only [spec_DrawPlaces.l0] at H
      by_cases c6 : x5_1 < 12
      · rw [if_pos c6] at H
        have c6b0 : decide (x5_1 < 12) = true := decide_eq_true c6
        clear c6
        replace H := Option.bind_eq_some_iff.mp H
        obtain ⟨⟨t138, t139, t140⟩, A70, H⟩ := H
        replace H : (if x4_1.length < 17592186044416 then (spec_DrawPlaces.l0 k1 (x4_1 ++ [t138]) (wrap64 (x5_1 + 1)) t131 t139 t140) else (none)) = some r := H
        have A7 := Aside0.mk A70
        clear A70
        by_cases c8 : x4_1.length < 17592186044416
        · rw [if_pos c8] at H
          have LMc8 := Aside0.mk c8
          clear c8
          obtain ⟨y141, hy141⟩ : ∃ y_ : List Int, y_ = (x4_1 ++ [t138]) := ⟨_, rfl⟩
          replace H : (spec_DrawPlaces.l0 k1 y141 (wrap64 (x5_1 + 1)) t131 t139 t140) = some r := by first | (rw [hy141]; with_reducible exact H) | (have H2_ := (Option.bind_some _ _).symm.trans H; rw [hy141]; with_reducible exact H2_) | (have H2_ := (Option.bind_some _ _).symm.trans H; with_reducible exact H2_) | with_reducible exact H | (rw [hy141]; exact H) | exact H
          have Ny141 := Aside0.mk hy141
          clear hy141
          have H' := Aside0.mk H
          clear H
          go_wp2_with (first | ((with_reducible refine gate_callee (f := 43) rfl ?_); refine goesL_ (some 15) rfl rfl Try.func43 (by kernel_rfl) rfl #[.pointer (some ⟨g134, 0, none⟩), .int .i64 10000] rfl (by (try simp only [List.map_toArray, List.map_cons, List.map_nil]); first | done | rfl | (simp only [List.length_drop, List.length_take]; rfl)) ?_; (with_reducible refine (spec_l01Below.calls g134 t131 x135001_1 x135002_1 10000 t138 t139 t140 w _ ?side1 ?side2 A7.out).mono ?_); (case side1 => repeat (first | (with_reducible first | exact HI134.out | apply IsS51.alloc | apply IsS51.drewN | apply IsS51.drew | apply IsS51.set_1 | apply IsS51.set_2) | exact HI134.out)); (case side2 => repeat (first | (with_reducible first | exact HB.out | apply below_alloc | apply pw_below_drewN | apply below_drew1 | refine below_set ?_ (IsS51.ge HI134.out)) | exact HB.out)); rintro e w9 ⟨rfl, hi, hb, hk⟩; refine ⟨_, rfl, ?_⟩; have n0_ := Aside0.mk (Kd.R_mono (Kd.R_keep (IsS51.apart (show IsS51 w _ g134 t131 x135001_1 x135002_1 from by repeat (first | (with_reducible first | exact HI134.out | apply IsS51.alloc | apply IsS51.drewN | apply IsS51.drew | apply IsS51.set_1 | apply IsS51.set_2) | exact HI134.out)) (by (with_reducible repeat (first | apply Kd.R_alloc | apply Kd.R_drewN | apply Kd.R_drew)); exact HO_4.out) (by decide)) hk (fun _ h => h.2)) (fun _ h => h.1)); have n1_ := Aside0.mk (hb); have n2_ := Aside0.mk (hi); clear HO_4; clear HB; clear HI134; have HO_4 := n0_; have HB := n1_; have HI134 := n2_; clear n0_ n1_ n2_; (try clear hb); (try clear hb2); (try clear hk); (try clear hi)) | ((with_reducible refine gate_builtin (b := .append) (xs := #[.tmp 13, .tmp 16]) rfl ?_); at_builtin; refine Kd.R_append (Kd.int .i64) (w0 := w) w.heap.size rfl (.tmp 13) (.tmp 16) 26 3 (.int .i64 0) 8 rfl Try.underlying26 info3 rfl (by decide) (by omega) u4 x4_1 t138 [.int .i64 t138] (fun _ => True) (fun _ => False) rfl rfl ?aP (fun _ hk => hk.elim) ?aF ?aO ?aB ?aS ?aL ?_; (case aP => exact rfl); (case aB => exact (by repeat (first | (with_reducible first | exact HB.out | apply below_alloc | apply pw_below_drewN | apply below_drew1 | refine below_set ?_ (IsS51.ge HI134.out)) | exact HB.out))); (case aF => exact (fun _ _ => trivial)); (case aO => exact (by (with_reducible repeat (first | apply Kd.R_alloc | apply Kd.R_drewN | apply Kd.R_drew)); exact HO_4.out)); (case aS => exact (below_size (by repeat (first | (with_reducible first | exact HB.out | apply below_alloc | apply pw_below_drewN | apply below_drew1 | refine below_set ?_ (IsS51.ge HI134.out)) | exact HB.out)))); (case aL => have := LMc8.out; omega); intro v142 w10 ho hb hg hat; rw [← Ny141.out] at ho; have n0_ := Aside0.mk (IsS51.grown (by repeat (first | (with_reducible first | exact HI134.out | apply IsS51.alloc | apply IsS51.drewN | apply IsS51.drew | apply IsS51.set_1 | apply IsS51.set_2) | exact HI134.out)) hg (IsS51.own_ne HI134.out HO_4.out (by decide))); have n1_ := Aside0.mk (hb); have n2_ := Aside0.mk (ho); clear HI134; clear HB; clear HO_4; have HI134 := n0_; have HB := n1_; have HO143 := n2_; clear n0_ n1_ n2_; clear ho hb hg hat))
          go_roundg k1
          case measure => have := HK1.out; omega
          case rel => exact ⟨(y141), (wrap64 (x5_1 + 1)), (t139), (t140), (by first | rfl | (simp; done) | (simp [*]; done)), H', ⟨by have := HK1.out; omega⟩, ⟨by (with_reducible repeat (first | apply Kd.R_alloc | apply Kd.R_drewN | apply Kd.R_drew)); exact HO143.out⟩, ⟨by repeat (first | (with_reducible first | exact HI134.out | apply IsS51.alloc | apply IsS51.drewN | apply IsS51.drew | apply IsS51.set_1 | apply IsS51.set_2) | exact HI134.out)⟩, ⟨by repeat (first | (with_reducible first | exact HB.out | apply below_alloc | apply pw_below_drewN | apply below_drew1 | refine below_set ?_ (IsS51.ge HI134.out)) | exact HB.out)⟩⟩
        · rw [if_neg c8] at H
          exact absurd H (by simp)
      · rw [if_neg c6] at H
        have c6b0 : decide (x5_1 < 12) = false := decide_eq_false c6
        clear c6
        obtain rfl := Option.some.inj H
        go_wp2
        go_ret
        exact ⟨_, by first | rfl | (simp [errW_none, errW_some] <;> rfl) | (simp [*, errW_none, errW_some] <;> rfl), by (with_reducible repeat (first | apply Kd.R_alloc | apply Kd.R_drewN | apply Kd.R_drew)); exact HO_4.out, by repeat (first | (with_reducible first | exact HB.out | apply below_alloc | apply pw_below_drewN | apply below_drew1 | refine below_set ?_ (IsS51.ge HI134.out)) | exact HB.out)⟩

/-! ### impl_FieldInverse: function 19 -/
def impl_FieldInverse.f (k : Nat) (a0 : Int) : Option (Int) := (impl_FieldPow.f k a0 254).bind fun t144 => (some t144)
theorem impl_FieldInverse.mono : ∀ a0 k, LeO (impl_FieldInverse.f k a0) (impl_FieldInverse.f (k + 1) a0) := by
  intro a0 k
  unfold impl_FieldInverse.f
  repeat' first
      | (with_reducible exact impl_FieldPow.mono _ _ _)
      | (with_reducible exact LeO.refl _)
      | (with_reducible exact LeO.none _)
      | (with_reducible refine LeO.ite ?_ ?_)
      | (with_reducible refine LeO.bind ?_ (fun _ => ?_))
      | exact impl_FieldPow.mono _ _ _
      | exact LeO.none _
      | refine LeO.ite ?_ ?_
      | refine LeO.bind ?_ (fun _ => ?_)
set_option maxHeartbeats 8000000 in
set_option maxRecDepth 100000 in
theorem impl_FieldInverse.calls (k : Nat) (a0 : Int) (r : Int) (w : World) (h : impl_FieldInverse.f k a0 = some r) :
    Calls Try.prog 19 #[.int .i64 a0] w fun e w' => e = .returned (.int .i64 r) ∧ Drawn0 w w' := by
  have H : ((impl_FieldPow.f k a0 254).bind fun t144 => (some t144)) = some r := h
  clear h
  replace H := Option.bind_eq_some_iff.mp H
  obtain ⟨t144, A20, H⟩ := H
  replace H : (some t144) = some r := H
  have A2 := Aside0.mk A20
  clear A20
  obtain rfl := Option.some.inj H
  go_enter Try.func19, Try.ntmps19
  go_wp2_with (first | ((with_reducible refine gate_callee (f := 16) rfl ?_); refine goesL_ (some 4) rfl rfl Try.func16 (by kernel_rfl) rfl #[.int .i64 a0, .int .i64 254] rfl (by (try simp only [List.map_toArray, List.map_cons, List.map_nil]); first | done | rfl | (simp only [List.length_drop, List.length_take]; rfl)) ?_; (with_reducible refine (impl_FieldPow.calls k a0 254 t144 _ A2.out).mono ?_); rintro e w' ⟨rfl, ⟨nd, rfl⟩⟩; refine ⟨_, rfl, ?_⟩) | (go_at_call 16; (with_reducible refine (impl_FieldPow.calls k a0 254 t144 _ A2.out).mono ?_); rintro e w' ⟨rfl, ⟨nd, rfl⟩⟩))
  go_ret
  exact ⟨by first | rfl | (simp; done) | (simp [*]; done), by repeat (first | exact Drawn0.refl _ | apply Drawn0.step)⟩

/-! ### laws_FnField: function 5 -/
def laws_FnField.j0 : Nat → Int → Int → Int → Bool → Option (Bool)
  | 0, _, _, _, _ => none
  | k + 1, x4, x5, x6, x41 => if x41 = true then (some false) else ((impl_FieldMul.f k x4 x5).bind fun t154 => ((impl_FieldMul.f k x5 x4).bind fun t155 => (if t154 = t155 then ((impl_FieldMul.f k x4 (Go.bits .xor .i64 x5 x6)).bind fun t156 => ((impl_FieldMul.f k x4 x6).bind fun t157 => (if t156 = (Go.bits .xor .i64 t154 t157) then ((impl_FieldMul.f k t154 x6).bind fun t158 => ((impl_FieldMul.f k x5 x6).bind fun t159 => ((impl_FieldMul.f k x4 t159).bind fun t160 => (if t158 = t160 then ((impl_FieldDouble.f x4).bind fun t161 => ((impl_FieldMul.f k x4 2).bind fun t162 => (if t161 = t162 then ((impl_FieldPow.f k x4 3).bind fun t163 => ((impl_FieldMul.f k x4 x4).bind fun t164 => ((impl_FieldMul.f k x4 t164).bind fun t165 => (if t163 = t165 then ((impl_FieldMul.f k 87 131).bind fun t166 => (some (t166 == 193))) else (some false))))) else (some false)))) else (some false))))) else (some false)))) else (some false))))
def laws_FnField.f (k : Nat) (l0 : List Int) : Option (Bool) := (laws_big.f l0).bind fun t145 => (if t145 = true then (some true) else ((spec_DrawPlaces.f k l0).bind fun t146 => (if 0 < (t146.length : Int) then (if 1 < (t146.length : Int) then (if 2 < (t146.length : Int) then ((impl_FieldInverse.f k (Int.tmod (rd t146 0) 256)).bind fun t152 => (if (Int.tmod (rd t146 0) 256) > 0 then ((impl_FieldMul.f k (Int.tmod (rd t146 0) 256) t152).bind fun t153 => (if t153 = 1 then (if (Int.tmod (rd t146 0) 256) = 0 then (laws_FnField.j0 k (Int.tmod (rd t146 0) 256) (Int.tmod (rd t146 1) 256) (Int.tmod (rd t146 2) 256) (t152 != 0)) else (laws_FnField.j0 k (Int.tmod (rd t146 0) 256) (Int.tmod (rd t146 1) 256) (Int.tmod (rd t146 2) 256) false)) else (laws_FnField.j0 k (Int.tmod (rd t146 0) 256) (Int.tmod (rd t146 1) 256) (Int.tmod (rd t146 2) 256) true))) else (if (Int.tmod (rd t146 0) 256) = 0 then (laws_FnField.j0 k (Int.tmod (rd t146 0) 256) (Int.tmod (rd t146 1) 256) (Int.tmod (rd t146 2) 256) (t152 != 0)) else (laws_FnField.j0 k (Int.tmod (rd t146 0) 256) (Int.tmod (rd t146 1) 256) (Int.tmod (rd t146 2) 256) false)))) else (none)) else (none)) else (none))))
theorem laws_FnField.mono_l : ∀ k, (∀ y0 y1 y2 y3, LeO (laws_FnField.j0 k y0 y1 y2 y3) (laws_FnField.j0 (k + 1) y0 y1 y2 y3))
  | 0 => fun _ _ _ _ r h => by simp [laws_FnField.j0] at h
  | k + 1 => by
    have ih0 := laws_FnField.mono_l k
    · intro y0 y1 y2 y3
      unfold laws_FnField.j0
      repeat' first
      | (with_reducible exact ih0 _ _ _ _)
      | (with_reducible exact impl_FieldInverse.mono _ _)
      | (with_reducible exact impl_FieldMul.mono _ _ _)
      | (with_reducible exact impl_FieldPow.mono _ _ _)
      | (with_reducible exact spec_DrawPlaces.mono _ _)
      | (with_reducible exact LeO.refl _)
      | (with_reducible exact LeO.none _)
      | (with_reducible refine LeO.ite ?_ ?_)
      | (with_reducible refine LeO.bind ?_ (fun _ => ?_))
      | exact ih0 _ _ _ _
      | exact impl_FieldInverse.mono _ _
      | exact impl_FieldMul.mono _ _ _
      | exact impl_FieldPow.mono _ _ _
      | exact spec_DrawPlaces.mono _ _
      | exact LeO.none _
      | refine LeO.ite ?_ ?_
      | refine LeO.bind ?_ (fun _ => ?_)
theorem laws_FnField.mono : ∀ a0 k, LeO (laws_FnField.f k a0) (laws_FnField.f (k + 1) a0) := by
  intro a0 k
  have ih0 := laws_FnField.mono_l k
  unfold laws_FnField.f
  repeat' first
      | (with_reducible exact ih0 _ _ _ _)
      | (with_reducible exact impl_FieldInverse.mono _ _)
      | (with_reducible exact impl_FieldMul.mono _ _ _)
      | (with_reducible exact impl_FieldPow.mono _ _ _)
      | (with_reducible exact spec_DrawPlaces.mono _ _)
      | (with_reducible exact LeO.refl _)
      | (with_reducible exact LeO.none _)
      | (with_reducible refine LeO.ite ?_ ?_)
      | (with_reducible refine LeO.bind ?_ (fun _ => ?_))
      | exact ih0 _ _ _ _
      | exact impl_FieldInverse.mono _ _
      | exact impl_FieldMul.mono _ _ _
      | exact impl_FieldPow.mono _ _ _
      | exact spec_DrawPlaces.mono _ _
      | exact LeO.none _
      | refine LeO.ite ?_ ?_
      | refine LeO.bind ?_ (fun _ => ?_)
set_option maxHeartbeats 8000000 in
set_option maxRecDepth 100000 in
theorem laws_FnField.calls (k : Nat) (A0 : Option Addr) (c0 : Nat) (l0 : List Int) (r : Bool) (w : World) (hr0 : Kd.C (Kd.int .u8) w A0 l0.length l0) (hc0 : l0.length ≤ c0) (h : laws_FnField.f k l0 = some r) :
    Calls Try.prog 5 #[.slice A0 l0.length c0] w fun e w' => e = .returned (.bool r) ∧ Below w.heap.size w w' := by
  have HR0 := Aside0.mk hr0
  have HC0 := Aside0.mk hc0
  clear hr0 hc0
  have HB := Aside0.mk (Below.refl w.heap.size w)
  have H : ((laws_big.f l0).bind fun t145 => (if t145 = true then (some true) else ((spec_DrawPlaces.f k l0).bind fun t146 => (if 0 < (t146.length : Int) then (if 1 < (t146.length : Int) then (if 2 < (t146.length : Int) then ((impl_FieldInverse.f k (Int.tmod (rd t146 0) 256)).bind fun t152 => (if (Int.tmod (rd t146 0) 256) > 0 then ((impl_FieldMul.f k (Int.tmod (rd t146 0) 256) t152).bind fun t153 => (if t153 = 1 then (if (Int.tmod (rd t146 0) 256) = 0 then (laws_FnField.j0 k (Int.tmod (rd t146 0) 256) (Int.tmod (rd t146 1) 256) (Int.tmod (rd t146 2) 256) (t152 != 0)) else (laws_FnField.j0 k (Int.tmod (rd t146 0) 256) (Int.tmod (rd t146 1) 256) (Int.tmod (rd t146 2) 256) false)) else (laws_FnField.j0 k (Int.tmod (rd t146 0) 256) (Int.tmod (rd t146 1) 256) (Int.tmod (rd t146 2) 256) true))) else (if (Int.tmod (rd t146 0) 256) = 0 then (laws_FnField.j0 k (Int.tmod (rd t146 0) 256) (Int.tmod (rd t146 1) 256) (Int.tmod (rd t146 2) 256) (t152 != 0)) else (laws_FnField.j0 k (Int.tmod (rd t146 0) 256) (Int.tmod (rd t146 1) 256) (Int.tmod (rd t146 2) 256) false)))) else (none)) else (none)) else (none))))) = some r := h
  clear h
  replace H := Option.bind_eq_some_iff.mp H
  obtain ⟨t145, A20, H⟩ := H
  replace H : (if t145 = true then (some true) else ((spec_DrawPlaces.f k l0).bind fun t146 => (if 0 < (t146.length : Int) then (if 1 < (t146.length : Int) then (if 2 < (t146.length : Int) then ((impl_FieldInverse.f k (Int.tmod (rd t146 0) 256)).bind fun t152 => (if (Int.tmod (rd t146 0) 256) > 0 then ((impl_FieldMul.f k (Int.tmod (rd t146 0) 256) t152).bind fun t153 => (if t153 = 1 then (if (Int.tmod (rd t146 0) 256) = 0 then (laws_FnField.j0 k (Int.tmod (rd t146 0) 256) (Int.tmod (rd t146 1) 256) (Int.tmod (rd t146 2) 256) (t152 != 0)) else (laws_FnField.j0 k (Int.tmod (rd t146 0) 256) (Int.tmod (rd t146 1) 256) (Int.tmod (rd t146 2) 256) false)) else (laws_FnField.j0 k (Int.tmod (rd t146 0) 256) (Int.tmod (rd t146 1) 256) (Int.tmod (rd t146 2) 256) true))) else (if (Int.tmod (rd t146 0) 256) = 0 then (laws_FnField.j0 k (Int.tmod (rd t146 0) 256) (Int.tmod (rd t146 1) 256) (Int.tmod (rd t146 2) 256) (t152 != 0)) else (laws_FnField.j0 k (Int.tmod (rd t146 0) 256) (Int.tmod (rd t146 1) 256) (Int.tmod (rd t146 2) 256) false)))) else (none)) else (none)) else (none)))) = some r := H
  have A2 := Aside0.mk A20
  clear A20
  by_cases c3 : t145 = true
  · subst c3
    have H1 : (some true) = some r := by rw [if_pos rfl] at H; exact H
    clear H
    have H := H1
    clear H1
    obtain rfl := Option.some.inj H
    go_enter Try.func5, Try.ntmps5
    go_wp2_with (first | ((with_reducible refine gate_callee (f := 17) rfl ?_); refine goesL_ (some 9) rfl rfl Try.func17 (by kernel_rfl) rfl #[.slice A0 l0.length c0] rfl (by (try simp only [List.map_toArray, List.map_cons, List.map_nil]); first | done | rfl | (simp only [List.length_drop, List.length_take]; rfl)) ?_; (with_reducible refine (laws_big.calls _ _ l0 true _ ?side1 ?side2 A2.out).mono ?_); (case side1 => repeat (first | exact HR0.out | (with_reducible refine Kd.C_alloc ?_ _) | (with_reducible refine Kd.C_drewN ?_ _) | (with_reducible refine Kd.C_drew ?_))); (case side2 => exact HC0.out); rintro e w' ⟨rfl, ⟨nd, rfl⟩⟩; refine ⟨_, rfl, ?_⟩))
    go_ret
    exact ⟨by first | rfl | (simp [errW_none, errW_some] <;> rfl) | (simp [*, errW_none, errW_some] <;> rfl), by repeat (first | (with_reducible first | exact HB.out | apply below_alloc | apply pw_below_drewN | apply below_drew1) | exact HB.out)⟩
  · replace c3 := Bool.eq_false_iff.mpr c3
    subst c3
    have H1 : ((spec_DrawPlaces.f k l0).bind fun t146 => (if 0 < (t146.length : Int) then (if 1 < (t146.length : Int) then (if 2 < (t146.length : Int) then ((impl_FieldInverse.f k (Int.tmod (rd t146 0) 256)).bind fun t152 => (if (Int.tmod (rd t146 0) 256) > 0 then ((impl_FieldMul.f k (Int.tmod (rd t146 0) 256) t152).bind fun t153 => (if t153 = 1 then (if (Int.tmod (rd t146 0) 256) = 0 then (laws_FnField.j0 k (Int.tmod (rd t146 0) 256) (Int.tmod (rd t146 1) 256) (Int.tmod (rd t146 2) 256) (t152 != 0)) else (laws_FnField.j0 k (Int.tmod (rd t146 0) 256) (Int.tmod (rd t146 1) 256) (Int.tmod (rd t146 2) 256) false)) else (laws_FnField.j0 k (Int.tmod (rd t146 0) 256) (Int.tmod (rd t146 1) 256) (Int.tmod (rd t146 2) 256) true))) else (if (Int.tmod (rd t146 0) 256) = 0 then (laws_FnField.j0 k (Int.tmod (rd t146 0) 256) (Int.tmod (rd t146 1) 256) (Int.tmod (rd t146 2) 256) (t152 != 0)) else (laws_FnField.j0 k (Int.tmod (rd t146 0) 256) (Int.tmod (rd t146 1) 256) (Int.tmod (rd t146 2) 256) false)))) else (none)) else (none)) else (none))) = some r := by rw [if_neg (show ¬ (false = true) by decide)] at H; exact H
    clear H
    have H := H1
    clear H1
    replace H := Option.bind_eq_some_iff.mp H
    obtain ⟨t146, A40, H⟩ := H
    replace H : (if 0 < (t146.length : Int) then (if 1 < (t146.length : Int) then (if 2 < (t146.length : Int) then ((impl_FieldInverse.f k (Int.tmod (rd t146 0) 256)).bind fun t152 => (if (Int.tmod (rd t146 0) 256) > 0 then ((impl_FieldMul.f k (Int.tmod (rd t146 0) 256) t152).bind fun t153 => (if t153 = 1 then (if (Int.tmod (rd t146 0) 256) = 0 then (laws_FnField.j0 k (Int.tmod (rd t146 0) 256) (Int.tmod (rd t146 1) 256) (Int.tmod (rd t146 2) 256) (t152 != 0)) else (laws_FnField.j0 k (Int.tmod (rd t146 0) 256) (Int.tmod (rd t146 1) 256) (Int.tmod (rd t146 2) 256) false)) else (laws_FnField.j0 k (Int.tmod (rd t146 0) 256) (Int.tmod (rd t146 1) 256) (Int.tmod (rd t146 2) 256) true))) else (if (Int.tmod (rd t146 0) 256) = 0 then (laws_FnField.j0 k (Int.tmod (rd t146 0) 256) (Int.tmod (rd t146 1) 256) (Int.tmod (rd t146 2) 256) (t152 != 0)) else (laws_FnField.j0 k (Int.tmod (rd t146 0) 256) (Int.tmod (rd t146 1) 256) (Int.tmod (rd t146 2) 256) false)))) else (none)) else (none)) else (none)) = some r := H
    have A4 := Aside0.mk A40
    clear A40
    by_cases c5 : 0 < (t146.length : Int)
    · rw [if_pos c5] at H
      have c5b0 : decide (0 < (t146.length : Int)) = true := decide_eq_true c5
      have c5b1 : decide (0 < t146.length) = true := decide_eq_true (by omega)
      clear c5
      by_cases c6 : 1 < (t146.length : Int)
      · rw [if_pos c6] at H
        have c6b0 : decide (1 < (t146.length : Int)) = true := decide_eq_true c6
        have c6b1 : decide (1 < t146.length) = true := decide_eq_true (by omega)
        clear c6
        by_cases c7 : 2 < (t146.length : Int)
        · rw [if_pos c7] at H
          have c7b0 : decide (2 < (t146.length : Int)) = true := decide_eq_true c7
          have c7b1 : decide (2 < t146.length) = true := decide_eq_true (by omega)
          clear c7
          replace H := Option.bind_eq_some_iff.mp H
          obtain ⟨t152, A80, H⟩ := H
          replace H : (if (Int.tmod (rd t146 0) 256) > 0 then ((impl_FieldMul.f k (Int.tmod (rd t146 0) 256) t152).bind fun t153 => (if t153 = 1 then (if (Int.tmod (rd t146 0) 256) = 0 then (laws_FnField.j0 k (Int.tmod (rd t146 0) 256) (Int.tmod (rd t146 1) 256) (Int.tmod (rd t146 2) 256) (t152 != 0)) else (laws_FnField.j0 k (Int.tmod (rd t146 0) 256) (Int.tmod (rd t146 1) 256) (Int.tmod (rd t146 2) 256) false)) else (laws_FnField.j0 k (Int.tmod (rd t146 0) 256) (Int.tmod (rd t146 1) 256) (Int.tmod (rd t146 2) 256) true))) else (if (Int.tmod (rd t146 0) 256) = 0 then (laws_FnField.j0 k (Int.tmod (rd t146 0) 256) (Int.tmod (rd t146 1) 256) (Int.tmod (rd t146 2) 256) (t152 != 0)) else (laws_FnField.j0 k (Int.tmod (rd t146 0) 256) (Int.tmod (rd t146 1) 256) (Int.tmod (rd t146 2) 256) false))) = some r := H
          have A8 := Aside0.mk A80
          clear A80
          have HC9 := Aside0.mk H
          clear H
          go_enter Try.func5, Try.ntmps5
          go_upto_region 8 with (first | ((with_reducible refine gate_callee (f := 17) rfl ?_); refine goesL_ (some 9) rfl rfl Try.func17 (by kernel_rfl) rfl #[.slice A0 l0.length c0] rfl (by (try simp only [List.map_toArray, List.map_cons, List.map_nil]); first | done | rfl | (simp only [List.length_drop, List.length_take]; rfl)) ?_; (with_reducible refine (laws_big.calls _ _ l0 false _ ?side1 ?side2 A2.out).mono ?_); (case side1 => repeat (first | exact HR0.out | (with_reducible refine Kd.C_alloc ?_ _) | (with_reducible refine Kd.C_drewN ?_ _) | (with_reducible refine Kd.C_drew ?_))); (case side2 => exact HC0.out); rintro e w' ⟨rfl, ⟨nd, rfl⟩⟩; refine ⟨_, rfl, ?_⟩) | ((with_reducible refine gate_callee (f := 18) rfl ?_); refine goesL_ (some 11) rfl rfl Try.func18 (by kernel_rfl) rfl #[.slice A0 l0.length c0] rfl (by (try simp only [List.map_toArray, List.map_cons, List.map_nil]); first | done | rfl | (simp only [List.length_drop, List.length_take]; rfl)) ?_; (with_reducible refine (spec_DrawPlaces.calls k _ _ l0 t146 _ ?side1 ?side2 A4.out).mono ?_); (case side1 => repeat (first | exact HR0.out | (with_reducible refine Kd.C_alloc ?_ _) | (with_reducible refine Kd.C_drewN ?_ _) | (with_reducible refine Kd.C_drew ?_))); (case side2 => exact HC0.out); rintro e w10 ⟨v147, rfl, ho0, hb⟩; refine ⟨_, rfl, ?_⟩; have n0_ := Aside0.mk (Kd.R_lower ho0 (below_size (by repeat (first | (with_reducible first | exact HB.out | apply below_alloc | apply pw_below_drewN | apply below_drew1) | exact HB.out)))); have n1_ := Aside0.mk (below_step (by repeat (first | (with_reducible first | exact HB.out | apply below_alloc | apply pw_below_drewN | apply below_drew1) | exact HB.out)) hb); clear HB; have HO148 := n0_; have HB := n1_; clear n0_ n1_; (try clear hb); (try clear hb2); (try clear hk); (try clear hi); (try clear ho0); obtain ⟨Ao11, co11, eo11⟩ := Kd.R_slice HO148.out; subst eo11; have p149 : 0 ≤ (0 : Int) := (by omega); have q149 : 0 < (t146.length : Int) := of_decide_eq_true (by first | (with_reducible assumption) | assumption); obtain ⟨ad149, e149, hx149_0⟩ := Kd.at_int (Kd.R_reads' HO148.out).2.2 0 p149 q149; cases e149; have qi149 : (0 < t146.length) = True := eq_true (by omega); (try rw [show ((0 : Int)).toNat = 0 from rfl] at hx149_0); (try rw [Addr.add_zero'] at hx149_0); replace p149 := eq_true p149; replace q149 := eq_true q149; have p150 : 0 ≤ (1 : Int) := (by omega); have q150 : 1 < (t146.length : Int) := of_decide_eq_true (by first | (with_reducible assumption) | assumption); obtain ⟨ad150, e150, hx150_0⟩ := Kd.at_int (Kd.R_reads' HO148.out).2.2 1 p150 q150; obtain rfl : ad149 = ad150 := (by injection e150); (try simp only [show (1 : Int).toNat = 1 from rfl, Nat.reduceMul, Nat.reduceEqDiff, Go.Addr.add, ↓reduceIte] at hx150_0); have qi150 : (1 < t146.length) = True := eq_true (by omega); (try rw [show ((1 : Int)).toNat = 1 from rfl] at hx150_0); replace p150 := eq_true p150; replace q150 := eq_true q150; have p151 : 0 ≤ (2 : Int) := (by omega); have q151 : 2 < (t146.length : Int) := of_decide_eq_true (by first | (with_reducible assumption) | assumption); obtain ⟨ad151, e151, hx151_0⟩ := Kd.at_int (Kd.R_reads' HO148.out).2.2 2 p151 q151; obtain rfl : ad149 = ad151 := (by injection e151); (try simp only [show (2 : Int).toNat = 2 from rfl, Nat.reduceMul, Nat.reduceEqDiff, Go.Addr.add, ↓reduceIte] at hx151_0); have qi151 : (2 < t146.length) = True := eq_true (by omega); (try rw [show ((2 : Int)).toNat = 2 from rfl] at hx151_0); replace p151 := eq_true p151; replace q151 := eq_true q151) | ((with_reducible refine gate_callee (f := 19) rfl ?_); refine goesL_ (some 25) rfl rfl Try.func19 (by kernel_rfl) rfl #[.int .i64 (Int.tmod (rd t146 0) 256)] rfl (by (try simp only [List.map_toArray, List.map_cons, List.map_nil]); first | done | rfl | (simp only [List.length_drop, List.length_take]; rfl)) ?_; (with_reducible refine (impl_FieldInverse.calls k (Int.tmod (rd t146 0) 256) t152 _ A8.out).mono ?_); rintro e w' ⟨rfl, ⟨nd, rfl⟩⟩; refine ⟨_, rfl, ?_⟩))
          (try simp only [Act.put, List.setIfInBounds_toArray, List.set_cons_zero, List.set_cons_succ])
          go_cut [41] (fun v41 wc => ∃ (kq : Nat) (x41_8 : Bool), v41 = .bool x41_8 ∧ Aside0 (laws_FnField.j0 kq (Int.tmod (rd t146 0) 256) (Int.tmod (rd t146 1) 256) (Int.tmod (rd t146 2) 256) x41_8 = some r) ∧ Aside0 (kq ≤ k) ∧ Aside0 (Below w.heap.size w wc))
          case first =>
            have H := HC9.out
            clear HC9
            by_cases c12 : (Int.tmod (rd t146 0) 256) > 0
            · rw [if_pos c12] at H
              have c12b0 : decide (0 < (Int.tmod (rd t146 0) 256)) = true := decide_eq_true c12
              clear c12
              (first | rw [c12b0] | (simp only [i64_w, i32_w]; rw [c12b0]) | skip)
              replace H := Option.bind_eq_some_iff.mp H
              obtain ⟨t153, A130, H⟩ := H
              replace H : (if t153 = 1 then (if (Int.tmod (rd t146 0) 256) = 0 then (laws_FnField.j0 k (Int.tmod (rd t146 0) 256) (Int.tmod (rd t146 1) 256) (Int.tmod (rd t146 2) 256) (t152 != 0)) else (laws_FnField.j0 k (Int.tmod (rd t146 0) 256) (Int.tmod (rd t146 1) 256) (Int.tmod (rd t146 2) 256) false)) else (laws_FnField.j0 k (Int.tmod (rd t146 0) 256) (Int.tmod (rd t146 1) 256) (Int.tmod (rd t146 2) 256) true)) = some r := H
              have A13 := Aside0.mk A130
              clear A130
              by_cases c14 : t153 = 1
              · rw [if_pos c14] at H
                have c14b0 : (t153 == 1) = true := beq_iff_eq.mpr c14
                have c14b1 : (t153 != 1) = false := bne_eq_false_iff_eq.mpr c14
                clear c14
                by_cases c15 : (Int.tmod (rd t146 0) 256) = 0
                · rw [if_pos c15] at H
                  have c15b0 : ((Int.tmod (rd t146 0) 256) == 0) = true := beq_iff_eq.mpr c15
                  have c15b1 : ((Int.tmod (rd t146 0) 256) != 0) = false := bne_eq_false_iff_eq.mpr c15
                  clear c15
                  have H' := Aside0.mk H
                  clear H
                  go_wp2_with (first | (go_at_call 14; (with_reducible refine (impl_FieldMul.calls k (Int.tmod (rd t146 0) 256) t152 t153 _ A13.out).mono ?_); rintro e w' ⟨rfl, ⟨nd, rfl⟩⟩))
                  go_meet
                  case rel => exact ⟨_, ((t152 != 0)), (by first | rfl | (simp; done) | (simp [*]; done)), H', ⟨by first | omega | exact Nat.le_refl _⟩, ⟨by repeat (first | (with_reducible first | exact HB.out | apply below_alloc | apply pw_below_drewN | apply below_drew1) | exact HB.out)⟩⟩
                · rw [if_neg c15] at H
                  have c15b0 : ((Int.tmod (rd t146 0) 256) == 0) = false := beq_eq_false_iff_ne.mpr c15
                  have c15b1 : ((Int.tmod (rd t146 0) 256) != 0) = true := bne_iff_ne.mpr c15
                  have H' := Aside0.mk H
                  clear H
                  go_wp2_with (first | (go_at_call 14; (with_reducible refine (impl_FieldMul.calls k (Int.tmod (rd t146 0) 256) t152 t153 _ A13.out).mono ?_); rintro e w' ⟨rfl, ⟨nd, rfl⟩⟩))
                  go_meet
                  case rel => exact ⟨_, (false), (by first | rfl | (simp; done) | (simp [*]; done)), H', ⟨by first | omega | exact Nat.le_refl _⟩, ⟨by repeat (first | (with_reducible first | exact HB.out | apply below_alloc | apply pw_below_drewN | apply below_drew1) | exact HB.out)⟩⟩
              · rw [if_neg c14] at H
                have c14b0 : (t153 == 1) = false := beq_eq_false_iff_ne.mpr c14
                have c14b1 : (t153 != 1) = true := bne_iff_ne.mpr c14
                have H' := Aside0.mk H
                clear H
                go_wp2_with (first | (go_at_call 14; (with_reducible refine (impl_FieldMul.calls k (Int.tmod (rd t146 0) 256) t152 t153 _ A13.out).mono ?_); rintro e w' ⟨rfl, ⟨nd, rfl⟩⟩))
                go_meet
                case rel => exact ⟨_, (true), (by first | rfl | (simp; done) | (simp [*]; done)), H', ⟨by first | omega | exact Nat.le_refl _⟩, ⟨by repeat (first | (with_reducible first | exact HB.out | apply below_alloc | apply pw_below_drewN | apply below_drew1) | exact HB.out)⟩⟩
            · rw [if_neg c12] at H
              have c12b0 : decide (0 < (Int.tmod (rd t146 0) 256)) = false := decide_eq_false c12
              clear c12
              (first | rw [c12b0] | (simp only [i64_w, i32_w]; rw [c12b0]) | skip)
              by_cases c16 : (Int.tmod (rd t146 0) 256) = 0
              · rw [if_pos c16] at H
                have c16b0 : ((Int.tmod (rd t146 0) 256) == 0) = true := beq_iff_eq.mpr c16
                have c16b1 : ((Int.tmod (rd t146 0) 256) != 0) = false := bne_eq_false_iff_eq.mpr c16
                clear c16
                have H' := Aside0.mk H
                clear H
                go_wp2
                go_meet
                case rel => exact ⟨_, ((t152 != 0)), (by first | rfl | (simp; done) | (simp [*]; done)), H', ⟨by first | omega | exact Nat.le_refl _⟩, ⟨by repeat (first | (with_reducible first | exact HB.out | apply below_alloc | apply pw_below_drewN | apply below_drew1) | exact HB.out)⟩⟩
              · rw [if_neg c16] at H
                have c16b0 : ((Int.tmod (rd t146 0) 256) == 0) = false := beq_eq_false_iff_ne.mpr c16
                have c16b1 : ((Int.tmod (rd t146 0) 256) != 0) = true := bne_iff_ne.mpr c16
                have H' := Aside0.mk H
                clear H
                go_wp2
                go_meet
                case rel => exact ⟨_, (false), (by first | rfl | (simp; done) | (simp [*]; done)), H', ⟨by first | omega | exact Nat.le_refl _⟩, ⟨by repeat (first | (with_reducible first | exact HB.out | apply below_alloc | apply pw_below_drewN | apply below_drew1) | exact HB.out)⟩⟩
          case rest =>
            clear HC9
            try clear c1
            try clear p1
            try clear q1
            try clear hx1
            try clear qi1
            try clear p2
            try clear c3
            try clear c5
            try clear c5b0
            try clear c5b1
            try clear c6
            try clear c6b0
            try clear c6b1
            try clear c7
            try clear c7b0
            try clear c7b1
            try clear c12
            try clear c12b0
            try clear c14
            try clear c14b0
            try clear c14b1
            try clear p14
            try clear q14
            try clear hx14
            try clear qi14
            try clear c15
            try clear c15b0
            try clear c15b1
            try clear p15
            try clear q15
            try clear hx15
            try clear qi15
            try clear c16
            try clear c16b0
            try clear c16b1
            try clear hx149_0
            try clear hx150_0
            try clear hx151_0
            try clear p149
            try clear p150
            try clear p151
            try clear q149
            try clear q150
            try clear q151
            obtain ⟨kq, x41_8, rfl, HA, HJ8, HB⟩ := hcut
            cases kq with
            | zero => exact absurd HA.out (by simp [laws_FnField.j0])
            | succ kj8 =>
              have H := HA.out
              clear HA
              simp only [laws_FnField.j0] at H
              by_cases c17 : x41_8 = true
              · subst c17
                have H1 : (some false) = some r := by rw [if_pos rfl] at H; exact H
                clear H
                have H := H1
                clear H1
                obtain rfl := Option.some.inj H
                go_wp2
                go_ret
                exact ⟨by first | rfl | (simp [errW_none, errW_some] <;> rfl) | (simp [*, errW_none, errW_some] <;> rfl), by repeat (first | (with_reducible first | exact HB.out | apply below_alloc | apply pw_below_drewN | apply below_drew1) | exact HB.out)⟩
              · replace c17 := Bool.eq_false_iff.mpr c17
                subst c17
                have H1 : ((impl_FieldMul.f kj8 (Int.tmod (rd t146 0) 256) (Int.tmod (rd t146 1) 256)).bind fun t154 => ((impl_FieldMul.f kj8 (Int.tmod (rd t146 1) 256) (Int.tmod (rd t146 0) 256)).bind fun t155 => (if t154 = t155 then ((impl_FieldMul.f kj8 (Int.tmod (rd t146 0) 256) (Go.bits .xor .i64 (Int.tmod (rd t146 1) 256) (Int.tmod (rd t146 2) 256))).bind fun t156 => ((impl_FieldMul.f kj8 (Int.tmod (rd t146 0) 256) (Int.tmod (rd t146 2) 256)).bind fun t157 => (if t156 = (Go.bits .xor .i64 t154 t157) then ((impl_FieldMul.f kj8 t154 (Int.tmod (rd t146 2) 256)).bind fun t158 => ((impl_FieldMul.f kj8 (Int.tmod (rd t146 1) 256) (Int.tmod (rd t146 2) 256)).bind fun t159 => ((impl_FieldMul.f kj8 (Int.tmod (rd t146 0) 256) t159).bind fun t160 => (if t158 = t160 then ((impl_FieldDouble.f (Int.tmod (rd t146 0) 256)).bind fun t161 => ((impl_FieldMul.f kj8 (Int.tmod (rd t146 0) 256) 2).bind fun t162 => (if t161 = t162 then ((impl_FieldPow.f kj8 (Int.tmod (rd t146 0) 256) 3).bind fun t163 => ((impl_FieldMul.f kj8 (Int.tmod (rd t146 0) 256) (Int.tmod (rd t146 0) 256)).bind fun t164 => ((impl_FieldMul.f kj8 (Int.tmod (rd t146 0) 256) t164).bind fun t165 => (if t163 = t165 then ((impl_FieldMul.f kj8 87 131).bind fun t166 => (some (t166 == 193))) else (some false))))) else (some false)))) else (some false))))) else (some false)))) else (some false)))) = some r := by rw [if_neg (show ¬ (false = true) by decide)] at H; exact H
                clear H
                have H := H1
                clear H1
                replace H := Option.bind_eq_some_iff.mp H
                obtain ⟨t154, A180, H⟩ := H
                replace H : ((impl_FieldMul.f kj8 (Int.tmod (rd t146 1) 256) (Int.tmod (rd t146 0) 256)).bind fun t155 => (if t154 = t155 then ((impl_FieldMul.f kj8 (Int.tmod (rd t146 0) 256) (Go.bits .xor .i64 (Int.tmod (rd t146 1) 256) (Int.tmod (rd t146 2) 256))).bind fun t156 => ((impl_FieldMul.f kj8 (Int.tmod (rd t146 0) 256) (Int.tmod (rd t146 2) 256)).bind fun t157 => (if t156 = (Go.bits .xor .i64 t154 t157) then ((impl_FieldMul.f kj8 t154 (Int.tmod (rd t146 2) 256)).bind fun t158 => ((impl_FieldMul.f kj8 (Int.tmod (rd t146 1) 256) (Int.tmod (rd t146 2) 256)).bind fun t159 => ((impl_FieldMul.f kj8 (Int.tmod (rd t146 0) 256) t159).bind fun t160 => (if t158 = t160 then ((impl_FieldDouble.f (Int.tmod (rd t146 0) 256)).bind fun t161 => ((impl_FieldMul.f kj8 (Int.tmod (rd t146 0) 256) 2).bind fun t162 => (if t161 = t162 then ((impl_FieldPow.f kj8 (Int.tmod (rd t146 0) 256) 3).bind fun t163 => ((impl_FieldMul.f kj8 (Int.tmod (rd t146 0) 256) (Int.tmod (rd t146 0) 256)).bind fun t164 => ((impl_FieldMul.f kj8 (Int.tmod (rd t146 0) 256) t164).bind fun t165 => (if t163 = t165 then ((impl_FieldMul.f kj8 87 131).bind fun t166 => (some (t166 == 193))) else (some false))))) else (some false)))) else (some false))))) else (some false)))) else (some false))) = some r := H
                have A18 := Aside0.mk A180
                clear A180
                replace H := Option.bind_eq_some_iff.mp H
                obtain ⟨t155, A190, H⟩ := H
                replace H : (if t154 = t155 then ((impl_FieldMul.f kj8 (Int.tmod (rd t146 0) 256) (Go.bits .xor .i64 (Int.tmod (rd t146 1) 256) (Int.tmod (rd t146 2) 256))).bind fun t156 => ((impl_FieldMul.f kj8 (Int.tmod (rd t146 0) 256) (Int.tmod (rd t146 2) 256)).bind fun t157 => (if t156 = (Go.bits .xor .i64 t154 t157) then ((impl_FieldMul.f kj8 t154 (Int.tmod (rd t146 2) 256)).bind fun t158 => ((impl_FieldMul.f kj8 (Int.tmod (rd t146 1) 256) (Int.tmod (rd t146 2) 256)).bind fun t159 => ((impl_FieldMul.f kj8 (Int.tmod (rd t146 0) 256) t159).bind fun t160 => (if t158 = t160 then ((impl_FieldDouble.f (Int.tmod (rd t146 0) 256)).bind fun t161 => ((impl_FieldMul.f kj8 (Int.tmod (rd t146 0) 256) 2).bind fun t162 => (if t161 = t162 then ((impl_FieldPow.f kj8 (Int.tmod (rd t146 0) 256) 3).bind fun t163 => ((impl_FieldMul.f kj8 (Int.tmod (rd t146 0) 256) (Int.tmod (rd t146 0) 256)).bind fun t164 => ((impl_FieldMul.f kj8 (Int.tmod (rd t146 0) 256) t164).bind fun t165 => (if t163 = t165 then ((impl_FieldMul.f kj8 87 131).bind fun t166 => (some (t166 == 193))) else (some false))))) else (some false)))) else (some false))))) else (some false)))) else (some false)) = some r := H
                have A19 := Aside0.mk A190
                clear A190
                by_cases c20 : t154 = t155
                · rw [if_pos c20] at H
                  have c20b0 : (t154 == t155) = true := beq_iff_eq.mpr c20
                  have c20b1 : (t154 != t155) = false := bne_eq_false_iff_eq.mpr c20
                  clear c20
                  replace H := Option.bind_eq_some_iff.mp H
                  obtain ⟨t156, A210, H⟩ := H
                  replace H : ((impl_FieldMul.f kj8 (Int.tmod (rd t146 0) 256) (Int.tmod (rd t146 2) 256)).bind fun t157 => (if t156 = (Go.bits .xor .i64 t154 t157) then ((impl_FieldMul.f kj8 t154 (Int.tmod (rd t146 2) 256)).bind fun t158 => ((impl_FieldMul.f kj8 (Int.tmod (rd t146 1) 256) (Int.tmod (rd t146 2) 256)).bind fun t159 => ((impl_FieldMul.f kj8 (Int.tmod (rd t146 0) 256) t159).bind fun t160 => (if t158 = t160 then ((impl_FieldDouble.f (Int.tmod (rd t146 0) 256)).bind fun t161 => ((impl_FieldMul.f kj8 (Int.tmod (rd t146 0) 256) 2).bind fun t162 => (if t161 = t162 then ((impl_FieldPow.f kj8 (Int.tmod (rd t146 0) 256) 3).bind fun t163 => ((impl_FieldMul.f kj8 (Int.tmod (rd t146 0) 256) (Int.tmod (rd t146 0) 256)).bind fun t164 => ((impl_FieldMul.f kj8 (Int.tmod (rd t146 0) 256) t164).bind fun t165 => (if t163 = t165 then ((impl_FieldMul.f kj8 87 131).bind fun t166 => (some (t166 == 193))) else (some false))))) else (some false)))) else (some false))))) else (some false))) = some r := H
                  have A21 := Aside0.mk A210
                  clear A210
                  replace H := Option.bind_eq_some_iff.mp H
                  obtain ⟨t157, A220, H⟩ := H
                  replace H : (if t156 = (Go.bits .xor .i64 t154 t157) then ((impl_FieldMul.f kj8 t154 (Int.tmod (rd t146 2) 256)).bind fun t158 => ((impl_FieldMul.f kj8 (Int.tmod (rd t146 1) 256) (Int.tmod (rd t146 2) 256)).bind fun t159 => ((impl_FieldMul.f kj8 (Int.tmod (rd t146 0) 256) t159).bind fun t160 => (if t158 = t160 then ((impl_FieldDouble.f (Int.tmod (rd t146 0) 256)).bind fun t161 => ((impl_FieldMul.f kj8 (Int.tmod (rd t146 0) 256) 2).bind fun t162 => (if t161 = t162 then ((impl_FieldPow.f kj8 (Int.tmod (rd t146 0) 256) 3).bind fun t163 => ((impl_FieldMul.f kj8 (Int.tmod (rd t146 0) 256) (Int.tmod (rd t146 0) 256)).bind fun t164 => ((impl_FieldMul.f kj8 (Int.tmod (rd t146 0) 256) t164).bind fun t165 => (if t163 = t165 then ((impl_FieldMul.f kj8 87 131).bind fun t166 => (some (t166 == 193))) else (some false))))) else (some false)))) else (some false))))) else (some false)) = some r := H
                  have A22 := Aside0.mk A220
                  clear A220
                  by_cases c23 : t156 = (Go.bits .xor .i64 t154 t157)
                  · rw [if_pos c23] at H
                    have c23b0 : (t156 == (Go.bits .xor .i64 t154 t157)) = true := beq_iff_eq.mpr c23
                    have c23b1 : (t156 != (Go.bits .xor .i64 t154 t157)) = false := bne_eq_false_iff_eq.mpr c23
                    clear c23
                    replace H := Option.bind_eq_some_iff.mp H
                    obtain ⟨t158, A240, H⟩ := H
                    replace H : ((impl_FieldMul.f kj8 (Int.tmod (rd t146 1) 256) (Int.tmod (rd t146 2) 256)).bind fun t159 => ((impl_FieldMul.f kj8 (Int.tmod (rd t146 0) 256) t159).bind fun t160 => (if t158 = t160 then ((impl_FieldDouble.f (Int.tmod (rd t146 0) 256)).bind fun t161 => ((impl_FieldMul.f kj8 (Int.tmod (rd t146 0) 256) 2).bind fun t162 => (if t161 = t162 then ((impl_FieldPow.f kj8 (Int.tmod (rd t146 0) 256) 3).bind fun t163 => ((impl_FieldMul.f kj8 (Int.tmod (rd t146 0) 256) (Int.tmod (rd t146 0) 256)).bind fun t164 => ((impl_FieldMul.f kj8 (Int.tmod (rd t146 0) 256) t164).bind fun t165 => (if t163 = t165 then ((impl_FieldMul.f kj8 87 131).bind fun t166 => (some (t166 == 193))) else (some false))))) else (some false)))) else (some false)))) = some r := H
                    have A24 := Aside0.mk A240
                    clear A240
                    replace H := Option.bind_eq_some_iff.mp H
                    obtain ⟨t159, A250, H⟩ := H
                    replace H : ((impl_FieldMul.f kj8 (Int.tmod (rd t146 0) 256) t159).bind fun t160 => (if t158 = t160 then ((impl_FieldDouble.f (Int.tmod (rd t146 0) 256)).bind fun t161 => ((impl_FieldMul.f kj8 (Int.tmod (rd t146 0) 256) 2).bind fun t162 => (if t161 = t162 then ((impl_FieldPow.f kj8 (Int.tmod (rd t146 0) 256) 3).bind fun t163 => ((impl_FieldMul.f kj8 (Int.tmod (rd t146 0) 256) (Int.tmod (rd t146 0) 256)).bind fun t164 => ((impl_FieldMul.f kj8 (Int.tmod (rd t146 0) 256) t164).bind fun t165 => (if t163 = t165 then ((impl_FieldMul.f kj8 87 131).bind fun t166 => (some (t166 == 193))) else (some false))))) else (some false)))) else (some false))) = some r := H
                    have A25 := Aside0.mk A250
                    clear A250
                    replace H := Option.bind_eq_some_iff.mp H
                    obtain ⟨t160, A260, H⟩ := H
                    replace H : (if t158 = t160 then ((impl_FieldDouble.f (Int.tmod (rd t146 0) 256)).bind fun t161 => ((impl_FieldMul.f kj8 (Int.tmod (rd t146 0) 256) 2).bind fun t162 => (if t161 = t162 then ((impl_FieldPow.f kj8 (Int.tmod (rd t146 0) 256) 3).bind fun t163 => ((impl_FieldMul.f kj8 (Int.tmod (rd t146 0) 256) (Int.tmod (rd t146 0) 256)).bind fun t164 => ((impl_FieldMul.f kj8 (Int.tmod (rd t146 0) 256) t164).bind fun t165 => (if t163 = t165 then ((impl_FieldMul.f kj8 87 131).bind fun t166 => (some (t166 == 193))) else (some false))))) else (some false)))) else (some false)) = some r := H
                    have A26 := Aside0.mk A260
                    clear A260
                    by_cases c27 : t158 = t160
                    · rw [if_pos c27] at H
                      have c27b0 : (t158 == t160) = true := beq_iff_eq.mpr c27
                      have c27b1 : (t158 != t160) = false := bne_eq_false_iff_eq.mpr c27
                      clear c27
                      replace H := Option.bind_eq_some_iff.mp H
                      obtain ⟨t161, A280, H⟩ := H
                      replace H : ((impl_FieldMul.f kj8 (Int.tmod (rd t146 0) 256) 2).bind fun t162 => (if t161 = t162 then ((impl_FieldPow.f kj8 (Int.tmod (rd t146 0) 256) 3).bind fun t163 => ((impl_FieldMul.f kj8 (Int.tmod (rd t146 0) 256) (Int.tmod (rd t146 0) 256)).bind fun t164 => ((impl_FieldMul.f kj8 (Int.tmod (rd t146 0) 256) t164).bind fun t165 => (if t163 = t165 then ((impl_FieldMul.f kj8 87 131).bind fun t166 => (some (t166 == 193))) else (some false))))) else (some false))) = some r := H
                      have A28 := Aside0.mk A280
                      clear A280
                      replace H := Option.bind_eq_some_iff.mp H
                      obtain ⟨t162, A290, H⟩ := H
                      replace H : (if t161 = t162 then ((impl_FieldPow.f kj8 (Int.tmod (rd t146 0) 256) 3).bind fun t163 => ((impl_FieldMul.f kj8 (Int.tmod (rd t146 0) 256) (Int.tmod (rd t146 0) 256)).bind fun t164 => ((impl_FieldMul.f kj8 (Int.tmod (rd t146 0) 256) t164).bind fun t165 => (if t163 = t165 then ((impl_FieldMul.f kj8 87 131).bind fun t166 => (some (t166 == 193))) else (some false))))) else (some false)) = some r := H
                      have A29 := Aside0.mk A290
                      clear A290
                      by_cases c30 : t161 = t162
                      · rw [if_pos c30] at H
                        have c30b0 : (t161 == t162) = true := beq_iff_eq.mpr c30
                        have c30b1 : (t161 != t162) = false := bne_eq_false_iff_eq.mpr c30
                        clear c30
                        replace H := Option.bind_eq_some_iff.mp H
                        obtain ⟨t163, A310, H⟩ := H
                        replace H : ((impl_FieldMul.f kj8 (Int.tmod (rd t146 0) 256) (Int.tmod (rd t146 0) 256)).bind fun t164 => ((impl_FieldMul.f kj8 (Int.tmod (rd t146 0) 256) t164).bind fun t165 => (if t163 = t165 then ((impl_FieldMul.f kj8 87 131).bind fun t166 => (some (t166 == 193))) else (some false)))) = some r := H
                        have A31 := Aside0.mk A310
                        clear A310
                        replace H := Option.bind_eq_some_iff.mp H
                        obtain ⟨t164, A320, H⟩ := H
                        replace H : ((impl_FieldMul.f kj8 (Int.tmod (rd t146 0) 256) t164).bind fun t165 => (if t163 = t165 then ((impl_FieldMul.f kj8 87 131).bind fun t166 => (some (t166 == 193))) else (some false))) = some r := H
                        have A32 := Aside0.mk A320
                        clear A320
                        replace H := Option.bind_eq_some_iff.mp H
                        obtain ⟨t165, A330, H⟩ := H
                        replace H : (if t163 = t165 then ((impl_FieldMul.f kj8 87 131).bind fun t166 => (some (t166 == 193))) else (some false)) = some r := H
                        have A33 := Aside0.mk A330
                        clear A330
                        by_cases c34 : t163 = t165
                        · rw [if_pos c34] at H
                          have c34b0 : (t163 == t165) = true := beq_iff_eq.mpr c34
                          have c34b1 : (t163 != t165) = false := bne_eq_false_iff_eq.mpr c34
                          clear c34
                          replace H := Option.bind_eq_some_iff.mp H
                          obtain ⟨t166, A350, H⟩ := H
                          replace H : (some (t166 == 193)) = some r := H
                          have A35 := Aside0.mk A350
                          clear A350
                          obtain rfl := Option.some.inj H
                          go_wp2_with (first | ((with_reducible refine gate_callee (f := 14) rfl ?_); refine goesL_ (some 44) rfl rfl Try.func14 (by kernel_rfl) rfl #[.int .i64 (Int.tmod (rd t146 0) 256), .int .i64 (Int.tmod (rd t146 1) 256)] rfl (by (try simp only [List.map_toArray, List.map_cons, List.map_nil]); first | done | rfl | (simp only [List.length_drop, List.length_take]; rfl)) ?_; (with_reducible refine (impl_FieldMul.calls kj8 (Int.tmod (rd t146 0) 256) (Int.tmod (rd t146 1) 256) t154 _ A18.out).mono ?_); rintro e w' ⟨rfl, ⟨nd, rfl⟩⟩; refine ⟨_, rfl, ?_⟩) | ((with_reducible refine gate_callee (f := 14) rfl ?_); refine goesL_ (some 47) rfl rfl Try.func14 (by kernel_rfl) rfl #[.int .i64 (Int.tmod (rd t146 1) 256), .int .i64 (Int.tmod (rd t146 0) 256)] rfl (by (try simp only [List.map_toArray, List.map_cons, List.map_nil]); first | done | rfl | (simp only [List.length_drop, List.length_take]; rfl)) ?_; (with_reducible refine (impl_FieldMul.calls kj8 (Int.tmod (rd t146 1) 256) (Int.tmod (rd t146 0) 256) t155 _ A19.out).mono ?_); rintro e w' ⟨rfl, ⟨nd, rfl⟩⟩; refine ⟨_, rfl, ?_⟩) | (go_at_call 14; (with_reducible refine (impl_FieldMul.calls kj8 (Int.tmod (rd t146 0) 256) (Go.bits .xor .i64 (Int.tmod (rd t146 1) 256) (Int.tmod (rd t146 2) 256)) t156 _ A21.out).mono ?_); rintro e w' ⟨rfl, ⟨nd, rfl⟩⟩) | (go_at_call 14; (with_reducible refine (impl_FieldMul.calls kj8 (Int.tmod (rd t146 0) 256) (Int.tmod (rd t146 2) 256) t157 _ A22.out).mono ?_); rintro e w' ⟨rfl, ⟨nd, rfl⟩⟩) | (go_at_call 14; (with_reducible refine (impl_FieldMul.calls kj8 t154 (Int.tmod (rd t146 2) 256) t158 _ A24.out).mono ?_); rintro e w' ⟨rfl, ⟨nd, rfl⟩⟩) | (go_at_call 14; (with_reducible refine (impl_FieldMul.calls kj8 (Int.tmod (rd t146 1) 256) (Int.tmod (rd t146 2) 256) t159 _ A25.out).mono ?_); rintro e w' ⟨rfl, ⟨nd, rfl⟩⟩) | (go_at_call 14; (with_reducible refine (impl_FieldMul.calls kj8 (Int.tmod (rd t146 0) 256) t159 t160 _ A26.out).mono ?_); rintro e w' ⟨rfl, ⟨nd, rfl⟩⟩) | (go_at_call 20; (with_reducible refine (impl_FieldDouble.calls (Int.tmod (rd t146 0) 256) t161 _ A28.out).mono ?_); rintro e w' ⟨rfl, ⟨nd, rfl⟩⟩) | (go_at_call 14; (with_reducible refine (impl_FieldMul.calls kj8 (Int.tmod (rd t146 0) 256) 2 t162 _ A29.out).mono ?_); rintro e w' ⟨rfl, ⟨nd, rfl⟩⟩) | (go_at_call 16; (with_reducible refine (impl_FieldPow.calls kj8 (Int.tmod (rd t146 0) 256) 3 t163 _ A31.out).mono ?_); rintro e w' ⟨rfl, ⟨nd, rfl⟩⟩) | (go_at_call 14; (with_reducible refine (impl_FieldMul.calls kj8 (Int.tmod (rd t146 0) 256) (Int.tmod (rd t146 0) 256) t164 _ A32.out).mono ?_); rintro e w' ⟨rfl, ⟨nd, rfl⟩⟩) | (go_at_call 14; (with_reducible refine (impl_FieldMul.calls kj8 (Int.tmod (rd t146 0) 256) t164 t165 _ A33.out).mono ?_); rintro e w' ⟨rfl, ⟨nd, rfl⟩⟩) | (go_at_call 14; (with_reducible refine (impl_FieldMul.calls kj8 87 131 t166 _ A35.out).mono ?_); rintro e w' ⟨rfl, ⟨nd, rfl⟩⟩) | (go_at_call 14; (with_reducible refine (impl_FieldMul.calls kj8 (Int.tmod (rd t146 0) 256) (Int.tmod (rd t146 1) 256) t154 _ A18.out).mono ?_); rintro e w' ⟨rfl, ⟨nd, rfl⟩⟩) | (go_at_call 14; (with_reducible refine (impl_FieldMul.calls kj8 (Int.tmod (rd t146 1) 256) (Int.tmod (rd t146 0) 256) t155 _ A19.out).mono ?_); rintro e w' ⟨rfl, ⟨nd, rfl⟩⟩))
                          go_ret
                          exact ⟨by first | rfl | (simp [errW_none, errW_some] <;> rfl) | (simp [*, errW_none, errW_some] <;> rfl), by repeat (first | (with_reducible first | exact HB.out | apply below_alloc | apply pw_below_drewN | apply below_drew1) | exact HB.out)⟩
                        · rw [if_neg c34] at H
                          have c34b0 : (t163 == t165) = false := beq_eq_false_iff_ne.mpr c34
                          have c34b1 : (t163 != t165) = true := bne_iff_ne.mpr c34
                          obtain rfl := Option.some.inj H
                          go_wp2_with (first | ((with_reducible refine gate_callee (f := 14) rfl ?_); refine goesL_ (some 44) rfl rfl Try.func14 (by kernel_rfl) rfl #[.int .i64 (Int.tmod (rd t146 0) 256), .int .i64 (Int.tmod (rd t146 1) 256)] rfl (by (try simp only [List.map_toArray, List.map_cons, List.map_nil]); first | done | rfl | (simp only [List.length_drop, List.length_take]; rfl)) ?_; (with_reducible refine (impl_FieldMul.calls kj8 (Int.tmod (rd t146 0) 256) (Int.tmod (rd t146 1) 256) t154 _ A18.out).mono ?_); rintro e w' ⟨rfl, ⟨nd, rfl⟩⟩; refine ⟨_, rfl, ?_⟩) | ((with_reducible refine gate_callee (f := 14) rfl ?_); refine goesL_ (some 47) rfl rfl Try.func14 (by kernel_rfl) rfl #[.int .i64 (Int.tmod (rd t146 1) 256), .int .i64 (Int.tmod (rd t146 0) 256)] rfl (by (try simp only [List.map_toArray, List.map_cons, List.map_nil]); first | done | rfl | (simp only [List.length_drop, List.length_take]; rfl)) ?_; (with_reducible refine (impl_FieldMul.calls kj8 (Int.tmod (rd t146 1) 256) (Int.tmod (rd t146 0) 256) t155 _ A19.out).mono ?_); rintro e w' ⟨rfl, ⟨nd, rfl⟩⟩; refine ⟨_, rfl, ?_⟩) | (go_at_call 14; (with_reducible refine (impl_FieldMul.calls kj8 (Int.tmod (rd t146 0) 256) (Go.bits .xor .i64 (Int.tmod (rd t146 1) 256) (Int.tmod (rd t146 2) 256)) t156 _ A21.out).mono ?_); rintro e w' ⟨rfl, ⟨nd, rfl⟩⟩) | (go_at_call 14; (with_reducible refine (impl_FieldMul.calls kj8 (Int.tmod (rd t146 0) 256) (Int.tmod (rd t146 2) 256) t157 _ A22.out).mono ?_); rintro e w' ⟨rfl, ⟨nd, rfl⟩⟩) | (go_at_call 14; (with_reducible refine (impl_FieldMul.calls kj8 t154 (Int.tmod (rd t146 2) 256) t158 _ A24.out).mono ?_); rintro e w' ⟨rfl, ⟨nd, rfl⟩⟩) | (go_at_call 14; (with_reducible refine (impl_FieldMul.calls kj8 (Int.tmod (rd t146 1) 256) (Int.tmod (rd t146 2) 256) t159 _ A25.out).mono ?_); rintro e w' ⟨rfl, ⟨nd, rfl⟩⟩) | (go_at_call 14; (with_reducible refine (impl_FieldMul.calls kj8 (Int.tmod (rd t146 0) 256) t159 t160 _ A26.out).mono ?_); rintro e w' ⟨rfl, ⟨nd, rfl⟩⟩) | (go_at_call 20; (with_reducible refine (impl_FieldDouble.calls (Int.tmod (rd t146 0) 256) t161 _ A28.out).mono ?_); rintro e w' ⟨rfl, ⟨nd, rfl⟩⟩) | (go_at_call 14; (with_reducible refine (impl_FieldMul.calls kj8 (Int.tmod (rd t146 0) 256) 2 t162 _ A29.out).mono ?_); rintro e w' ⟨rfl, ⟨nd, rfl⟩⟩) | (go_at_call 16; (with_reducible refine (impl_FieldPow.calls kj8 (Int.tmod (rd t146 0) 256) 3 t163 _ A31.out).mono ?_); rintro e w' ⟨rfl, ⟨nd, rfl⟩⟩) | (go_at_call 14; (with_reducible refine (impl_FieldMul.calls kj8 (Int.tmod (rd t146 0) 256) (Int.tmod (rd t146 0) 256) t164 _ A32.out).mono ?_); rintro e w' ⟨rfl, ⟨nd, rfl⟩⟩) | (go_at_call 14; (with_reducible refine (impl_FieldMul.calls kj8 (Int.tmod (rd t146 0) 256) t164 t165 _ A33.out).mono ?_); rintro e w' ⟨rfl, ⟨nd, rfl⟩⟩) | (go_at_call 14; (with_reducible refine (impl_FieldMul.calls kj8 (Int.tmod (rd t146 0) 256) (Int.tmod (rd t146 1) 256) t154 _ A18.out).mono ?_); rintro e w' ⟨rfl, ⟨nd, rfl⟩⟩) | (go_at_call 14; (with_reducible refine (impl_FieldMul.calls kj8 (Int.tmod (rd t146 1) 256) (Int.tmod (rd t146 0) 256) t155 _ A19.out).mono ?_); rintro e w' ⟨rfl, ⟨nd, rfl⟩⟩))
                          go_ret
                          exact ⟨by first | rfl | (simp [errW_none, errW_some] <;> rfl) | (simp [*, errW_none, errW_some] <;> rfl), by repeat (first | (with_reducible first | exact HB.out | apply below_alloc | apply pw_below_drewN | apply below_drew1) | exact HB.out)⟩
                      · rw [if_neg c30] at H
                        have c30b0 : (t161 == t162) = false := beq_eq_false_iff_ne.mpr c30
                        have c30b1 : (t161 != t162) = true := bne_iff_ne.mpr c30
                        obtain rfl := Option.some.inj H
                        go_wp2_with (first | ((with_reducible refine gate_callee (f := 14) rfl ?_); refine goesL_ (some 44) rfl rfl Try.func14 (by kernel_rfl) rfl #[.int .i64 (Int.tmod (rd t146 0) 256), .int .i64 (Int.tmod (rd t146 1) 256)] rfl (by (try simp only [List.map_toArray, List.map_cons, List.map_nil]); first | done | rfl | (simp only [List.length_drop, List.length_take]; rfl)) ?_; (with_reducible refine (impl_FieldMul.calls kj8 (Int.tmod (rd t146 0) 256) (Int.tmod (rd t146 1) 256) t154 _ A18.out).mono ?_); rintro e w' ⟨rfl, ⟨nd, rfl⟩⟩; refine ⟨_, rfl, ?_⟩) | ((with_reducible refine gate_callee (f := 14) rfl ?_); refine goesL_ (some 47) rfl rfl Try.func14 (by kernel_rfl) rfl #[.int .i64 (Int.tmod (rd t146 1) 256), .int .i64 (Int.tmod (rd t146 0) 256)] rfl (by (try simp only [List.map_toArray, List.map_cons, List.map_nil]); first | done | rfl | (simp only [List.length_drop, List.length_take]; rfl)) ?_; (with_reducible refine (impl_FieldMul.calls kj8 (Int.tmod (rd t146 1) 256) (Int.tmod (rd t146 0) 256) t155 _ A19.out).mono ?_); rintro e w' ⟨rfl, ⟨nd, rfl⟩⟩; refine ⟨_, rfl, ?_⟩) | (go_at_call 14; (with_reducible refine (impl_FieldMul.calls kj8 (Int.tmod (rd t146 0) 256) (Go.bits .xor .i64 (Int.tmod (rd t146 1) 256) (Int.tmod (rd t146 2) 256)) t156 _ A21.out).mono ?_); rintro e w' ⟨rfl, ⟨nd, rfl⟩⟩) | (go_at_call 14; (with_reducible refine (impl_FieldMul.calls kj8 (Int.tmod (rd t146 0) 256) (Int.tmod (rd t146 2) 256) t157 _ A22.out).mono ?_); rintro e w' ⟨rfl, ⟨nd, rfl⟩⟩) | (go_at_call 14; (with_reducible refine (impl_FieldMul.calls kj8 t154 (Int.tmod (rd t146 2) 256) t158 _ A24.out).mono ?_); rintro e w' ⟨rfl, ⟨nd, rfl⟩⟩) | (go_at_call 14; (with_reducible refine (impl_FieldMul.calls kj8 (Int.tmod (rd t146 1) 256) (Int.tmod (rd t146 2) 256) t159 _ A25.out).mono ?_); rintro e w' ⟨rfl, ⟨nd, rfl⟩⟩) | (go_at_call 14; (with_reducible refine (impl_FieldMul.calls kj8 (Int.tmod (rd t146 0) 256) t159 t160 _ A26.out).mono ?_); rintro e w' ⟨rfl, ⟨nd, rfl⟩⟩) | (go_at_call 20; (with_reducible refine (impl_FieldDouble.calls (Int.tmod (rd t146 0) 256) t161 _ A28.out).mono ?_); rintro e w' ⟨rfl, ⟨nd, rfl⟩⟩) | (go_at_call 14; (with_reducible refine (impl_FieldMul.calls kj8 (Int.tmod (rd t146 0) 256) 2 t162 _ A29.out).mono ?_); rintro e w' ⟨rfl, ⟨nd, rfl⟩⟩) | (go_at_call 14; (with_reducible refine (impl_FieldMul.calls kj8 (Int.tmod (rd t146 0) 256) (Int.tmod (rd t146 1) 256) t154 _ A18.out).mono ?_); rintro e w' ⟨rfl, ⟨nd, rfl⟩⟩) | (go_at_call 14; (with_reducible refine (impl_FieldMul.calls kj8 (Int.tmod (rd t146 1) 256) (Int.tmod (rd t146 0) 256) t155 _ A19.out).mono ?_); rintro e w' ⟨rfl, ⟨nd, rfl⟩⟩))
                        go_ret
                        exact ⟨by first | rfl | (simp [errW_none, errW_some] <;> rfl) | (simp [*, errW_none, errW_some] <;> rfl), by repeat (first | (with_reducible first | exact HB.out | apply below_alloc | apply pw_below_drewN | apply below_drew1) | exact HB.out)⟩
                    · rw [if_neg c27] at H
                      have c27b0 : (t158 == t160) = false := beq_eq_false_iff_ne.mpr c27
                      have c27b1 : (t158 != t160) = true := bne_iff_ne.mpr c27
                      obtain rfl := Option.some.inj H
                      go_wp2_with (first | ((with_reducible refine gate_callee (f := 14) rfl ?_); refine goesL_ (some 44) rfl rfl Try.func14 (by kernel_rfl) rfl #[.int .i64 (Int.tmod (rd t146 0) 256), .int .i64 (Int.tmod (rd t146 1) 256)] rfl (by (try simp only [List.map_toArray, List.map_cons, List.map_nil]); first | done | rfl | (simp only [List.length_drop, List.length_take]; rfl)) ?_; (with_reducible refine (impl_FieldMul.calls kj8 (Int.tmod (rd t146 0) 256) (Int.tmod (rd t146 1) 256) t154 _ A18.out).mono ?_); rintro e w' ⟨rfl, ⟨nd, rfl⟩⟩; refine ⟨_, rfl, ?_⟩) | ((with_reducible refine gate_callee (f := 14) rfl ?_); refine goesL_ (some 47) rfl rfl Try.func14 (by kernel_rfl) rfl #[.int .i64 (Int.tmod (rd t146 1) 256), .int .i64 (Int.tmod (rd t146 0) 256)] rfl (by (try simp only [List.map_toArray, List.map_cons, List.map_nil]); first | done | rfl | (simp only [List.length_drop, List.length_take]; rfl)) ?_; (with_reducible refine (impl_FieldMul.calls kj8 (Int.tmod (rd t146 1) 256) (Int.tmod (rd t146 0) 256) t155 _ A19.out).mono ?_); rintro e w' ⟨rfl, ⟨nd, rfl⟩⟩; refine ⟨_, rfl, ?_⟩) | (go_at_call 14; (with_reducible refine (impl_FieldMul.calls kj8 (Int.tmod (rd t146 0) 256) (Go.bits .xor .i64 (Int.tmod (rd t146 1) 256) (Int.tmod (rd t146 2) 256)) t156 _ A21.out).mono ?_); rintro e w' ⟨rfl, ⟨nd, rfl⟩⟩) | (go_at_call 14; (with_reducible refine (impl_FieldMul.calls kj8 (Int.tmod (rd t146 0) 256) (Int.tmod (rd t146 2) 256) t157 _ A22.out).mono ?_); rintro e w' ⟨rfl, ⟨nd, rfl⟩⟩) | (go_at_call 14; (with_reducible refine (impl_FieldMul.calls kj8 t154 (Int.tmod (rd t146 2) 256) t158 _ A24.out).mono ?_); rintro e w' ⟨rfl, ⟨nd, rfl⟩⟩) | (go_at_call 14; (with_reducible refine (impl_FieldMul.calls kj8 (Int.tmod (rd t146 1) 256) (Int.tmod (rd t146 2) 256) t159 _ A25.out).mono ?_); rintro e w' ⟨rfl, ⟨nd, rfl⟩⟩) | (go_at_call 14; (with_reducible refine (impl_FieldMul.calls kj8 (Int.tmod (rd t146 0) 256) t159 t160 _ A26.out).mono ?_); rintro e w' ⟨rfl, ⟨nd, rfl⟩⟩) | (go_at_call 14; (with_reducible refine (impl_FieldMul.calls kj8 (Int.tmod (rd t146 0) 256) (Int.tmod (rd t146 1) 256) t154 _ A18.out).mono ?_); rintro e w' ⟨rfl, ⟨nd, rfl⟩⟩) | (go_at_call 14; (with_reducible refine (impl_FieldMul.calls kj8 (Int.tmod (rd t146 1) 256) (Int.tmod (rd t146 0) 256) t155 _ A19.out).mono ?_); rintro e w' ⟨rfl, ⟨nd, rfl⟩⟩))
                      go_ret
                      exact ⟨by first | rfl | (simp [errW_none, errW_some] <;> rfl) | (simp [*, errW_none, errW_some] <;> rfl), by repeat (first | (with_reducible first | exact HB.out | apply below_alloc | apply pw_below_drewN | apply below_drew1) | exact HB.out)⟩
                  · rw [if_neg c23] at H
                    have c23b0 : (t156 == (Go.bits .xor .i64 t154 t157)) = false := beq_eq_false_iff_ne.mpr c23
                    have c23b1 : (t156 != (Go.bits .xor .i64 t154 t157)) = true := bne_iff_ne.mpr c23
                    obtain rfl := Option.some.inj H
                    go_wp2_with (first | ((with_reducible refine gate_callee (f := 14) rfl ?_); refine goesL_ (some 44) rfl rfl Try.func14 (by kernel_rfl) rfl #[.int .i64 (Int.tmod (rd t146 0) 256), .int .i64 (Int.tmod (rd t146 1) 256)] rfl (by (try simp only [List.map_toArray, List.map_cons, List.map_nil]); first | done | rfl | (simp only [List.length_drop, List.length_take]; rfl)) ?_; (with_reducible refine (impl_FieldMul.calls kj8 (Int.tmod (rd t146 0) 256) (Int.tmod (rd t146 1) 256) t154 _ A18.out).mono ?_); rintro e w' ⟨rfl, ⟨nd, rfl⟩⟩; refine ⟨_, rfl, ?_⟩) | ((with_reducible refine gate_callee (f := 14) rfl ?_); refine goesL_ (some 47) rfl rfl Try.func14 (by kernel_rfl) rfl #[.int .i64 (Int.tmod (rd t146 1) 256), .int .i64 (Int.tmod (rd t146 0) 256)] rfl (by (try simp only [List.map_toArray, List.map_cons, List.map_nil]); first | done | rfl | (simp only [List.length_drop, List.length_take]; rfl)) ?_; (with_reducible refine (impl_FieldMul.calls kj8 (Int.tmod (rd t146 1) 256) (Int.tmod (rd t146 0) 256) t155 _ A19.out).mono ?_); rintro e w' ⟨rfl, ⟨nd, rfl⟩⟩; refine ⟨_, rfl, ?_⟩) | (go_at_call 14; (with_reducible refine (impl_FieldMul.calls kj8 (Int.tmod (rd t146 0) 256) (Go.bits .xor .i64 (Int.tmod (rd t146 1) 256) (Int.tmod (rd t146 2) 256)) t156 _ A21.out).mono ?_); rintro e w' ⟨rfl, ⟨nd, rfl⟩⟩) | (go_at_call 14; (with_reducible refine (impl_FieldMul.calls kj8 (Int.tmod (rd t146 0) 256) (Int.tmod (rd t146 2) 256) t157 _ A22.out).mono ?_); rintro e w' ⟨rfl, ⟨nd, rfl⟩⟩) | (go_at_call 14; (with_reducible refine (impl_FieldMul.calls kj8 (Int.tmod (rd t146 0) 256) (Int.tmod (rd t146 1) 256) t154 _ A18.out).mono ?_); rintro e w' ⟨rfl, ⟨nd, rfl⟩⟩) | (go_at_call 14; (with_reducible refine (impl_FieldMul.calls kj8 (Int.tmod (rd t146 1) 256) (Int.tmod (rd t146 0) 256) t155 _ A19.out).mono ?_); rintro e w' ⟨rfl, ⟨nd, rfl⟩⟩))
                    go_ret
                    exact ⟨by first | rfl | (simp [errW_none, errW_some] <;> rfl) | (simp [*, errW_none, errW_some] <;> rfl), by repeat (first | (with_reducible first | exact HB.out | apply below_alloc | apply pw_below_drewN | apply below_drew1) | exact HB.out)⟩
                · rw [if_neg c20] at H
                  have c20b0 : (t154 == t155) = false := beq_eq_false_iff_ne.mpr c20
                  have c20b1 : (t154 != t155) = true := bne_iff_ne.mpr c20
                  obtain rfl := Option.some.inj H
                  go_wp2_with (first | ((with_reducible refine gate_callee (f := 14) rfl ?_); refine goesL_ (some 44) rfl rfl Try.func14 (by kernel_rfl) rfl #[.int .i64 (Int.tmod (rd t146 0) 256), .int .i64 (Int.tmod (rd t146 1) 256)] rfl (by (try simp only [List.map_toArray, List.map_cons, List.map_nil]); first | done | rfl | (simp only [List.length_drop, List.length_take]; rfl)) ?_; (with_reducible refine (impl_FieldMul.calls kj8 (Int.tmod (rd t146 0) 256) (Int.tmod (rd t146 1) 256) t154 _ A18.out).mono ?_); rintro e w' ⟨rfl, ⟨nd, rfl⟩⟩; refine ⟨_, rfl, ?_⟩) | ((with_reducible refine gate_callee (f := 14) rfl ?_); refine goesL_ (some 47) rfl rfl Try.func14 (by kernel_rfl) rfl #[.int .i64 (Int.tmod (rd t146 1) 256), .int .i64 (Int.tmod (rd t146 0) 256)] rfl (by (try simp only [List.map_toArray, List.map_cons, List.map_nil]); first | done | rfl | (simp only [List.length_drop, List.length_take]; rfl)) ?_; (with_reducible refine (impl_FieldMul.calls kj8 (Int.tmod (rd t146 1) 256) (Int.tmod (rd t146 0) 256) t155 _ A19.out).mono ?_); rintro e w' ⟨rfl, ⟨nd, rfl⟩⟩; refine ⟨_, rfl, ?_⟩) | (go_at_call 14; (with_reducible refine (impl_FieldMul.calls kj8 (Int.tmod (rd t146 0) 256) (Int.tmod (rd t146 1) 256) t154 _ A18.out).mono ?_); rintro e w' ⟨rfl, ⟨nd, rfl⟩⟩) | (go_at_call 14; (with_reducible refine (impl_FieldMul.calls kj8 (Int.tmod (rd t146 1) 256) (Int.tmod (rd t146 0) 256) t155 _ A19.out).mono ?_); rintro e w' ⟨rfl, ⟨nd, rfl⟩⟩))
                  go_ret
                  exact ⟨by first | rfl | (simp [errW_none, errW_some] <;> rfl) | (simp [*, errW_none, errW_some] <;> rfl), by repeat (first | (with_reducible first | exact HB.out | apply below_alloc | apply pw_below_drewN | apply below_drew1) | exact HB.out)⟩
        · rw [if_neg c7] at H
          exact absurd H (by simp)
      · rw [if_neg c6] at H
        exact absurd H (by simp)
    · rw [if_neg c5] at H
      exact absurd H (by simp)

/-- THE ONE PURE STATEMENT of laws_FnField: yours. -/
def laws_FnField.Pure : Prop := ∀ (l0 : List Int), l0.length ≤ maxLen → l0.length * 1 ≤ 140737488351232 → (∀ x ∈ l0, (Lit.int .u8 x).wf = true) → ∃ k, laws_FnField.f k l0 = some true
theorem laws_FnField.walk (P : laws_FnField.Pure) (a0 : Option Addr) (len0 cap0 : Nat) (z0 : List Int) (w : World) (w0 : (a0 = none ∧ len0 = 0 ∧ cap0 = 0 ∧ z0 = []) ∨ ∃ x, a0 = some x ∧ len0 ≤ cap0 ∧ cap0 ≤ maxLen ∧ z0.length = cap0 ∧ (∀ i, i < z0.length → w.cell? (x.add i) = some (.int .u8 (z0.getD i 0))) ∧ ∀ n ∈ z0, (Lit.int .u8 n).wf = true) (y0 : len0 * 1 ≤ 140737488351232) :
    Calls Try.prog 5 #[.slice a0 len0 cap0] w fun e w' => e = .returned (.bool true) ∧ Below w.heap.size w w' := by
  obtain ⟨l0, rfl, hr0, hm0, hw0, hc0⟩ := ReadsInt.ofRowC w0
  obtain ⟨k, h⟩ := P l0 hm0 y0 hw0
  refine (laws_FnField.calls k _ _ l0 true w (Kd.C_of_reads (d := (0 : Int)) (h1 := fun _ => rfl) hr0) hc0 h).mono ?_
  rintro e w' ⟨rfl, hd⟩
  exact ⟨rfl, hd⟩

end Go.Proofs.Ytngdfchpknglhaa.PFnField
