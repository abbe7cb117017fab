-- Written by a program of this session for this claim; Lean checks it.
import Derived.Test.YtcmemppkllgkmaaMFnExactShaBlockx0
import Derived.Test.YtcmemppkllgkmaaMFnExactShaBlockx2
namespace Go.Proofs.Ytcmemppkllgkmaa.PFnExactShaBlock
open Go.RowKit Go.Proofs.YtcmemppkllgkmaaW.PrintWords Go.Proofs.YtcmemppkllgkmaaW.PrintLast Go.Proofs.YtcmemppkllgkmaaW.PrintMore
attribute [local go_sem] max2_int min2_int max_two min_two max_three min_three max_four min_four   -- for this text's walks alone
set_option linter.unusedVariables false
set_option linter.unusedSimpArgs false

/-! ### laws_toIntS: function 22 -/
def laws_toIntS.l0 : Nat → List Int → List Int → Int → Option (List Int)
  | 0, _, _, _ => none
  | k + 1, x0, x3, x4 => if x4 < (x0.length : Int) then (if 0 ≤ x4 then (if x4 < (x3.length : Int) then (laws_toIntS.l0 k x0 (x3.set (x4 : Int).toNat (rd x0 x4)) (wrap64 (x4 + 1))) else (none)) else (none)) else (some x3)
def laws_toIntS.f (k : Nat) (l0 : List Int) : Option (List Int) := if 0 ≤ (l0.length : Int) then (if ((l0.length : Int) : Int).toNat ≤ 35184372088832 then (laws_toIntS.l0 k l0 (List.replicate ((l0.length : Int) : Int).toNat 0) 0) else (none)) else (none)
theorem laws_toIntS.mono_l : ∀ k, (∀ y0 y1 y2, LeO (laws_toIntS.l0 k y0 y1 y2) (laws_toIntS.l0 (k + 1) y0 y1 y2))
  | 0 => fun _ _ _ r h => by simp [laws_toIntS.l0] at h
  | k + 1 => by
    have ih0 := laws_toIntS.mono_l k
    · intro y0 y1 y2
      unfold laws_toIntS.l0
      repeat' first
      | (with_reducible exact ih0 _ _ _)
      | (with_reducible exact LeO.refl _)
      | (with_reducible exact LeO.none _)
      | (with_reducible refine LeO.ite ?_ ?_)
      | (with_reducible refine LeO.bind ?_ (fun _ => ?_))
      | exact ih0 _ _ _
      | exact LeO.none _
      | refine LeO.ite ?_ ?_
      | refine LeO.bind ?_ (fun _ => ?_)
theorem laws_toIntS.mono : ∀ a0 k, LeO (laws_toIntS.f k a0) (laws_toIntS.f (k + 1) a0) := by
  intro a0 k
  have ih0 := laws_toIntS.mono_l k
  unfold laws_toIntS.f
  repeat' first
      | (with_reducible exact ih0 _ _ _)
      | (with_reducible exact LeO.refl _)
      | (with_reducible exact LeO.none _)
      | (with_reducible refine LeO.ite ?_ ?_)
      | (with_reducible refine LeO.bind ?_ (fun _ => ?_))
      | exact ih0 _ _ _
      | exact LeO.none _
      | refine LeO.ite ?_ ?_
      | refine LeO.bind ?_ (fun _ => ?_)
set_option maxHeartbeats 8000000 in
set_option maxRecDepth 100000 in
theorem laws_toIntS.calls (k : Nat) (A0 : Option Addr) (c0 : Nat) (l0 : List Int) (r : List Int) (w : World) (hr0 : Kd.C (Kd.int .i64) w A0 l0.length l0) (hc0 : l0.length ≤ c0) (h : laws_toIntS.f k l0 = some r) :
    Calls Try.prog 22 #[.slice A0 l0.length c0] w fun e w' => ∃ v0_ : Value, e = .returned (v0_) ∧ Kd.R (Kd.int .i64) 3 w' w.heap.size (fun _ => True) v0_ r ∧ Below w.heap.size w w' := by
  have HR0 := Aside0.mk hr0
  have HC0 := Aside0.mk hc0
  clear hr0 hc0
  have HB := Aside0.mk (Below.refl w.heap.size w)
  have H : (if 0 ≤ (l0.length : Int) then (if ((l0.length : Int) : Int).toNat ≤ 35184372088832 then (laws_toIntS.l0 k l0 (List.replicate ((l0.length : Int) : Int).toNat 0) 0) else (none)) else (none)) = some r := h
  clear h
  by_cases c2 : 0 ≤ (l0.length : Int)
  · rw [if_pos c2] at H
    have c2b0 := eq_true c2
    have c2b1 : decide (0 ≤ (l0.length : Int)) = true := decide_eq_true c2
    clear c2
    by_cases c3 : ((l0.length : Int) : Int).toNat ≤ 35184372088832
    · rw [if_pos c3] at H
      have c3b0 := eq_true c3
      have c3b1 : decide (((l0.length : Int) : Int).toNat ≤ 35184372088832) = true := decide_eq_true c3
      clear c3
      obtain ⟨y101, hy101⟩ : ∃ y_ : List Int, y_ = (List.replicate ((l0.length : Int) : Int).toNat 0) := ⟨_, rfl⟩
      replace H : (laws_toIntS.l0 k l0 y101 0) = some r := by first | (rw [hy101]; with_reducible exact H) | (have H2_ := (Option.bind_some _ _).symm.trans H; rw [hy101]; with_reducible exact H2_) | (have H2_ := (Option.bind_some _ _).symm.trans H; with_reducible exact H2_) | with_reducible exact H | (rw [hy101]; exact H) | exact H
      have Ny101 := Aside0.mk hy101
      clear hy101
      have H' := Aside0.mk H
      clear H
      go_enter Try.func22, Try.ntmps22
      go_wp2_with (first | ((with_reducible refine gate_dst (N := 7) rfl ?_); refine Kd.R_make (Kd.int .i64) _ 3 rfl (N := 7) rfl 39 _ _ rfl (l0.length : Int) rfl rfl Try.underlying39 (.int .i64 0) 8 info3 rfl (by decide) (by omega) 0 (ok := fun _ => True) (okp := fun _ => True) rfl (fun _ hk => hk) trivial (of_decide_eq_true (by first | (with_reducible assumption) | assumption)) (Nat.le_trans (Nat.mul_le_mul_right _ (of_decide_eq_true (by first | (with_reducible assumption) | assumption) : (l0.length : Int).toNat ≤ 35184372088832)) (by omega)) (Below.refl _ _) (Nat.le_refl _) ?_; intro v102 w4 ho5 hb hg_ hnew_; clear hg_ hnew_; (first | rw [← Ny101.out] at ho5 | (simp only [Int.reduceToNat] at ho5; rw [← Ny101.out] at ho5)); have n0_ := Aside0.mk (Kd.R_lower ho5 (below_size (by repeat (first | (with_reducible first | exact HB.out | apply below_alloc | apply pw_below_drewN | apply below_drew1) | exact HB.out)))); have n1_ := Aside0.mk (below_step (by repeat (first | (with_reducible first | exact HB.out | apply below_alloc | apply pw_below_drewN | apply below_drew1) | exact HB.out)) hb); clear HB; have HO103 := n0_; have HB := n1_; clear n0_ n1_; clear hb ho5))
      go_loopg [4] k (fun kq v4 w' => ∃ (x3_1 : List Int) (x4_1 : Int), v4 = .int .i64 x4_1 ∧ Aside0 (laws_toIntS.l0 kq l0 x3_1 x4_1 = some r) ∧ Aside0 (kq ≤ k) ∧ Aside0 (Kd.R (Kd.int .i64) 3 w' w.heap.size (fun _ => True) v102 x3_1) ∧ Aside0 (Below w.heap.size w w'))
      case atStart => exact ⟨(y101), (0), (by first | rfl | (simp; done) | (simp [*]; done)), H', ⟨Nat.le_refl _⟩, ⟨by (with_reducible repeat (first | apply Kd.R_alloc | apply Kd.R_drewN | apply Kd.R_drew)); exact HO103.out⟩, ⟨by repeat (first | (with_reducible first | exact HB.out | apply below_alloc | apply pw_below_drewN | apply below_drew1) | exact HB.out)⟩⟩
      case round =>
        clear H'
        try clear c2
        try clear c2b0
        try clear c2b1
        try clear p2
        try clear c3
        try clear c3b0
        try clear c3b1
        obtain ⟨x3_1, x4_1, rfl, HA, HK1, HO_3, HB⟩ := hrel
        cases gk with
        | zero => exact absurd HA.out (by simp [laws_toIntS.l0])
        | succ k1 =>
          have H := HA.out
          clear HA
          simp only [laws_toIntS.l0] at H
          by_cases c6 : x4_1 < (l0.length : Int)
          · rw [if_pos c6] at H
            have c6b0 : decide (x4_1 < (l0.length : Int)) = true := decide_eq_true c6
            clear c6
            by_cases c7 : 0 ≤ x4_1
            · rw [if_pos c7] at H
              have c7b0 : decide (0 ≤ x4_1) = true := decide_eq_true c7
              clear c7
              by_cases c8 : x4_1 < (x3_1.length : Int)
              · rw [if_pos c8] at H
                have c8b0 : decide (x4_1 < (x3_1.length : Int)) = true := decide_eq_true c8
                clear c8
                obtain ⟨y105, hy105⟩ : ∃ y_ : List Int, y_ = (x3_1.set (x4_1 : Int).toNat (rd l0 x4_1)) := ⟨_, rfl⟩
                replace H : (laws_toIntS.l0 k1 l0 y105 (wrap64 (x4_1 + 1))) = some r := by first | (rw [hy105]; with_reducible exact H) | (have H2_ := (Option.bind_some _ _).symm.trans H; rw [hy105]; with_reducible exact H2_) | (have H2_ := (Option.bind_some _ _).symm.trans H; with_reducible exact H2_) | with_reducible exact H | (rw [hy105]; exact H) | exact H
                have Ny105 := Aside0.mk hy105
                clear hy105
                have H' := Aside0.mk H
                clear H
                have p104 : 0 ≤ (x4_1 : Int) := of_decide_eq_true (by first | (with_reducible assumption) | assumption)
                have q104 : x4_1 < (l0.length : Int) := of_decide_eq_true (by first | (with_reducible assumption) | assumption)
                obtain ⟨ad104, e104, hx104_0⟩ := Kd.at_int HR0.out x4_1 p104 q104
                cases e104
                replace hx104_0 := (HB.out.cell (World.block_lt_of_cell? w _ hx104_0)).trans hx104_0
                replace p104 := eq_true p104
                replace q104 := eq_true q104
                have p9 : 0 ≤ (x4_1 : Int) := of_decide_eq_true (by first | (with_reducible assumption) | assumption)
                have q9 : (x4_1 : Int) < ((x3_1.length : Int) : Int) := of_decide_eq_true (by first | (with_reducible assumption) | assumption)
                obtain ⟨go9, co9, eo9, gb9, gl9, cl9, HG9⟩ := Kd.R_form HO_3.out (by omega)
                (first | cases eo9 | (injection eo9 with ea_ en_ ec_; (first | subst ea_ | (injection ea_ with ea_; subst ea_)); subst ec_; clear en_))
                have GB9 := Aside0.mk gb9
                have GG9 := Aside0.mk HG9
                clear gb9 gl9 HG9
                obtain ⟨hx9_0, hf9_0⟩ := Kd.R_celln 0 HO_3.out (x4_1 : Int) p9 q9
                replace p9 := eq_true p9
                replace q9 := eq_true q9
                have HP10 := Kd.R_putg HO_3.out (x4_1 : Int) (rd l0 x4_1)
                go_wp2_with (first | ((with_reducible refine gate_store (t := 3) (p := 20) rfl ?_); refine store_event (t := 3) (p := 20) (v := ?vo_w11) (w1 := (wr.setCell ⟨go9, (x4_1 : Int).toNat, none⟩ (.int .i64 (rd l0 x4_1)))) ?hg ?ho ?hn ?hr ?_; (case ho => rfl); (case hg => rfl); (case hn => rfl); (case hr => first | (go_simp; done) | (go_simp; rfl)); intro w11 hw; have hg : wr.grownBy w11 (some go9) := (by rw [hw]; exact HP10.2); have hp_ : Kd.R (Kd.int .i64) 3 w11 w.heap.size (fun _ => True) (.slice (some ⟨go9, 0, none⟩) x3_1.length co9) y105 := (by rw [hw, Ny105.out]; exact HP10.1); clear HP10; have n0_ := Aside0.mk (hp_); have n1_ := Aside0.mk ((by rw [hw]; exact below_set (HB.out) GB9.out : Below w.heap.size w w11)); clear HO_3; clear HB; have HO_3 := n0_; have HB := n1_; clear n0_ n1_; clear hg hw hp_))
                go_roundg k1
                case measure => have := HK1.out; omega
                case rel => exact ⟨(y105), (wrap64 (x4_1 + 1)), (by first | rfl | (simp; done) | (simp [*]; done)), H', ⟨by have := HK1.out; omega⟩, ⟨by (with_reducible repeat (first | apply Kd.R_alloc | apply Kd.R_drewN | apply Kd.R_drew)); exact HO_3.out⟩, ⟨by repeat (first | (with_reducible first | exact HB.out | apply below_alloc | apply pw_below_drewN | apply below_drew1) | exact HB.out)⟩⟩
              · rw [if_neg c8] at H
                exact absurd H (by simp)
            · rw [if_neg c7] at H
              exact absurd H (by simp)
          · rw [if_neg c6] at H
            have c6b0 : decide (x4_1 < (l0.length : Int)) = false := decide_eq_false c6
            clear c6
            obtain rfl := Option.some.inj H
            go_wp2
            go_ret
            exact ⟨_, by first | rfl | (simp [errW_none, errW_some] <;> rfl) | (simp [*, errW_none, errW_some] <;> rfl), by (with_reducible repeat (first | apply Kd.R_alloc | apply Kd.R_drewN | apply Kd.R_drew)); exact HO_3.out, by repeat (first | (with_reducible first | exact HB.out | apply below_alloc | apply pw_below_drewN | apply below_drew1) | exact HB.out)⟩
    · rw [if_neg c3] at H
      exact absurd H (by simp)
  · rw [if_neg c2] at H
    exact absurd H (by simp)

/-! ### impl_within: function 46 -/
def impl_within.f (a0 : Int) (a1 : Int) (a2 : Int) : Option (Bool) := if a0 ≥ a1 then (some (decide (a0 ≤ a2))) else (some false)
set_option maxHeartbeats 8000000 in
set_option maxRecDepth 100000 in
theorem impl_within.calls (a0 : Int) (a1 : Int) (a2 : Int) (r : Bool) (w : World) (h : impl_within.f a0 a1 a2 = some r) :
    Calls Try.prog 46 #[.int .i64 a0, .int .i64 a1, .int .i64 a2] w fun e w' => e = .returned (.bool r) ∧ Drawn0 w w' := by
  have H : (if a0 ≥ a1 then (some (decide (a0 ≤ a2))) else (some false)) = some r := h
  clear h
  by_cases c4 : a0 ≥ a1
  · rw [if_pos c4] at H
    have c4b0 : decide (a1 ≤ a0) = true := decide_eq_true c4
    clear c4
    obtain rfl := Option.some.inj H
    go_enter Try.func46, Try.ntmps46
    go_wp2
    go_ret
    exact ⟨by first | rfl | (simp; done) | (simp [*]; done), by repeat (first | exact Drawn0.refl _ | apply Drawn0.step)⟩
  · rw [if_neg c4] at H
    have c4b0 : decide (a1 ≤ a0) = false := decide_eq_false c4
    clear c4
    obtain rfl := Option.some.inj H
    go_enter Try.func46, Try.ntmps46
    go_wp2
    go_ret
    exact ⟨by first | rfl | (simp; done) | (simp [*]; done), by repeat (first | exact Drawn0.refl _ | apply Drawn0.step)⟩

/-! ### impl_isState: function 37 -/
def impl_isState.l0 : Nat → List Int → List Int → Int → Int → Option (Bool)
  | 0, _, _, _, _ => none
  | k + 1, x0, x5, x6, x7 => if x7 < x6 then (if 0 ≤ x7 then (if x7 < (x5.length : Int) then ((impl_within.f (rd x5 x7) 0 4294967295).bind fun t107 => (if t107 = true then (impl_isState.l0 k x0 x5 x6 (wrap64 (x7 + 1))) else (some false))) else (none)) else (none)) else (some ((x0.length : Int) == 8))
def impl_isState.f (k : Nat) (l0 : List Int) : Option (Bool) := impl_isState.l0 k l0 l0 (l0.length : Int) 0
theorem impl_isState.mono_l : ∀ k, (∀ y0 y1 y2 y3, LeO (impl_isState.l0 k y0 y1 y2 y3) (impl_isState.l0 (k + 1) y0 y1 y2 y3))
  | 0 => fun _ _ _ _ r h => by simp [impl_isState.l0] at h
  | k + 1 => by
    have ih0 := impl_isState.mono_l k
    · intro y0 y1 y2 y3
      unfold impl_isState.l0
      repeat' first
      | (with_reducible exact ih0 _ _ _ _)
      | (with_reducible exact LeO.refl _)
      | (with_reducible exact LeO.none _)
      | (with_reducible refine LeO.ite ?_ ?_)
      | (with_reducible refine LeO.bind ?_ (fun _ => ?_))
      | exact ih0 _ _ _ _
      | exact LeO.none _
      | refine LeO.ite ?_ ?_
      | refine LeO.bind ?_ (fun _ => ?_)
theorem impl_isState.mono : ∀ a0 k, LeO (impl_isState.f k a0) (impl_isState.f (k + 1) a0) := by
  intro a0 k
  have ih0 := impl_isState.mono_l k
  unfold impl_isState.f
  repeat' first
      | (with_reducible exact ih0 _ _ _ _)
      | (with_reducible exact LeO.refl _)
      | (with_reducible exact LeO.none _)
      | (with_reducible refine LeO.ite ?_ ?_)
      | (with_reducible refine LeO.bind ?_ (fun _ => ?_))
      | exact ih0 _ _ _ _
      | exact LeO.none _
      | refine LeO.ite ?_ ?_
      | refine LeO.bind ?_ (fun _ => ?_)
set_option maxHeartbeats 8000000 in
set_option maxRecDepth 100000 in
theorem impl_isState.calls (k : Nat) (A0 : Option Addr) (c0 : Nat) (l0 : List Int) (r : Bool) (w : World) (hr0 : Kd.C (Kd.int .i64) w A0 l0.length l0) (hc0 : l0.length ≤ c0) (h : impl_isState.f k l0 = some r) :
    Calls Try.prog 37 #[.slice A0 l0.length c0] w fun e w' => e = .returned (.bool r) ∧ Drawn0 w w' := by
  have HR0 := Aside0.mk hr0
  have HC0 := Aside0.mk hc0
  clear hr0 hc0
  have H : (impl_isState.l0 k l0 l0 (l0.length : Int) 0) = some r := h
  clear h
  have H' := Aside0.mk H
  clear H
  go_enter Try.func37, Try.ntmps37
  go_wp2
  go_loopg [7] k (fun kq v7 w' => ∃ (x7_1 : Int), v7 = .int .i64 x7_1 ∧ Aside0 (impl_isState.l0 kq l0 l0 (l0.length : Int) x7_1 = some r) ∧ Aside0 (kq ≤ k) ∧ Drawn0 w w')
  case atStart => exact ⟨(0), (by first | rfl | (simp; done) | (simp [*]; done)), H', ⟨Nat.le_refl _⟩, by repeat (first | exact Drawn0.refl _ | apply Drawn0.step)⟩
  case round =>
    clear H'
    obtain ⟨x7_1, rfl, HA, HK1, ⟨m1, rfl⟩⟩ := hrel
    cases gk with
    | zero => exact absurd HA.out (by simp [impl_isState.l0])
    | succ k1 =>
      have H := HA.out
      clear HA
      simp only [impl_isState.l0] at H
      by_cases c2 : x7_1 < (l0.length : Int)
      · rw [if_pos c2] at H
        have c2b0 : decide (x7_1 < (l0.length : Int)) = true := decide_eq_true c2
        clear c2
        by_cases c3 : 0 ≤ x7_1
        · rw [if_pos c3] at H
          have c3b0 : decide (0 ≤ x7_1) = true := decide_eq_true c3
          clear c3
          by_cases c4 : x7_1 < (l0.length : Int)
          · rw [if_pos c4] at H
            have c4b0 : decide (x7_1 < (l0.length : Int)) = true := decide_eq_true c4
            clear c4
            replace H := Option.bind_eq_some_iff.mp H
            obtain ⟨t107, A50, H⟩ := H
            replace H : (if t107 = true then (impl_isState.l0 k1 l0 l0 (l0.length : Int) (wrap64 (x7_1 + 1))) else (some false)) = some r := H
            have A5 := Aside0.mk A50
            clear A50
            by_cases c6 : t107 = true
            · subst c6
              have H1 : (impl_isState.l0 k1 l0 l0 (l0.length : Int) (wrap64 (x7_1 + 1))) = some r := by rw [if_pos rfl] at H; exact H
              clear H
              have H := H1
              clear H1
              have H' := Aside0.mk H
              clear H
              have p106 : 0 ≤ (x7_1 : Int) := of_decide_eq_true (by first | (with_reducible assumption) | assumption)
              have q106 : x7_1 < (l0.length : Int) := of_decide_eq_true (by first | (with_reducible assumption) | assumption)
              obtain ⟨ad106, e106, hx106_0⟩ := Kd.at_int HR0.out x7_1 p106 q106
              cases e106
              replace p106 := eq_true p106
              replace q106 := eq_true q106
              go_wp2_with (first | ((with_reducible refine gate_callee (f := 46) rfl ?_); refine goesL_ (some 12) rfl rfl Try.func46 (by kernel_rfl) rfl #[.int .i64 (rd l0 x7_1), .int .i64 0, .int .i64 4294967295] rfl (by (try simp only [List.map_toArray, List.map_cons, List.map_nil]); first | done | rfl | (simp only [List.length_drop, List.length_take]; rfl)) ?_; (with_reducible refine (impl_within.calls (rd l0 x7_1) 0 4294967295 true _ A5.out).mono ?_); rintro e w' ⟨rfl, ⟨nd, rfl⟩⟩; refine ⟨_, rfl, ?_⟩))
              go_roundg k1
              case measure => have := HK1.out; omega
              case rel => exact ⟨(wrap64 (x7_1 + 1)), (by first | rfl | (simp; done) | (simp [*]; done)), H', ⟨by have := HK1.out; omega⟩, by repeat (first | exact Drawn0.refl _ | apply Drawn0.step)⟩
            · replace c6 := Bool.eq_false_iff.mpr c6
              subst c6
              have H1 : (some false) = some r := by rw [if_neg (show ¬ (false = true) by decide)] at H; exact H
              clear H
              have H := H1
              clear H1
              obtain rfl := Option.some.inj H
              have p106 : 0 ≤ (x7_1 : Int) := of_decide_eq_true (by first | (with_reducible assumption) | assumption)
              have q106 : x7_1 < (l0.length : Int) := of_decide_eq_true (by first | (with_reducible assumption) | assumption)
              obtain ⟨ad106, e106, hx106_0⟩ := Kd.at_int HR0.out x7_1 p106 q106
              cases e106
              replace p106 := eq_true p106
              replace q106 := eq_true q106
              go_wp2_with (first | ((with_reducible refine gate_callee (f := 46) rfl ?_); refine goesL_ (some 12) rfl rfl Try.func46 (by kernel_rfl) rfl #[.int .i64 (rd l0 x7_1), .int .i64 0, .int .i64 4294967295] rfl (by (try simp only [List.map_toArray, List.map_cons, List.map_nil]); first | done | rfl | (simp only [List.length_drop, List.length_take]; rfl)) ?_; (with_reducible refine (impl_within.calls (rd l0 x7_1) 0 4294967295 false _ A5.out).mono ?_); rintro e w' ⟨rfl, ⟨nd, rfl⟩⟩; refine ⟨_, rfl, ?_⟩))
              go_ret
              exact ⟨by first | rfl | (simp; done) | (simp [*]; done), by repeat (first | exact Drawn0.refl _ | apply Drawn0.step)⟩
          · rw [if_neg c4] at H
            exact absurd H (by simp)
        · rw [if_neg c3] at H
          exact absurd H (by simp)
      · rw [if_neg c2] at H
        have c2b0 : decide (x7_1 < (l0.length : Int)) = false := decide_eq_false c2
        clear c2
        obtain rfl := Option.some.inj H
        go_wp2
        go_ret
        exact ⟨by first | rfl | (simp; done) | (simp [*]; done), by repeat (first | exact Drawn0.refl _ | apply Drawn0.step)⟩

/-! ### bits_RotateLeft32: function 40 -/
def bits_RotateLeft32.f (a0 : Int) (a1 : Int) : Option (Int) := if 0 ≤ (Go.bits .and .u64 (IntKind.u64.wrap (a1)) 31) then (if 0 ≤ (IntKind.u64.wrap (32 - (Go.bits .and .u64 (IntKind.u64.wrap (a1)) 31))) then (some (Go.bits .or .u32 (shl .u32 a0 (Go.bits .and .u64 (IntKind.u64.wrap (a1)) 31)) (shr .u32 a0 (IntKind.u64.wrap (32 - (Go.bits .and .u64 (IntKind.u64.wrap (a1)) 31)))))) else (none)) else (none)
set_option maxHeartbeats 8000000 in
set_option maxRecDepth 100000 in
theorem bits_RotateLeft32.calls (a0 : Int) (a1 : Int) (r : Int) (w : World) (h : bits_RotateLeft32.f a0 a1 = some r) :
    Calls Try.prog 40 #[.int .u32 a0, .int .i64 a1] w fun e w' => e = .returned (.int .u32 r) ∧ Drawn0 w w' := by
  have H : (if 0 ≤ (Go.bits .and .u64 (IntKind.u64.wrap (a1)) 31) then (if 0 ≤ (IntKind.u64.wrap (32 - (Go.bits .and .u64 (IntKind.u64.wrap (a1)) 31))) then (some (Go.bits .or .u32 (shl .u32 a0 (Go.bits .and .u64 (IntKind.u64.wrap (a1)) 31)) (shr .u32 a0 (IntKind.u64.wrap (32 - (Go.bits .and .u64 (IntKind.u64.wrap (a1)) 31)))))) else (none)) else (none)) = some r := h
  clear h
  obtain ⟨ji3, hji3⟩ : ∃ j_ : Int, (Go.bits .and .u64 (IntKind.u64.wrap (a1)) 31) = j_ := ⟨_, rfl⟩
  replace H : (if 0 ≤ (ji3) then (if 0 ≤ (IntKind.u64.wrap (32 - (ji3))) then (some (Go.bits .or .u32 (shl .u32 a0 (ji3)) (shr .u32 a0 (IntKind.u64.wrap (32 - (ji3)))))) else (none)) else (none)) = some r := by first | (rw [hji3] at H; exact H) | (simp only [hji3] at H ⊢; exact H)
  by_cases c4 : 0 ≤ (ji3)
  · rw [if_pos c4] at H
    have c4b0 := eq_true c4
    have c4b1 : decide (0 ≤ (ji3)) = true := decide_eq_true c4
    clear c4
    obtain ⟨ji5, hji5⟩ : ∃ j_ : Int, (shl .u32 a0 (ji3)) = j_ := ⟨_, rfl⟩
    replace H : (if 0 ≤ (IntKind.u64.wrap (32 - (ji3))) then (some (Go.bits .or .u32 (ji5) (shr .u32 a0 (IntKind.u64.wrap (32 - (ji3)))))) else (none)) = some r := by first | (rw [hji5] at H; exact H) | (simp only [hji5] at H ⊢; exact H)
    have hji5_ : (IntKind.u32.wrap (a0 * 2 ^ min (ji3).toNat 32)) = ji5 := hji5
    have hji5z : (ji3) ≤ 32 → (IntKind.u32.wrap (a0 * 2 ^ (ji3).toNat)) = ji5 := shl_small hji5
    obtain ⟨ji6, hji6⟩ : ∃ j_ : Int, (IntKind.u64.wrap (32 - (ji3))) = j_ := ⟨_, rfl⟩
    replace H : (if 0 ≤ (ji6) then (some (Go.bits .or .u32 (ji5) (shr .u32 a0 (ji6)))) else (none)) = some r := by first | (rw [hji6] at H; exact H) | (simp only [hji6] at H ⊢; exact H)
    by_cases c7 : 0 ≤ (ji6)
    · rw [if_pos c7] at H
      have c7b0 := eq_true c7
      have c7b1 : decide (0 ≤ (ji6)) = true := decide_eq_true c7
      clear c7
      obtain ⟨ji8, hji8⟩ : ∃ j_ : Int, (shr .u32 a0 (ji6)) = j_ := ⟨_, rfl⟩
      replace H : (some (Go.bits .or .u32 (ji5) (ji8))) = some r := by first | (rw [hji8] at H; exact H) | (simp only [hji8] at H ⊢; exact H)
      have hji8_ : (a0 / 2 ^ min (ji6).toNat 32) = ji8 := hji8
      have hji8z : (ji6) ≤ 32 → (a0 / 2 ^ (ji6).toNat) = ji8 := shr_small hji8
      obtain rfl := Option.some.inj H
      go_enter Try.func40, Try.ntmps40
      go_wp2
      go_ret
      exact ⟨by first | rfl | (simp; done) | (simp only [← hji3, ← hji5, ← hji6, ← hji8] <;> (first | rfl | simp)) | (simp [*]; done), by repeat (first | exact Drawn0.refl _ | apply Drawn0.step)⟩
    · rw [if_neg c7] at H
      exact absurd H (by simp)
  · rw [if_neg c4] at H
    exact absurd H (by simp)

-- NOT PRINTED: function 47 (binary_bigEndian_Uint32)

-- NOT PRINTED: function 38 (impl_schedule)

-- NOT PRINTED: function 39 (impl_roundWords)

/-! ### impl_ShaBlock: function 23 -/





theorem left_rotr (x : Int) (n : Int) (h : n ∈ ([2, 6, 7, 11, 13, 17, 18, 19, 22, 25] : List Int)) : bits_RotateLeft32.f x (-n) = some (rotr x n) := by
  have key : Go.bits .and .u64 (IntKind.u64.wrap (-n)) 31 = 32 - n ∧ IntKind.u64.wrap (32 - (32 - n)) = n ∧ 0 ≤ 32 - n ∧ 0 ≤ n := by
    simp only [List.mem_cons, List.not_mem_nil, or_false] at h
    rcases h with rfl | rfl | rfl | rfl | rfl | rfl | rfl | rfl | rfl | rfl <;> decide +kernel
  obtain ⟨k1, k2, k3, k4⟩ := key
  unfold bits_RotateLeft32.f
  rw [k1, if_pos k3, k2, if_pos k4]
  unfold rotr Go.bits
  simp only [BitVec.or_comm]
theorem conv_cell (w : World) (e : TypeId) (s : ByteArray) (hs : s.size ≤ maxLen) (j : Nat) (hj : j < s.size) : (Lib.bytesWorld w e s).cell? ⟨w.heap.size, j, none⟩ = some (.int .u8 ((s.data.toList.getD j 0).toNat)) := by
  have h := OwnU.conv w e s hs
  rw [← bytesOf_length s] at h
  have e1 := OwnU.at h j (by rw [bytesOf_length]; exact hj)
  rw [e1]
  have hl : j < s.data.toList.length := by rw [data_length]; exact hj
  simp [bytesOf, List.getD_eq_getElem?_getD, List.getElem?_eq_getElem hl]
set_option maxHeartbeats 4000000 in
set_option maxRecDepth 100000 in
theorem schedule_calls (s : ByteArray) (w : World) (h64 : s.size = 64) :
    Calls Try.prog 38 #[.string s] w fun e w' => e = .returned (.agg (nums .u32 (sched s 64)).toArray) ∧ Below w.heap.size w w' := by
  obtain ⟨W, hW⟩ : ∃ W, W = sched s 64 := ⟨_, rfl⟩
  rw [← hW]
  have HW := Aside0.mk hW
  clear hW
  obtain ⟨hz58, hs58⟩ := zero_of_info (P := Try.prog) (t := 58) (v := .agg (List.replicate 64 (Value.int .u32 0)).toArray) (n := 64) (by kernel_rfl)
  generalize hZ5 : (List.replicate 64 (Value.int .u32 0)).toArray = Z5 at hz58
  have HZ5 := Aside0.mk hZ5
  have HS5 := Aside0.mk hs58
  have H64 := Aside0.mk h64
  clear hZ5 hs58 h64
  go_enter Try.func38, Try.ntmps38
  have HB := Aside0.mk (Below.refl w.heap.size w)
  go_upto_region 2 with (first | ((with_reducible refine gate_dst (N := 2) rfl ?_); refine box_event ?hg (N := 2) ?hd (cs := Z5) (t := 58) ?hr ?_; (case hd => rfl); (case hg => rfl); (case hr => first | (go_simp; done) | (go_simp; rfl)); intro g2 hg w3 hbox hb; have G2 := Aside0.mk (show w.heap.size ≤ g2 by rw [hg]; exact below_size HB.out); have n0_ := Aside0.mk (below_step HB.out hb); clear HB; have HB := n0_; have B2 := Aside0.mk hbox; clear n0_ hb hbox hg) | ((with_reducible refine gate_dst (N := 3) rfl ?_); refine box_event ?hg (N := 3) ?hd (cs := Z5) (t := 58) ?hr ?_; (case hd => rfl); (case hg => rfl); (case hr => first | (go_simp; done) | (go_simp; rfl)); intro g3 hg w4 hbox hb; have G3 := Aside0.mk (show w.heap.size ≤ g3 by rw [hg]; exact below_size HB.out); have N23 := Aside0.mk (show g2 ≠ g3 by rw [hg]; exact Nat.ne_of_lt (blk_lt B2.out)); have n0_ := Aside0.mk (below_step HB.out hb); have n1_ := Aside0.mk (blk_below B2.out hb); clear HB B2; have HB := n0_; have B2 := n1_; have B3 := Aside0.mk hbox; clear n0_ n1_ hb hbox hg) | ((with_reducible refine gate_store (t := 58) (p := 3) rfl ?_); refine store_rowAll rfl 58 _ _ rfl rfl g3 rfl Z5 Z5 rfl 58 B3.out (by rw [HS5.out, ← HZ5.out]; simp) rfl (by rw [← HZ5.out]; decide +kernel) ?_; intro w5 hw ho hb; have n0_ := Aside0.mk (HB.out.trans (hb.mono G3.out)); have n1_ := Aside0.mk ((ho g2 N23.out).trans B2.out); clear HB B2 B3; have HB := n0_; have B2 := n1_; have B3 := Aside0.mk hw; clear n0_ n1_ hw ho hb))
  have n0_ : Aside0 (w5.heap[g3]? = some (.cells (nums .u32 (sched s 0)).toArray 58 (0, 0))) := ⟨by rw [B3.out, ← HZ5.out]; simp [sched, nums]⟩
  clear B3
  have B3 := n0_
  clear n0_
  go_wp2
  go_loopw [10] (fun v10 wr => ∃ i : Nat, i ≤ 64 ∧ v10 = .int .i64 (i : Int) ∧ Aside0 (wr.heap[g3]? = some (.cells (nums .u32 (sched s i)).toArray 58 (0, 0))) ∧ Aside0 (wr.heap[g2]? = some (.cells Z5 58 (0, 0))) ∧ Aside0 (Below w.heap.size w wr)) (fun v10 _ => 64 - (intOf v10).toNat)
  case atStart => exact ⟨0, by omega, rfl, B3, B2, HB⟩
  case round =>
    clear B2 B3 HB
    obtain ⟨i, hi, rfl, B3, B2, HB⟩ := hrel
    by_cases hlt : i < 64
    · have hl := sched_len s i
      have h64 := H64.out
      have HI := Aside0.mk hlt
      have HL := Aside0.mk hl
      have hat : ∀ j, j < 64 → wr.cell? ⟨g3, j, none⟩ = some (.int .u32 ((sched s i).getD j 0)) := by
        intro j hj
        rw [blk_cell B3.out j]
        simp [nums, List.getD_eq_getElem?_getD, hl, hj]
      have hfr : ∀ j, wr.frozen? ⟨g3, j, none⟩ = false := fun j => blk_frozen B3.out j
      by_cases h16 : i < 16
      · have hsu : sched s (i + 1) = (sched s i).set i (beW s i) := by rw [sched, if_pos h16]
        have HSU := Aside0.mk hsu
        obtain ⟨q, hq⟩ : ∃ q, q = s.extract (4 * i) s.size := ⟨_, rfl⟩
        have hqs : q.size = 64 - 4 * i := by rw [hq, ByteArray.size_extract]; omega
        have hqa : ∀ j, q.data.toList.getD j 0 = s.data.toList.getD (4 * i + j) 0 := by
          intro j
          rw [hq, ByteArray.data_extract, Array.toList_extract]
          have hsl : s.data.toList.length = s.size := data_length s
          simp only [List.extract, List.getD_eq_getElem?_getD, List.getElem?_take, List.getElem?_drop]
          by_cases hj : j < s.size - 4 * i
          · rw [if_pos hj]
          · rw [if_neg hj, List.getElem?_eq_none (by omega)]
        have hbw : beW s i = ((Lib.beNat [q.data.toList.getD 0 0, q.data.toList.getD 1 0, q.data.toList.getD 2 0, q.data.toList.getD 3 0] : Nat) : Int) := by
          unfold beW
          simp only [hqa, Nat.add_zero]
        have HBW := Aside0.mk hbw
        have HQS := Aside0.mk hqs
        have HAT := Aside0.mk hat
        have kb := fun V => print_bytes (P := Try.prog) 9 34 5 Try.underlying9 Try.underlying34 Try.underlying5 q V
        have f1 : IntKind.i64.wrap (4 * (i : Int)) = 4 * (i : Int) := IntWalk.i64_in _ (by omega)
        have f3 : (0 : Int) ≤ 4 * (i : Int) := by omega
        have f5 : 4 * (i : Int) ≤ (s.size : Int) := by omega
        have f6 : (4 * (i : Int)).toNat = 4 * i := by omega
        have e1 := hq.symm
        have b16 : ((i : Int) < 16) = True := eq_true (by omega)
        have b64 : ((i : Int) < 64) = True := eq_true (by omega)
        have b63 : i < 64 := hlt
        have hqm : q.size ≤ maxLen := by unfold maxLen; omega
        have CU := Aside0.mk (Try.binary_BE_Uint32 wr.drew.heap.size 0 q.size (grownCap wr.drew q.size 0 5) (q.data.toList.getD 0 0) (q.data.toList.getD 1 0) (q.data.toList.getD 2 0) (q.data.toList.getD 3 0) (Lib.bytesWorld wr.drew 5 q) (by omega) (conv_cell wr.drew 5 q hqm 0 (by omega)) (conv_cell wr.drew 5 q hqm 1 (by omega)) (conv_cell wr.drew 5 q hqm 2 (by omega)) (conv_cell wr.drew 5 q hqm 3 (by omega)))
        have CU := Aside0.mk (show Calls Try.prog 47 #[.agg #[], .slice (some ⟨wr.drew.heap.size, 0, none⟩) q.size (grownCap wr.drew q.size 0 5)] (Lib.bytesWorld wr.drew 5 q) (fun e w' => e = .returned (.int .u32 (beW s i)) ∧ Below (Lib.bytesWorld wr.drew 5 q).heap.size (Lib.bytesWorld wr.drew 5 q) w') by rw [hbw]; exact CU.out)
        have hbc := bytes_below (Below.refl wr.drew.heap.size wr.drew) (Nat.le_refl _) 5 q
        have B3W := Aside0.mk (blk_below (show wr.drew.heap[g3]? = _ from B3.out) hbc)
        have B2W := Aside0.mk (blk_below (show wr.drew.heap[g2]? = _ from B2.out) hbc)
        have HBW := Aside0.mk (below_step (below_drew1 HB.out) hbc)
        have hcW : (Lib.bytesWorld wr.drew 5 q).cell? ⟨g3, i, none⟩ = some (.int .u32 ((sched s i).getD i 0)) := by
          rw [blk_cell B3W.out i]
          simp [nums, List.getD_eq_getElem?_getD, hl, hlt]
        clear hq hqs hqa hbw hsu h64 hl hlt h16 hi hat hfr hqm hbc
        go_upto_region 6 with fail
        go_region_law ((go_simp; go_at_call 47; refine (CU.out).mono ?_; rintro e w7 ⟨rfl, hb⟩; have B37 := Aside0.mk (blk_below B3W.out hb); have B27 := Aside0.mk (blk_below B2W.out hb); have HB7 := Aside0.mk (below_step HBW.out hb); have hc7 : w7.cell? ⟨g3, i, none⟩ = some (.int .u32 ((sched s i).getD i 0)) := (hb.cell (p := ⟨g3, i, none⟩) (blk_lt B3W.out)).trans hcW; have hf7 : w7.frozen? ⟨g3, i, none⟩ = false := blk_frozen B37.out i; clear hb))
        all_goals go_wp2
        all_goals (
          refine ⟨⟨i + 1, HI.out, by go_num, ⟨?_⟩, ⟨?_⟩, ⟨?_⟩⟩, by simp [intOf]; have := HI.out; omega⟩
          · rw [HSU.out]
            exact blk_put B37.out i _ (by rw [List.setIfInBounds_toArray, nums, nums, List.map_set])
          · exact (Below.heap_setCell _ ⟨g3, i, none⟩ _ g2 N23.out).trans B27.out
          · exact below_set HB7.out G3.out)
      · have hsu : sched s (i + 1) = (sched s i).set i (nextW (sched s i) i) := by rw [sched, if_neg h16]
        have HSU := Aside0.mk hsu
        obtain ⟨p15, hp15⟩ : ∃ p : Nat, p = i - 15 := ⟨_, rfl⟩
        obtain ⟨p2, hp2⟩ : ∃ p : Nat, p = i - 2 := ⟨_, rfl⟩
        obtain ⟨p16, hp16⟩ : ∃ p : Nat, p = i - 16 := ⟨_, rfl⟩
        obtain ⟨p7, hp7⟩ : ∃ p : Nat, p = i - 7 := ⟨_, rfl⟩
        have c15 := hat p15 (by omega)
        have c2 := hat p2 (by omega)
        have c16 := hat p16 (by omega)
        have c7 := hat p7 (by omega)
        have ci := hat i hlt
        have fi := hfr i
        obtain ⟨x15, hx15⟩ : ∃ x, x = (sched s i).getD p15 0 := ⟨_, rfl⟩
        obtain ⟨x2, hx2⟩ : ∃ x, x = (sched s i).getD p2 0 := ⟨_, rfl⟩
        obtain ⟨x16, hx16⟩ : ∃ x, x = (sched s i).getD p16 0 := ⟨_, rfl⟩
        obtain ⟨x7, hx7⟩ : ∃ x, x = (sched s i).getD p7 0 := ⟨_, rfl⟩
        have hnw : nextW (sched s i) i = IntKind.u32.wrap (IntKind.u32.wrap (IntKind.u32.wrap (x16 + sg0 x15) + x7) + sg1 x2) := by
          unfold nextW
          rw [← hp15, ← hp2, ← hp16, ← hp7, ← hx15, ← hx2, ← hx16, ← hx7]
        have HNW := Aside0.mk hnw
        rw [← hx15] at c15
        rw [← hx2] at c2
        rw [← hx16] at c16
        rw [← hx7] at c7
        have m15 : IntKind.i64.wrap ((i : Int) - 15) = (p15 : Int) := by rw [IntWalk.i64_in _ (by omega)]; omega
        have m2 : IntKind.i64.wrap ((i : Int) - 2) = (p2 : Int) := by rw [IntWalk.i64_in _ (by omega)]; omega
        have m16 : IntKind.i64.wrap ((i : Int) - 16) = (p16 : Int) := by rw [IntWalk.i64_in _ (by omega)]; omega
        have m7 : IntKind.i64.wrap ((i : Int) - 7) = (p7 : Int) := by rw [IntWalk.i64_in _ (by omega)]; omega
        have n15 : p15 < 64 := by omega
        have n2 : p2 < 64 := by omega
        have n16 : p16 < 64 := by omega
        have n7 : p7 < 64 := by omega
        have ni : i < 64 := hlt
        have o15 : (p15 : Int) < 64 := by omega
        have o2 : (p2 : Int) < 64 := by omega
        have o16 : (p16 : Int) < 64 := by omega
        have o7 : (p7 : Int) < 64 := by omega
        have b16 : ((i : Int) < 16) = False := eq_false (by omega)
        have b64 : ((i : Int) < 64) = True := eq_true (by omega)
        clear hsu hp15 hp2 hp16 hp7 hx15 hx2 hx16 hx7 hnw hat hfr hl h64 hlt h16 hi
        go_upto_region 7 with fail
        go_quiet (fail)
        go_upto_region 10 with (first | (go_at_call 40; ((with_reducible refine (bits_RotateLeft32.calls x15 (-7) (rotr x15 7) _ (left_rotr x15 7 (by decide))).mono ?_)); rintro e w' ⟨rfl, ⟨nd, rfl⟩⟩) | (go_at_call 40; ((with_reducible refine (bits_RotateLeft32.calls x15 (-18) (rotr x15 18) _ (left_rotr x15 18 (by decide))).mono ?_)); rintro e w' ⟨rfl, ⟨nd, rfl⟩⟩) | (go_at_call 40; ((with_reducible refine (bits_RotateLeft32.calls x2 (-17) (rotr x2 17) _ (left_rotr x2 17 (by decide))).mono ?_)); rintro e w' ⟨rfl, ⟨nd, rfl⟩⟩) | (go_at_call 40; ((with_reducible refine (bits_RotateLeft32.calls x2 (-19) (rotr x2 19) _ (left_rotr x2 19 (by decide))).mono ?_)); rintro e w' ⟨rfl, ⟨nd, rfl⟩⟩))
        go_region_law (fail)
        all_goals go_wp2
        all_goals (
          refine ⟨⟨i + 1, HI.out, by go_num, ⟨?_⟩, ⟨?_⟩, ⟨?_⟩⟩, by simp [intOf]; have := HI.out; omega⟩
          · rw [HSU.out, HNW.out]
            exact blk_put (blk_drewN B3.out _) i _ (by rw [List.setIfInBounds_toArray, nums, nums, List.map_set]; rfl)
          · exact (Below.heap_setCell _ ⟨g3, i, none⟩ _ g2 N23.out).trans (blk_drewN B2.out _)
          · exact below_set (pw_below_drewN HB.out _) G3.out)
    · obtain rfl : i = 64 := by omega
      have HL : Aside0 (W.length = 64) := ⟨by rw [HW.out]; exact sched_len s 64⟩
      have n0_ : Aside0 (wr.heap[g3]? = some (.cells (nums .u32 W).toArray 58 (0, 0))) := ⟨by rw [HW.out]; exact B3.out⟩
      clear hlt hi B3
      have B3 := n0_
      clear n0_
      go_wp2_with (first | ((with_reducible refine gate_dst (N := 64) rfl ?_); refine wpList_load_row rfl 58 _ rfl g3 rfl 58 _ (0, 0) _ B3.out Try.underlying58 rfl (by rw [HS5.out]; simp [nums, HL.out]) ?_) | ((with_reducible refine gate_store (t := 58) (p := 2) rfl ?_); refine store_rowAll rfl 58 _ _ rfl rfl g2 rfl Z5 (nums .u32 W).toArray rfl 58 B2.out (by rw [HS5.out]; simp [nums, HL.out]) (by rw [← HZ5.out]; simp [nums, HL.out]) (by simp [nums, Value.oneCell']) ?_; intro w9 hw ho hb; have n0_ := Aside0.mk (HB.out.trans (hb.mono G2.out)); clear HB B2; have HB := n0_; have B2 := Aside0.mk hw; clear n0_ hw ho hb))
      refine bodyPost_ret (results_cell_row rfl _ _ g2 58 _ (0, 0) _ rfl B2.out Try.underlying58 rfl (by rw [HS5.out]; simp [nums, HL.out])) rfl ?_
      exact ⟨rfl, HB.out⟩
set_option maxHeartbeats 4000000 in
set_option maxRecDepth 100000 in
theorem words_calls (w : World) :
    Calls Try.prog 39 #[] w fun e w' => e = .returned (.agg (nums .u32 shaK).toArray) ∧ Below w.heap.size w w' := by
  obtain ⟨W, hW⟩ : ∃ W, W = shaK := ⟨_, rfl⟩
  have hl : W.length = 64 := by rw [hW]; rfl
  rw [← hW]
  have HW := Aside0.mk hW
  clear hW
  obtain ⟨hz58, hs58⟩ := zero_of_info (P := Try.prog) (t := 58) (v := .agg (List.replicate 64 (Value.int .u32 0)).toArray) (n := 64) (by kernel_rfl)
  generalize hZ5 : (List.replicate 64 (Value.int .u32 0)).toArray = Z5 at hz58
  have HZ5 := Aside0.mk hZ5
  have HS5 := Aside0.mk hs58
  have HL := Aside0.mk hl
  clear hZ5 hs58 hl
  go_enter Try.func39, Try.ntmps39
  have HB := Aside0.mk (Below.refl w.heap.size w)
  go_upto_region 1 with (first | ((with_reducible refine gate_dst (N := 0) rfl ?_); refine box_event ?hg (N := 0) ?hd (cs := Z5) (t := 58) ?hr ?_; (case hd => rfl); (case hg => rfl); (case hr => first | (go_simp; done) | (go_simp; rfl)); intro g2 hg w3 hbox hb; have G2 := Aside0.mk (show w.heap.size ≤ g2 by rw [hg]; exact below_size HB.out); have n0_ := Aside0.mk (below_step HB.out hb); clear HB; have HB := n0_; have B2 := Aside0.mk hbox; clear n0_ hb hbox hg))
  have hfin : (nums .u32 W).toArray.size = 64 := by simp [nums, HL.out]
  have HFN := Aside0.mk hfin
  clear hfin
  go_wp2_with (first | ((with_reducible refine gate_dst (N := 1) rfl ?_); refine build_wp rfl 58 _ rfl (nums .u32 W).toArray (by kernel_rfl) (by rw [HW.out]; kernel_rfl) ?_) | ((with_reducible refine gate_store (t := 58) (p := 0) rfl ?_); refine store_rowAll rfl 58 _ _ rfl rfl g2 rfl Z5 (nums .u32 W).toArray rfl 58 B2.out (by rw [HS5.out, HFN.out]) (by rw [← HZ5.out, HFN.out]; simp) (by simp [nums, Value.oneCell']) ?_; intro w9 hw ho hb; have n0_ := Aside0.mk (HB.out.trans (hb.mono G2.out)); clear HB B2; have HB := n0_; have B2 := Aside0.mk hw; clear n0_ hw ho hb))
  refine bodyPost_ret (results_cell_row rfl _ _ g2 58 _ (0, 0) _ rfl B2.out Try.underlying58 rfl (by rw [HS5.out, HFN.out])) rfl ?_
  exact ⟨rfl, HB.out⟩
theorem xor_max (e : Int) : Go.bits .xor .u32 (if IntKind.u32.signed = true then -1 else IntKind.u32.max) e = Go.bits .xor .u32 e 4294967295 := by
  have h : (if IntKind.u32.signed = true then -1 else IntKind.u32.max) = 4294967295 := rfl
  rw [h]
  unfold Go.bits
  simp only [BitVec.xor_comm]
def impl_ShaBlock.f (k : Nat) (l0 : List Int) (a1 : ByteArray) : Option (List Int) := if l0.length ≤ 17592186044415 then (impl_isState.f k l0).bind fun b => if b = true ∧ a1.size = 64 then (if l0.length = 8 then some (shaOut l0 a1) else none) else some l0 else none
theorem impl_ShaBlock.mono : ∀ a0 a1 k, LeO (impl_ShaBlock.f k a0 a1) (impl_ShaBlock.f (k + 1) a0 a1) := by
  intro a0 a1 k
  unfold impl_ShaBlock.f
  exact LeO.ite (LeO.bind (impl_isState.mono _ _) fun _ => LeO.refl _) (LeO.refl _)
set_option maxHeartbeats 4000000 in
set_option maxRecDepth 100000 in
theorem impl_ShaBlock.calls (k : Nat) (A0 : Option Addr) (c0 : Nat) (l0 : List Int) (a1 : ByteArray) (r : List Int) (w : World) (hr0 : Kd.C (Kd.int .i64) w A0 l0.length l0) (hc0 : l0.length ≤ c0) (h : impl_ShaBlock.f k l0 a1 = some r) :
    Calls Try.prog 23 #[.slice A0 l0.length c0, .string a1] w fun e w' => ∃ v0_ : Value, e = .returned (v0_) ∧ Kd.R (Kd.int .i64) 3 w' w.heap.size (fun _ => True) v0_ r ∧ Below w.heap.size w w' := by
  unfold impl_ShaBlock.f at h
  by_cases cl : l0.length ≤ 17592186044415
  · rw [if_pos cl] at h
    obtain ⟨b, hb, h1⟩ := Option.bind_eq_some_iff.1 h
    have HIS := Aside0.mk hb
    have HR := Aside0.mk hr0
    have HC := Aside0.mk hc0
    have HB := Aside0.mk (Below.refl w.heap.size w)
    clear h hb
    by_cases ok : b = true ∧ a1.size = 64
    · rw [if_pos ok] at h1
      obtain ⟨rfl, h64⟩ := ok
      by_cases c8 : l0.length = 8
      · rw [if_pos c8] at h1
        cases h1
        obtain ⟨ad, eA, hx0⟩ := Kd.at_int hr0 0 (by omega) (by omega)
        subst eA
        have hat : ∀ i : Nat, i < 8 → w.cell? (ad.add i) = some (.int .i64 (l0.getD i 0)) := by
          intro i hi
          obtain ⟨ad', e, hx⟩ := Kd.at_int hr0 (i : Int) (by omega) (by omega)
          cases e
          exact hx
        have hadl : ad.block < w.heap.size := World.block_lt_of_cell? w _ (hat 0 (by omega))
        have HAT := Aside0.mk hat
        have HAL := Aside0.mk hadl
        have H64 := Aside0.mk h64
        obtain ⟨n8, hn8⟩ : ∃ n8, n8 = l0.length := ⟨_, rfl⟩
        have H8 := Aside0.mk c8
        have c1a := fun V => schedule_calls a1 V h64
        have c2a := fun V => words_calls V
        have hWl := sched_len a1 64
        have hKl : shaK.length = 64 := rfl
        obtain ⟨O, hO⟩ : ∃ O, O = shaOut l0 a1 := ⟨_, rfl⟩
        rw [← hO]
        unfold shaOut at hO
        generalize sched a1 64 = Ws at c1a hWl hO
        generalize shaK = Ks at c2a hKl hO
        have C1 := Aside0.mk c1a
        have C2 := Aside0.mk c2a
        clear c1a c2a
        have HWL := Aside0.mk hWl
        have HKL := Aside0.mk hKl
        have HO := Aside0.mk hO
        obtain ⟨hz55, hs55⟩ := zero_of_info (P := Try.prog) (t := 55) (v := .agg (List.replicate 8 (Value.int .u32 0)).toArray) (n := 8) (by kernel_rfl)
        obtain ⟨hz58, hs58⟩ := zero_of_info (P := Try.prog) (t := 58) (v := .agg (List.replicate 64 (Value.int .u32 0)).toArray) (n := 64) (by kernel_rfl)
        generalize hZ5 : (List.replicate 64 (Value.int .u32 0)).toArray = Z5 at hz58
        generalize hZ8 : (List.replicate 8 (Value.int .u32 0)).toArray = Z8 at hz55
        have HZ5 := Aside0.mk hZ5
        have HZ8 := Aside0.mk hZ8
        have HS5 := Aside0.mk hs58
        have HS8 := Aside0.mk hs55
        have i3 : Aside0 ((Try.prog.info? 3).map (fun i => (i.zero, i.size, i.bytes)) = some (some (.int .i64 0), 1, 8)) := ⟨by kernel_rfl⟩
        have c1 : ((a1.size : Int) != 64) = false := bne_eq_false_iff_eq.mpr (by omega)
        clear hO hWl hKl hat hadl h64 c8 hZ5 hZ8 hs58 hs55 hr0 hc0 hn8 hx0 cl
        go_enter Try.func23, Try.ntmps23
        go_upto_region 4 with (first | (go_at_call 37; refine (impl_isState.calls k (some ad) c0 l0 true _ (Kd.C_below HR.out HB.out) HC.out HIS.out).mono ?_; rintro e w1 ⟨rfl, hd⟩; have n0_ := Aside0.mk (below_step HB.out hd.below); clear HB hd; have HB := n0_; clear n0_) | ((with_reducible refine gate_dst (N := 5) rfl ?_); refine box_event ?hg (N := 5) ?hd (cs := Z8) (t := 55) ?hr ?_; (case hd => rfl); (case hg => rfl); (case hr => first | (go_simp; done) | (go_simp; rfl)); intro g5 hg w3 hbox hb; have G5 := Aside0.mk (show w.heap.size ≤ g5 by rw [hg]; exact below_size HB.out); have n0_ := Aside0.mk (below_step HB.out hb); clear HB; have HB := n0_; have B5 := Aside0.mk hbox; clear n0_ hb hbox hg) | ((with_reducible refine gate_store (t := 55) (p := 5) rfl ?_); refine store_rowAll rfl 55 _ _ rfl rfl g5 rfl Z8 Z8 rfl 55 B5.out (by rw [HS8.out, ← HZ8.out]; simp) rfl (by rw [← HZ8.out]; decide +kernel) ?_; intro w5 hw ho hb; have n0_ := Aside0.mk (HB.out.trans (hb.mono G5.out)); clear HB B5; have HB := n0_; have B5 := Aside0.mk hw; clear n0_ hw ho hb))
        obtain ⟨Hs, hHs⟩ : ∃ Hs, Hs = l0.map IntKind.u32.wrap := ⟨_, rfl⟩
        have hHl : Hs.length = 8 := by rw [hHs, List.length_map]; exact H8.out
        have hHa : ∀ i, i < 8 → Hs.getD i 0 = IntKind.u32.wrap (l0.getD i 0) := by
          intro i hi
          have h_ : i < l0.length := by rw [H8.out]; exact hi
          rw [hHs, List.getD_eq_getElem?_getD, List.getElem?_map, List.getElem?_eq_getElem h_, List.getD_eq_getElem?_getD, List.getElem?_eq_getElem h_]
          rfl
        have HHA := Aside0.mk hHa
        have HHL := Aside0.mk hHl
        have HHS := Aside0.mk hHs
        have n0_ : Aside0 (w5.heap[g5]? = some (.cells (nums .u32 (Hs.take 0 ++ List.replicate (8 - 0) 0)).toArray 55 (0, 0))) := ⟨by rw [B5.out, ← HZ8.out]; simp [nums]⟩
        clear B5 hHl hHa hHs
        have B5 := n0_
        clear n0_
        go_wp2
        go_loopw [38] (fun v38 wr => ∃ i : Nat, i ≤ 8 ∧ v38 = .int .i64 (i : Int) ∧ Aside0 (wr.heap[g5]? = some (.cells (nums .u32 (Hs.take i ++ List.replicate (8 - i) 0)).toArray 55 (0, 0))) ∧ Aside0 (Below w.heap.size w wr)) (fun v38 _ => 8 - (intOf v38).toNat)
        case atStart => exact ⟨0, by omega, rfl, B5, HB⟩
        case round =>
          clear B5 HB
          obtain ⟨i, hi, rfl, B5, HB⟩ := hrel
          by_cases hlt : i < 8
          · have hst := st_set Hs HHL.out i hlt
            rw [HHA.out i hlt] at hst
            have hx := (HB.out.cell (World.block_lt_of_cell? w _ (HAT.out i hlt))).trans (HAT.out i hlt)
            obtain ⟨x, hxx⟩ : ∃ x, x = l0.getD i 0 := ⟨_, rfl⟩
            rw [← hxx] at hst hx
            have HST := Aside0.mk hst
            have hl : (Hs.take i ++ List.replicate (8 - i) 0).length = 8 := by rw [List.length_append, List.length_take, List.length_replicate, HHL.out]; omega
            have hc : wr.cell? ⟨g5, i, none⟩ = some (.int .u32 ((Hs.take i ++ List.replicate (8 - i) 0).getD i 0)) := by
              rw [blk_cell B5.out i]
              simp only [nums, List.getElem?_toArray, List.getElem?_map, List.getD_eq_getElem?_getD]
              rw [List.getElem?_eq_getElem (by rw [hl]; exact hlt)]
              rfl
            have hf := blk_frozen B5.out i
            generalize (Hs.take i ++ List.replicate (8 - i) 0).getD i 0 = y at hc
            have b1 : ((i : Int) < (l0.length : Int)) = True := eq_true (by rw [H8.out]; omega)
            have b2 : i < l0.length := by rw [H8.out]; exact hlt
            have HI := Aside0.mk hlt
            have b8 : (i : Int) < 8 := by omega
            clear hst hxx hl hi
            go_wp2
            refine ⟨⟨i + 1, HI.out, by go_num, ⟨?_⟩, ⟨?_⟩⟩, by simp [intOf]; have := HI.out; omega⟩
            · rw [← HST.out]
              exact blk_put B5.out i _ (by rw [List.setIfInBounds_toArray, nums, nums, List.map_set]; rfl)
            · exact below_set HB.out G5.out
          · obtain rfl : i = 8 := by omega
            have n0_ : Aside0 (wr.heap[g5]? = some (.cells (nums .u32 Hs).toArray 55 (0, 0))) := ⟨by
              have e := B5.out
              rw [List.take_of_length_le (by rw [HHL.out]; omega)] at e
              simpa using e⟩
            clear B5 hlt hi
            have B5 := n0_
            clear n0_
            have b1 : ((8 : Int) < (l0.length : Int)) = False := eq_false (by rw [H8.out]; omega)
            go_upto_region 9 with fail
            clear b1
            go_upto_region 11 with (first | (go_at_call 38; refine (C1.out _).mono ?_; rintro e w1 ⟨rfl, hb⟩; have n0_ := Aside0.mk (below_step HB.out hb); have n1_ := Aside0.mk (blk_below B5.out hb); clear HB B5; have HB := n0_; have B5 := n1_; clear n0_ n1_; clear hb) | (go_at_call 39; refine (C2.out _).mono ?_; rintro e w1 ⟨rfl, hb⟩; have n0_ := Aside0.mk (below_step HB.out hb); have n1_ := Aside0.mk (blk_below B5.out hb); clear HB B5; have HB := n0_; have B5 := n1_; clear n0_ n1_; clear hb) | ((with_reducible refine gate_dst (N := 8) rfl ?_); refine box_event ?hg (N := 8) ?hd (cs := Z5) (t := 58) ?hr ?_; (case hd => rfl); (case hg => rfl); (case hr => first | (go_simp; done) | (go_simp; rfl)); intro g8 hg w1 hbox hb; have G8 := Aside0.mk (show w.heap.size ≤ g8 by rw [hg]; exact below_size HB.out); have N5_8 := Aside0.mk (show g5 ≠ g8 by rw [hg]; exact Nat.ne_of_lt (blk_lt B5.out)); have n0_ := Aside0.mk (below_step HB.out hb); have n1_ := Aside0.mk (blk_below B5.out hb); clear HB B5; have HB := n0_; have B5 := n1_; clear n0_ n1_; have B8 := Aside0.mk hbox; clear hb hbox hg) | ((with_reducible refine gate_dst (N := 9) rfl ?_); refine box_event ?hg (N := 9) ?hd (cs := Z5) (t := 58) ?hr ?_; (case hd => rfl); (case hg => rfl); (case hr => first | (go_simp; done) | (go_simp; rfl)); intro g9 hg w1 hbox hb; have G9 := Aside0.mk (show w.heap.size ≤ g9 by rw [hg]; exact below_size HB.out); have N5_9 := Aside0.mk (show g5 ≠ g9 by rw [hg]; exact Nat.ne_of_lt (blk_lt B5.out)); have N8_9 := Aside0.mk (show g8 ≠ g9 by rw [hg]; exact Nat.ne_of_lt (blk_lt B8.out)); have n0_ := Aside0.mk (below_step HB.out hb); have n1_ := Aside0.mk (blk_below B5.out hb); have n2_ := Aside0.mk (blk_below B8.out hb); clear HB B5 B8; have HB := n0_; have B5 := n1_; have B8 := n2_; clear n0_ n1_ n2_; have B9 := Aside0.mk hbox; clear hb hbox hg) | ((with_reducible refine gate_store (t := 58) (p := 8) rfl ?_); refine store_rowAll rfl 58 _ _ rfl rfl g8 rfl Z5 (nums .u32 Ws).toArray rfl 58 B8.out (by rw [HS5.out]; simp [nums, HWL.out]) (by rw [← HZ5.out]; simp [nums, HWL.out]) (by simp [nums, Value.oneCell']) ?_; intro w1 hw ho hb; have m_ := Aside0.mk hw; have n0_ := Aside0.mk (HB.out.trans (hb.mono G8.out)); have n1_ := Aside0.mk ((ho g5 N5_8.out).trans B5.out); have n2_ := Aside0.mk ((ho g9 (Ne.symm N8_9.out)).trans B9.out); clear HB B5 B9; have HB := n0_; have B5 := n1_; have B9 := n2_; clear n0_ n1_ n2_; clear B8; have B8 := m_; clear m_ hw ho hb) | ((with_reducible refine gate_store (t := 58) (p := 9) rfl ?_); refine store_rowAll rfl 58 _ _ rfl rfl g9 rfl Z5 (nums .u32 Ks).toArray rfl 58 B9.out (by rw [HS5.out]; simp [nums, HKL.out]) (by rw [← HZ5.out]; simp [nums, HKL.out]) (by simp [nums, Value.oneCell']) ?_; intro w1 hw ho hb; have m_ := Aside0.mk hw; have n0_ := Aside0.mk (HB.out.trans (hb.mono G9.out)); have n1_ := Aside0.mk ((ho g5 N5_9.out).trans B5.out); have n2_ := Aside0.mk ((ho g8 N8_9.out).trans B8.out); clear HB B5 B8; have HB := n0_; have B5 := n1_; have B8 := n2_; clear n0_ n1_ n2_; clear B9; have B9 := m_; clear m_ hw ho hb) | ((with_reducible refine gate_dst (N := 51) rfl ?_); refine wpList_load_row rfl 55 _ rfl g5 rfl 55 _ (0, 0) _ B5.out Try.underlying55 rfl (by rw [HS8.out]; simp [nums, HHL.out]) ?_) | ((with_reducible refine gate_dst (N := 10) rfl ?_); refine box_event ?hg (N := 10) ?hd (cs := Z8) (t := 55) ?hr ?_; (case hd => rfl); (case hg => rfl); (case hr => first | (go_simp; done) | (go_simp; rfl)); intro g10 hg w1 hbox hb; have G10 := Aside0.mk (show w.heap.size ≤ g10 by rw [hg]; exact below_size HB.out); have N5_10 := Aside0.mk (show g5 ≠ g10 by rw [hg]; exact Nat.ne_of_lt (blk_lt B5.out)); have N8_10 := Aside0.mk (show g8 ≠ g10 by rw [hg]; exact Nat.ne_of_lt (blk_lt B8.out)); have N9_10 := Aside0.mk (show g9 ≠ g10 by rw [hg]; exact Nat.ne_of_lt (blk_lt B9.out)); have n0_ := Aside0.mk (below_step HB.out hb); have n1_ := Aside0.mk (blk_below B5.out hb); have n2_ := Aside0.mk (blk_below B8.out hb); have n3_ := Aside0.mk (blk_below B9.out hb); clear HB B5 B8 B9; have HB := n0_; have B5 := n1_; have B8 := n2_; have B9 := n3_; clear n0_ n1_ n2_ n3_; have B10 := Aside0.mk hbox; clear hb hbox hg) | ((with_reducible refine gate_store (t := 55) (p := 10) rfl ?_); refine store_rowAll rfl 55 _ _ rfl rfl g10 rfl Z8 (nums .u32 Hs).toArray rfl 55 B10.out (by rw [HS8.out]; simp [nums, HHL.out]) (by rw [← HZ8.out]; simp [nums, HHL.out]) (by simp [nums, Value.oneCell']) ?_; intro w1 hw ho hb; have m_ := Aside0.mk hw; have n0_ := Aside0.mk (HB.out.trans (hb.mono G10.out)); have n1_ := Aside0.mk ((ho g5 N5_10.out).trans B5.out); have n2_ := Aside0.mk ((ho g8 N8_10.out).trans B8.out); have n3_ := Aside0.mk ((ho g9 N9_10.out).trans B9.out); clear HB B5 B8 B9; have HB := n0_; have B5 := n1_; have B8 := n2_; have B9 := n3_; clear n0_ n1_ n2_ n3_; clear B10; have B10 := m_; clear m_ hw ho hb))
            go_wp2
            go_loopw [52] (fun v52 wr => ∃ i : Nat, i ≤ 64 ∧ v52 = .int .i64 (i : Int) ∧ Aside0 (wr.heap[g5]? = some (.cells (nums .u32 Hs).toArray 55 (0, 0))) ∧ Aside0 (wr.heap[g8]? = some (.cells (nums .u32 Ws).toArray 58 (0, 0))) ∧ Aside0 (wr.heap[g9]? = some (.cells (nums .u32 Ks).toArray 58 (0, 0))) ∧ Aside0 (wr.heap[g10]? = some (.cells (nums .u32 (rounds8 Ks Ws Hs i)).toArray 55 (0, 0))) ∧ Aside0 (Below w.heap.size w wr)) (fun v52 _ => 64 - (intOf v52).toNat)
            case atStart => exact ⟨0, by omega, rfl, B5, B8, B9, B10, HB⟩
            case round =>
              clear B5 B8 B9 B10 HB hz55
              obtain ⟨i, hi, rfl, B5, B8, B9, B10, HB⟩ := hrel
              by_cases hlt : i < 64
              · have hsl := rounds8_len Ks Ws Hs HHL.out i
                have hsu : rounds8 Ks Ws Hs (i + 1) = step8 (Ks.getD i 0) (Ws.getD i 0) (rounds8 Ks Ws Hs i) := rfl
                generalize rounds8 Ks Ws Hs i = S at hsl hsu B10
                obtain ⟨a, b, c, d, e, f, g, h, rfl⟩ : ∃ a b c d e f g h, S = [a, b, c, d, e, f, g, h] := by
                  match S, hsl with
                  | [a, b, c, d, e, f, g, h], _ => exact ⟨a, b, c, d, e, f, g, h, rfl⟩
                have s0 : wr.cell? ⟨g10, 0, none⟩ = some (.int .u32 a) := (blk_cell B10.out 0).trans rfl
                have s1 : wr.cell? ⟨g10, 1, none⟩ = some (.int .u32 b) := (blk_cell B10.out 1).trans rfl
                have s2 : wr.cell? ⟨g10, 2, none⟩ = some (.int .u32 c) := (blk_cell B10.out 2).trans rfl
                have s3 : wr.cell? ⟨g10, 3, none⟩ = some (.int .u32 d) := (blk_cell B10.out 3).trans rfl
                have s4 : wr.cell? ⟨g10, 4, none⟩ = some (.int .u32 e) := (blk_cell B10.out 4).trans rfl
                have s5 : wr.cell? ⟨g10, 5, none⟩ = some (.int .u32 f) := (blk_cell B10.out 5).trans rfl
                have s6 : wr.cell? ⟨g10, 6, none⟩ = some (.int .u32 g) := (blk_cell B10.out 6).trans rfl
                have s7 : wr.cell? ⟨g10, 7, none⟩ = some (.int .u32 h) := (blk_cell B10.out 7).trans rfl
                have ck : wr.cell? ⟨g9, i, none⟩ = some (.int .u32 (Ks.getD i 0)) := by
                  have h_ : i < Ks.length := by rw [HKL.out]; exact hlt
                  rw [blk_cell B9.out i]
                  simp [nums, List.getD_eq_getElem?_getD, List.getElem?_eq_getElem h_]
                have cw : wr.cell? ⟨g8, i, none⟩ = some (.int .u32 (Ws.getD i 0)) := by
                  have h_ : i < Ws.length := by rw [HWL.out]; exact hlt
                  rw [blk_cell B8.out i]
                  simp [nums, List.getD_eq_getElem?_getD, List.getElem?_eq_getElem h_]
                generalize Ks.getD i 0 = kx at ck hsu
                generalize Ws.getD i 0 = wx at cw hsu
                have HSU := Aside0.mk hsu
                have HI := Aside0.mk hlt
                have b64 : ((i : Int) < 64) = True := eq_true (by omega)
                have n64 : i < 64 := hlt
                clear hsl hsu hlt hi
                go_upto_region 14 with fail
                go_quiet (fail)
                go_upto_region 16 with (first | (go_at_call 40; ((with_reducible refine (bits_RotateLeft32.calls e (-6) (rotr e 6) _ (left_rotr e 6 (by decide))).mono ?_)); rintro e w' ⟨rfl, ⟨nd, rfl⟩⟩) | (go_at_call 40; ((with_reducible refine (bits_RotateLeft32.calls e (-11) (rotr e 11) _ (left_rotr e 11 (by decide))).mono ?_)); rintro e w' ⟨rfl, ⟨nd, rfl⟩⟩) | (go_at_call 40; ((with_reducible refine (bits_RotateLeft32.calls e (-25) (rotr e 25) _ (left_rotr e 25 (by decide))).mono ?_)); rintro e w' ⟨rfl, ⟨nd, rfl⟩⟩))
                go_quiet (fail)
                go_upto_region 19 with (first | (go_at_call 40; ((with_reducible refine (bits_RotateLeft32.calls a (-2) (rotr a 2) _ (left_rotr a 2 (by decide))).mono ?_)); rintro e w' ⟨rfl, ⟨nd, rfl⟩⟩) | (go_at_call 40; ((with_reducible refine (bits_RotateLeft32.calls a (-13) (rotr a 13) _ (left_rotr a 13 (by decide))).mono ?_)); rintro e w' ⟨rfl, ⟨nd, rfl⟩⟩) | (go_at_call 40; ((with_reducible refine (bits_RotateLeft32.calls a (-22) (rotr a 22) _ (left_rotr a 22 (by decide))).mono ?_)); rintro e w' ⟨rfl, ⟨nd, rfl⟩⟩))
                have n5_ := fun n => blk_drewN B5.out n
                have n8_ := fun n => blk_drewN B8.out n
                have n9_ := fun n => blk_drewN B9.out n
                have n10_ := fun n => blk_drewN B10.out n
                have nB_ := fun n => pw_below_drewN HB.out n
                have M5 := Aside0.mk n5_
                have M8 := Aside0.mk n8_
                have M9 := Aside0.mk n9_
                have M10 := Aside0.mk n10_
                have MB := Aside0.mk nB_
                clear n5_ n8_ n9_ n10_ nB_ B5 B8 B9 B10 HB
                have B5 := M5
                have B8 := M8
                have B9 := M9
                have B10 := M10
                have HB := MB
                clear M5 M8 M9 M10 MB
                go_upto_region 20 with (((with_reducible refine gate_store (t := 55) (p := 10) rfl ?_); refine store_rowAll rfl 55 _ _ rfl rfl g10 rfl _ _ rfl 55 (B10.out _) (by rw [HS8.out]; rfl) (by simp [nums]) (by simp [Value.oneCell']) ?_; intro w1 hw ho hb; have m_ := Aside0.mk hw; have n0_ := Aside0.mk ((HB.out _).trans (hb.mono G10.out)); have n1_ := Aside0.mk ((ho g5 N5_10.out).trans (B5.out _)); have n2_ := Aside0.mk ((ho g8 N8_10.out).trans (B8.out _)); have n3_ := Aside0.mk ((ho g9 N9_10.out).trans (B9.out _)); clear HB B5 B8 B9; have HB := n0_; have B5 := n1_; have B8 := n2_; have B9 := n3_; clear n0_ n1_ n2_ n3_; clear B10; have B10 := m_; clear m_ hw ho hb))
                clear s0 s1 s2 s3 s4 s5 s6 s7 ck cw b64
                go_wp2
                refine ⟨⟨i + 1, HI.out, by go_num, B5, B8, B9, ⟨?_⟩, HB⟩, by simp [intOf]; have := HI.out; omega⟩
                refine B10.out.trans ?_
                rw [HSU.out]
                have hx : ∀ z, IntKind.u32.wrap z = z % 4294967296 := fun z => rfl
                refine congrArg (fun z => some (Obj.cells z 55 (0, 0))) (step8_cells kx wx a b c d e f g h _ _ ?_ ?_)
                · simp only [hx, ep0, ep1, chs, maj, xor_max]
                  exact mod_sum0 _ _ _ _ _ _ _
                · simp only [hx, ep0, ep1, chs, maj, xor_max]
                  exact mod_sum4 _ _ _ _ _ _
              · obtain rfl : i = 64 := by omega
                have hSl := rounds8_len Ks Ws Hs HHL.out 64
                have hOl : O.length = 8 := by rw [HO.out]; simp
                have hOa : ∀ j, j < 8 → O.getD j 0 = IntKind.u32.wrap (Hs.getD j 0 + (rounds8 Ks Ws Hs 64).getD j 0) := by
                  intro j hj
                  have h1 := HHA.out j hj
                  rw [HO.out, ← HHS.out, h1, List.getD_eq_getElem?_getD, List.getElem?_map, List.getElem?_range hj]
                  rfl
                generalize rounds8 Ks Ws Hs 64 = S at hSl hOa B10
                have HSL := Aside0.mk hSl
                have HOL := Aside0.mk hOl
                have HOA := Aside0.mk hOa
                clear hSl hOl hOa hlt hi B8 B9
                go_wp2_with ((with_reducible refine gate_dst (N := 133) rfl ?_); refine Kd.R_make (Kd.int .i64) _ 3 rfl (N := 133) rfl 39 _ _ rfl (8 : Int) rfl rfl Try.underlying39 (.int .i64 0) 8 i3.out rfl (by decide) (by omega) 0 (ok := fun _ => True) (okp := fun _ => True) rfl (fun _ hk => hk) trivial (by omega) (by decide) (Below.refl _ _) (Nat.le_refl _) ?_; intro v7 w4 ho hb hg_ hnew_; clear hg_ hnew_; obtain ⟨gV, cV, rfl, gb, gl, _⟩ := Kd.R_form ho (by decide); have NV5 := Aside0.mk (show g5 ≠ gV from Nat.ne_of_lt (Nat.lt_of_lt_of_le (blk_lt B5.out) gb)); have NV10 := Aside0.mk (show g10 ≠ gV from Nat.ne_of_lt (Nat.lt_of_lt_of_le (blk_lt B10.out) gb)); have GV := Aside0.mk (Nat.le_trans (below_size HB.out) gb); have HV := Aside0.mk (Kd.R_lower ho (below_size HB.out)); have n0_ := Aside0.mk (below_step HB.out hb); have n1_ := Aside0.mk (blk_below B5.out hb); have n2_ := Aside0.mk (blk_below B10.out hb); clear HB B5 B10 ho hb gb gl; have HB := n0_; have B5 := n1_; have B10 := n2_; clear n0_ n1_ n2_)
                have n0_ : Aside0 (Kd.R (Kd.int .i64) 3 w4 w.heap.size (fun _ => True) (.slice (some ⟨gV, 0, none⟩) 8 cV) (O.take 0 ++ List.replicate (8 - 0) 0)) := ⟨HV.out⟩
                clear HV
                have HV := n0_
                clear n0_
                go_loopw [136] (fun v136 wr => ∃ i : Nat, i ≤ 8 ∧ v136 = .int .i64 (i : Int) ∧ Aside0 (Kd.R (Kd.int .i64) 3 wr w.heap.size (fun _ => True) (.slice (some ⟨gV, 0, none⟩) 8 cV) (O.take i ++ List.replicate (8 - i) 0)) ∧ Aside0 (wr.heap[g5]? = some (.cells (nums .u32 Hs).toArray 55 (0, 0))) ∧ Aside0 (wr.heap[g10]? = some (.cells (nums .u32 S).toArray 55 (0, 0))) ∧ Aside0 (Below w.heap.size w wr)) (fun v136 _ => 8 - (intOf v136).toNat)
                case atStart => exact ⟨0, by omega, rfl, HV, B5, B10, HB⟩
                case round =>
                  clear HV B5 B10 HB
                  obtain ⟨i, hi, rfl, HV, B5, B10, HB⟩ := hrel
                  by_cases hlt : i < 8
                  · have hst := st_set O HOL.out i hlt
                    rw [HOA.out i hlt] at hst
                    have ch : wr.cell? ⟨g5, i, none⟩ = some (.int .u32 (Hs.getD i 0)) := by
                      have h_ : i < Hs.length := by rw [HHL.out]; exact hlt
                      rw [blk_cell B5.out i]
                      simp [nums, List.getD_eq_getElem?_getD, List.getElem?_eq_getElem h_]
                    have cs : wr.cell? ⟨g10, i, none⟩ = some (.int .u32 (S.getD i 0)) := by
                      have h_ : i < S.length := by rw [HSL.out]; exact hlt
                      rw [blk_cell B10.out i]
                      simp [nums, List.getD_eq_getElem?_getD, List.getElem?_eq_getElem h_]
                    obtain ⟨cv, fv⟩ := Kd.R_celln 0 HV.out (i : Int) (by omega) (by omega)
                    rw [Int.toNat_natCast] at cv fv
                    generalize rdOf 0 (O.take i ++ List.replicate (8 - i) 0) (i : Int) = y at cv
                    have hput := Kd.R_putn HV.out (i : Int) (IntKind.u32.wrap (Hs.getD i 0 + S.getD i 0))
                    rw [Int.toNat_natCast, hst] at hput
                    generalize Hs.getD i 0 = xh at ch hput
                    generalize S.getD i 0 = xs at cs hput
                    have HP := Aside0.mk hput
                    have hw : IntKind.i64.wrap ((xh + xs) % 4294967296) = (xh + xs) % 4294967296 := IntWalk.i64_in _ (by omega)
                    have HI := Aside0.mk hlt
                    have b8 : (i : Int) < 8 := by omega
                    have b8' : ((i : Int) < 8) = True := eq_true b8
                    have n8_ : i < 8 := hlt
                    clear hst hput hlt hi b8
                    go_upto_region 25 with fail
                    go_still_tail 11, (by kernel_rfl)
                    go_wp2
                    have hw2 : wrap64 ((xh + xs) % 4294967296) = IntKind.u32.wrap (xh + xs) := by first | exact hw | (unfold wrap64; exact hw) | (unfold wrap64; rw [IntKind.wrap_i64] at hw; exact hw)
                    rw [hw2]
                    refine ⟨⟨i + 1, HI.out, by go_num, ⟨Kd.R_drew HP.out⟩, ⟨(Below.heap_setCell wr ⟨gV, i, none⟩ _ g5 NV5.out).trans B5.out⟩, ⟨(Below.heap_setCell wr ⟨gV, i, none⟩ _ g10 NV10.out).trans B10.out⟩, ⟨below_drew1 (below_set HB.out GV.out)⟩⟩, by simp [intOf]; have := HI.out; omega⟩
                  · obtain rfl : i = 8 := by omega
                    have n0_ : Aside0 (Kd.R (Kd.int .i64) 3 wr w.heap.size (fun _ => True) (.slice (some ⟨gV, 0, none⟩) 8 cV) O) := ⟨by
                      have e := HV.out
                      rw [List.take_of_length_le (by rw [HOL.out]; omega)] at e
                      simpa using e⟩
                    clear HV hlt hi
                    go_wp2
                    go_ret
                    exact ⟨_, rfl, n0_.out, HB.out⟩
      · rw [if_neg c8] at h1
        cases h1
    · rw [if_neg ok] at h1
      cases h1
      have HL := Aside0.mk cl
      have i3 : Aside0 ((Try.prog.info? 3).map (fun i => (i.zero, i.size, i.bytes)) = some (some (.int .i64 0), 1, 8)) := ⟨by kernel_rfl⟩
      cases b with
      | false =>
        clear ok cl hr0 hc0
        go_enter Try.func23, Try.ntmps23
        go_wp2_with (first | (go_at_call 37; refine (impl_isState.calls k A0 c0 l0 false _ (Kd.C_below HR.out HB.out) HC.out HIS.out).mono ?_; rintro e w1 ⟨rfl, hd⟩; have n0_ := Aside0.mk (below_step HB.out hd.below); clear HB hd; have HB := n0_; clear n0_) | (at_builtin; refine Kd.R_append_rows (Kd.int .i64) (w0 := w) w.heap.size rfl (.const (.slice none 0 0)) (.tmp 33) 39 3 (.int .i64 0) 8 rfl Try.underlying39 i3.out rfl (by decide) (by omega) (.slice none 0 0) [] l0 _ _ _ (fun _ => True) (fun _ => False) rfl rfl ?aO ?aR (fun _ _ h => h) (fun _ h => h.elim) ?aF ?aB ?aS ?aL ?_; (case aR => exact (Kd.C_below HR.out HB.out)); (case aB => exact HB.out); (case aF => exact (fun _ _ => trivial)); (case aO => exact Kd.R_nil _ _ _ _ _); (case aS => exact below_size HB.out); (case aL => have := HL.out; simp only [List.length_nil]; omega); intro v7 w8 ho hb hg hat; rw [List.nil_append] at ho; have n1_ := Aside0.mk hb; have n2_ := Aside0.mk ho; clear HB ho hb hg hat; have HB := n1_; have HO := n2_; clear n1_ n2_))
        go_ret
        exact ⟨_, rfl, HO.out, HB.out⟩
      | true =>
        have hs : ¬ a1.size = 64 := fun e => ok ⟨rfl, e⟩
        have c1 : ((a1.size : Int) != 64) = true := bne_iff_ne.mpr (by omega)
        clear ok cl hr0 hc0 hs
        go_enter Try.func23, Try.ntmps23
        go_wp2_with (first | (go_at_call 37; refine (impl_isState.calls k A0 c0 l0 true _ (Kd.C_below HR.out HB.out) HC.out HIS.out).mono ?_; rintro e w1 ⟨rfl, hd⟩; have n0_ := Aside0.mk (below_step HB.out hd.below); clear HB hd; have HB := n0_; clear n0_) | (at_builtin; refine Kd.R_append_rows (Kd.int .i64) (w0 := w) w.heap.size rfl (.const (.slice none 0 0)) (.tmp 33) 39 3 (.int .i64 0) 8 rfl Try.underlying39 i3.out rfl (by decide) (by omega) (.slice none 0 0) [] l0 _ _ _ (fun _ => True) (fun _ => False) rfl rfl ?aO ?aR (fun _ _ h => h) (fun _ h => h.elim) ?aF ?aB ?aS ?aL ?_; (case aR => exact (Kd.C_below HR.out HB.out)); (case aB => exact HB.out); (case aF => exact (fun _ _ => trivial)); (case aO => exact Kd.R_nil _ _ _ _ _); (case aS => exact below_size HB.out); (case aL => have := HL.out; simp only [List.length_nil]; omega); intro v7 w8 ho hb hg hat; rw [List.nil_append] at ho; have n1_ := Aside0.mk hb; have n2_ := Aside0.mk ho; clear HB ho hb hg hat; have HB := n1_; have HO := n2_; clear n1_ n2_))
        go_ret
        exact ⟨_, rfl, HO.out, HB.out⟩
  · rw [if_neg cl] at h
    cases h

end Go.Proofs.Ytcmemppkllgkmaa.PFnExactShaBlock
