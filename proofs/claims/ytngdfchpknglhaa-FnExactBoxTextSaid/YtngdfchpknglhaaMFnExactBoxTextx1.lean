-- Written by a program of this session for this claim; Lean checks it.
import Derived.Test.YtngdfchpknglhaaMFnExactBoxTextx0
namespace Go.Proofs.Ytngdfchpknglhaa.PFnExactBoxText
open Go.RowKit Go.Proofs.YtngdfchpknglhaaW.PrintWords Go.Proofs.YtngdfchpknglhaaW.PrintLast Go.Proofs.YtngdfchpknglhaaW.PrintMore
attribute [local go_sem] max2_int min2_int max_two min_two max_three min_three max_four min_four   -- for this text's walks alone
set_option linter.unusedVariables false
set_option linter.unusedSimpArgs false

-- NOT PRINTED: function 46 (spec_l06Box)

/-! ### spec_l01In: function 40 -/
def spec_l01In.f (a0 : Int) (a1 : Int) (a2 : Int) : Option (Bool) := if a0 ≥ a1 then (some (decide (a0 ≤ a2))) else (some false)
set_option maxHeartbeats 8000000 in
set_option maxRecDepth 100000 in
theorem spec_l01In.calls (a0 : Int) (a1 : Int) (a2 : Int) (r : Bool) (w : World) (h : spec_l01In.f a0 a1 a2 = some r) :
    Calls Try.prog 40 #[.int .i64 a0, .int .i64 a1, .int .i64 a2] w fun e w' => e = .returned (.bool r) ∧ Drawn0 w w' := by
  have H : (if a0 ≥ a1 then (some (decide (a0 ≤ a2))) else (some false)) = some r := h
  clear h
  by_cases c4 : a0 ≥ a1
  · rw [if_pos c4] at H
    have c4b0 : decide (a1 ≤ a0) = true := decide_eq_true c4
    clear c4
    obtain rfl := Option.some.inj H
    go_enter Try.func40, Try.ntmps40
    go_wp2
    go_ret
    exact ⟨by first | rfl | (simp; done) | (simp [*]; done), by repeat (first | exact Drawn0.refl _ | apply Drawn0.step)⟩
  · rw [if_neg c4] at H
    have c4b0 : decide (a1 ≤ a0) = false := decide_eq_false c4
    clear c4
    obtain rfl := Option.some.inj H
    go_enter Try.func40, Try.ntmps40
    go_wp2
    go_ret
    exact ⟨by first | rfl | (simp; done) | (simp [*]; done), by repeat (first | exact Drawn0.refl _ | apply Drawn0.step)⟩

/-! ### spec_l05Byte: function 37 -/
def spec_l05Byte.f (a0 : Int) : Option (Bool) := (spec_l01In.f a0 0 255).bind fun t101 => (some t101)
set_option maxHeartbeats 8000000 in
set_option maxRecDepth 100000 in
theorem spec_l05Byte.calls (a0 : Int) (r : Bool) (w : World) (h : spec_l05Byte.f a0 = some r) :
    Calls Try.prog 37 #[.int .i64 a0] w fun e w' => e = .returned (.bool r) ∧ Drawn0 w w' := by
  have H : ((spec_l01In.f a0 0 255).bind fun t101 => (some t101)) = some r := h
  clear h
  replace H := Option.bind_eq_some_iff.mp H
  obtain ⟨t101, A20, H⟩ := H
  replace H : (some t101) = some r := H
  have A2 := Aside0.mk A20
  clear A20
  obtain rfl := Option.some.inj H
  go_enter Try.func37, Try.ntmps37
  go_wp2_with (first | ((with_reducible refine gate_callee (f := 40) rfl ?_); refine goesL_ (some 4) rfl rfl Try.func40 (by kernel_rfl) rfl #[.int .i64 a0, .int .i64 0, .int .i64 255] rfl (by (try simp only [List.map_toArray, List.map_cons, List.map_nil]); first | done | rfl | (simp only [List.length_drop, List.length_take]; rfl)) ?_; (with_reducible refine (spec_l01In.calls a0 0 255 t101 _ A2.out).mono ?_); rintro e w' ⟨rfl, ⟨nd, rfl⟩⟩; refine ⟨_, rfl, ?_⟩))
  go_ret
  exact ⟨by first | rfl | (simp; done) | (simp [*]; done), by repeat (first | exact Drawn0.refl _ | apply Drawn0.step)⟩

/-! ### spec_FieldDouble: function 38 -/
def spec_FieldDouble.f (a0 : Int) : Option (Int) := (spec_l05Byte.f a0).bind fun t102 => (if t102 = true then (if (wrap64 (2 * a0)) > 255 then (some (Go.bits .xor .i64 (wrap64 (2 * a0)) 283)) else (some (wrap64 (2 * a0)))) else (some 0))
set_option maxHeartbeats 8000000 in
set_option maxRecDepth 100000 in
theorem spec_FieldDouble.calls (a0 : Int) (r : Int) (w : World) (h : spec_FieldDouble.f a0 = some r) :
    Calls Try.prog 38 #[.int .i64 a0] w fun e w' => e = .returned (.int .i64 r) ∧ Drawn0 w w' := by
  have H : ((spec_l05Byte.f a0).bind fun t102 => (if t102 = true then (if (wrap64 (2 * a0)) > 255 then (some (Go.bits .xor .i64 (wrap64 (2 * a0)) 283)) else (some (wrap64 (2 * a0)))) else (some 0))) = some r := h
  clear h
  replace H := Option.bind_eq_some_iff.mp H
  obtain ⟨t102, A20, H⟩ := H
  replace H : (if t102 = true then (if (wrap64 (2 * a0)) > 255 then (some (Go.bits .xor .i64 (wrap64 (2 * a0)) 283)) else (some (wrap64 (2 * a0)))) else (some 0)) = some r := H
  have A2 := Aside0.mk A20
  clear A20
  by_cases c3 : t102 = true
  · subst c3
    have H1 : (if (wrap64 (2 * a0)) > 255 then (some (Go.bits .xor .i64 (wrap64 (2 * a0)) 283)) else (some (wrap64 (2 * a0)))) = some r := by rw [if_pos rfl] at H; exact H
    clear H
    have H := H1
    clear H1
    by_cases c4 : (wrap64 (2 * a0)) > 255
    · rw [if_pos c4] at H
      have c4b0 : decide (255 < (wrap64 (2 * a0))) = true := decide_eq_true c4
      clear c4
      obtain rfl := Option.some.inj H
      go_enter Try.func38, Try.ntmps38
      go_wp2_with (first | ((with_reducible refine gate_callee (f := 37) rfl ?_); refine goesL_ (some 4) rfl rfl Try.func37 (by kernel_rfl) rfl #[.int .i64 a0] rfl (by (try simp only [List.map_toArray, List.map_cons, List.map_nil]); first | done | rfl | (simp only [List.length_drop, List.length_take]; rfl)) ?_; (with_reducible refine (spec_l05Byte.calls a0 true _ A2.out).mono ?_); rintro e w' ⟨rfl, ⟨nd, rfl⟩⟩; refine ⟨_, rfl, ?_⟩))
      go_ret
      exact ⟨by first | rfl | (simp; done) | (simp [*]; done), by repeat (first | exact Drawn0.refl _ | apply Drawn0.step)⟩
    · rw [if_neg c4] at H
      have c4b0 : decide (255 < (wrap64 (2 * a0))) = false := decide_eq_false c4
      clear c4
      obtain rfl := Option.some.inj H
      go_enter Try.func38, Try.ntmps38
      go_wp2_with (first | ((with_reducible refine gate_callee (f := 37) rfl ?_); refine goesL_ (some 4) rfl rfl Try.func37 (by kernel_rfl) rfl #[.int .i64 a0] rfl (by (try simp only [List.map_toArray, List.map_cons, List.map_nil]); first | done | rfl | (simp only [List.length_drop, List.length_take]; rfl)) ?_; (with_reducible refine (spec_l05Byte.calls a0 true _ A2.out).mono ?_); rintro e w' ⟨rfl, ⟨nd, rfl⟩⟩; refine ⟨_, rfl, ?_⟩))
      go_ret
      exact ⟨by first | rfl | (simp; done) | (simp [*]; done), by repeat (first | exact Drawn0.refl _ | apply Drawn0.step)⟩
  · replace c3 := Bool.eq_false_iff.mpr c3
    subst c3
    have H1 : (some 0) = some r := by rw [if_neg (show ¬ (false = true) by decide)] at H; exact H
    clear H
    have H := H1
    clear H1
    obtain rfl := Option.some.inj H
    go_enter Try.func38, Try.ntmps38
    go_wp2_with (first | ((with_reducible refine gate_callee (f := 37) rfl ?_); refine goesL_ (some 4) rfl rfl Try.func37 (by kernel_rfl) rfl #[.int .i64 a0] rfl (by (try simp only [List.map_toArray, List.map_cons, List.map_nil]); first | done | rfl | (simp only [List.length_drop, List.length_take]; rfl)) ?_; (with_reducible refine (spec_l05Byte.calls a0 false _ A2.out).mono ?_); rintro e w' ⟨rfl, ⟨nd, rfl⟩⟩; refine ⟨_, rfl, ?_⟩))
    go_ret
    exact ⟨by first | rfl | (simp; done) | (simp [*]; done), by repeat (first | exact Drawn0.refl _ | apply Drawn0.step)⟩

/-! ### spec_l05Turned: function 45 -/
def spec_l05Turned.l0 : Nat → Int → Int → Int → Option (Int)
  | 0, _, _, _ => none
  | k + 1, x0, x3, x4 => if x4 < 5 then (if 0 ≤ (IntKind.u64.wrap (x4)) then (if 0 ≤ (IntKind.u64.wrap (wrap64 (8 - x4))) then (spec_l05Turned.l0 k x0 (Go.bits .xor .i64 x3 (Go.bits .and .i64 (Go.bits .or .i64 (shl .i64 x0 (IntKind.u64.wrap (x4))) (shr .i64 x0 (IntKind.u64.wrap (wrap64 (8 - x4))))) 255)) (wrap64 (x4 + 1))) else (none)) else (none)) else (some x3)
def spec_l05Turned.f (k : Nat) (a0 : Int) : Option (Int) := spec_l05Turned.l0 k a0 99 0
theorem spec_l05Turned.mono_l : ∀ k, (∀ y0 y1 y2, LeO (spec_l05Turned.l0 k y0 y1 y2) (spec_l05Turned.l0 (k + 1) y0 y1 y2))
  | 0 => fun _ _ _ r h => by simp [spec_l05Turned.l0] at h
  | k + 1 => by
    have ih0 := spec_l05Turned.mono_l k
    · intro y0 y1 y2
      unfold spec_l05Turned.l0
      repeat' first
      | (with_reducible exact ih0 _ _ _)
      | (with_reducible exact LeO.refl _)
      | (with_reducible exact LeO.none _)
      | (with_reducible refine LeO.ite ?_ ?_)
      | (with_reducible refine LeO.bind ?_ (fun _ => ?_))
      | exact ih0 _ _ _
      | exact LeO.none _
      | refine LeO.ite ?_ ?_
      | refine LeO.bind ?_ (fun _ => ?_)
theorem spec_l05Turned.mono : ∀ a0 k, LeO (spec_l05Turned.f k a0) (spec_l05Turned.f (k + 1) a0) := by
  intro a0 k
  have ih0 := spec_l05Turned.mono_l k
  unfold spec_l05Turned.f
  repeat' first
      | (with_reducible exact ih0 _ _ _)
      | (with_reducible exact LeO.refl _)
      | (with_reducible exact LeO.none _)
      | (with_reducible refine LeO.ite ?_ ?_)
      | (with_reducible refine LeO.bind ?_ (fun _ => ?_))
      | exact ih0 _ _ _
      | exact LeO.none _
      | refine LeO.ite ?_ ?_
      | refine LeO.bind ?_ (fun _ => ?_)
set_option maxHeartbeats 8000000 in
set_option maxRecDepth 100000 in
theorem spec_l05Turned.calls (k : Nat) (a0 : Int) (r : Int) (w : World) (h : spec_l05Turned.f k a0 = some r) :
    Calls Try.prog 45 #[.int .i64 a0] w fun e w' => e = .returned (.int .i64 r) ∧ Drawn0 w w' := by
  have H : (spec_l05Turned.l0 k a0 99 0) = some r := h
  clear h
  have H' := Aside0.mk H
  clear H
  go_enter Try.func45, Try.ntmps45
  go_wp2
  go_loopg [3, 4] k (fun kq v3 v4 w' => ∃ (x3_1 : Int) (x4_1 : Int), v3 = .int .i64 x3_1 ∧ v4 = .int .i64 x4_1 ∧ Aside0 (spec_l05Turned.l0 kq a0 x3_1 x4_1 = some r) ∧ Aside0 (kq ≤ k) ∧ Drawn0 w w')
  case atStart => exact ⟨(99), (0), (by first | rfl | (simp; done) | (simp [*]; done)), (by first | rfl | (simp; done) | (simp [*]; done)), H', ⟨Nat.le_refl _⟩, by repeat (first | exact Drawn0.refl _ | apply Drawn0.step)⟩
  case round =>
    clear H'
    obtain ⟨x3_1, x4_1, rfl, rfl, HA, HK1, ⟨m1, rfl⟩⟩ := hrel
    cases gk with
    | zero => exact absurd HA.out (by simp [spec_l05Turned.l0])
    | succ k1 =>
      have H := HA.out
      clear HA
      simp only [spec_l05Turned.l0] at H
      by_cases c2 : x4_1 < 5
      · rw [if_pos c2] at H
        have c2b0 : decide (x4_1 < 5) = true := decide_eq_true c2
        clear c2
        obtain ⟨ji3, hji3⟩ : ∃ j_ : Int, (IntKind.u64.wrap (x4_1)) = j_ := ⟨_, rfl⟩
        replace H : (if 0 ≤ (ji3) then (if 0 ≤ (IntKind.u64.wrap (wrap64 (8 - x4_1))) then (spec_l05Turned.l0 k1 a0 (Go.bits .xor .i64 x3_1 (Go.bits .and .i64 (Go.bits .or .i64 (shl .i64 a0 (ji3)) (shr .i64 a0 (IntKind.u64.wrap (wrap64 (8 - x4_1))))) 255)) (wrap64 (x4_1 + 1))) else (none)) else (none)) = some r := by first | (rw [hji3] at H; exact H) | (simp only [hji3] at H ⊢; exact H)
        by_cases c4 : 0 ≤ (ji3)
        · rw [if_pos c4] at H
          have c4b0 := eq_true c4
          have c4b1 : decide (0 ≤ (ji3)) = true := decide_eq_true c4
          clear c4
          obtain ⟨ji5, hji5⟩ : ∃ j_ : Int, (shl .i64 a0 (ji3)) = j_ := ⟨_, rfl⟩
          replace H : (if 0 ≤ (IntKind.u64.wrap (wrap64 (8 - x4_1))) then (spec_l05Turned.l0 k1 a0 (Go.bits .xor .i64 x3_1 (Go.bits .and .i64 (Go.bits .or .i64 (ji5) (shr .i64 a0 (IntKind.u64.wrap (wrap64 (8 - x4_1))))) 255)) (wrap64 (x4_1 + 1))) else (none)) = some r := by first | (rw [hji5] at H; exact H) | (simp only [hji5] at H ⊢; exact H)
          have hji5_ : (IntKind.i64.wrap (a0 * 2 ^ min (ji3).toNat 64)) = ji5 := hji5
          have hji5z : (ji3) ≤ 64 → (IntKind.i64.wrap (a0 * 2 ^ (ji3).toNat)) = ji5 := shl_small hji5
          have hji5y : (wrap64 (a0 * 2 ^ min (ji3).toNat 64)) = ji5 := (i64_w _).symm.trans hji5_
          have hji5x : (ji3) ≤ 64 → (wrap64 (a0 * 2 ^ (ji3).toNat)) = ji5 := fun h_ => (i64_w _).symm.trans (hji5z h_)
          obtain ⟨ji6, hji6⟩ : ∃ j_ : Int, (IntKind.u64.wrap (wrap64 (8 - x4_1))) = j_ := ⟨_, rfl⟩
          replace H : (if 0 ≤ (ji6) then (spec_l05Turned.l0 k1 a0 (Go.bits .xor .i64 x3_1 (Go.bits .and .i64 (Go.bits .or .i64 (ji5) (shr .i64 a0 (ji6))) 255)) (wrap64 (x4_1 + 1))) else (none)) = some r := by first | (rw [hji6] at H; exact H) | (simp only [hji6] at H ⊢; exact H)
          by_cases c7 : 0 ≤ (ji6)
          · rw [if_pos c7] at H
            have c7b0 := eq_true c7
            have c7b1 : decide (0 ≤ (ji6)) = true := decide_eq_true c7
            clear c7
            obtain ⟨ji8, hji8⟩ : ∃ j_ : Int, (shr .i64 a0 (ji6)) = j_ := ⟨_, rfl⟩
            replace H : (spec_l05Turned.l0 k1 a0 (Go.bits .xor .i64 x3_1 (Go.bits .and .i64 (Go.bits .or .i64 (ji5) (ji8)) 255)) (wrap64 (x4_1 + 1))) = some r := by first | (rw [hji8] at H; exact H) | (simp only [hji8] at H ⊢; exact H)
            have hji8_ : (a0 / 2 ^ min (ji6).toNat 64) = ji8 := hji8
            have hji8z : (ji6) ≤ 64 → (a0 / 2 ^ (ji6).toNat) = ji8 := shr_small hji8
            have H' := Aside0.mk H
            clear H
            go_wp2
            go_roundg k1
            case measure => have := HK1.out; omega
            case rel => exact ⟨(Go.bits .xor .i64 x3_1 (Go.bits .and .i64 (Go.bits .or .i64 (ji5) (ji8)) 255)), (wrap64 (x4_1 + 1)), (by first | rfl | (simp; done) | (simp only [← hji5, ← hji8] <;> (first | rfl | simp)) | (simp [*]; done)), (by first | rfl | (simp; done) | (simp [*]; done)), H', ⟨by have := HK1.out; omega⟩, by repeat (first | exact Drawn0.refl _ | apply Drawn0.step)⟩
          · rw [if_neg c7] at H
            exact absurd H (by simp)
        · rw [if_neg c4] at H
          exact absurd H (by simp)
      · rw [if_neg c2] at H
        have c2b0 : decide (x4_1 < 5) = false := decide_eq_false c2
        clear c2
        obtain rfl := Option.some.inj H
        go_wp2
        go_ret
        exact ⟨by first | rfl | (simp; done) | (simp [*]; done), by repeat (first | exact Drawn0.refl _ | apply Drawn0.step)⟩

-- NOT PRINTED: function 47 (spec_l06Boxes)

/-! ### spec_BoxText: function 24 -/
/-- Block g holds n bytes that may be written. -/
structure RowF (w : World) (g n : Nat) (val : Nat → Int) : Prop where
  cell : ∀ j, j < n → w.cell? ⟨g, j, none⟩ = some (.int .u8 (val j))
  free : ∀ j, j < n → w.frozen? ⟨g, j, none⟩ = false
theorem RowF.conv (W : World) (e : TypeId) (s : ByteArray) : RowF (Lib.bytesWorld W e s) W.heap.size s.size (fun j => bt s (j : Int)) := by
  refine ⟨fun j hj => ?_, fun j hj => ?_⟩
  · rw [Lib.bytesWorld_cell W e s j hj]
    have h' : j < s.data.toList.length := by rw [data_length]; exact hj
    simp [bt, hj, List.getD_eq_getElem?_getD, List.getElem?_eq_getElem h']
    rfl
  · have h := Lib.bytesWorld_at_new W e s
    have hs : s.size ≤ (Lib.bytesCells W e s).size := by
      have := Lib.bytesWorld_cell W e s j hj
      unfold Lib.bytesCells; simp
    simp only [World.frozen?, h]
    simp
    omega
theorem RowF.set {w : World} {g n : Nat} {val : Nat → Int} (h : RowF w g n val) (i : Nat) (hi : i < n) (x : Int) : RowF (w.setCell ⟨g, i, none⟩ (.int .u8 x)) g n (fun j => if j = i then x else val j) := by
  refine ⟨fun j hj => ?_, fun j hj => by rw [World.frozen?_setCell]; exact h.free j hj⟩
  by_cases e : j = i
  · subst e
    rw [if_pos rfl]
    exact World.cell?_setCell_same _ _ _ (h.cell j hj)
  · rw [if_neg e, World.cell?_setCell_other _ _ _ _ (fun he => e (by injection he with _ h2; exact h2.symm))]
    exact h.cell j hj
theorem RowF.drewN {w : World} {g n : Nat} {val : Nat → Int} (h : RowF w g n val) (m : Nat) : RowF (w.drewN m) g n val := ⟨h.cell, h.free⟩
theorem RowF.drew {w : World} {g n : Nat} {val : Nat → Int} (h : RowF w g n val) : RowF w.drew g n val := ⟨h.cell, h.free⟩
/-- Block g holds n numbers of kind k that may be written. -/
structure RowG (k : IntKind) (w : World) (g n : Nat) (val : Nat → Int) : Prop where
  cell : ∀ j, j < n → w.cell? ⟨g, j, none⟩ = some (.int k (val j))
  free : ∀ j, j < n → w.frozen? ⟨g, j, none⟩ = false
theorem RowG.ofBlock {k : IntKind} {w : World} {g : Nat} {t : TypeId} (xs : List Int) (h : w.heap[g]? = some (.cells (nums k xs).toArray t (0, 0))) : RowG k w g xs.length (fun j => xs.getD j 0) := by
  refine ⟨fun j hj => ?_, fun j _ => blk_frozen h j⟩
  rw [blk_cell h j]
  simp [nums, List.getElem?_eq_getElem hj, List.getD_eq_getElem?_getD]
theorem RowG.set {k : IntKind} {w : World} {g n : Nat} {val : Nat → Int} (h : RowG k w g n val) (i : Nat) (hi : i < n) (x : Int) : RowG k (w.setCell ⟨g, i, none⟩ (.int k x)) g n (fun j => if j = i then x else val j) := by
  refine ⟨fun j hj => ?_, fun j hj => by rw [World.frozen?_setCell]; exact h.free j hj⟩
  by_cases e : j = i
  · subst e
    rw [if_pos rfl]
    exact World.cell?_setCell_same _ _ _ (h.cell j hj)
  · rw [if_neg e, World.cell?_setCell_other _ _ _ _ (fun he => e (by injection he with _ h2; exact h2.symm))]
    exact h.cell j hj
theorem RowG.far {k : IntKind} {w : World} {g n g' i' : Nat} {v : Value} {val : Nat → Int} (h : RowG k w g n val) (hg : g ≠ g') : RowG k (w.setCell ⟨g', i', none⟩ v) g n val := by
  refine ⟨fun j hj => ?_, fun j hj => by rw [World.frozen?_setCell]; exact h.free j hj⟩
  rw [World.cell?_setCell_other _ _ _ _ (fun he => hg (by injection he with h1 _; exact h1.symm))]
  exact h.cell j hj
theorem RowG.drewN {k : IntKind} {w : World} {g n : Nat} {val : Nat → Int} (h : RowG k w g n val) (m : Nat) : RowG k (w.drewN m) g n val := ⟨h.cell, h.free⟩
theorem RowG.drew {k : IntKind} {w : World} {g n : Nat} {val : Nat → Int} (h : RowG k w g n val) : RowG k w.drew g n val := ⟨h.cell, h.free⟩
theorem RowG.below {k : IntKind} {w w1 : World} {g n : Nat} {val : Nat → Int} (h : RowG k w g n val) (hg : g < w.heap.size) (hb : Below w.heap.size w w1) : RowG k w1 g n val :=
  ⟨fun j hj => (hb.cell (p := ⟨g, j, none⟩) hg).trans (h.cell j hj), fun j hj => (hb.frozen (p := ⟨g, j, none⟩) hg).trans (h.free j hj)⟩
theorem RowG.ext {k : IntKind} {w : World} {g n : Nat} {val val' : Nat → Int} (h : RowG k w g n val) (e : ∀ j, j < n → val j = val' j) : RowG k w g n val' := ⟨fun j hj => by rw [← e j hj]; exact h.cell j hj, h.free⟩
theorem RowG.other {k : IntKind} {w w1 : World} {g n : Nat} {val : Nat → Int} (h : RowG k w g n val) (e : w1.heap[g]? = w.heap[g]?) : RowG k w1 g n val :=
  ⟨fun j hj => by rw [← h.cell j hj]; simp only [World.cell?, e], fun j hj => by rw [← h.free j hj]; simp only [World.frozen?, e]⟩
/-- A whole array into a block that holds one. -/
theorem store_rowAll {P : Program} {ops : Array Oper} {rest : List Oper} {o : Oper} {a : Act} {Q : Exit → Act → World → Prop} {W : World} (hgd : o.guard = none) (t : TypeId) (x y : Operand) (ho : o.op = .store t x y) (hN : o.dst = none) (g : Nat)
    (hx : a.eval x = .pointer (some ⟨g, 0, none⟩)) (c c' : Array Value) (hy : a.eval y = .agg c') (t' : TypeId) (hg : W.heap[g]? = some (.cells c t' (0, 0))) (hi : (P.info? t).map (·.size) = some c'.size) (hs : c.size = c'.size) (h1 : c'.all (·.oneCell') = true)
    (h : ∀ w1, w1.heap[g]? = some (.cells c' t' (0, 0)) → (∀ q, q ≠ g → w1.heap[q]? = W.heap[q]?) → Below g W w1 → wpList P ops Q rest a w1) : wpList P ops Q (o :: rest) a W := by
  have hrun : (Instr.storeAt t (.pointer (some ⟨g, 0, none⟩)) (.agg c')).run P W = .ok () (W.setRow g c') := by
    simp only [Instr.storeAt, Instr.sureAddr, Sem.run_bind, Sem.run_pure, Result.andThen_ok]
    exact run_storeVar_row W g t' t c c' hg hi hs h1
  refine wpList_plain hgd fun K hK => ?_
  unfold Oper.wp execOp
  simp only [ho, hx, hy, Sem.run_bind, Sem.run_pure, Result.andThen_ok, hrun]
  show K (a.put o.dst undef) _
  rw [hN]
  exact hK a _ (h _ (setRow_heap W g c c' t' (0, 0) hg) (fun q hq => setRow_other W g q c' hq) ⟨rfl, rfl, rfl, by simp [size_setRow], fun k hk => setRow_other W g k c' (Nat.ne_of_lt hk)⟩)
/-- The values of v at 0, 1, .., n - 1, where all of them are there. -/
def optL (v : Nat → Option Int) : Nat → Option (List Int)
  | 0 => some []
  | n + 1 => (optL v n).bind fun l => (v n).bind fun x => some (l ++ [x])
theorem optL_at {v : Nat → Option Int} : ∀ {n : Nat} {l : List Int}, optL v n = some l → l.length = n ∧ ∀ i, i < n → v i = some (l.getD i 0)
  | 0, l, h => by
    cases h
    exact ⟨rfl, fun i hi => absurd hi (by omega)⟩
  | n + 1, l, h => by
    unfold optL at h
    obtain ⟨l0, h0, h⟩ := Option.bind_eq_some_iff.1 h
    obtain ⟨x, hx, h⟩ := Option.bind_eq_some_iff.1 h
    cases h
    obtain ⟨hl, ha⟩ := optL_at h0
    refine ⟨by simp [hl], fun i hi => ?_⟩
    by_cases e : i < n
    · rw [ha i e]; simp [List.getD_eq_getElem?_getD, List.getElem?_append_left (show i < l0.length by omega)]
    · obtain rfl : i = n := by omega
      rw [hx]; simp [List.getD_eq_getElem?_getD, ← hl]
theorem optL_of {v : Nat → Option Int} {g : Nat → Int} : ∀ (n : Nat), (∀ i, i < n → v i = some (g i)) → optL v n = some ((List.range n).map g)
  | 0, _ => rfl
  | n + 1, h => by
    unfold optL
    rw [optL_of n (fun i hi => h i (by omega)), h n (by omega)]
    simp [List.range_succ]
theorem optL_mono {v v' : Nat → Option Int} (h : ∀ i, LeO (v i) (v' i)) : ∀ n, LeO (optL v n) (optL v' n)
  | 0 => LeO.refl _
  | n + 1 => by
    unfold optL
    exact LeO.bind (optL_mono h n) fun _ => LeO.bind (h n) fun _ => LeO.refl _
/-- Of a list, the first i; then what was there before. -/
def optSt (l : List Int) (a : Nat → Int) (i j : Nat) : Int := if j < i then l.getD j 0 else a j
theorem optSt_set (l : List Int) (a : Nat → Int) (i : Nat) : (fun j => if j = i then l.getD i 0 else optSt l a i j) = optSt l a (i + 1) := by
  funext j
  unfold optSt
  by_cases e : j = i
  · subst e; rw [if_pos rfl, if_pos (by omega)]
  · rw [if_neg e]
    by_cases e2 : j < i
    · rw [if_pos e2, if_pos (by omega)]
    · rw [if_neg e2, if_neg (by omega)]
/-- The bytes of a row, read off as a string. -/
theorem RowF.string {P : Program} {w : World} {g n c : Nat} {val : Nat → Int} (h : RowF w g n val) (l : List Int) (hl : l.length = n) (hv : ∀ j, j < n → val j = l.getD j 0) (src dst e : TypeId) (hs : P.underlying src = some (.slice e)) (he : P.underlying e = some (.int .u8)) (hd : P.underlying dst = some .string) :
    (convert src dst (.slice (some ⟨g, 0, none⟩) n c)).run P w = .ok (.string (strOfNums l)) w :=
  run_convert_bytes_arg (P := P) w src e hs he g 0 n c l hl (fun i hi => by
    have := h.cell i hi
    rw [Nat.zero_add, this, hv i hi]) dst hd
def boxPow : Nat → Option Int
  | 0 => some 1
  | i + 1 => (boxPow i).bind fun x => (spec_FieldDouble.f x).bind fun y => some (Go.bits .xor .i64 x y)
def boxTab (k : Nat) : Nat → Option (List Int)
  | 0 => some ((List.replicate 256 0).set 0 99)
  | i + 1 => (boxTab k i).bind fun B => (boxPow i).bind fun p => (boxPow ((255 - i) % 255)).bind fun q => (spec_l05Turned.f k q).bind fun t => if 0 ≤ p ∧ p < 256 then some (B.set p.toNat (t % 256)) else none
theorem boxPow_le {i n : Nat} (hi : i ≤ n) (h : ∃ x, boxPow n = some x) : ∃ x, boxPow i = some x := by
  induction n with
  | zero => obtain rfl : i = 0 := by omega
            exact h
  | succ n ih =>
    by_cases e : i = n + 1
    · subst e; exact h
    · obtain ⟨x, hx⟩ := h
      unfold boxPow at hx
      obtain ⟨y, hy, _⟩ := Option.bind_eq_some_iff.1 hx
      exact ih (by omega) ⟨y, hy⟩
theorem boxTab_le {k i n : Nat} (hi : i ≤ n) (h : ∃ x, boxTab k n = some x) : ∃ x, boxTab k i = some x := by
  induction n with
  | zero => obtain rfl : i = 0 := by omega
            exact h
  | succ n ih =>
    by_cases e : i = n + 1
    · subst e; exact h
    · obtain ⟨x, hx⟩ := h
      unfold boxTab at hx
      obtain ⟨y, hy, _⟩ := Option.bind_eq_some_iff.1 hx
      exact ih (by omega) ⟨y, hy⟩
theorem boxTab_len {k : Nat} : ∀ {n : Nat} {B : List Int}, boxTab k n = some B → B.length = 256
  | 0, B, h => by
    cases h
    simp only [List.length_set, List.length_replicate]
  | n + 1, B, h => by
    unfold boxTab at h
    obtain ⟨C, hC, h⟩ := Option.bind_eq_some_iff.1 h
    obtain ⟨p, _, h⟩ := Option.bind_eq_some_iff.1 h
    obtain ⟨q, _, h⟩ := Option.bind_eq_some_iff.1 h
    obtain ⟨t, _, h⟩ := Option.bind_eq_some_iff.1 h
    split at h
    · cases h
      rw [List.length_set]
      exact boxTab_len hC
    · cases h
set_option maxHeartbeats 4000000 in
set_option maxRecDepth 100000 in
theorem boxes_calls (k : Nat) (B : List Int) (w : World) (hp : ∃ x, boxPow 255 = some x) (h : boxTab k 255 = some B) :
    Calls Try.prog 47 #[] w fun e w' => e = .returned (.agg (nums .u8 B).toArray) ∧ Below w.heap.size w w' := by
  obtain ⟨hz53, hs53⟩ := zero_of_info (P := Try.prog) (t := 53) (v := .agg (List.replicate 255 (Value.int .i64 0)).toArray) (n := 255) (by kernel_rfl)
  obtain ⟨hz45, hs45⟩ := zero_of_info (P := Try.prog) (t := 45) (v := .agg (List.replicate 256 (Value.int .u8 0)).toArray) (n := 256) (by kernel_rfl)
  generalize hZ5 : (List.replicate 255 (Value.int .i64 0)).toArray = Z5 at hz53
  generalize hZ4 : (List.replicate 256 (Value.int .u8 0)).toArray = Z4 at hz45
  have HZ5 := Aside0.mk hZ5
  have HZ4 := Aside0.mk hZ4
  have HS5 := Aside0.mk hs53
  have HS4 := Aside0.mk hs45
  clear hZ5 hZ4 hs53 hs45
  go_enter Try.func47, Try.ntmps47
  have HB := Aside0.mk (Below.refl w.heap.size w)
  go_upto_region 2 with (first | ((with_reducible refine gate_dst (N := 0) rfl ?_); refine box_event ?hg (N := 0) ?hd (cs := Z4) (t := 45) ?hr ?_; (case hd => rfl); (case hg => rfl); (case hr => first | (go_simp; done) | (go_simp; rfl)); intro g0 hg w3 hbox hb; have G0 := Aside0.mk (show w.heap.size ≤ g0 by rw [hg]; exact below_size HB.out); have n0_ := Aside0.mk (below_step HB.out hb); clear HB; have HB := n0_; have B0 := Aside0.mk hbox; clear n0_ hb hbox hg) | ((with_reducible refine gate_dst (N := 1) rfl ?_); refine box_event ?hg (N := 1) ?hd (cs := Z5) (t := 53) ?hr ?_; (case hd => rfl); (case hg => rfl); (case hr => first | (go_simp; done) | (go_simp; rfl)); intro g1 hg w4 hbox hb; have G1 := Aside0.mk (show w.heap.size ≤ g1 by rw [hg]; exact below_size HB.out); have N01 := Aside0.mk (show g0 ≠ g1 by rw [hg]; exact Nat.ne_of_lt (blk_lt B0.out)); have n0_ := Aside0.mk (below_step HB.out hb); have n1_ := Aside0.mk (blk_below B0.out hb); clear HB B0; have HB := n0_; have B0 := n1_; have B1 := Aside0.mk hbox; clear n0_ n1_ hb hbox hg) | ((with_reducible refine gate_store (t := 53) (p := 1) rfl ?_); refine store_rowAll rfl 53 _ _ rfl rfl g1 rfl Z5 Z5 rfl 53 B1.out (by rw [HS5.out, ← HZ5.out]; simp) rfl (by rw [← HZ5.out]; decide +kernel) ?_; intro w5 hw ho hb; have n0_ := Aside0.mk (HB.out.trans (hb.mono G1.out)); have n1_ := Aside0.mk ((ho g0 N01.out).trans B0.out); clear HB B0 B1; have HB := n0_; have B0 := n1_; have B1 := Aside0.mk hw; clear n0_ n1_ hw ho hb))
  have hpw : ∀ i, i ≤ 255 → ∃ x, boxPow i = some x := fun i hi => boxPow_le hi hp
  have HPW := Aside0.mk hpw
  have HT := Aside0.mk h
  have R1 : Aside0 (RowG .i64 w5 g1 255 (fun _ => 0)) := ⟨by
    have e : Z5 = (nums .i64 (List.replicate 255 0)).toArray := by rw [← HZ5.out]; simp [nums]
    have h1 := B1.out
    rw [e] at h1
    have := RowG.ofBlock (k := .i64) (List.replicate 255 0) h1
    rw [List.length_replicate] at this
    exact this.ext (fun j hj => by rw [List.getD_eq_getElem?_getD, List.getElem?_replicate, if_pos hj]; rfl)⟩
  have L1 := Aside0.mk (blk_lt B1.out)
  clear hpw h hp B1
  go_wp2
  go_loopw [2, 3] (fun v2 v3 wr => ∃ (i : Nat) (x : Int), i ≤ 255 ∧ v2 = .int .i64 x ∧ v3 = .int .i64 (i : Int) ∧ Aside0 (boxPow i = some x) ∧ Aside0 (RowG .i64 wr g1 255 (fun j => if j < i then (boxPow j).getD 0 else 0)) ∧ Aside0 (wr.heap[g0]? = some (.cells Z4 45 (0, 0))) ∧ Aside0 (g1 < wr.heap.size) ∧ Aside0 (Below w.heap.size w wr)) (fun _ v3 _ => 255 - (intOf v3).toNat)
  case atStart => exact ⟨0, 1, by omega, rfl, rfl, ⟨rfl⟩, ⟨R1.out.ext (fun j _ => by rw [if_neg (by omega)])⟩, B0, L1, HB⟩
  case round =>
    clear R1 B0 L1 HB
    obtain ⟨i, x, hi, rfl, rfl, HX, R1, B0, L1, HB⟩ := hrel
    by_cases hlt : i < 255
    · have hc := R1.out.cell i hlt
      have hf := R1.out.free i hlt
      rw [if_neg (Nat.lt_irrefl i)] at hc
      obtain ⟨x1, hx1⟩ := HPW.out (i + 1) (by omega)
      have HX1 := Aside0.mk hx1
      unfold boxPow at hx1
      rw [HX.out] at hx1
      obtain ⟨y, hy, hv⟩ := Option.bind_eq_some_iff.1 ((Option.bind_some x _).symm.trans hx1)
      have HY := Aside0.mk hy
      have HV := Aside0.mk (Option.some.inj hv)
      clear hx1 hy hv
      go_wp2_with (go_at_call 38; ((with_reducible refine (spec_FieldDouble.calls x y _ HY.out).mono ?_)); rintro e w' ⟨rfl, ⟨nd, rfl⟩⟩)
      refine ⟨⟨i + 1, x1, by omega, by rw [HV.out], by go_num, HX1, ⟨?_⟩, ⟨?_⟩, ⟨?_⟩, ⟨?_⟩⟩, by simp [intOf]; omega⟩
      · refine ((R1.out.set i hlt x).drewN nd).ext (fun j _ => ?_)
        by_cases e : j = i
        · subst e
          rw [if_pos rfl, if_pos (by omega), HX.out]
          rfl
        · rw [if_neg e]
          by_cases e2 : j < i
          · rw [if_pos e2, if_pos (by omega)]
          · rw [if_neg e2, if_neg (by omega)]
      · exact blk_drewN ((Below.heap_setCell wr ⟨g1, i, none⟩ _ g0 N01.out).trans B0.out) nd
      · have := L1.out
        show g1 < (wr.setCell ⟨g1, i, none⟩ (.int .i64 x)).heap.size
        simpa [World.setCell] using this
      · exact pw_below_drewN (below_set HB.out G1.out) nd
    · obtain rfl : i = 255 := by omega
      have n0_ : Aside0 (RowG .i64 wr g1 255 (fun j => (boxPow j).getD 0)) := ⟨R1.out.ext (fun j hj => by rw [if_pos hj])⟩
      clear R1 HX hlt hi
      have R1 := n0_
      clear n0_
      go_upto_region 9 with (first | ((with_reducible refine gate_dst (N := 4) rfl ?_); refine box_event ?hg (N := 4) ?hd (cs := Z4) (t := 45) ?hr ?_; (case hd => rfl); (case hg => rfl); (case hr => first | (go_simp; done) | (go_simp; rfl)); intro g4 hg w6 hbox hb; have G4 := Aside0.mk (show w.heap.size ≤ g4 by rw [hg]; exact below_size HB.out); have N04 := Aside0.mk (show g0 ≠ g4 by rw [hg]; exact Nat.ne_of_lt (blk_lt B0.out)); have N14 := Aside0.mk (show g1 ≠ g4 by rw [hg]; exact Nat.ne_of_lt L1.out); have n0_ := Aside0.mk (below_step HB.out hb); have n1_ := Aside0.mk (blk_below B0.out hb); have n2_ := Aside0.mk (R1.out.below L1.out hb); have n3_ := Aside0.mk (Nat.lt_of_lt_of_le L1.out hb.size); clear HB B0 R1 L1; have HB := n0_; have B0 := n1_; have R1 := n2_; have L1 := n3_; have B4 := Aside0.mk hbox; clear n0_ n1_ n2_ n3_ hb hbox hg) | ((with_reducible refine gate_store (t := 45) (p := 4) rfl ?_); refine store_rowAll rfl 45 _ _ rfl rfl g4 rfl Z4 Z4 rfl 45 B4.out (by rw [HS4.out, ← HZ4.out]; simp) rfl (by rw [← HZ4.out]; decide +kernel) ?_; intro w7 hw ho hb; have n0_ := Aside0.mk (HB.out.trans (hb.mono G4.out)); have n1_ := Aside0.mk ((ho g0 N04.out).trans B0.out); have n2_ := Aside0.mk (R1.out.other (ho g1 N14.out)); have n3_ := Aside0.mk (Nat.lt_of_lt_of_le L1.out hb.size); clear HB B0 B4 R1 L1; have HB := n0_; have B0 := n1_; have R1 := n2_; have L1 := n3_; have B4 := Aside0.mk hw; clear n0_ n1_ n2_ n3_ hw ho hb))
      have n4_ : Aside0 (w7.heap[g4]? = some (.cells (nums .u8 (List.replicate 256 0)).toArray 45 (0, 0))) := ⟨by rw [B4.out, ← HZ4.out, nums, List.map_replicate]⟩
      clear B4
      have B4 := n4_
      clear n4_
      have h40 : w7.cell? ⟨g4, 0, none⟩ = some (.int .u8 0) := (blk_cell B4.out 0).trans rfl
      have f40 := blk_frozen B4.out 0
      go_upto_region 10 with (fail)
      have n4_ : Aside0 ((w7.setCell ⟨g4, 0, none⟩ (.int .u8 99)).heap[g4]? = some (.cells (nums .u8 ((List.replicate 256 0).set 0 99)).toArray 45 (0, 0))) := ⟨blk_put B4.out 0 _ (by rw [List.setIfInBounds_toArray, nums, nums, List.map_set])⟩
      have n0_ : Aside0 (Below w.heap.size w (w7.setCell ⟨g4, 0, none⟩ (.int .u8 99))) := ⟨below_set HB.out G4.out⟩
      have n1_ : Aside0 ((w7.setCell ⟨g4, 0, none⟩ (.int .u8 99)).heap[g0]? = some (.cells Z4 45 (0, 0))) := ⟨(Below.heap_setCell w7 ⟨g4, 0, none⟩ _ g0 N04.out).trans B0.out⟩
      have n2_ : Aside0 (RowG .i64 (w7.setCell ⟨g4, 0, none⟩ (.int .u8 99)) g1 255 (fun j => (boxPow j).getD 0)) := ⟨R1.out.far N14.out⟩
      clear h40 f40 B4 HB B0 R1
      generalize w7.setCell ⟨g4, 0, none⟩ (.int .u8 99) = w8 at n0_ n1_ n2_ n4_ ⊢
      go_wp2
      go_loopw [5] (fun v5 wr => ∃ (i : Nat) (C : List Int), i ≤ 255 ∧ v5 = .int .i64 (i : Int) ∧ Aside0 (boxTab k i = some C) ∧ Aside0 (wr.heap[g4]? = some (.cells (nums .u8 C).toArray 45 (0, 0))) ∧ Aside0 (RowG .i64 wr g1 255 (fun j => (boxPow j).getD 0)) ∧ Aside0 (wr.heap[g0]? = some (.cells Z4 45 (0, 0))) ∧ Aside0 (Below w.heap.size w wr)) (fun v5 _ => 255 - (intOf v5).toNat)
      case atStart => exact ⟨0, _, by omega, rfl, ⟨rfl⟩, n4_, n2_, n1_, n0_⟩
      case round =>
        clear n0_ n1_ n2_ n4_
        obtain ⟨i, C, hi, rfl, HC, B4, R1, B0, HB⟩ := hrel
        by_cases hlt : i < 255
        · obtain ⟨C1, hC1⟩ := boxTab_le (k := k) (show i + 1 ≤ 255 by omega) ⟨B, HT.out⟩
          have HC1 := Aside0.mk hC1
          unfold boxTab at hC1
          rw [HC.out] at hC1
          replace hC1 := (Option.bind_some _ _).symm.trans hC1
          obtain ⟨p, hp, hC1⟩ := Option.bind_eq_some_iff.1 hC1
          obtain ⟨q, hq, hC1⟩ := Option.bind_eq_some_iff.1 hC1
          obtain ⟨t, ht, hC1⟩ := Option.bind_eq_some_iff.1 hC1
          by_cases hpp : 0 ≤ p ∧ p < 256
          · rw [if_pos hpp] at hC1
            have HV := Aside0.mk (Option.some.inj hC1)
            have HTN := Aside0.mk ht
            obtain ⟨m, hm⟩ : ∃ m : Nat, m = (255 - i) % 255 := ⟨_, rfl⟩
            have hm1 : (255 - (i : Int)) % 255 = (m : Int) := by omega
            have hml : m < 255 := by omega
            have c1 : wr.cell? ⟨g1, i, none⟩ = some (.int .i64 p) := by have := R1.out.cell i hlt; rw [hp] at this; exact this
            have c2 : wr.cell? ⟨g1, m, none⟩ = some (.int .i64 q) := by have := R1.out.cell m hml; rw [hm, hq, ← hm] at this; exact this
            have HCL := Aside0.mk (boxTab_len HC.out)
            obtain ⟨pn, rfl⟩ := Int.eq_ofNat_of_zero_le hpp.1
            have hpn : pn < 256 := by omega
            have c4 : wr.cell? ⟨g4, pn, none⟩ = some (.int .u8 (C.getD pn 0)) := by
              rw [blk_cell B4.out pn]
              have h_ : pn < C.length := by rw [HCL.out]; exact hpn
              simp [nums, List.getElem?_eq_getElem h_, List.getD_eq_getElem?_getD]
            have f4 := blk_frozen B4.out pn
            clear hC1 hp hq ht hm hpp
            generalize C.getD pn 0 = old at c4
            have e1 : IntKind.i64.wrap (255 - (i : Int)) = 255 - (i : Int) := by rw [IntKind.wrap_i64]; omega
            have e2 : Int.tmod (255 - (i : Int)) 255 = (m : Int) := by rw [Int.tmod_eq_emod_of_nonneg (by omega)]; exact hm1
            have b1 : (0 : Int) ≤ (m : Int) := by omega
            have b2 : (m : Int) < 255 := by omega
            have b3 : (0 : Int) ≤ (pn : Int) := by omega
            have b4 : (pn : Int) < 256 := by omega
            clear hm1
            go_wp2
            go_region_held3 (fun w' => w'.cell? ⟨g1, i, none⟩ = some (.int .i64 (pn : Int)) ∧ w'.cell? ⟨g1, m, none⟩ = some (.int .i64 q)) (first | go_keep | exact ⟨(cell_far (p := ⟨g4, pn, none⟩) N14.out _).trans c1, (cell_far (p := ⟨g4, pn, none⟩) N14.out _).trans c2⟩) (first | (go_at_call 45; refine (spec_l05Turned.calls k q t _ HTN.out).mono ?_; rintro e w' ⟨rfl, ⟨nd, rfl⟩⟩))
            go_wp2
            have hcv : (pn : Int).toNat = pn := rfl
            refine ⟨⟨i + 1, C1, by omega, by go_num, HC1, ⟨?_⟩, ⟨?_⟩, ⟨?_⟩, ⟨?_⟩⟩, by simp [intOf]; omega⟩
            · rw [← HV.out]
              exact blk_put (blk_drewN B4.out _) _ _ (by rw [List.setIfInBounds_toArray, nums, nums, List.map_set]; rfl)
            · exact (R1.out.drewN _).far N14.out
            · exact (Below.heap_setCell _ ⟨g4, pn, none⟩ _ g0 N04.out).trans (blk_drewN B0.out _)
            · exact below_set (pw_below_drewN HB.out _) G4.out
          · rw [if_neg hpp] at hC1; cases hC1
        · obtain rfl : i = 255 := by omega
          obtain rfl : C = B := Option.some.inj (HC.out.symm.trans HT.out)
          have HCL := Aside0.mk (boxTab_len HC.out)
          clear hlt hi R1
          go_wp2_with (first | ((with_reducible refine gate_dst (N := 35) rfl ?_); refine wpList_load_row rfl 45 _ rfl g4 rfl 45 _ (0, 0) _ B4.out Try.underlying45 rfl (by rw [HS4.out]; simp [nums, HCL.out]) ?_) | ((with_reducible refine gate_store (t := 45) (p := 0) rfl ?_); refine store_rowAll rfl 45 _ _ rfl rfl g0 rfl Z4 (nums .u8 C).toArray rfl 45 B0.out (by rw [HS4.out]; simp [nums, HCL.out]) (by rw [← HZ4.out]; simp [nums, HCL.out]) (by simp [nums, Value.oneCell']) ?_; intro w9 hw ho hb; have n0_ := Aside0.mk (HB.out.trans (hb.mono G0.out)); clear HB B0; have HB := n0_; have B0 := Aside0.mk hw; clear n0_ hw ho hb))
          refine bodyPost_ret (results_cell_row rfl _ _ g0 45 _ (0, 0) _ rfl B0.out Try.underlying45 rfl (by rw [HS4.out]; simp [nums, HCL.out])) rfl ?_
          exact ⟨rfl, HB.out⟩
/-- l06Box: each byte by a table. -/
def boxAll (B : List Int) (a : ByteArray) (i : Nat) : Int := B.getD (bt a (i : Int)).toNat 0
set_option maxHeartbeats 4000000 in
set_option maxRecDepth 100000 in
theorem box_calls (a0 : ByteArray) (B : List Int) (w : World) (hB : B.length = 256) (cb : a0.size ≤ 281474976710656) :
    Calls Try.prog 46 #[.string a0, .agg (nums .u8 B).toArray] w fun e w' => e = .returned (.string (strOfNums ((List.range a0.size).map (boxAll B a0)))) ∧ Below w.heap.size w w' := by
  obtain ⟨l, hl⟩ : ∃ l, l = (List.range a0.size).map (boxAll B a0) := ⟨_, rfl⟩
  have HL : Aside0 (l.length = a0.size ∧ ∀ i, i < a0.size → boxAll B a0 i = l.getD i 0) := ⟨by subst hl; exact ⟨by simp, fun i hi => by simp [List.getD_eq_getElem?_getD, hi]⟩⟩
  rw [← hl]
  clear hl
  have HBL := Aside0.mk hB
  obtain ⟨cs, hcs⟩ : ∃ cs, cs = (nums .u8 B).toArray := ⟨_, rfl⟩
  rw [← hcs]
  have HCS := Aside0.mk hcs
  clear hB hcs
  have HB := Aside0.mk (Below.refl w.heap.size w)
  have kb := fun W => print_bytes (P := Try.prog) 9 24 5 Try.underlying9 Try.underlying24 Try.underlying5 a0 W
  go_enter Try.func46, Try.ntmps46
  go_wp2_with ((with_reducible refine gate_dst (N := 3) rfl ?_); refine box_event ?hg (N := 3) ?hd (cs := cs) (t := 45) ?hr ?_; (case hd => rfl); (case hg => rfl); (case hr => first | (go_simp; done) | (go_simp; rfl)); intro gB hg w3 hbox hb; have n0_ := Aside0.mk (below_step HB.out hb); clear HB; have HB := n0_; have BB := Aside0.mk hbox; clear n0_ hb hbox hg)
  go_loopw [6] (fun v wr => ∃ i : Nat, i ≤ a0.size ∧ v = .int .i64 (i : Int) ∧ Aside0 (RowF wr w3.heap.size a0.size (optSt l (fun j => bt a0 (j : Int)) i)) ∧ Aside0 (wr.heap[gB]? = some (.cells cs 45 (0, 0))) ∧ Aside0 (Below w.heap.size w wr)) (fun v _ => a0.size - (intOf v).toNat)
  case atStart =>
    refine ⟨0, Nat.zero_le _, rfl, ⟨?_⟩, ⟨?_⟩, ⟨bytes_below HB.out (below_size HB.out) _ _⟩⟩
    · have hr := RowF.conv w3 5 a0
      refine ⟨fun j hj => ?_, hr.free⟩
      have := hr.cell j hj
      unfold optSt
      rw [if_neg (by omega)]
      exact this
    · exact blk_below BB.out (bytes_below (Below.refl _ _) (Nat.le_refl _) _ _)
  case round =>
    have H3 := Aside0.mk (below_size HB.out)
    have NB := Aside0.mk (show gB ≠ w3.heap.size from Nat.ne_of_lt (blk_lt BB.out))
    clear HB BB
    obtain ⟨i, hi, rfl, HR, BB, HB⟩ := hrel
    by_cases hlt : i < a0.size
    · have hcell := HR.out.cell i hlt
      have hfree := HR.out.free i hlt
      have e0 : optSt l (fun j => bt a0 (j : Int)) i i = bt a0 (i : Int) := by unfold optSt; rw [if_neg (by omega)]
      rw [e0] at hcell
      clear e0
      have hv := HL.out.2 i hlt
      have hx := bt_range a0 (i : Int)
      unfold boxAll at hv
      generalize hxe : bt a0 (i : Int) = x at hv hx hcell
      clear hxe
      obtain ⟨xn, rfl⟩ := Int.eq_ofNat_of_zero_le hx.1
      have hxn : xn < 256 := by omega
      have cB : wr.cell? ⟨gB, xn, none⟩ = some (.int .u8 (B.getD xn 0)) := by
        rw [blk_cell BB.out xn, HCS.out]
        have h_ : xn < B.length := by rw [HBL.out]; exact hxn
        simp [nums, List.getElem?_eq_getElem h_, List.getD_eq_getElem?_getD]
      rw [Int.toNat_natCast] at hv
      have b3 : (0 : Int) ≤ (xn : Int) := by omega
      have b4 : (xn : Int) < 256 := by omega
      rw [hv] at cB
      clear hv hx
      obtain ⟨y, hy⟩ : ∃ y, y = l.getD i 0 := ⟨_, rfl⟩
      rw [← hy] at cB
      have HY := Aside0.mk hy
      clear hy
      go_wp2
      refine ⟨⟨i + 1, by omega, by go_num, ⟨?_⟩, ⟨?_⟩, ⟨?_⟩⟩, by simp [intOf]; omega⟩
      · have e := HR.out.set i hlt y
        rw [HY.out, optSt_set, ← HY.out] at e
        exact e
      · exact (Below.heap_setCell wr ⟨w3.heap.size, i, none⟩ _ gB NB.out).trans BB.out
      · exact below_set HB.out H3.out
    · have ek : i = a0.size := by omega
      subst ek
      have hcv := RowF.string (P := Try.prog) (c := grownCap w3 a0.size 0 5) HR.out l HL.out.1 (fun j hj => by unfold optSt; rw [if_pos hj]) 24 9 5 Try.underlying24 Try.underlying5 Try.underlying9
      go_wp2
      go_ret
      exact ⟨rfl, HB.out⟩
def spec_BoxText.f (k : Nat) (a0 : ByteArray) : Option (ByteArray) :=
  if a0.size ≤ 281474976710656 then (boxPow 255).bind fun _ => (boxTab k 255).bind fun B => some (strOfNums ((List.range a0.size).map (boxAll B a0))) else none
theorem boxTab_mono (k : Nat) : ∀ n, LeO (boxTab k n) (boxTab (k + 1) n)
  | 0 => LeO.refl _
  | n + 1 => by
    unfold boxTab
    exact LeO.bind (boxTab_mono k n) fun _ => LeO.bind (LeO.refl _) fun _ => LeO.bind (LeO.refl _) fun _ => LeO.bind (spec_l05Turned.mono _ _) fun _ => LeO.refl _
theorem spec_BoxText.mono : ∀ a0 k, LeO (spec_BoxText.f k a0) (spec_BoxText.f (k + 1) a0) := by
  intro a0 k
  unfold spec_BoxText.f
  exact LeO.ite (LeO.bind (LeO.refl _) fun _ => LeO.bind (boxTab_mono k 255) fun _ => LeO.refl _) (LeO.refl _)
set_option maxHeartbeats 4000000 in
set_option maxRecDepth 100000 in
theorem spec_BoxText.calls (k : Nat) (a0 : ByteArray) (r : ByteArray) (w : World) (h : spec_BoxText.f k a0 = some r) :
    Calls Try.prog 24 #[.string a0] w fun e w' => e = .returned (.string r) ∧ Below w.heap.size w w' := by
  unfold spec_BoxText.f at h
  by_cases cb : a0.size ≤ 281474976710656
  · rw [if_pos cb] at h
    obtain ⟨x, hx, h⟩ := Option.bind_eq_some_iff.1 h
    obtain ⟨B, hB, h⟩ := Option.bind_eq_some_iff.1 h
    cases h
    have C1 := fun W => boxes_calls k B W ⟨x, hx⟩ hB
    have C2 := fun W => box_calls a0 B W (boxTab_len hB) cb
    generalize (nums .u8 B).toArray = cs at C1 C2
    have C1 := Aside0.mk C1
    have C2 := Aside0.mk C2
    clear hx hB cb
    have HB := Aside0.mk (Below.refl w.heap.size w)
    go_enter Try.func24, Try.ntmps24
    go_wp2_with (first | (go_at_call 47; refine (C1.out _).mono ?_; rintro e w' ⟨rfl, hb⟩; have n0_ := Aside0.mk (below_step HB.out hb); clear HB hb; have HB := n0_; clear n0_) | (go_at_call 46; refine (C2.out _).mono ?_; rintro e w' ⟨rfl, hb⟩; have n0_ := Aside0.mk (below_step HB.out hb); clear HB hb; have HB := n0_; clear n0_))
    go_ret
    exact ⟨rfl, HB.out⟩
  · rw [if_neg cb] at h; cases h

/-! ### impl_within: function 41 -/
def impl_within.f (a0 : Int) (a1 : Int) (a2 : Int) : Option (Bool) := if a0 ≥ a1 then (some (decide (a0 ≤ a2))) else (some false)
set_option maxHeartbeats 8000000 in
set_option maxRecDepth 100000 in
theorem impl_within.calls (a0 : Int) (a1 : Int) (a2 : Int) (r : Bool) (w : World) (h : impl_within.f a0 a1 a2 = some r) :
    Calls Try.prog 41 #[.int .i64 a0, .int .i64 a1, .int .i64 a2] w fun e w' => e = .returned (.bool r) ∧ Drawn0 w w' := by
  have H : (if a0 ≥ a1 then (some (decide (a0 ≤ a2))) else (some false)) = some r := h
  clear h
  by_cases c4 : a0 ≥ a1
  · rw [if_pos c4] at H
    have c4b0 : decide (a1 ≤ a0) = true := decide_eq_true c4
    clear c4
    obtain rfl := Option.some.inj H
    go_enter Try.func41, Try.ntmps41
    go_wp2
    go_ret
    exact ⟨by first | rfl | (simp; done) | (simp [*]; done), by repeat (first | exact Drawn0.refl _ | apply Drawn0.step)⟩
  · rw [if_neg c4] at H
    have c4b0 : decide (a1 ≤ a0) = false := decide_eq_false c4
    clear c4
    obtain rfl := Option.some.inj H
    go_enter Try.func41, Try.ntmps41
    go_wp2
    go_ret
    exact ⟨by first | rfl | (simp; done) | (simp [*]; done), by repeat (first | exact Drawn0.refl _ | apply Drawn0.step)⟩

/-! ### impl_isByte: function 39 -/
def impl_isByte.f (a0 : Int) : Option (Bool) := (impl_within.f a0 0 255).bind fun t103 => (some t103)
set_option maxHeartbeats 8000000 in
set_option maxRecDepth 100000 in
theorem impl_isByte.calls (a0 : Int) (r : Bool) (w : World) (h : impl_isByte.f a0 = some r) :
    Calls Try.prog 39 #[.int .i64 a0] w fun e w' => e = .returned (.bool r) ∧ Drawn0 w w' := by
  have H : ((impl_within.f a0 0 255).bind fun t103 => (some t103)) = some r := h
  clear h
  replace H := Option.bind_eq_some_iff.mp H
  obtain ⟨t103, A20, H⟩ := H
  replace H : (some t103) = some r := H
  have A2 := Aside0.mk A20
  clear A20
  obtain rfl := Option.some.inj H
  go_enter Try.func39, Try.ntmps39
  go_wp2_with (first | ((with_reducible refine gate_callee (f := 41) rfl ?_); refine goesL_ (some 4) rfl rfl Try.func41 (by kernel_rfl) rfl #[.int .i64 a0, .int .i64 0, .int .i64 255] rfl (by (try simp only [List.map_toArray, List.map_cons, List.map_nil]); first | done | rfl | (simp only [List.length_drop, List.length_take]; rfl)) ?_; (with_reducible refine (impl_within.calls a0 0 255 t103 _ A2.out).mono ?_); rintro e w' ⟨rfl, ⟨nd, rfl⟩⟩; refine ⟨_, rfl, ?_⟩))
  go_ret
  exact ⟨by first | rfl | (simp; done) | (simp [*]; done), by repeat (first | exact Drawn0.refl _ | apply Drawn0.step)⟩

/-! ### impl_FieldDouble: function 20 -/
def impl_FieldDouble.f (a0 : Int) : Option (Int) := (impl_isByte.f a0).bind fun t104 => (if t104 = true then (if a0 ≥ 128 then (some (Go.bits .xor .i64 (wrap64 (2 * a0)) 283)) else (some (wrap64 (2 * a0)))) else (some 0))
set_option maxHeartbeats 8000000 in
set_option maxRecDepth 100000 in
theorem impl_FieldDouble.calls (a0 : Int) (r : Int) (w : World) (h : impl_FieldDouble.f a0 = some r) :
    Calls Try.prog 20 #[.int .i64 a0] w fun e w' => e = .returned (.int .i64 r) ∧ Drawn0 w w' := by
  have H : ((impl_isByte.f a0).bind fun t104 => (if t104 = true then (if a0 ≥ 128 then (some (Go.bits .xor .i64 (wrap64 (2 * a0)) 283)) else (some (wrap64 (2 * a0)))) else (some 0))) = some r := h
  clear h
  replace H := Option.bind_eq_some_iff.mp H
  obtain ⟨t104, A20, H⟩ := H
  replace H : (if t104 = true then (if a0 ≥ 128 then (some (Go.bits .xor .i64 (wrap64 (2 * a0)) 283)) else (some (wrap64 (2 * a0)))) else (some 0)) = some r := H
  have A2 := Aside0.mk A20
  clear A20
  by_cases c3 : t104 = true
  · subst c3
    have H1 : (if a0 ≥ 128 then (some (Go.bits .xor .i64 (wrap64 (2 * a0)) 283)) else (some (wrap64 (2 * a0)))) = some r := by rw [if_pos rfl] at H; exact H
    clear H
    have H := H1
    clear H1
    by_cases c4 : a0 ≥ 128
    · rw [if_pos c4] at H
      have c4b0 : decide (128 ≤ a0) = true := decide_eq_true c4
      clear c4
      obtain rfl := Option.some.inj H
      go_enter Try.func20, Try.ntmps20
      go_wp2_with (first | ((with_reducible refine gate_callee (f := 39) rfl ?_); refine goesL_ (some 4) rfl rfl Try.func39 (by kernel_rfl) rfl #[.int .i64 a0] rfl (by (try simp only [List.map_toArray, List.map_cons, List.map_nil]); first | done | rfl | (simp only [List.length_drop, List.length_take]; rfl)) ?_; (with_reducible refine (impl_isByte.calls a0 true _ A2.out).mono ?_); rintro e w' ⟨rfl, ⟨nd, rfl⟩⟩; refine ⟨_, rfl, ?_⟩))
      go_ret
      exact ⟨by first | rfl | (simp; done) | (simp [*]; done), by repeat (first | exact Drawn0.refl _ | apply Drawn0.step)⟩
    · rw [if_neg c4] at H
      have c4b0 : decide (128 ≤ a0) = false := decide_eq_false c4
      clear c4
      obtain rfl := Option.some.inj H
      go_enter Try.func20, Try.ntmps20
      go_wp2_with (first | ((with_reducible refine gate_callee (f := 39) rfl ?_); refine goesL_ (some 4) rfl rfl Try.func39 (by kernel_rfl) rfl #[.int .i64 a0] rfl (by (try simp only [List.map_toArray, List.map_cons, List.map_nil]); first | done | rfl | (simp only [List.length_drop, List.length_take]; rfl)) ?_; (with_reducible refine (impl_isByte.calls a0 true _ A2.out).mono ?_); rintro e w' ⟨rfl, ⟨nd, rfl⟩⟩; refine ⟨_, rfl, ?_⟩))
      go_ret
      exact ⟨by first | rfl | (simp; done) | (simp [*]; done), by repeat (first | exact Drawn0.refl _ | apply Drawn0.step)⟩
  · replace c3 := Bool.eq_false_iff.mpr c3
    subst c3
    have H1 : (some 0) = some r := by rw [if_neg (show ¬ (false = true) by decide)] at H; exact H
    clear H
    have H := H1
    clear H1
    obtain rfl := Option.some.inj H
    go_enter Try.func20, Try.ntmps20
    go_wp2_with (first | ((with_reducible refine gate_callee (f := 39) rfl ?_); refine goesL_ (some 4) rfl rfl Try.func39 (by kernel_rfl) rfl #[.int .i64 a0] rfl (by (try simp only [List.map_toArray, List.map_cons, List.map_nil]); first | done | rfl | (simp only [List.length_drop, List.length_take]; rfl)) ?_; (with_reducible refine (impl_isByte.calls a0 false _ A2.out).mono ?_); rintro e w' ⟨rfl, ⟨nd, rfl⟩⟩; refine ⟨_, rfl, ?_⟩))
    go_ret
    exact ⟨by first | rfl | (simp; done) | (simp [*]; done), by repeat (first | exact Drawn0.refl _ | apply Drawn0.step)⟩

/-! ### impl_FieldMul: function 14 -/
mutual
def impl_FieldMul.j0 : Nat → Int → Int → Bool → Option (Int)
  | 0, _, _, _ => none
  | k + 1, x0, x1, x13 => if x13 = true then (some 0) else (impl_FieldMul.l0 k x0 x1 0)
def impl_FieldMul.l0 : Nat → Int → Int → Int → Option (Int)
  | 0, _, _, _ => none
  | k + 1, x0, x1, x5 => if x1 > 0 then (if (Go.bits .and .i64 x1 1) = 1 then ((impl_FieldDouble.f x0).bind fun t107 => (impl_FieldMul.l0 k t107 (x1 / 2) (Go.bits .xor .i64 x5 x0))) else ((impl_FieldDouble.f x0).bind fun t108 => (impl_FieldMul.l0 k t108 (x1 / 2) x5))) else (some x5)
end
def impl_FieldMul.f (k : Nat) (a0 : Int) (a1 : Int) : Option (Int) := (impl_isByte.f a0).bind fun t105 => (if t105 = true then ((impl_isByte.f a1).bind fun t106 => (impl_FieldMul.j0 k a0 a1 (!t106))) else (impl_FieldMul.j0 k a0 a1 true))
theorem impl_FieldMul.mono_l : ∀ k, (∀ y0 y1 y2, LeO (impl_FieldMul.j0 k y0 y1 y2) (impl_FieldMul.j0 (k + 1) y0 y1 y2)) ∧ (∀ y0 y1 y2, LeO (impl_FieldMul.l0 k y0 y1 y2) (impl_FieldMul.l0 (k + 1) y0 y1 y2))
  | 0 => ⟨fun _ _ _ r h => by simp [impl_FieldMul.j0] at h, fun _ _ _ r h => by simp [impl_FieldMul.l0] at h⟩
  | k + 1 => by
    obtain ⟨ih0, ih1⟩ := impl_FieldMul.mono_l k
    refine ⟨?_, ?_⟩
    · intro y0 y1 y2
      unfold impl_FieldMul.j0
      repeat' first
      | (with_reducible exact ih0 _ _ _)
      | (with_reducible exact ih1 _ _ _)
      | (with_reducible exact LeO.refl _)
      | (with_reducible exact LeO.none _)
      | (with_reducible refine LeO.ite ?_ ?_)
      | (with_reducible refine LeO.bind ?_ (fun _ => ?_))
      | exact ih0 _ _ _
      | exact ih1 _ _ _
      | exact LeO.none _
      | refine LeO.ite ?_ ?_
      | refine LeO.bind ?_ (fun _ => ?_)
    · intro y0 y1 y2
      unfold impl_FieldMul.l0
      repeat' first
      | (with_reducible exact ih0 _ _ _)
      | (with_reducible exact ih1 _ _ _)
      | (with_reducible exact LeO.refl _)
      | (with_reducible exact LeO.none _)
      | (with_reducible refine LeO.ite ?_ ?_)
      | (with_reducible refine LeO.bind ?_ (fun _ => ?_))
      | exact ih0 _ _ _
      | exact ih1 _ _ _
      | exact LeO.none _
      | refine LeO.ite ?_ ?_
      | refine LeO.bind ?_ (fun _ => ?_)
theorem impl_FieldMul.mono : ∀ a0 a1 k, LeO (impl_FieldMul.f k a0 a1) (impl_FieldMul.f (k + 1) a0 a1) := by
  intro a0 a1 k
  obtain ⟨ih0, ih1⟩ := impl_FieldMul.mono_l k
  unfold impl_FieldMul.f
  repeat' first
      | (with_reducible exact ih0 _ _ _)
      | (with_reducible exact ih1 _ _ _)
      | (with_reducible exact LeO.refl _)
      | (with_reducible exact LeO.none _)
      | (with_reducible refine LeO.ite ?_ ?_)
      | (with_reducible refine LeO.bind ?_ (fun _ => ?_))
      | exact ih0 _ _ _
      | exact ih1 _ _ _
      | exact LeO.none _
      | refine LeO.ite ?_ ?_
      | refine LeO.bind ?_ (fun _ => ?_)
set_option maxHeartbeats 8000000 in
set_option maxRecDepth 100000 in
theorem impl_FieldMul.calls (k : Nat) (a0 : Int) (a1 : Int) (r : Int) (w : World) (h : impl_FieldMul.f k a0 a1 = some r) :
    Calls Try.prog 14 #[.int .i64 a0, .int .i64 a1] w fun e w' => e = .returned (.int .i64 r) ∧ Drawn0 w w' := by
  have H : ((impl_isByte.f a0).bind fun t105 => (if t105 = true then ((impl_isByte.f a1).bind fun t106 => (impl_FieldMul.j0 k a0 a1 (!t106))) else (impl_FieldMul.j0 k a0 a1 true))) = some r := h
  clear h
  have HC3 := Aside0.mk H
  clear H
  go_enter Try.func14, Try.ntmps14
  go_upto_region 1 with (fail)
  go_cut [13] (fun v13 wc => ∃ (kq : Nat) (x13_2 : Bool), v13 = .bool x13_2 ∧ Aside0 (impl_FieldMul.j0 kq a0 a1 x13_2 = some r) ∧ Aside0 (kq ≤ k) ∧ Drawn0 w wc)
  case first =>
    have H := HC3.out
    clear HC3
    replace H := Option.bind_eq_some_iff.mp H
    obtain ⟨t105, A40, H⟩ := H
    replace H : (if t105 = true then ((impl_isByte.f a1).bind fun t106 => (impl_FieldMul.j0 k a0 a1 (!t106))) else (impl_FieldMul.j0 k a0 a1 true)) = some r := H
    have A4 := Aside0.mk A40
    clear A40
    by_cases c5 : t105 = true
    · subst c5
      have H1 : ((impl_isByte.f a1).bind fun t106 => (impl_FieldMul.j0 k a0 a1 (!t106))) = some r := by rw [if_pos rfl] at H; exact H
      clear H
      have H := H1
      clear H1
      replace H := Option.bind_eq_some_iff.mp H
      obtain ⟨t106, A60, H⟩ := H
      replace H : (impl_FieldMul.j0 k a0 a1 (!t106)) = some r := H
      have A6 := Aside0.mk A60
      clear A60
      have H' := Aside0.mk H
      clear H
      go_wp2_with (first | ((with_reducible refine gate_callee (f := 39) rfl ?_); refine goesL_ (some 7) rfl rfl Try.func39 (by kernel_rfl) rfl #[.int .i64 a0] rfl (by (try simp only [List.map_toArray, List.map_cons, List.map_nil]); first | done | rfl | (simp only [List.length_drop, List.length_take]; rfl)) ?_; (with_reducible refine (impl_isByte.calls a0 true _ A4.out).mono ?_); rintro e w' ⟨rfl, ⟨nd, rfl⟩⟩; refine ⟨_, rfl, ?_⟩) | (go_at_call 39; (with_reducible refine (impl_isByte.calls a1 t106 _ A6.out).mono ?_); rintro e w' ⟨rfl, ⟨nd, rfl⟩⟩))
      go_meet
      case rel => exact ⟨_, (!t106), (by first | rfl | (simp; done) | (simp [*]; done)), H', ⟨by first | omega | exact Nat.le_refl _⟩, by repeat (first | exact Drawn0.refl _ | apply Drawn0.step)⟩
    · replace c5 := Bool.eq_false_iff.mpr c5
      subst c5
      have H1 : (impl_FieldMul.j0 k a0 a1 true) = some r := by rw [if_neg (show ¬ (false = true) by decide)] at H; exact H
      clear H
      have H := H1
      clear H1
      have H' := Aside0.mk H
      clear H
      go_wp2_with (first | ((with_reducible refine gate_callee (f := 39) rfl ?_); refine goesL_ (some 7) rfl rfl Try.func39 (by kernel_rfl) rfl #[.int .i64 a0] rfl (by (try simp only [List.map_toArray, List.map_cons, List.map_nil]); first | done | rfl | (simp only [List.length_drop, List.length_take]; rfl)) ?_; (with_reducible refine (impl_isByte.calls a0 false _ A4.out).mono ?_); rintro e w' ⟨rfl, ⟨nd, rfl⟩⟩; refine ⟨_, rfl, ?_⟩))
      go_meet
      case rel => exact ⟨_, (true), (by first | rfl | (simp; done) | (simp [*]; done)), H', ⟨by first | omega | exact Nat.le_refl _⟩, by repeat (first | exact Drawn0.refl _ | apply Drawn0.step)⟩
  case rest =>
    clear HC3
    try clear c1
    try clear p2
    try clear c3
    try clear c5
    obtain ⟨kq, x13_2, rfl, HA, HJ2, ⟨mc2, rfl⟩⟩ := hcut
    cases kq with
    | zero => exact absurd HA.out (by simp [impl_FieldMul.j0])
    | succ kj2 =>
      have H := HA.out
      clear HA
      simp only [impl_FieldMul.j0] at H
      by_cases c7 : x13_2 = true
      · subst c7
        have H1 : (some 0) = some r := by rw [if_pos rfl] at H; exact H
        clear H
        have H := H1
        clear H1
        obtain rfl := Option.some.inj H
        go_wp2
        go_ret
        exact ⟨by first | rfl | (simp; done) | (simp [*]; done), by repeat (first | exact Drawn0.refl _ | apply Drawn0.step)⟩
      · replace c7 := Bool.eq_false_iff.mpr c7
        subst c7
        have H1 : (impl_FieldMul.l0 kj2 a0 a1 0) = some r := by rw [if_neg (show ¬ (false = true) by decide)] at H; exact H
        clear H
        have H := H1
        clear H1
        have H' := Aside0.mk H
        clear H
        go_wp2
        go_loopg [0, 1, 5] kj2 (fun kq v0 v1 v5 w' => ∃ (x0_2 : Int) (x1_2 : Int) (x5_2 : Int), v0 = .int .i64 x0_2 ∧ v1 = .int .i64 x1_2 ∧ v5 = .int .i64 x5_2 ∧ Aside0 (impl_FieldMul.l0 kq x0_2 x1_2 x5_2 = some r) ∧ Aside0 (kq ≤ kj2) ∧ Drawn0 w w')
        case atStart => exact ⟨(a0), (a1), (0), (by first | rfl | (simp; done) | (simp [*]; done)), (by first | rfl | (simp; done) | (simp [*]; done)), (by first | rfl | (simp; done) | (simp [*]; done)), H', ⟨Nat.le_refl _⟩, by repeat (first | exact Drawn0.refl _ | apply Drawn0.step)⟩
        case round =>
          clear H'
          try clear c1
          try clear c2
          try clear p2
          try clear c3
          try clear c5
          try clear c7
          try clear p2
          obtain ⟨x0_2, x1_2, x5_2, rfl, rfl, rfl, HA, HK2, ⟨m2, rfl⟩⟩ := hrel
          cases gk with
          | zero => exact absurd HA.out (by simp [impl_FieldMul.l0])
          | succ k2 =>
            have H := HA.out
            clear HA
            simp only [impl_FieldMul.l0] at H
            by_cases c8 : x1_2 > 0
            · rw [if_pos c8] at H
              have c8b0 : decide (0 < x1_2) = true := decide_eq_true c8
              clear c8
              by_cases c9 : (Go.bits .and .i64 x1_2 1) = 1
              · rw [if_pos c9] at H
                have c9b0 : ((Go.bits .and .i64 x1_2 1) == 1) = true := beq_iff_eq.mpr c9
                have c9b1 : ((Go.bits .and .i64 x1_2 1) != 1) = false := bne_eq_false_iff_eq.mpr c9
                clear c9
                replace H := Option.bind_eq_some_iff.mp H
                obtain ⟨t107, A100, H⟩ := H
                replace H : (impl_FieldMul.l0 k2 t107 (x1_2 / 2) (Go.bits .xor .i64 x5_2 x0_2)) = some r := H
                have A10 := Aside0.mk A100
                clear A100
                have H' := Aside0.mk H
                clear H
                go_wp2_with (first | ((with_reducible refine gate_callee (f := 20) rfl ?_); refine goesL_ (some 25) rfl rfl Try.func20 (by kernel_rfl) rfl #[.int .i64 x0_2] rfl (by (try simp only [List.map_toArray, List.map_cons, List.map_nil]); first | done | rfl | (simp only [List.length_drop, List.length_take]; rfl)) ?_; (with_reducible refine (impl_FieldDouble.calls x0_2 t107 _ A10.out).mono ?_); rintro e w' ⟨rfl, ⟨nd, rfl⟩⟩; refine ⟨_, rfl, ?_⟩))
                go_roundg k2
                case measure => have := HJ2.out; have := HK2.out; omega
                case rel => exact ⟨(t107), (x1_2 / 2), (Go.bits .xor .i64 x5_2 x0_2), (by first | rfl | (simp; done) | (simp [*]; done)), (by first | rfl | (simp; done) | (simp [*]; done)), (by first | rfl | (simp; done) | (simp [*]; done)), H', ⟨by have := HJ2.out; have := HK2.out; omega⟩, by repeat (first | exact Drawn0.refl _ | apply Drawn0.step)⟩
              · rw [if_neg c9] at H
                have c9b0 : ((Go.bits .and .i64 x1_2 1) == 1) = false := beq_eq_false_iff_ne.mpr c9
                have c9b1 : ((Go.bits .and .i64 x1_2 1) != 1) = true := bne_iff_ne.mpr c9
                replace H := Option.bind_eq_some_iff.mp H
                obtain ⟨t108, A110, H⟩ := H
                replace H : (impl_FieldMul.l0 k2 t108 (x1_2 / 2) x5_2) = some r := H
                have A11 := Aside0.mk A110
                clear A110
                have H' := Aside0.mk H
                clear H
                go_wp2_with (first | ((with_reducible refine gate_callee (f := 20) rfl ?_); refine goesL_ (some 25) rfl rfl Try.func20 (by kernel_rfl) rfl #[.int .i64 x0_2] rfl (by (try simp only [List.map_toArray, List.map_cons, List.map_nil]); first | done | rfl | (simp only [List.length_drop, List.length_take]; rfl)) ?_; (with_reducible refine (impl_FieldDouble.calls x0_2 t108 _ A11.out).mono ?_); rintro e w' ⟨rfl, ⟨nd, rfl⟩⟩; refine ⟨_, rfl, ?_⟩))
                go_roundg k2
                case measure => have := HJ2.out; have := HK2.out; omega
                case rel => exact ⟨(t108), (x1_2 / 2), (x5_2), (by first | rfl | (simp; done) | (simp [*]; done)), (by first | rfl | (simp; done) | (simp [*]; done)), (by first | rfl | (simp; done) | (simp [*]; done)), H', ⟨by have := HJ2.out; have := HK2.out; omega⟩, by repeat (first | exact Drawn0.refl _ | apply Drawn0.step)⟩
            · rw [if_neg c8] at H
              have c8b0 : decide (0 < x1_2) = false := decide_eq_false c8
              clear c8
              obtain rfl := Option.some.inj H
              go_wp2
              go_ret
              exact ⟨by first | rfl | (simp; done) | (simp [*]; done), by repeat (first | exact Drawn0.refl _ | apply Drawn0.step)⟩

end Go.Proofs.Ytngdfchpknglhaa.PFnExactBoxText
