-- Written by a program of this session for this claim; Lean checks it.
import Derived.Test.YtcfdabmeejfcoaaMFnExactStoreWordx0
import Derived.Test.YtcfdabmeejfcoaaMFnExactStoreWordx4
namespace Go.Proofs.Ytcfdabmeejfcoaa.PFnExactStoreWord
open Go.RowKit Go.Proofs.YtcfdabmeejfcoaaW.PrintWords Go.Proofs.YtcfdabmeejfcoaaW.PrintLast Go.Proofs.YtcfdabmeejfcoaaW.PrintMore
attribute [local go_sem] max2_int min2_int max_two min_two max_three min_three max_four min_four   -- for this text's walks alone
set_option linter.unusedVariables false
set_option linter.unusedSimpArgs false

/-! ### spec_l10Store: function 40 -/
mutual
def spec_l10Store.l0 : Nat → Int → Bool → Int → ByteArray → List (S47) → Int → ByteArray → Bool → ByteArray → List (S47) → Option (ByteArray × (List (S47)))
  | 0, _, _, _, _, _, _, _, _, _, _ => none
  | k + 1, x7, x12, x13, x157000, x157001, x160000, x160001, x160002, x161000, x161001 => if x13 < (x157001.length : Int) then (if x12 = true then (spec_l10Store.j1 k x7 x12 x13 false x157000 x157001 x160000 x160001 x160002 x161000 x161001) else (if 0 ≤ x13 then (spec_l10Store.j1 k x7 x12 x13 (decide (((rd_T47 x157001 x13).f0) ≥ x7)) x157000 x157001 x160000 x160001 x160002 x161000 x161001) else (none))) else (if x12 = true then (some (x161000, x161001)) else (if x161001.length < 4398046511104 then (some (x161000, (x161001 ++ [(⟨x160000, x160001, x160002⟩ : S47)]))) else (none)))
def spec_l10Store.j1 : Nat → Int → Bool → Int → Bool → ByteArray → List (S47) → Int → ByteArray → Bool → ByteArray → List (S47) → Option (ByteArray × (List (S47)))
  | 0, _, _, _, _, _, _, _, _, _, _, _ => none
  | k + 1, x7, x12, x13, x55, x157000, x157001, x160000, x160001, x160002, x161000, x161001 => if x55 = true then (if x161001.length < 4398046511104 then ((some (x161001 ++ [(⟨x160000, x160001, x160002⟩ : S47)] : List (S47))).bind fun y165 => (if 0 ≤ x13 then (if x13 < (x157001.length : Int) then (if ((rd_T47 x157001 x13).f0) = x7 then (spec_l10Store.l0 k x7 true (wrap64 (x13 + 1)) x157000 x157001 x160000 x160001 x160002 x161000 y165) else (if y165.length < 4398046511104 then (spec_l10Store.l0 k x7 true (wrap64 (x13 + 1)) x157000 x157001 x160000 x160001 x160002 x161000 (y165 ++ [(⟨(rd_T47 x157001 x13).f0, (rd_T47 x157001 x13).f1, (rd_T47 x157001 x13).f2⟩ : S47)])) else (none))) else (none)) else (none))) else (none)) else (if 0 ≤ x13 then (if x13 < (x157001.length : Int) then (if ((rd_T47 x157001 x13).f0) = x7 then (spec_l10Store.l0 k x7 x12 (wrap64 (x13 + 1)) x157000 x157001 x160000 x160001 x160002 x161000 x161001) else (if x161001.length < 4398046511104 then (spec_l10Store.l0 k x7 x12 (wrap64 (x13 + 1)) x157000 x157001 x160000 x160001 x160002 x161000 (x161001 ++ [(⟨(rd_T47 x157001 x13).f0, (rd_T47 x157001 x13).f1, (rd_T47 x157001 x13).f2⟩ : S47)])) else (none))) else (none)) else (none))
end
def spec_l10Store.f (k : Nat) (a0_0 : ByteArray) (l0_1 : List (S47)) (a1 : Int) (a2 : ByteArray) : Option (ByteArray × (List (S47))) := (spec_l10Line.f k a0_0 l0_1 (wrap64 (Int.tdiv a1 2))).bind fun t158 => (if 0 ≤ (wrap64 ((Int.tmod a1 2) * 8)) then (if (wrap64 ((Int.tmod a1 2) * 8)) ≤ (t158.size : Int) then (if (t158.extract 0 ((wrap64 ((Int.tmod a1 2) * 8)) : Int).toNat).size + a2.size ≤ 9223372036854775807 then (if 0 ≤ (wrap64 ((wrap64 ((Int.tmod a1 2) * 8)) + 8)) then (if (wrap64 ((wrap64 ((Int.tmod a1 2) * 8)) + 8)) ≤ (t158.size : Int) then (if ((t158.extract 0 ((wrap64 ((Int.tmod a1 2) * 8)) : Int).toNat) ++ a2).size + (t158.extract ((wrap64 ((wrap64 ((Int.tmod a1 2) * 8)) + 8)) : Int).toNat t158.size).size ≤ 9223372036854775807 then (spec_l10Store.l0 k (wrap64 (Int.tdiv a1 2)) false 0 a0_0 l0_1 (wrap64 (Int.tdiv a1 2)) (((t158.extract 0 ((wrap64 ((Int.tmod a1 2) * 8)) : Int).toNat) ++ a2) ++ (t158.extract ((wrap64 ((wrap64 ((Int.tmod a1 2) * 8)) + 8)) : Int).toNat t158.size)) false a0_0 ([] : List (S47))) else (none)) else (none)) else (none)) else (none)) else (none)) else (none))
theorem spec_l10Store.mono_l : ∀ k, (∀ y0 y1 y2 y3 y4 y5 y6 y7 y8 y9, LeO (spec_l10Store.l0 k y0 y1 y2 y3 y4 y5 y6 y7 y8 y9) (spec_l10Store.l0 (k + 1) y0 y1 y2 y3 y4 y5 y6 y7 y8 y9)) ∧ (∀ y0 y1 y2 y3 y4 y5 y6 y7 y8 y9 y10, LeO (spec_l10Store.j1 k y0 y1 y2 y3 y4 y5 y6 y7 y8 y9 y10) (spec_l10Store.j1 (k + 1) y0 y1 y2 y3 y4 y5 y6 y7 y8 y9 y10))
  | 0 => ⟨fun _ _ _ _ _ _ _ _ _ _ r h => by simp [spec_l10Store.l0] at h, fun _ _ _ _ _ _ _ _ _ _ _ r h => by simp [spec_l10Store.j1] at h⟩
  | k + 1 => by
    obtain ⟨ih0, ih1⟩ := spec_l10Store.mono_l k
    refine ⟨?_, ?_⟩
    · intro y0 y1 y2 y3 y4 y5 y6 y7 y8 y9
      unfold spec_l10Store.l0
      repeat' first
      | (with_reducible exact ih0 _ _ _ _ _ _ _ _ _ _)
      | (with_reducible exact ih1 _ _ _ _ _ _ _ _ _ _ _)
      | (with_reducible exact spec_l10Line.mono _ _ _ _)
      | (with_reducible exact LeO.refl _)
      | (with_reducible exact LeO.none _)
      | (with_reducible refine LeO.ite ?_ ?_)
      | (with_reducible refine LeO.bind ?_ (fun _ => ?_))
      | exact ih0 _ _ _ _ _ _ _ _ _ _
      | exact ih1 _ _ _ _ _ _ _ _ _ _ _
      | exact spec_l10Line.mono _ _ _ _
      | exact LeO.none _
      | refine LeO.ite ?_ ?_
      | refine LeO.bind ?_ (fun _ => ?_)
    · intro y0 y1 y2 y3 y4 y5 y6 y7 y8 y9 y10
      unfold spec_l10Store.j1
      repeat' first
      | (with_reducible exact ih0 _ _ _ _ _ _ _ _ _ _)
      | (with_reducible exact ih1 _ _ _ _ _ _ _ _ _ _ _)
      | (with_reducible exact spec_l10Line.mono _ _ _ _)
      | (with_reducible exact LeO.refl _)
      | (with_reducible exact LeO.none _)
      | (with_reducible refine LeO.ite ?_ ?_)
      | (with_reducible refine LeO.bind ?_ (fun _ => ?_))
      | exact ih0 _ _ _ _ _ _ _ _ _ _
      | exact ih1 _ _ _ _ _ _ _ _ _ _ _
      | exact spec_l10Line.mono _ _ _ _
      | exact LeO.none _
      | refine LeO.ite ?_ ?_
      | refine LeO.bind ?_ (fun _ => ?_)
theorem spec_l10Store.mono : ∀ a0 a1 a2 a3 k, LeO (spec_l10Store.f k a0 a1 a2 a3) (spec_l10Store.f (k + 1) a0 a1 a2 a3) := by
  intro a0 a1 a2 a3 k
  obtain ⟨ih0, ih1⟩ := spec_l10Store.mono_l k
  unfold spec_l10Store.f
  repeat' first
      | (with_reducible exact ih0 _ _ _ _ _ _ _ _ _ _)
      | (with_reducible exact ih1 _ _ _ _ _ _ _ _ _ _ _)
      | (with_reducible exact spec_l10Line.mono _ _ _ _)
      | (with_reducible exact LeO.refl _)
      | (with_reducible exact LeO.none _)
      | (with_reducible refine LeO.ite ?_ ?_)
      | (with_reducible refine LeO.bind ?_ (fun _ => ?_))
      | exact ih0 _ _ _ _ _ _ _ _ _ _
      | exact ih1 _ _ _ _ _ _ _ _ _ _ _
      | exact spec_l10Line.mono _ _ _ _
      | exact LeO.none _
      | refine LeO.ite ?_ ?_
      | refine LeO.bind ?_ (fun _ => ?_)
def spec_l10Store.T4 : Bool × List (List Nat × List Nat) := (true, [([], []), ([], []), ([], []), ([1, 2], [1, 2]), ([], []), ([3, 4], [3, 4]), ([], []), ([], []), ([7], [7]), ([6, 8], [6, 8]), ([5, 9], [5, 9]), ([0, 10], [0, 10]), ([], []), ([12, 11, 0, 1, 2, 3, 4, 5, 6, 7, 8, 9, 10, 11, 12], [11, 12])])
def spec_l10Store.B4 : List Nat := [0, 0, 0, 6, 0, 30, 0, 0, 128, 448, 1022, 2047, 0, 8191]
theorem spec_l10Store.tab4 : rtab .any (opsOf Try.f40 4) = spec_l10Store.T4 := by kernel_rfl
theorem spec_l10Store.bits4 : waitsOk spec_l10Store.T4.2 spec_l10Store.B4 = true := by kernel_rfl
def spec_l10Store.T14 : Bool × List (List Nat × List Nat) := (true, [([], []), ([0], [0]), ([], []), ([2], [2]), ([], []), ([3, 4], [3, 4]), ([5], [5]), ([6], [6]), ([1, 7], [1, 7]), ([0, 1, 2, 3, 4, 5, 6, 7, 8], []), ([9, 8, 8, 0, 1, 2, 3, 4, 5, 6, 7, 8], [8, 9])])
def spec_l10Store.B14 : List Nat := [0, 1, 0, 4, 0, 28, 60, 124, 255, 511, 1023]
theorem spec_l10Store.tab14 : rtab .any (opsOf Try.f40 14) = spec_l10Store.T14 := by kernel_rfl
theorem spec_l10Store.bits14 : waitsOk spec_l10Store.T14.2 spec_l10Store.B14 = true := by kernel_rfl
set_option maxHeartbeats 8000000 in
set_option maxRecDepth 100000 in
theorem spec_l10Store.calls (k : Nat) (a0_0 : ByteArray) (A0_1 : Option Addr) (c0_1 : Nat) (l0_1 : List (S47)) (a1 : Int) (a2 : ByteArray) (r1 : ByteArray) (r2 : List (S47)) (w : World) (hr0_1 : Kd.C k47 w A0_1 l0_1.length l0_1) (hc0_1 : l0_1.length ≤ c0_1) (h : spec_l10Store.f k a0_0 l0_1 a1 a2 = some (r1, r2)) :
    Calls Try.prog 40 #[.agg #[.string a0_0, .slice A0_1 l0_1.length c0_1], .int .i64 a1, .string a2] w fun e w' => ∃ v1_ : Value, e = .returned (.agg #[.string r1, v1_]) ∧ Kd.R k47 47 w' w.heap.size (fun _ => True) v1_ r2 ∧ Below w.heap.size w w' := by
  have hu29 := Try.underlying29
  have hu47 := Try.underlying47
  have HR0_1 := Aside0.mk hr0_1
  have HC0_1 := Aside0.mk hc0_1
  clear hr0_1 hc0_1
  have HB := Aside0.mk (Below.refl w.heap.size w)
  have H : ((spec_l10Line.f k a0_0 l0_1 (wrap64 (Int.tdiv a1 2))).bind fun t158 => (if 0 ≤ (wrap64 ((Int.tmod a1 2) * 8)) then (if (wrap64 ((Int.tmod a1 2) * 8)) ≤ (t158.size : Int) then (if (t158.extract 0 ((wrap64 ((Int.tmod a1 2) * 8)) : Int).toNat).size + a2.size ≤ 9223372036854775807 then (if 0 ≤ (wrap64 ((wrap64 ((Int.tmod a1 2) * 8)) + 8)) then (if (wrap64 ((wrap64 ((Int.tmod a1 2) * 8)) + 8)) ≤ (t158.size : Int) then (if ((t158.extract 0 ((wrap64 ((Int.tmod a1 2) * 8)) : Int).toNat) ++ a2).size + (t158.extract ((wrap64 ((wrap64 ((Int.tmod a1 2) * 8)) + 8)) : Int).toNat t158.size).size ≤ 9223372036854775807 then (spec_l10Store.l0 k (wrap64 (Int.tdiv a1 2)) false 0 a0_0 l0_1 (wrap64 (Int.tdiv a1 2)) (((t158.extract 0 ((wrap64 ((Int.tmod a1 2) * 8)) : Int).toNat) ++ a2) ++ (t158.extract ((wrap64 ((wrap64 ((Int.tmod a1 2) * 8)) + 8)) : Int).toNat t158.size)) false a0_0 ([] : List (S47))) else (none)) else (none)) else (none)) else (none)) else (none)) else (none))) = some (r1, r2) := h
  clear h
  replace H := Option.bind_eq_some_iff.mp H
  obtain ⟨t158, A40, H⟩ := H
  replace H : (if 0 ≤ (wrap64 ((Int.tmod a1 2) * 8)) then (if (wrap64 ((Int.tmod a1 2) * 8)) ≤ (t158.size : Int) then (if (t158.extract 0 ((wrap64 ((Int.tmod a1 2) * 8)) : Int).toNat).size + a2.size ≤ 9223372036854775807 then (if 0 ≤ (wrap64 ((wrap64 ((Int.tmod a1 2) * 8)) + 8)) then (if (wrap64 ((wrap64 ((Int.tmod a1 2) * 8)) + 8)) ≤ (t158.size : Int) then (if ((t158.extract 0 ((wrap64 ((Int.tmod a1 2) * 8)) : Int).toNat) ++ a2).size + (t158.extract ((wrap64 ((wrap64 ((Int.tmod a1 2) * 8)) + 8)) : Int).toNat t158.size).size ≤ 9223372036854775807 then (spec_l10Store.l0 k (wrap64 (Int.tdiv a1 2)) false 0 a0_0 l0_1 (wrap64 (Int.tdiv a1 2)) (((t158.extract 0 ((wrap64 ((Int.tmod a1 2) * 8)) : Int).toNat) ++ a2) ++ (t158.extract ((wrap64 ((wrap64 ((Int.tmod a1 2) * 8)) + 8)) : Int).toNat t158.size)) false a0_0 ([] : List (S47))) else (none)) else (none)) else (none)) else (none)) else (none)) else (none)) = some (r1, r2) := H
  have A4 := Aside0.mk A40
  clear A40
  obtain ⟨ji5, hji5⟩ : ∃ j_ : Int, (wrap64 ((Int.tmod a1 2) * 8)) = j_ := ⟨_, rfl⟩
  replace H : (if 0 ≤ (ji5) then (if (ji5) ≤ (t158.size : Int) then (if (t158.extract 0 ((ji5) : Int).toNat).size + a2.size ≤ 9223372036854775807 then (if 0 ≤ (wrap64 ((ji5) + 8)) then (if (wrap64 ((ji5) + 8)) ≤ (t158.size : Int) then (if ((t158.extract 0 ((ji5) : Int).toNat) ++ a2).size + (t158.extract ((wrap64 ((ji5) + 8)) : Int).toNat t158.size).size ≤ 9223372036854775807 then (spec_l10Store.l0 k (wrap64 (Int.tdiv a1 2)) false 0 a0_0 l0_1 (wrap64 (Int.tdiv a1 2)) (((t158.extract 0 ((ji5) : Int).toNat) ++ a2) ++ (t158.extract ((wrap64 ((ji5) + 8)) : Int).toNat t158.size)) false a0_0 ([] : List (S47))) else (none)) else (none)) else (none)) else (none)) else (none)) else (none)) = some (r1, r2) := by first | (rw [hji5] at H; exact H) | (simp only [hji5] at H ⊢; exact H)
  (try rw [hji5] at A4)
  have hji5w : (IntKind.i64.wrap ((Int.tmod a1 2) * 8)) = ji5 := (i64_w _).trans hji5
  by_cases c6 : 0 ≤ (ji5)
  · rw [if_pos c6] at H
    have c6b0 := eq_true c6
    have c6b1 : decide (0 ≤ (ji5)) = true := decide_eq_true c6
    clear c6
    by_cases c7 : (ji5) ≤ (t158.size : Int)
    · rw [if_pos c7] at H
      have c7b0 := eq_true c7
      have c7b1 : decide ((ji5) ≤ (t158.size : Int)) = true := decide_eq_true c7
      clear c7
      by_cases c8 : (t158.extract 0 ((ji5) : Int).toNat).size + a2.size ≤ 9223372036854775807
      · rw [if_pos c8] at H
        have c8b0 := eq_true c8
        have c8b1 : decide ((t158.extract 0 ((ji5) : Int).toNat).size + a2.size ≤ 9223372036854775807) = true := decide_eq_true c8
        try have c8b2 : (9223372036854775807 < (t158.extract 0 ((ji5) : Int).toNat).size + a2.size) = False := eq_false (Nat.not_lt.2 c8)
        have c8b8 : (9223372036854775807 < ji5.toNat + a2.size) = False := eq_false (by have h_ := c8; have h7_ := of_eq_true c7b0; rw [ByteArray.size_extract] at h_; omega)
        obtain ⟨ji9, hji9⟩ : ∃ j_ : Int, (wrap64 ((ji5) + 8)) = j_ := ⟨_, rfl⟩
        replace H : (if 0 ≤ (ji9) then (if (ji9) ≤ (t158.size : Int) then (if ((t158.extract 0 ((ji5) : Int).toNat) ++ a2).size + (t158.extract ((ji9) : Int).toNat t158.size).size ≤ 9223372036854775807 then (spec_l10Store.l0 k (wrap64 (Int.tdiv a1 2)) false 0 a0_0 l0_1 (wrap64 (Int.tdiv a1 2)) (((t158.extract 0 ((ji5) : Int).toNat) ++ a2) ++ (t158.extract ((ji9) : Int).toNat t158.size)) false a0_0 ([] : List (S47))) else (none)) else (none)) else (none)) = some (r1, r2) := by first | (rw [hji9] at H; exact H) | (simp only [hji9] at H ⊢; exact H)
        (try rw [hji9] at A4)
        have hji9w : (IntKind.i64.wrap ((ji5) + 8)) = ji9 := (i64_w _).trans hji9
        by_cases c10 : 0 ≤ (ji9)
        · rw [if_pos c10] at H
          have c10b0 := eq_true c10
          have c10b1 : decide (0 ≤ (ji9)) = true := decide_eq_true c10
          clear c10
          by_cases c11 : (ji9) ≤ (t158.size : Int)
          · rw [if_pos c11] at H
            have c11b0 := eq_true c11
            have c11b1 : decide ((ji9) ≤ (t158.size : Int)) = true := decide_eq_true c11
            clear c11
            by_cases c12 : ((t158.extract 0 ((ji5) : Int).toNat) ++ a2).size + (t158.extract ((ji9) : Int).toNat t158.size).size ≤ 9223372036854775807
            · rw [if_pos c12] at H
              have c12b0 := eq_true c12
              have c12b1 : decide (((t158.extract 0 ((ji5) : Int).toNat) ++ a2).size + (t158.extract ((ji9) : Int).toNat t158.size).size ≤ 9223372036854775807) = true := decide_eq_true c12
              try have c12b2 : (9223372036854775807 < ((t158.extract 0 ((ji5) : Int).toNat) ++ a2).size + (t158.extract ((ji9) : Int).toNat t158.size).size) = False := eq_false (Nat.not_lt.2 c12)
              have c12b8 : (9223372036854775807 < ji5.toNat + a2.size + (t158.size - ji9.toNat)) = False := eq_false (by have h_ := c12; have h7_ := of_eq_true c7b0; rw [ByteArray.size_append, ByteArray.size_extract, ByteArray.size_extract] at h_; omega)
              try have c12b9 := c12b2
              try simp only [ByteArray.size_append] at c12b9
              have H' := Aside0.mk H
              clear H
              go_enter Try.func40, Try.ntmps40
              try go_wp2_with (first | ((with_reducible refine gate_dst (N := 3) rfl ?_); refine box_event ?hg (N := 3) ?hd (cs := #[.string a0_0, .slice A0_1 l0_1.length c0_1]) (t := 29) ?hr ?_; (case hd => rfl); (case hg => rfl); (case hr => first | (go_simp; done) | (go_simp; rfl)); intro gb156 hg w13 hbox hb; have n0_ := Aside0.mk (below_step (by repeat (first | (with_reducible first | exact HB.out | apply below_alloc | apply pw_below_drewN | apply below_drew1) | exact HB.out)) hb); have n1_ := Aside0.mk (hbox); have n2_ := Aside0.mk ((by rw [hg]; exact (below_size (by repeat (first | (with_reducible first | exact HB.out | apply below_alloc | apply pw_below_drewN | apply below_drew1) | exact HB.out))) : w.heap.size ≤ gb156)); have n3_ := Aside0.mk ((by rw [hg]; exact (below_size (by repeat (first | (with_reducible first | exact HB.out | apply below_alloc | apply pw_below_drewN | apply below_drew1) | exact HB.out))) : w.heap.size ≤ gb156)); clear HB; have HB := n0_; have BK156 := n1_; have GW156 := n2_; have GE156 := n3_; clear n0_ n1_ n2_ n3_; clear hb hbox hg) | ((with_reducible refine gate_dst (N := 6) rfl ?_); refine box_event ?hg (N := 6) ?hd (cs := #[.string (⟨#[]⟩ : ByteArray), .slice none 0 0]) (t := 29) ?hr ?_; (case hd => rfl); (case hg => rfl); (case hr => first | (go_simp; done) | (go_simp; rfl)); intro gb157 hg w14 hbox hb; have n0_ := Aside0.mk (blk_below (g := gb156) (o := .cells #[.string a0_0, .slice A0_1 l0_1.length c0_1] 29 (0, 0)) (by (with_reducible repeat (first | refine blk_drewN ?_ _ | refine blk_drew ?_ | refine blk_alloc ?_ _)); exact BK156.out) hb); have n1_ := Aside0.mk (below_step (by repeat (first | (with_reducible first | exact HB.out | apply below_alloc | apply pw_below_drewN | apply below_drew1 | refine below_set ?_ GE156.out) | exact HB.out)) hb); have n2_ := Aside0.mk (hbox); have n3_ := Aside0.mk ((by rw [hg]; exact (below_size (by repeat (first | (with_reducible first | exact HB.out | apply below_alloc | apply pw_below_drewN | apply below_drew1 | refine below_set ?_ GE156.out) | exact HB.out))) : w.heap.size ≤ gb157)); have n4_ := Aside0.mk ((by rw [hg]; exact (below_size (by repeat (first | (with_reducible first | exact HB.out | apply below_alloc | apply pw_below_drewN | apply below_drew1 | refine below_set ?_ GE156.out) | exact HB.out))) : w.heap.size ≤ gb157)); have n5_ := Aside0.mk ((by rw [hg]; exact Nat.ne_of_lt (blk_lt (g := gb156) (o := .cells #[.string a0_0, .slice A0_1 l0_1.length c0_1] 29 (0, 0)) (by (with_reducible repeat (first | refine blk_drewN ?_ _ | refine blk_drew ?_ | refine blk_alloc ?_ _)); exact BK156.out)) : gb156 ≠ gb157)); have n6_ := Aside0.mk ((by rw [hg]; exact Nat.ne_of_gt (blk_lt (g := gb156) (o := .cells #[.string a0_0, .slice A0_1 l0_1.length c0_1] 29 (0, 0)) (by (with_reducible repeat (first | refine blk_drewN ?_ _ | refine blk_drew ?_ | refine blk_alloc ?_ _)); exact BK156.out)) : gb157 ≠ gb156)); clear BK156; clear HB; have BK156 := n0_; have HB := n1_; have BK157 := n2_; have GW157 := n3_; have GE157 := n4_; have NB156_157 := n5_; have NB157_156 := n6_; clear n0_ n1_ n2_ n3_ n4_ n5_ n6_; clear hb hbox hg; have hnb15 := NB156_157.out; have hnc15 := NB157_156.out; have hcz16_0 : w14.cell? ⟨gb156, 0, none⟩ = some (.string a0_0) := (blk_cell BK156.out 0).trans rfl; have hcz16_1 : w14.cell? ⟨gb156, 1, none⟩ = some (.slice A0_1 l0_1.length c0_1) := (blk_cell BK156.out 1).trans rfl; have hfz16_0 := blk_frozen BK156.out 0; have hfz16_1 := blk_frozen BK156.out 1) | ((with_reducible refine gate_callee (f := 52) rfl ?_); refine goesL_ (some 21) rfl rfl Try.func52 (by kernel_rfl) rfl #[.agg #[.string a0_0, .slice A0_1 l0_1.length c0_1], .int .i64 (wrap64 (Int.tdiv a1 2))] rfl (by (try simp only [List.map_toArray, List.map_cons, List.map_nil]); first | done | rfl | (simp only [List.length_drop, List.length_take]; rfl)) ?_; (with_reducible refine (spec_l10Line.calls k a0_0 _ _ l0_1 (wrap64 (Int.tdiv a1 2)) t158 _ ?side1 ?side2 A4.out).mono ?_); (case side1 => repeat (first | exact (Kd.C_below HR0_1.out HB.out) | (with_reducible refine Kd.C_alloc ?_ _) | (with_reducible refine Kd.C_drewN ?_ _) | (with_reducible refine Kd.C_drew ?_))); (case side2 => exact HC0_1.out); rintro e w17 ⟨rfl, hb⟩; refine ⟨_, rfl, ?_⟩; have n0_ := Aside0.mk (blk_below (g := gb156) (o := .cells #[.string a0_0, .slice A0_1 l0_1.length c0_1] 29 (0, 0)) (by (with_reducible repeat (first | refine blk_drewN ?_ _ | refine blk_drew ?_ | refine blk_alloc ?_ _)); exact BK156.out) hb); have n1_ := Aside0.mk (blk_below (g := gb157) (o := .cells #[.string (⟨#[]⟩ : ByteArray), .slice none 0 0] 29 (0, 0)) (by (with_reducible repeat (first | refine blk_drewN ?_ _ | refine blk_drew ?_ | refine blk_alloc ?_ _)); exact BK157.out) hb); have n2_ := Aside0.mk (below_step (by repeat (first | (with_reducible first | exact HB.out | apply below_alloc | apply pw_below_drewN | apply below_drew1 | refine below_set ?_ GE156.out | refine below_set ?_ GE157.out) | exact HB.out)) hb); clear BK156; clear BK157; clear HB; have BK156 := n0_; have BK157 := n1_; have HB := n2_; clear n0_ n1_ n2_; (try clear hb); (try clear hb2); (try clear hk); (try clear hi)))
              have n0_ := Aside0.mk (blk_drew BK156.out)
              have n1_ := Aside0.mk (blk_drew BK157.out)
              have n2_ := Aside0.mk (below_drew1 HB.out)
              clear BK156
              clear BK157
              clear HB
              have BK156 := n0_
              have BK157 := n1_
              have HB := n2_
              clear n0_ n1_ n2_
              refine start_ (n := 14) (S := fun w' => True) (ds := []) #[false, false, false, false, false, false, false, false, false, false, false, false, false, false] (by kernel_rfl) rfl rfl trivial (fun hHeld => ?_); refine with_tabW spec_l10Store.tab4 spec_l10Store.bits4 (fun HT_ HW_ => ?_)
              generalize w17.drew = w18 at BK156 BK157 HB hHeld ⊢
              refine pure_ (i := 0) (N := some 22) (v := ?_) (a' := ?_) #[true, false, false, false, false, false, false, false, false, false, false, false, false, false] rfl rfl (any_of HT_.out (by kernel_rfl)) (fun _ _ _ h => h) (Or.inl ⟨by rfl, ?_⟩) ?_ ?_
              rotate_left
              · intro w'
                go_simp
                with_reducible rfl
              rotate_left
              · simp only [Act.put, List.setIfInBounds_toArray, List.set_cons_zero, List.set_cons_succ, i64_w, i32_w]
                rfl
              refine pure_ (i := 1) (N := some 23) (v := ?_) (a' := ?_) #[true, true, false, false, false, false, false, false, false, false, false, false, false, false] rfl rfl (any_of HT_.out (by kernel_rfl)) (fun _ _ _ h => h) (Or.inl ⟨by rfl, ?_⟩) ?_ ?_
              rotate_left
              · intro w'
                go_simp
                with_reducible rfl
              rotate_left
              · simp only [Act.put, List.setIfInBounds_toArray, List.set_cons_zero, List.set_cons_succ, i64_w, i32_w]
                rfl
              refine pure_ (i := 2) (N := some 24) (v := ?_) (a' := ?_) #[true, true, true, false, false, false, false, false, false, false, false, false, false, false] rfl rfl (any_of HT_.out (by kernel_rfl)) (fun _ _ _ h => h) (Or.inl ⟨by rfl, ?_⟩) ?_ ?_
              rotate_left
              · intro w'
                go_simp
                with_reducible rfl
              rotate_left
              · simp only [Act.put, List.setIfInBounds_toArray, List.set_cons_zero, List.set_cons_succ, i64_w, i32_w]
                rfl
              refine pure_ (i := 3) (N := some 25) (v := ?_) (a' := ?_) #[true, true, true, true, false, false, false, false, false, false, false, false, false, false] rfl rfl (any_of HT_.out (by kernel_rfl)) (fun _ _ _ h => h) (Or.inl ⟨by rfl, ?_⟩) ?_ ?_
              rotate_left
              · intro w'
                go_simp
                with_reducible rfl
              rotate_left
              · simp only [Act.put, List.setIfInBounds_toArray, List.set_cons_zero, List.set_cons_succ, i64_w, i32_w]
                rfl
              refine pure_ (i := 4) (N := some 26) (v := ?_) (a' := ?_) #[true, true, true, true, true, false, false, false, false, false, false, false, false, false] rfl rfl (any_of HT_.out (by kernel_rfl)) (fun _ _ _ h => h) (Or.inl ⟨by rfl, ?_⟩) ?_ ?_
              rotate_left
              · intro w'
                go_simp
                with_reducible rfl
              rotate_left
              · simp only [Act.put, List.setIfInBounds_toArray, List.set_cons_zero, List.set_cons_succ, i64_w, i32_w]
                rfl
              refine pure_ (i := 5) (N := some 27) (v := ?_) (a' := ?_) #[true, true, true, true, true, true, false, false, false, false, false, false, false, false] rfl rfl (any_of HT_.out (by kernel_rfl)) (fun _ _ _ h => h) (Or.inl ⟨by rfl, ?_⟩) ?_ ?_
              rotate_left
              · intro w'
                go_simp
                with_reducible rfl
              rotate_left
              · simp only [Act.put, List.setIfInBounds_toArray, List.set_cons_zero, List.set_cons_succ, i64_w, i32_w]
                rfl
              refine pure_ (i := 6) (N := some 28) (v := ?_) (a' := ?_) #[true, true, true, true, true, true, true, false, false, false, false, false, false, false] rfl rfl (any_of HT_.out (by kernel_rfl)) (fun _ _ _ h => h) (Or.inl ⟨by rfl, ?_⟩) ?_ ?_
              rotate_left
              · intro w'
                go_simp
                with_reducible rfl
              rotate_left
              · simp only [Act.put, List.setIfInBounds_toArray, List.set_cons_zero, List.set_cons_succ, i64_w, i32_w]
                rfl
              refine pure_ (i := 7) (N := some 29) (v := ?_) (a' := ?_) #[true, true, true, true, true, true, true, true, false, false, false, false, false, false] rfl rfl (any_of HT_.out (by kernel_rfl)) (fun _ _ _ h => h) (Or.inl ⟨by rfl, ?_⟩) ?_ ?_
              rotate_left
              · intro w'
                go_simp
                with_reducible rfl
              rotate_left
              · simp only [Act.put, List.setIfInBounds_toArray, List.set_cons_zero, List.set_cons_succ, i64_w, i32_w]
                rfl
              refine pure_ (i := 8) (N := some 30) (v := ?_) (a' := ?_) #[true, true, true, true, true, true, true, true, true, false, false, false, false, false] rfl rfl (any_of HT_.out (by kernel_rfl)) (fun _ _ _ h => h) (Or.inl ⟨by rfl, ?_⟩) ?_ ?_
              rotate_left
              · intro w'
                go_simp
                with_reducible rfl
              rotate_left
              · simp only [Act.put, List.setIfInBounds_toArray, List.set_cons_zero, List.set_cons_succ, i64_w, i32_w]
                rfl
              refine pure_ (i := 9) (N := some 31) (v := ?_) (a' := ?_) #[true, true, true, true, true, true, true, true, true, true, false, false, false, false] rfl rfl (any_of HT_.out (by kernel_rfl)) (fun _ _ _ h => h) (Or.inl ⟨by rfl, ?_⟩) ?_ ?_
              rotate_left
              · intro w'
                go_simp
                with_reducible rfl
              rotate_left
              · simp only [Act.put, List.setIfInBounds_toArray, List.set_cons_zero, List.set_cons_succ, i64_w, i32_w]
                rfl
              refine pure_ (i := 10) (N := some 32) (v := ?_) (a' := ?_) #[true, true, true, true, true, true, true, true, true, true, true, false, false, false] rfl rfl (any_of HT_.out (by kernel_rfl)) (fun _ _ _ h => h) (Or.inl ⟨by rfl, ?_⟩) ?_ ?_
              rotate_left
              · intro w'
                go_simp
                with_reducible rfl
              rotate_left
              · simp only [Act.put, List.setIfInBounds_toArray, List.set_cons_zero, List.set_cons_succ, i64_w, i32_w]
                rfl
              refine pure_ (i := 11) (N := some 33) (v := ?_) (a' := ?_) #[true, true, true, true, true, true, true, true, true, true, true, true, false, false] rfl rfl (any_of HT_.out (by kernel_rfl)) (fun _ _ _ h => h) (Or.inl ⟨by rfl, ?_⟩) ?_ ?_
              rotate_left
              · intro w'
                go_simp
                with_reducible rfl
              rotate_left
              · simp only [Act.put, List.setIfInBounds_toArray, List.set_cons_zero, List.set_cons_succ, i64_w, i32_w]
                rfl
              refine one_ (i := 12) (N := some 10) #[true, true, true, true, true, true, true, true, true, true, true, true, true, false] rfl rfl (one_of HT_.out (by kernel_rfl)) (by decide) (fun K hK => ?_)
              refine box_step ?hg (N := 10) ?hd (cs := #[.int .i64 0, .string (⟨#[]⟩ : ByteArray), .bool false]) (t := 47) ?hr ?_; (case hd => rfl); (case hg => rfl); (case hr => first | (go_simp; done) | (go_simp; rfl))
              intro gb159 hg w19 hbox hb
              have n0_ := Aside0.mk (blk_below (g := gb156) (o := .cells #[.string a0_0, .slice A0_1 l0_1.length c0_1] 29 (0, 0)) (by (with_reducible repeat (first | refine blk_drewN ?_ _ | refine blk_drew ?_ | refine blk_alloc ?_ _)); exact BK156.out) hb)
              have n1_ := Aside0.mk (blk_below (g := gb157) (o := .cells #[.string (⟨#[]⟩ : ByteArray), .slice none 0 0] 29 (0, 0)) (by (with_reducible repeat (first | refine blk_drewN ?_ _ | refine blk_drew ?_ | refine blk_alloc ?_ _)); exact BK157.out) hb)
              have n2_ := Aside0.mk (below_step (by repeat (first | (with_reducible first | exact HB.out | apply below_alloc | apply pw_below_drewN | apply below_drew1 | refine below_set ?_ GE156.out | refine below_set ?_ GE157.out) | exact HB.out)) hb)
              have n3_ := Aside0.mk (hbox)
              have n4_ := Aside0.mk ((by rw [hg]; exact (below_size (by repeat (first | (with_reducible first | exact HB.out | apply below_alloc | apply pw_below_drewN | apply below_drew1 | refine below_set ?_ GE156.out | refine below_set ?_ GE157.out) | exact HB.out))) : w.heap.size ≤ gb159))
              have n5_ := Aside0.mk ((by rw [hg]; exact (below_size (by repeat (first | (with_reducible first | exact HB.out | apply below_alloc | apply pw_below_drewN | apply below_drew1 | refine below_set ?_ GE156.out | refine below_set ?_ GE157.out) | exact HB.out))) : w.heap.size ≤ gb159))
              have n6_ := Aside0.mk ((by rw [hg]; exact Nat.ne_of_lt (blk_lt (g := gb156) (o := .cells #[.string a0_0, .slice A0_1 l0_1.length c0_1] 29 (0, 0)) (by (with_reducible repeat (first | refine blk_drewN ?_ _ | refine blk_drew ?_ | refine blk_alloc ?_ _)); exact BK156.out)) : gb156 ≠ gb159))
              have n7_ := Aside0.mk ((by rw [hg]; exact Nat.ne_of_gt (blk_lt (g := gb156) (o := .cells #[.string a0_0, .slice A0_1 l0_1.length c0_1] 29 (0, 0)) (by (with_reducible repeat (first | refine blk_drewN ?_ _ | refine blk_drew ?_ | refine blk_alloc ?_ _)); exact BK156.out)) : gb159 ≠ gb156))
              have n8_ := Aside0.mk ((by rw [hg]; exact Nat.ne_of_lt (blk_lt (g := gb157) (o := .cells #[.string (⟨#[]⟩ : ByteArray), .slice none 0 0] 29 (0, 0)) (by (with_reducible repeat (first | refine blk_drewN ?_ _ | refine blk_drew ?_ | refine blk_alloc ?_ _)); exact BK157.out)) : gb157 ≠ gb159))
              have n9_ := Aside0.mk ((by rw [hg]; exact Nat.ne_of_gt (blk_lt (g := gb157) (o := .cells #[.string (⟨#[]⟩ : ByteArray), .slice none 0 0] 29 (0, 0)) (by (with_reducible repeat (first | refine blk_drewN ?_ _ | refine blk_drew ?_ | refine blk_alloc ?_ _)); exact BK157.out)) : gb159 ≠ gb157))
              clear BK156
              clear BK157
              clear HB
              have BK156 := n0_
              have BK157 := n1_
              have HB := n2_
              have BK159 := n3_
              have GW159 := n4_
              have GE159 := n5_
              have NB156_159 := n6_
              have NB159_156 := n7_
              have NB157_159 := n8_
              have NB159_157 := n9_
              clear n0_ n1_ n2_ n3_ n4_ n5_ n6_ n7_ n8_ n9_
              clear hb hbox hg
              refine hK.out _ _ trivial (fun hHeld => ?_)
              clear hK K
              refine norm_ (a' := ?_) ?_ ?_
              rotate_left
              · show Act.put _ (some 10) _ = _
                simp only [Act.put, List.setIfInBounds_toArray, List.set_cons_zero, List.set_cons_succ, i64_w, i32_w]
                rfl
              refine one_ (i := 13) (N := none) #[true, true, true, true, true, true, true, true, true, true, true, true, true, true] rfl rfl (one_of HT_.out (by kernel_rfl)) (by decide) (fun K hK => ?_)
              have hs20 : w19.cell? ⟨gb159, 0, none⟩ = some (.int .i64 0) := (blk_cell BK159.out 0).trans rfl
              have hfs20 := blk_frozen BK159.out 0
              have hns20_0 := NB156_159.out
              have hns20_1 := NB157_159.out
              have hms20_0 := NB159_156.out
              have hms20_1 := NB159_157.out
              have hs21 : w19.cell? ⟨gb159, 1, none⟩ = some (.string (⟨#[]⟩ : ByteArray)) := (blk_cell BK159.out 1).trans rfl
              have hfs21 := blk_frozen BK159.out 1
              have hns21_0 := NB156_159.out
              have hns21_1 := NB157_159.out
              have hms21_0 := NB159_156.out
              have hms21_1 := NB159_157.out
              have hs22 : w19.cell? ⟨gb159, 2, none⟩ = some (.bool false) := (blk_cell BK159.out 2).trans rfl
              have hfs22 := blk_frozen BK159.out 2
              have hns22_0 := NB156_159.out
              have hns22_1 := NB157_159.out
              have hms22_0 := NB159_156.out
              have hms22_1 := NB159_157.out
              refine skip_ (w1 := ?_) (by rfl) rfl ?_ ?_
              rotate_left
              · go_simp
                rfl
              refine hK.out _ _ trivial (fun hHeld => ?_)
              clear hK K
              refine done_ (done_of HT_.out (by kernel_rfl)) ?_
              have hnb23 := NB156_159.out
              have hnc23 := NB159_156.out
              have hcz24_0 : w19.cell? ⟨gb156, 0, none⟩ = some (.string a0_0) := (blk_cell BK156.out 0).trans rfl
              have hcz24_1 : w19.cell? ⟨gb156, 1, none⟩ = some (.slice A0_1 l0_1.length c0_1) := (blk_cell BK156.out 1).trans rfl
              have hfz24_0 := blk_frozen BK156.out 0
              have hfz24_1 := blk_frozen BK156.out 1
              try go_wp2_with (first | ((with_reducible refine gate_dst (N := 11) rfl ?_); refine box_event ?hg (N := 11) ?hd (cs := #[.string (⟨#[]⟩ : ByteArray), .slice none 0 0]) (t := 29) ?hr ?_; (case hd => rfl); (case hg => rfl); (case hr => first | (go_simp; done) | (go_simp; rfl)); intro gb160 hg w25 hbox hb; have n0_ := Aside0.mk (blk_below (g := gb156) (o := .cells #[.string a0_0, .slice A0_1 l0_1.length c0_1] 29 (0, 0)) (by (with_reducible repeat (first | refine blk_drewN ?_ _ | refine blk_drew ?_ | refine blk_alloc ?_ _)); refine blk_far ?_ NB156_159.out _; (with_reducible repeat (first | refine blk_drewN ?_ _ | refine blk_drew ?_ | refine blk_alloc ?_ _)); refine blk_far ?_ NB156_159.out _; (with_reducible repeat (first | refine blk_drewN ?_ _ | refine blk_drew ?_ | refine blk_alloc ?_ _)); refine blk_far ?_ NB156_159.out _; (with_reducible repeat (first | refine blk_drewN ?_ _ | refine blk_drew ?_ | refine blk_alloc ?_ _)); exact BK156.out) hb); have n1_ := Aside0.mk (blk_below (g := gb157) (o := .cells #[.string (⟨#[]⟩ : ByteArray), .slice none 0 0] 29 (0, 0)) (by (with_reducible repeat (first | refine blk_drewN ?_ _ | refine blk_drew ?_ | refine blk_alloc ?_ _)); refine blk_far ?_ NB157_159.out _; (with_reducible repeat (first | refine blk_drewN ?_ _ | refine blk_drew ?_ | refine blk_alloc ?_ _)); refine blk_far ?_ NB157_159.out _; (with_reducible repeat (first | refine blk_drewN ?_ _ | refine blk_drew ?_ | refine blk_alloc ?_ _)); refine blk_far ?_ NB157_159.out _; (with_reducible repeat (first | refine blk_drewN ?_ _ | refine blk_drew ?_ | refine blk_alloc ?_ _)); exact BK157.out) hb); have n2_ := Aside0.mk (blk_below (g := gb159) (o := .cells #[.int .i64 (wrap64 (Int.tdiv a1 2)), .string (((t158.extract 0 ((ji5) : Int).toNat) ++ a2) ++ (t158.extract ((ji9) : Int).toNat t158.size)), .bool false] 47 (0, 0)) (by (with_reducible repeat (first | refine blk_drewN ?_ _ | refine blk_drew ?_ | refine blk_alloc ?_ _)); refine blk_put (cs := #[.int .i64 (wrap64 (Int.tdiv a1 2)), .string (((t158.extract 0 ((ji5) : Int).toNat) ++ a2) ++ (t158.extract ((ji9) : Int).toNat t158.size)), .bool false]) ?_ 2 _ rfl; (with_reducible repeat (first | refine blk_drewN ?_ _ | refine blk_drew ?_ | refine blk_alloc ?_ _)); refine blk_put (cs := #[.int .i64 (wrap64 (Int.tdiv a1 2)), .string (⟨#[]⟩ : ByteArray), .bool false]) ?_ 1 _ rfl; (with_reducible repeat (first | refine blk_drewN ?_ _ | refine blk_drew ?_ | refine blk_alloc ?_ _)); refine blk_put (cs := #[.int .i64 0, .string (⟨#[]⟩ : ByteArray), .bool false]) ?_ 0 _ rfl; (with_reducible repeat (first | refine blk_drewN ?_ _ | refine blk_drew ?_ | refine blk_alloc ?_ _)); exact BK159.out) hb); have n3_ := Aside0.mk (below_step (by repeat (first | (with_reducible first | exact HB.out | apply below_alloc | apply pw_below_drewN | apply below_drew1 | refine below_set ?_ GE156.out | refine below_set ?_ GE157.out | refine below_set ?_ GE159.out) | exact HB.out)) hb); have n4_ := Aside0.mk (hbox); have n5_ := Aside0.mk ((by rw [hg]; exact (below_size (by repeat (first | (with_reducible first | exact HB.out | apply below_alloc | apply pw_below_drewN | apply below_drew1 | refine below_set ?_ GE156.out | refine below_set ?_ GE157.out | refine below_set ?_ GE159.out) | exact HB.out))) : w.heap.size ≤ gb160)); have n6_ := Aside0.mk ((by rw [hg]; exact (below_size (by repeat (first | (with_reducible first | exact HB.out | apply below_alloc | apply pw_below_drewN | apply below_drew1 | refine below_set ?_ GE156.out | refine below_set ?_ GE157.out | refine below_set ?_ GE159.out) | exact HB.out))) : w.heap.size ≤ gb160)); have n7_ := Aside0.mk ((by rw [hg]; exact Nat.ne_of_lt (blk_lt (g := gb156) (o := .cells #[.string a0_0, .slice A0_1 l0_1.length c0_1] 29 (0, 0)) (by (with_reducible repeat (first | refine blk_drewN ?_ _ | refine blk_drew ?_ | refine blk_alloc ?_ _)); refine blk_far ?_ NB156_159.out _; (with_reducible repeat (first | refine blk_drewN ?_ _ | refine blk_drew ?_ | refine blk_alloc ?_ _)); refine blk_far ?_ NB156_159.out _; (with_reducible repeat (first | refine blk_drewN ?_ _ | refine blk_drew ?_ | refine blk_alloc ?_ _)); refine blk_far ?_ NB156_159.out _; (with_reducible repeat (first | refine blk_drewN ?_ _ | refine blk_drew ?_ | refine blk_alloc ?_ _)); exact BK156.out)) : gb156 ≠ gb160)); have n8_ := Aside0.mk ((by rw [hg]; exact Nat.ne_of_gt (blk_lt (g := gb156) (o := .cells #[.string a0_0, .slice A0_1 l0_1.length c0_1] 29 (0, 0)) (by (with_reducible repeat (first | refine blk_drewN ?_ _ | refine blk_drew ?_ | refine blk_alloc ?_ _)); refine blk_far ?_ NB156_159.out _; (with_reducible repeat (first | refine blk_drewN ?_ _ | refine blk_drew ?_ | refine blk_alloc ?_ _)); refine blk_far ?_ NB156_159.out _; (with_reducible repeat (first | refine blk_drewN ?_ _ | refine blk_drew ?_ | refine blk_alloc ?_ _)); refine blk_far ?_ NB156_159.out _; (with_reducible repeat (first | refine blk_drewN ?_ _ | refine blk_drew ?_ | refine blk_alloc ?_ _)); exact BK156.out)) : gb160 ≠ gb156)); have n9_ := Aside0.mk ((by rw [hg]; exact Nat.ne_of_lt (blk_lt (g := gb157) (o := .cells #[.string (⟨#[]⟩ : ByteArray), .slice none 0 0] 29 (0, 0)) (by (with_reducible repeat (first | refine blk_drewN ?_ _ | refine blk_drew ?_ | refine blk_alloc ?_ _)); refine blk_far ?_ NB157_159.out _; (with_reducible repeat (first | refine blk_drewN ?_ _ | refine blk_drew ?_ | refine blk_alloc ?_ _)); refine blk_far ?_ NB157_159.out _; (with_reducible repeat (first | refine blk_drewN ?_ _ | refine blk_drew ?_ | refine blk_alloc ?_ _)); refine blk_far ?_ NB157_159.out _; (with_reducible repeat (first | refine blk_drewN ?_ _ | refine blk_drew ?_ | refine blk_alloc ?_ _)); exact BK157.out)) : gb157 ≠ gb160)); have n10_ := Aside0.mk ((by rw [hg]; exact Nat.ne_of_gt (blk_lt (g := gb157) (o := .cells #[.string (⟨#[]⟩ : ByteArray), .slice none 0 0] 29 (0, 0)) (by (with_reducible repeat (first | refine blk_drewN ?_ _ | refine blk_drew ?_ | refine blk_alloc ?_ _)); refine blk_far ?_ NB157_159.out _; (with_reducible repeat (first | refine blk_drewN ?_ _ | refine blk_drew ?_ | refine blk_alloc ?_ _)); refine blk_far ?_ NB157_159.out _; (with_reducible repeat (first | refine blk_drewN ?_ _ | refine blk_drew ?_ | refine blk_alloc ?_ _)); refine blk_far ?_ NB157_159.out _; (with_reducible repeat (first | refine blk_drewN ?_ _ | refine blk_drew ?_ | refine blk_alloc ?_ _)); exact BK157.out)) : gb160 ≠ gb157)); have n11_ := Aside0.mk ((by rw [hg]; exact Nat.ne_of_lt (blk_lt (g := gb159) (o := .cells #[.int .i64 (wrap64 (Int.tdiv a1 2)), .string (((t158.extract 0 ((ji5) : Int).toNat) ++ a2) ++ (t158.extract ((ji9) : Int).toNat t158.size)), .bool false] 47 (0, 0)) (by (with_reducible repeat (first | refine blk_drewN ?_ _ | refine blk_drew ?_ | refine blk_alloc ?_ _)); refine blk_put (cs := #[.int .i64 (wrap64 (Int.tdiv a1 2)), .string (((t158.extract 0 ((ji5) : Int).toNat) ++ a2) ++ (t158.extract ((ji9) : Int).toNat t158.size)), .bool false]) ?_ 2 _ rfl; (with_reducible repeat (first | refine blk_drewN ?_ _ | refine blk_drew ?_ | refine blk_alloc ?_ _)); refine blk_put (cs := #[.int .i64 (wrap64 (Int.tdiv a1 2)), .string (⟨#[]⟩ : ByteArray), .bool false]) ?_ 1 _ rfl; (with_reducible repeat (first | refine blk_drewN ?_ _ | refine blk_drew ?_ | refine blk_alloc ?_ _)); refine blk_put (cs := #[.int .i64 0, .string (⟨#[]⟩ : ByteArray), .bool false]) ?_ 0 _ rfl; (with_reducible repeat (first | refine blk_drewN ?_ _ | refine blk_drew ?_ | refine blk_alloc ?_ _)); exact BK159.out)) : gb159 ≠ gb160)); have n12_ := Aside0.mk ((by rw [hg]; exact Nat.ne_of_gt (blk_lt (g := gb159) (o := .cells #[.int .i64 (wrap64 (Int.tdiv a1 2)), .string (((t158.extract 0 ((ji5) : Int).toNat) ++ a2) ++ (t158.extract ((ji9) : Int).toNat t158.size)), .bool false] 47 (0, 0)) (by (with_reducible repeat (first | refine blk_drewN ?_ _ | refine blk_drew ?_ | refine blk_alloc ?_ _)); refine blk_put (cs := #[.int .i64 (wrap64 (Int.tdiv a1 2)), .string (((t158.extract 0 ((ji5) : Int).toNat) ++ a2) ++ (t158.extract ((ji9) : Int).toNat t158.size)), .bool false]) ?_ 2 _ rfl; (with_reducible repeat (first | refine blk_drewN ?_ _ | refine blk_drew ?_ | refine blk_alloc ?_ _)); refine blk_put (cs := #[.int .i64 (wrap64 (Int.tdiv a1 2)), .string (⟨#[]⟩ : ByteArray), .bool false]) ?_ 1 _ rfl; (with_reducible repeat (first | refine blk_drewN ?_ _ | refine blk_drew ?_ | refine blk_alloc ?_ _)); refine blk_put (cs := #[.int .i64 0, .string (⟨#[]⟩ : ByteArray), .bool false]) ?_ 0 _ rfl; (with_reducible repeat (first | refine blk_drewN ?_ _ | refine blk_drew ?_ | refine blk_alloc ?_ _)); exact BK159.out)) : gb160 ≠ gb159)); clear BK156; clear BK157; clear BK159; clear HB; have BK156 := n0_; have BK157 := n1_; have BK159 := n2_; have HB := n3_; have BK160 := n4_; have GW160 := n5_; have GE160 := n6_; have NB156_160 := n7_; have NB160_156 := n8_; have NB157_160 := n9_; have NB160_157 := n10_; have NB159_160 := n11_; have NB160_159 := n12_; clear n0_ n1_ n2_ n3_ n4_ n5_ n6_ n7_ n8_ n9_ n10_ n11_ n12_; clear hb hbox hg; have hnb26 := NB160_156.out; have hnc26 := NB156_160.out; have hnb27 := NB160_157.out; have hnc27 := NB157_160.out; have hnb28 := NB160_159.out; have hnc28 := NB159_160.out; have hcz29_0 : w25.cell? ⟨gb160, 0, none⟩ = some (.string (⟨#[]⟩ : ByteArray)) := (blk_cell BK160.out 0).trans rfl; have hcz29_1 : w25.cell? ⟨gb160, 1, none⟩ = some (.slice none 0 0) := (blk_cell BK160.out 1).trans rfl; have hfz29_0 := blk_frozen BK160.out 0; have hfz29_1 := blk_frozen BK160.out 1))
              go_loopg [12, 13] k (fun kq v12 v13 w' => ∃ (x12_1 : Bool) (x13_1 : Int) (x161001_1 : List (S47)) (u161001 : Value), v12 = .bool x12_1 ∧ v13 = .int .i64 x13_1 ∧ Aside0 (spec_l10Store.l0 kq (wrap64 (Int.tdiv a1 2)) x12_1 x13_1 a0_0 l0_1 (wrap64 (Int.tdiv a1 2)) (((t158.extract 0 ((ji5) : Int).toNat) ++ a2) ++ (t158.extract ((ji9) : Int).toNat t158.size)) false a0_0 x161001_1 = some (r1, r2)) ∧ Aside0 (kq ≤ k) ∧ Aside0 (Kd.R k47 47 w' w.heap.size (fun k_ => k_ ≠ gb159) u161001 x161001_1) ∧ Aside0 (w'.heap[gb156]? = some (.cells #[.string a0_0, (.slice A0_1 l0_1.length c0_1)] 29 (0, 0))) ∧ Aside0 (w'.heap[gb157]? = some (.cells #[.string (⟨#[]⟩ : ByteArray), (.slice none 0 0)] 29 (0, 0))) ∧ Aside0 (w'.heap[gb159]? = some (.cells #[.int .i64 (wrap64 (Int.tdiv a1 2)), .string (((t158.extract 0 ((ji5) : Int).toNat) ++ a2) ++ (t158.extract ((ji9) : Int).toNat t158.size)), .bool false] 47 (0, 0))) ∧ Aside0 (w'.heap[gb160]? = some (.cells #[.string a0_0, u161001] 29 (0, 0))) ∧ Aside0 (Below w.heap.size w w'))
              case atStart => exact ⟨(false), (0), (([] : List (S47))), (.slice none 0 0), (by first | rfl | (simp; done) | (simp [*]; done)), (by first | rfl | (simp; done) | (simp [*]; done)), H', ⟨Nat.le_refl _⟩, ⟨by first | exact Kd.R_nil _ _ _ _ _ | exact Kd.N_nil _ _ _ _ _ | exact Kd.V_nil _ _ _ _ _ | exact Kd.Q_nil _ _ _ _ _ | exact Kd.S_nil _ _ _ _ _⟩, ⟨by (with_reducible repeat (first | refine blk_drewN ?_ _ | refine blk_drew ?_ | refine blk_alloc ?_ _)); refine blk_far ?_ NB156_160.out _; (with_reducible repeat (first | refine blk_drewN ?_ _ | refine blk_drew ?_ | refine blk_alloc ?_ _)); refine blk_far ?_ NB156_160.out _; (with_reducible repeat (first | refine blk_drewN ?_ _ | refine blk_drew ?_ | refine blk_alloc ?_ _)); exact BK156.out⟩, ⟨by (with_reducible repeat (first | refine blk_drewN ?_ _ | refine blk_drew ?_ | refine blk_alloc ?_ _)); refine blk_far ?_ NB157_160.out _; (with_reducible repeat (first | refine blk_drewN ?_ _ | refine blk_drew ?_ | refine blk_alloc ?_ _)); refine blk_far ?_ NB157_160.out _; (with_reducible repeat (first | refine blk_drewN ?_ _ | refine blk_drew ?_ | refine blk_alloc ?_ _)); exact BK157.out⟩, ⟨by (with_reducible repeat (first | refine blk_drewN ?_ _ | refine blk_drew ?_ | refine blk_alloc ?_ _)); refine blk_far ?_ NB159_160.out _; (with_reducible repeat (first | refine blk_drewN ?_ _ | refine blk_drew ?_ | refine blk_alloc ?_ _)); refine blk_far ?_ NB159_160.out _; (with_reducible repeat (first | refine blk_drewN ?_ _ | refine blk_drew ?_ | refine blk_alloc ?_ _)); exact BK159.out⟩, ⟨by (with_reducible repeat (first | refine blk_drewN ?_ _ | refine blk_drew ?_ | refine blk_alloc ?_ _)); refine blk_put (cs := #[.string a0_0, .slice none 0 0]) ?_ 1 _ rfl; (with_reducible repeat (first | refine blk_drewN ?_ _ | refine blk_drew ?_ | refine blk_alloc ?_ _)); refine blk_put (cs := #[.string (⟨#[]⟩ : ByteArray), .slice none 0 0]) ?_ 0 _ rfl; (with_reducible repeat (first | refine blk_drewN ?_ _ | refine blk_drew ?_ | refine blk_alloc ?_ _)); exact BK160.out⟩, ⟨by repeat (first | (with_reducible first | exact HB.out | apply below_alloc | apply pw_below_drewN | apply below_drew1 | refine below_set ?_ GE156.out | refine below_set ?_ GE157.out | refine below_set ?_ GE159.out | refine below_set ?_ GE160.out) | exact HB.out)⟩⟩
              case round =>
                clear H'
                try clear c1
                try clear c2
                try clear p2
                try clear c4
                try clear c5
                try clear c6
                try clear c6b0
                try clear c6b1
                try clear p6
                try clear c7
                try clear c7b0
                try clear c7b1
                try clear c8
                try clear c8b0
                try clear c8b1
                try clear c8b2
                try clear c10
                try clear c10b0
                try clear c10b1
                try clear c11
                try clear c11b0
                try clear c11b1
                try clear c12
                try clear c12b0
                try clear c12b1
                try clear c12b2
                try clear c15
                try clear c23
                try clear c26
                try clear c27
                try clear c28
                try clear hcz16_0
                try clear hcz16_1
                try clear hcz24_0
                try clear hcz24_1
                try clear hcz29_0
                try clear hcz29_1
                try clear hfz16_0
                try clear hfz16_1
                try clear hfz24_0
                try clear hfz24_1
                try clear hfz29_0
                try clear hfz29_1
                obtain ⟨x12_1, x13_1, x161001_1, u161001, rfl, rfl, HA, HK1, HO_161001, BK156, BK157, BK159, BK160, HB⟩ := hrel
                cases gk with
                | zero => exact absurd HA.out (by simp [spec_l10Store.l0])
                | succ k1 =>
                  have H := HA.out
                  clear HA
                  simp only [spec_l10Store.l0] at H
                  by_cases c30 : x13_1 < (l0_1.length : Int)
                  · rw [if_pos c30] at H
                    have c30b0 : decide (x13_1 < (l0_1.length : Int)) = true := decide_eq_true c30
                    clear c30
                    have HC31 := Aside0.mk H
                    clear H
                    have hnb32 := NB156_157.out
                    have hnc32 := NB157_156.out
                    have hnb33 := NB156_159.out
                    have hnc33 := NB159_156.out
                    have hnb34 := NB156_160.out
                    have hnc34 := NB160_156.out
                    have hcz35_0 : wr.cell? ⟨gb156, 0, none⟩ = some (.string a0_0) := (blk_cell BK156.out 0).trans rfl
                    have hcz35_1 : wr.cell? ⟨gb156, 1, none⟩ = some (.slice A0_1 l0_1.length c0_1) := (blk_cell BK156.out 1).trans rfl
                    have hfz35_0 := blk_frozen BK156.out 0
                    have hfz35_1 := blk_frozen BK156.out 1
                    go_upto_region 10 with (fail)
                    go_cut [55] (fun v55 wc => ∃ (kq : Nat) (x55_30 : Bool), v55 = .bool x55_30 ∧ Aside0 (spec_l10Store.j1 kq (wrap64 (Int.tdiv a1 2)) x12_1 x13_1 x55_30 a0_0 l0_1 (wrap64 (Int.tdiv a1 2)) (((t158.extract 0 ((ji5) : Int).toNat) ++ a2) ++ (t158.extract ((ji9) : Int).toNat t158.size)) false a0_0 x161001_1 = some (r1, r2)) ∧ Aside0 (kq ≤ k1) ∧ Aside0 (Kd.R k47 47 wc w.heap.size (fun k_ => k_ ≠ gb159) u161001 x161001_1) ∧ Aside0 (wc.heap[gb156]? = some (.cells #[.string a0_0, (.slice A0_1 l0_1.length c0_1)] 29 (0, 0))) ∧ Aside0 (wc.heap[gb157]? = some (.cells #[.string (⟨#[]⟩ : ByteArray), (.slice none 0 0)] 29 (0, 0))) ∧ Aside0 (wc.heap[gb159]? = some (.cells #[.int .i64 (wrap64 (Int.tdiv a1 2)), .string (((t158.extract 0 ((ji5) : Int).toNat) ++ a2) ++ (t158.extract ((ji9) : Int).toNat t158.size)), .bool false] 47 (0, 0))) ∧ Aside0 (wc.heap[gb160]? = some (.cells #[.string a0_0, u161001] 29 (0, 0))) ∧ Aside0 (Below w.heap.size w wc))
                    case first =>
                      have H := HC31.out
                      clear HC31
                      by_cases c36 : x12_1 = true
                      · subst c36
                        have H1 : (spec_l10Store.j1 k1 (wrap64 (Int.tdiv a1 2)) true x13_1 false a0_0 l0_1 (wrap64 (Int.tdiv a1 2)) (((t158.extract 0 ((ji5) : Int).toNat) ++ a2) ++ (t158.extract ((ji9) : Int).toNat t158.size)) false a0_0 x161001_1) = some (r1, r2) := by rw [if_pos rfl] at H; exact H
                        clear H
                        have H := H1
                        clear H1
                        have H' := Aside0.mk H
                        clear H
                        go_wp2
                        go_meet
                        case rel => exact ⟨_, (false), (by first | rfl | (simp; done) | (simp [*]; done)), H', ⟨by have := HK1.out; first | omega | exact Nat.le_refl _⟩, ⟨by (with_reducible repeat (first | apply Kd.R_alloc | apply Kd.R_drewN | apply Kd.R_drew)); exact HO_161001.out⟩, ⟨by (with_reducible repeat (first | refine blk_drewN ?_ _ | refine blk_drew ?_ | refine blk_alloc ?_ _)); exact BK156.out⟩, ⟨by (with_reducible repeat (first | refine blk_drewN ?_ _ | refine blk_drew ?_ | refine blk_alloc ?_ _)); exact BK157.out⟩, ⟨by (with_reducible repeat (first | refine blk_drewN ?_ _ | refine blk_drew ?_ | refine blk_alloc ?_ _)); exact BK159.out⟩, ⟨by (with_reducible repeat (first | refine blk_drewN ?_ _ | refine blk_drew ?_ | refine blk_alloc ?_ _)); exact BK160.out⟩, ⟨by repeat (first | (with_reducible first | exact HB.out | apply below_alloc | apply pw_below_drewN | apply below_drew1 | refine below_set ?_ GE156.out | refine below_set ?_ GE157.out | refine below_set ?_ GE159.out | refine below_set ?_ GE160.out) | exact HB.out)⟩⟩
                      · replace c36 := Bool.eq_false_iff.mpr c36
                        subst c36
                        have H1 : (if 0 ≤ x13_1 then (spec_l10Store.j1 k1 (wrap64 (Int.tdiv a1 2)) false x13_1 (decide (((rd_T47 l0_1 x13_1).f0) ≥ (wrap64 (Int.tdiv a1 2)))) a0_0 l0_1 (wrap64 (Int.tdiv a1 2)) (((t158.extract 0 ((ji5) : Int).toNat) ++ a2) ++ (t158.extract ((ji9) : Int).toNat t158.size)) false a0_0 x161001_1) else (none)) = some (r1, r2) := by rw [if_neg (show ¬ (false = true) by decide)] at H; exact H
                        clear H
                        have H := H1
                        clear H1
                        by_cases c37 : 0 ≤ x13_1
                        · rw [if_pos c37] at H
                          have c37b0 : decide (0 ≤ x13_1) = true := decide_eq_true c37
                          clear c37
                          (first | rw [c37b0] | (simp only [i64_w, i32_w]; rw [c37b0]) | skip)
                          have H' := Aside0.mk H
                          clear H
                          have hnb38 := NB156_157.out
                          have hnc38 := NB157_156.out
                          have hnb39 := NB156_159.out
                          have hnc39 := NB159_156.out
                          have hnb40 := NB156_160.out
                          have hnc40 := NB160_156.out
                          have hcz41_0 : wr.cell? ⟨gb156, 0, none⟩ = some (.string a0_0) := (blk_cell BK156.out 0).trans rfl
                          have hcz41_1 : wr.cell? ⟨gb156, 1, none⟩ = some (.slice A0_1 l0_1.length c0_1) := (blk_cell BK156.out 1).trans rfl
                          have hfz41_0 := blk_frozen BK156.out 0
                          have hfz41_1 := blk_frozen BK156.out 1
                          have p164 : 0 ≤ (x13_1 : Int) := of_decide_eq_true (by first | (with_reducible assumption) | assumption)
                          have q164 : x13_1 < (l0_1.length : Int) := of_decide_eq_true (by first | (with_reducible assumption) | assumption)
                          obtain ⟨ad164, e164, hx164_0, hx164_1, hx164_2⟩ := at_T47 HR0_1.out x13_1 p164 q164
                          cases e164
                          replace hx164_0 := (HB.out.cell (World.block_lt_of_cell? w _ hx164_0)).trans hx164_0
                          replace hx164_1 := (HB.out.cell (World.block_lt_of_cell? w _ hx164_1)).trans hx164_1
                          replace hx164_2 := (HB.out.cell (World.block_lt_of_cell? w _ hx164_2)).trans hx164_2
                          replace p164 := eq_true p164
                          replace q164 := eq_true q164
                          go_wp2
                          go_meet
                          case rel => exact ⟨_, (decide (((rd_T47 l0_1 x13_1).f0) ≥ (wrap64 (Int.tdiv a1 2)))), (by first | rfl | (simp; done) | (simp [*]; done)), H', ⟨by have := HK1.out; first | omega | exact Nat.le_refl _⟩, ⟨by (with_reducible repeat (first | apply Kd.R_alloc | apply Kd.R_drewN | apply Kd.R_drew)); exact HO_161001.out⟩, ⟨by (with_reducible repeat (first | refine blk_drewN ?_ _ | refine blk_drew ?_ | refine blk_alloc ?_ _)); exact BK156.out⟩, ⟨by (with_reducible repeat (first | refine blk_drewN ?_ _ | refine blk_drew ?_ | refine blk_alloc ?_ _)); exact BK157.out⟩, ⟨by (with_reducible repeat (first | refine blk_drewN ?_ _ | refine blk_drew ?_ | refine blk_alloc ?_ _)); exact BK159.out⟩, ⟨by (with_reducible repeat (first | refine blk_drewN ?_ _ | refine blk_drew ?_ | refine blk_alloc ?_ _)); exact BK160.out⟩, ⟨by repeat (first | (with_reducible first | exact HB.out | apply below_alloc | apply pw_below_drewN | apply below_drew1 | refine below_set ?_ GE156.out | refine below_set ?_ GE157.out | refine below_set ?_ GE159.out | refine below_set ?_ GE160.out) | exact HB.out)⟩⟩
                        · rw [if_neg c37] at H
                          exact absurd H (by simp)
                    case rest =>
                      clear HC31
                      try clear c1
                      try clear p1
                      try clear q1
                      try clear hx1
                      try clear c2
                      try clear p2
                      try clear c3
                      try clear c4
                      try clear c5
                      try clear c6
                      try clear c6b0
                      try clear c6b1
                      try clear p6
                      try clear c7
                      try clear c7b0
                      try clear c7b1
                      try clear c8
                      try clear c8b0
                      try clear c8b1
                      try clear c8b2
                      try clear c10
                      try clear c10b0
                      try clear c10b1
                      try clear c11
                      try clear c11b0
                      try clear c11b1
                      try clear c12
                      try clear c12b0
                      try clear c12b1
                      try clear c12b2
                      try clear c15
                      try clear p16
                      try clear q16
                      try clear hx16
                      try clear c23
                      try clear c26
                      try clear c27
                      try clear c28
                      try clear c30
                      try clear c30b0
                      try clear c32
                      try clear c33
                      try clear c34
                      try clear c36
                      try clear c37
                      try clear c37b0
                      try clear c38
                      try clear c39
                      try clear c40
                      try clear hcz16_0
                      try clear hcz16_1
                      try clear hcz24_0
                      try clear hcz24_1
                      try clear hcz29_0
                      try clear hcz29_1
                      try clear hcz35_0
                      try clear hcz35_1
                      try clear hcz41_0
                      try clear hcz41_1
                      try clear hfz16_0
                      try clear hfz16_1
                      try clear hfz24_0
                      try clear hfz24_1
                      try clear hfz29_0
                      try clear hfz29_1
                      try clear hfz35_0
                      try clear hfz35_1
                      try clear hfz41_0
                      try clear hfz41_1
                      try clear hx164_0
                      try clear hx164_1
                      try clear hx164_2
                      try clear p164
                      try clear p2
                      try clear p6
                      try clear q164
                      obtain ⟨kq, x55_30, rfl, HA, HJ30, HO_161001, BK156, BK157, BK159, BK160, HB⟩ := hcut
                      cases kq with
                      | zero => exact absurd HA.out (by simp [spec_l10Store.j1])
                      | succ kj30 =>
                        have H := HA.out
                        clear HA
                        simp only [spec_l10Store.j1] at H
                        by_cases c42 : x55_30 = true
                        · subst c42
                          have H1 : (if x161001_1.length < 4398046511104 then ((some (x161001_1 ++ [(⟨(wrap64 (Int.tdiv a1 2)), (((t158.extract 0 ((ji5) : Int).toNat) ++ a2) ++ (t158.extract ((ji9) : Int).toNat t158.size)), false⟩ : S47)] : List (S47))).bind fun y165 => (if 0 ≤ x13_1 then (if x13_1 < (l0_1.length : Int) then (if ((rd_T47 l0_1 x13_1).f0) = (wrap64 (Int.tdiv a1 2)) then (spec_l10Store.l0 kj30 (wrap64 (Int.tdiv a1 2)) true (wrap64 (x13_1 + 1)) a0_0 l0_1 (wrap64 (Int.tdiv a1 2)) (((t158.extract 0 ((ji5) : Int).toNat) ++ a2) ++ (t158.extract ((ji9) : Int).toNat t158.size)) false a0_0 y165) else (if y165.length < 4398046511104 then (spec_l10Store.l0 kj30 (wrap64 (Int.tdiv a1 2)) true (wrap64 (x13_1 + 1)) a0_0 l0_1 (wrap64 (Int.tdiv a1 2)) (((t158.extract 0 ((ji5) : Int).toNat) ++ a2) ++ (t158.extract ((ji9) : Int).toNat t158.size)) false a0_0 (y165 ++ [(⟨(rd_T47 l0_1 x13_1).f0, (rd_T47 l0_1 x13_1).f1, (rd_T47 l0_1 x13_1).f2⟩ : S47)])) else (none))) else (none)) else (none))) else (none)) = some (r1, r2) := by rw [if_pos rfl] at H; exact H
                          clear H
                          have H := H1
                          clear H1
                          by_cases c43 : x161001_1.length < 4398046511104
                          · rw [if_pos c43] at H
                            have LMc43 := Aside0.mk c43
                            clear c43
                            obtain ⟨y165, hy165⟩ : ∃ y_ : List (S47), y_ = (x161001_1 ++ [(⟨(wrap64 (Int.tdiv a1 2)), (((t158.extract 0 ((ji5) : Int).toNat) ++ a2) ++ (t158.extract ((ji9) : Int).toNat t158.size)), false⟩ : S47)]) := ⟨_, rfl⟩
                            replace H : (if 0 ≤ x13_1 then (if x13_1 < (l0_1.length : Int) then (if ((rd_T47 l0_1 x13_1).f0) = (wrap64 (Int.tdiv a1 2)) then (spec_l10Store.l0 kj30 (wrap64 (Int.tdiv a1 2)) true (wrap64 (x13_1 + 1)) a0_0 l0_1 (wrap64 (Int.tdiv a1 2)) (((t158.extract 0 ((ji5) : Int).toNat) ++ a2) ++ (t158.extract ((ji9) : Int).toNat t158.size)) false a0_0 y165) else (if y165.length < 4398046511104 then (spec_l10Store.l0 kj30 (wrap64 (Int.tdiv a1 2)) true (wrap64 (x13_1 + 1)) a0_0 l0_1 (wrap64 (Int.tdiv a1 2)) (((t158.extract 0 ((ji5) : Int).toNat) ++ a2) ++ (t158.extract ((ji9) : Int).toNat t158.size)) false a0_0 (y165 ++ [(⟨(rd_T47 l0_1 x13_1).f0, (rd_T47 l0_1 x13_1).f1, (rd_T47 l0_1 x13_1).f2⟩ : S47)])) else (none))) else (none)) else (none)) = some (r1, r2) := by first | (rw [hy165]; with_reducible exact H) | (have H2_ := (Option.bind_some _ _).symm.trans H; rw [hy165]; with_reducible exact H2_) | (have H2_ := (Option.bind_some _ _).symm.trans H; with_reducible exact H2_) | with_reducible exact H | (rw [hy165]; exact H) | exact H
                            have Ny165 := Aside0.mk hy165
                            clear hy165
                            by_cases c44 : 0 ≤ x13_1
                            · rw [if_pos c44] at H
                              have c44b0 : decide (0 ≤ x13_1) = true := decide_eq_true c44
                              clear c44
                              by_cases c45 : x13_1 < (l0_1.length : Int)
                              · rw [if_pos c45] at H
                                have c45b0 : decide (x13_1 < (l0_1.length : Int)) = true := decide_eq_true c45
                                clear c45
                                by_cases c46 : ((rd_T47 l0_1 x13_1).f0) = (wrap64 (Int.tdiv a1 2))
                                · rw [if_pos c46] at H
                                  have c46b0 : (((rd_T47 l0_1 x13_1).f0) == (wrap64 (Int.tdiv a1 2))) = true := beq_iff_eq.mpr c46
                                  have c46b1 : (((rd_T47 l0_1 x13_1).f0) != (wrap64 (Int.tdiv a1 2))) = false := bne_eq_false_iff_eq.mpr c46
                                  clear c46
                                  have H' := Aside0.mk H
                                  clear H
                                  have hnb47 := NB160_156.out
                                  have hnc47 := NB156_160.out
                                  have hnb48 := NB160_157.out
                                  have hnc48 := NB157_160.out
                                  have hnb49 := NB160_159.out
                                  have hnc49 := NB159_160.out
                                  have hcz50_0 : wc.cell? ⟨gb160, 0, none⟩ = some (.string a0_0) := (blk_cell BK160.out 0).trans rfl
                                  have hcz50_1 : wc.cell? ⟨gb160, 1, none⟩ = some (u161001) := (blk_cell BK160.out 1).trans rfl
                                  have hfz50_0 := blk_frozen BK160.out 0
                                  have hfz50_1 := blk_frozen BK160.out 1
                                  have hnb51 := NB159_156.out
                                  have hnc51 := NB156_159.out
                                  have hnb52 := NB159_157.out
                                  have hnc52 := NB157_159.out
                                  have hcz53_0 : wc.cell? ⟨gb159, 0, none⟩ = some (.int .i64 (wrap64 (Int.tdiv a1 2))) := (blk_cell BK159.out 0).trans rfl
                                  have hcz53_1 : wc.cell? ⟨gb159, 1, none⟩ = some (.string (((t158.extract 0 ((ji5) : Int).toNat) ++ a2) ++ (t158.extract ((ji9) : Int).toNat t158.size))) := (blk_cell BK159.out 1).trans rfl
                                  have hcz53_2 : wc.cell? ⟨gb159, 2, none⟩ = some (.bool false) := (blk_cell BK159.out 2).trans rfl
                                  have hfz53_0 := blk_frozen BK159.out 0
                                  have hfz53_1 := blk_frozen BK159.out 1
                                  have hfz53_2 := blk_frozen BK159.out 2
                                  go_wp2_with (first | ((with_reducible refine gate_builtin (b := .append) (xs := #[.tmp 57, .tmp 59]) rfl ?_); at_builtin; refine Kd.R_append k47 (w0 := w) w.heap.size rfl (.tmp 57) (.tmp 59) 27 47 (.agg #[(.int .i64 0), (.string ⟨#[]⟩), (.bool false)]) 32 rfl Try.underlying27 info47 rfl (by decide) (by omega) u161001 x161001_1 (⟨(wrap64 (Int.tdiv a1 2)), (((t158.extract 0 ((ji5) : Int).toNat) ++ a2) ++ (t158.extract ((ji9) : Int).toNat t158.size)), false⟩ : S47) [.int .i64 (wrap64 (Int.tdiv a1 2)), .string (((t158.extract 0 ((ji5) : Int).toNat) ++ a2) ++ (t158.extract ((ji9) : Int).toNat t158.size)), .bool false] (fun k_ => k_ ≠ gb159) (fun _ => False) rfl rfl ?aP (fun _ hk => hk.elim) ?aF ?aO ?aB ?aS ?aL ?_; (case aP => exact k47_mkM _ _ _ (⟨(wrap64 (Int.tdiv a1 2)), (((t158.extract 0 ((ji5) : Int).toNat) ++ a2) ++ (t158.extract ((ji9) : Int).toNat t158.size)), false⟩ : S47)); (case aB => exact (by repeat (first | (with_reducible first | exact HB.out | apply below_alloc | apply pw_below_drewN | apply below_drew1 | refine below_set ?_ GE156.out | refine below_set ?_ GE157.out | refine below_set ?_ GE159.out | refine below_set ?_ GE160.out) | exact HB.out))); (case aF => exact (fun k_ hk => Kd.freshB (g := gb159) (o := .cells #[.int .i64 (wrap64 (Int.tdiv a1 2)), .string (((t158.extract 0 ((ji5) : Int).toNat) ++ a2) ++ (t158.extract ((ji9) : Int).toNat t158.size)), .bool false] 47 (0, 0)) (by (with_reducible repeat (first | refine blk_drewN ?_ _ | refine blk_drew ?_ | refine blk_alloc ?_ _)); exact BK159.out) k_ hk)); (case aO => exact (by (with_reducible repeat (first | apply Kd.R_alloc | apply Kd.R_drewN | apply Kd.R_drew)); exact HO_161001.out)); (case aS => exact (below_size (by repeat (first | (with_reducible first | exact HB.out | apply below_alloc | apply pw_below_drewN | apply below_drew1 | refine below_set ?_ GE156.out | refine below_set ?_ GE157.out | refine below_set ?_ GE159.out | refine below_set ?_ GE160.out) | exact HB.out)))); (case aL => have := LMc43.out; omega); intro v166 w54 ho hb hg hat; rw [← Ny165.out] at ho; have n0_ := Aside0.mk (blk_grown (g := gb156) (o := .cells #[.string a0_0, .slice A0_1 l0_1.length c0_1] 29 (0, 0)) (by (with_reducible repeat (first | refine blk_drewN ?_ _ | refine blk_drew ?_ | refine blk_alloc ?_ _)); exact BK156.out) hg (Kd.R_ne HO_161001.out BK156.out (by decide))); have n1_ := Aside0.mk (blk_grown (g := gb157) (o := .cells #[.string (⟨#[]⟩ : ByteArray), .slice none 0 0] 29 (0, 0)) (by (with_reducible repeat (first | refine blk_drewN ?_ _ | refine blk_drew ?_ | refine blk_alloc ?_ _)); exact BK157.out) hg (Kd.R_ne HO_161001.out BK157.out (by decide))); have n2_ := Aside0.mk (blk_grown (g := gb159) (o := .cells #[.int .i64 (wrap64 (Int.tdiv a1 2)), .string (((t158.extract 0 ((ji5) : Int).toNat) ++ a2) ++ (t158.extract ((ji9) : Int).toNat t158.size)), .bool false] 47 (0, 0)) (by (with_reducible repeat (first | refine blk_drewN ?_ _ | refine blk_drew ?_ | refine blk_alloc ?_ _)); exact BK159.out) hg (Kd.R_away HO_161001.out (fun _ hk => hk))); have n3_ := Aside0.mk (blk_grown (g := gb160) (o := .cells #[.string a0_0, u161001] 29 (0, 0)) (by (with_reducible repeat (first | refine blk_drewN ?_ _ | refine blk_drew ?_ | refine blk_alloc ?_ _)); exact BK160.out) hg (Kd.R_ne HO_161001.out BK160.out (by decide))); have n4_ := Aside0.mk (hb); have n5_ := Aside0.mk (ho); clear BK156; clear BK157; clear BK159; clear BK160; clear HB; clear HO_161001; have BK156 := n0_; have BK157 := n1_; have BK159 := n2_; have BK160 := n3_; have HB := n4_; have HO167 := n5_; clear n0_ n1_ n2_ n3_ n4_ n5_; clear ho hb hg hat; obtain ⟨Ao55, co55, eo55⟩ := Kd.R_slice HO167.out; subst eo55; have hcz56_0 : w54.cell? ⟨gb160, 0, none⟩ = some (.string a0_0) := (blk_cell BK160.out 0).trans rfl; have hcz56_1 : w54.cell? ⟨gb160, 1, none⟩ = some (u161001) := (blk_cell BK160.out 1).trans rfl; have hfz56_0 := blk_frozen BK160.out 0; have hfz56_1 := blk_frozen BK160.out 1; have hnb57 := NB156_157.out; have hnc57 := NB157_156.out; have hcz58_0 : w54.cell? ⟨gb156, 0, none⟩ = some (.string a0_0) := (blk_cell BK156.out 0).trans rfl; have hcz58_1 : w54.cell? ⟨gb156, 1, none⟩ = some (.slice A0_1 l0_1.length c0_1) := (blk_cell BK156.out 1).trans rfl; have hfz58_0 := blk_frozen BK156.out 0; have hfz58_1 := blk_frozen BK156.out 1; have p168 : 0 ≤ (x13_1 : Int) := of_decide_eq_true (by first | (with_reducible assumption) | assumption); have q168 : x13_1 < (l0_1.length : Int) := of_decide_eq_true (by first | (with_reducible assumption) | assumption); obtain ⟨ad168, e168, hx168_0, hx168_1, hx168_2⟩ := at_T47 HR0_1.out x13_1 p168 q168; cases e168; have hn168_0 : ad168.block ≠ gb160 := Nat.ne_of_lt (Nat.lt_of_lt_of_le (by have := World.block_lt_of_cell? _ _ hx168_0; first | rwa [add_block] at this | exact this) GW160.out); replace hx168_0 := (HB.out.cell (World.block_lt_of_cell? w _ hx168_0)).trans hx168_0; replace hx168_1 := (HB.out.cell (World.block_lt_of_cell? w _ hx168_1)).trans hx168_1; replace hx168_2 := (HB.out.cell (World.block_lt_of_cell? w _ hx168_2)).trans hx168_2; replace hx168_0 := (cell_far (p := ⟨gb160, 1, none⟩) (by first | (rw [add_block]; exact hn168_0) | (show (Addr.add _ _).block ≠ _; rw [add_block]; exact hn168_0) | exact hn168_0) (.slice Ao55 y165.length co55)).trans hx168_0; replace hx168_1 := (cell_far (p := ⟨gb160, 1, none⟩) (by first | (rw [add_block]; exact hn168_0) | (show (Addr.add _ _).block ≠ _; rw [add_block]; exact hn168_0) | exact hn168_0) (.slice Ao55 y165.length co55)).trans hx168_1; replace hx168_2 := (cell_far (p := ⟨gb160, 1, none⟩) (by first | (rw [add_block]; exact hn168_0) | (show (Addr.add _ _).block ≠ _; rw [add_block]; exact hn168_0) | exact hn168_0) (.slice Ao55 y165.length co55)).trans hx168_2; clear hn168_0; replace p168 := eq_true p168; replace q168 := eq_true q168))
                                  go_roundg kj30
                                  case measure => have := HK1.out; have := HJ30.out; omega
                                  case rel => exact ⟨(true), (wrap64 (x13_1 + 1)), (y165), (.slice Ao55 y165.length co55), (by first | rfl | (simp; done) | (simp [*]; done)), (by first | rfl | (simp; done) | (simp [*]; done)), H', ⟨by have := HK1.out; have := HJ30.out; omega⟩, ⟨by (with_reducible repeat (first | apply Kd.R_alloc | apply Kd.R_drewN | apply Kd.R_drew)); exact Kd.R_mono (Kd.R_far (p := ⟨gb160, 1, none⟩) (Kd.R_types HO167.out BK160.out (by decide)) (fun _ hk => hk.2) (.slice Ao55 y165.length co55)) (fun _ hk => hk.1)⟩, ⟨by (with_reducible repeat (first | refine blk_drewN ?_ _ | refine blk_drew ?_ | refine blk_alloc ?_ _)); refine blk_far ?_ NB156_160.out _; (with_reducible repeat (first | refine blk_drewN ?_ _ | refine blk_drew ?_ | refine blk_alloc ?_ _)); exact BK156.out⟩, ⟨by (with_reducible repeat (first | refine blk_drewN ?_ _ | refine blk_drew ?_ | refine blk_alloc ?_ _)); refine blk_far ?_ NB157_160.out _; (with_reducible repeat (first | refine blk_drewN ?_ _ | refine blk_drew ?_ | refine blk_alloc ?_ _)); exact BK157.out⟩, ⟨by (with_reducible repeat (first | refine blk_drewN ?_ _ | refine blk_drew ?_ | refine blk_alloc ?_ _)); refine blk_far ?_ NB159_160.out _; (with_reducible repeat (first | refine blk_drewN ?_ _ | refine blk_drew ?_ | refine blk_alloc ?_ _)); exact BK159.out⟩, ⟨by (with_reducible repeat (first | refine blk_drewN ?_ _ | refine blk_drew ?_ | refine blk_alloc ?_ _)); refine blk_put (cs := #[.string a0_0, u161001]) ?_ 1 _ rfl; (with_reducible repeat (first | refine blk_drewN ?_ _ | refine blk_drew ?_ | refine blk_alloc ?_ _)); exact BK160.out⟩, ⟨by repeat (first | (with_reducible first | exact HB.out | apply below_alloc | apply pw_below_drewN | apply below_drew1 | refine below_set ?_ GE156.out | refine below_set ?_ GE157.out | refine below_set ?_ GE159.out | refine below_set ?_ GE160.out) | exact HB.out)⟩⟩
                                · rw [if_neg c46] at H
                                  have c46b0 : (((rd_T47 l0_1 x13_1).f0) == (wrap64 (Int.tdiv a1 2))) = false := beq_eq_false_iff_ne.mpr c46
                                  have c46b1 : (((rd_T47 l0_1 x13_1).f0) != (wrap64 (Int.tdiv a1 2))) = true := bne_iff_ne.mpr c46
                                  by_cases c59 : y165.length < 4398046511104
                                  · rw [if_pos c59] at H
                                    have LMc59 := Aside0.mk c59
                                    clear c59
                                    obtain ⟨y170, hy170⟩ : ∃ y_ : List (S47), y_ = (y165 ++ [(⟨(rd_T47 l0_1 x13_1).f0, (rd_T47 l0_1 x13_1).f1, (rd_T47 l0_1 x13_1).f2⟩ : S47)]) := ⟨_, rfl⟩
                                    replace H : (spec_l10Store.l0 kj30 (wrap64 (Int.tdiv a1 2)) true (wrap64 (x13_1 + 1)) a0_0 l0_1 (wrap64 (Int.tdiv a1 2)) (((t158.extract 0 ((ji5) : Int).toNat) ++ a2) ++ (t158.extract ((ji9) : Int).toNat t158.size)) false a0_0 y170) = some (r1, r2) := by first | (rw [hy170]; with_reducible exact H) | (have H2_ := (Option.bind_some _ _).symm.trans H; rw [hy170]; with_reducible exact H2_) | (have H2_ := (Option.bind_some _ _).symm.trans H; with_reducible exact H2_) | with_reducible exact H | (rw [hy170]; exact H) | exact H
                                    have Ny170 := Aside0.mk hy170
                                    clear hy170
                                    have H' := Aside0.mk H
                                    clear H
                                    have hnb60 := NB160_156.out
                                    have hnc60 := NB156_160.out
                                    have hnb61 := NB160_157.out
                                    have hnc61 := NB157_160.out
                                    have hnb62 := NB160_159.out
                                    have hnc62 := NB159_160.out
                                    have hcz63_0 : wc.cell? ⟨gb160, 0, none⟩ = some (.string a0_0) := (blk_cell BK160.out 0).trans rfl
                                    have hcz63_1 : wc.cell? ⟨gb160, 1, none⟩ = some (u161001) := (blk_cell BK160.out 1).trans rfl
                                    have hfz63_0 := blk_frozen BK160.out 0
                                    have hfz63_1 := blk_frozen BK160.out 1
                                    have hnb64 := NB159_156.out
                                    have hnc64 := NB156_159.out
                                    have hnb65 := NB159_157.out
                                    have hnc65 := NB157_159.out
                                    have hcz66_0 : wc.cell? ⟨gb159, 0, none⟩ = some (.int .i64 (wrap64 (Int.tdiv a1 2))) := (blk_cell BK159.out 0).trans rfl
                                    have hcz66_1 : wc.cell? ⟨gb159, 1, none⟩ = some (.string (((t158.extract 0 ((ji5) : Int).toNat) ++ a2) ++ (t158.extract ((ji9) : Int).toNat t158.size))) := (blk_cell BK159.out 1).trans rfl
                                    have hcz66_2 : wc.cell? ⟨gb159, 2, none⟩ = some (.bool false) := (blk_cell BK159.out 2).trans rfl
                                    have hfz66_0 := blk_frozen BK159.out 0
                                    have hfz66_1 := blk_frozen BK159.out 1
                                    have hfz66_2 := blk_frozen BK159.out 2
                                    try go_wp2_with (first | ((with_reducible refine gate_builtin (b := .append) (xs := #[.tmp 57, .tmp 59]) rfl ?_); at_builtin; refine Kd.R_append k47 (w0 := w) w.heap.size rfl (.tmp 57) (.tmp 59) 27 47 (.agg #[(.int .i64 0), (.string ⟨#[]⟩), (.bool false)]) 32 rfl Try.underlying27 info47 rfl (by decide) (by omega) u161001 x161001_1 (⟨(wrap64 (Int.tdiv a1 2)), (((t158.extract 0 ((ji5) : Int).toNat) ++ a2) ++ (t158.extract ((ji9) : Int).toNat t158.size)), false⟩ : S47) [.int .i64 (wrap64 (Int.tdiv a1 2)), .string (((t158.extract 0 ((ji5) : Int).toNat) ++ a2) ++ (t158.extract ((ji9) : Int).toNat t158.size)), .bool false] (fun k_ => k_ ≠ gb159) (fun _ => False) rfl rfl ?aP (fun _ hk => hk.elim) ?aF ?aO ?aB ?aS ?aL ?_; (case aP => exact k47_mkM _ _ _ (⟨(wrap64 (Int.tdiv a1 2)), (((t158.extract 0 ((ji5) : Int).toNat) ++ a2) ++ (t158.extract ((ji9) : Int).toNat t158.size)), false⟩ : S47)); (case aB => exact (by repeat (first | (with_reducible first | exact HB.out | apply below_alloc | apply pw_below_drewN | apply below_drew1 | refine below_set ?_ GE156.out | refine below_set ?_ GE157.out | refine below_set ?_ GE159.out | refine below_set ?_ GE160.out) | exact HB.out))); (case aF => exact (fun k_ hk => Kd.freshB (g := gb159) (o := .cells #[.int .i64 (wrap64 (Int.tdiv a1 2)), .string (((t158.extract 0 ((ji5) : Int).toNat) ++ a2) ++ (t158.extract ((ji9) : Int).toNat t158.size)), .bool false] 47 (0, 0)) (by (with_reducible repeat (first | refine blk_drewN ?_ _ | refine blk_drew ?_ | refine blk_alloc ?_ _)); exact BK159.out) k_ hk)); (case aO => exact (by (with_reducible repeat (first | apply Kd.R_alloc | apply Kd.R_drewN | apply Kd.R_drew)); exact HO_161001.out)); (case aS => exact (below_size (by repeat (first | (with_reducible first | exact HB.out | apply below_alloc | apply pw_below_drewN | apply below_drew1 | refine below_set ?_ GE156.out | refine below_set ?_ GE157.out | refine below_set ?_ GE159.out | refine below_set ?_ GE160.out) | exact HB.out)))); (case aL => have := LMc43.out; omega); intro v166 w67 ho hb hg hat; rw [← Ny165.out] at ho; have n0_ := Aside0.mk (blk_grown (g := gb156) (o := .cells #[.string a0_0, .slice A0_1 l0_1.length c0_1] 29 (0, 0)) (by (with_reducible repeat (first | refine blk_drewN ?_ _ | refine blk_drew ?_ | refine blk_alloc ?_ _)); exact BK156.out) hg (Kd.R_ne HO_161001.out BK156.out (by decide))); have n1_ := Aside0.mk (blk_grown (g := gb157) (o := .cells #[.string (⟨#[]⟩ : ByteArray), .slice none 0 0] 29 (0, 0)) (by (with_reducible repeat (first | refine blk_drewN ?_ _ | refine blk_drew ?_ | refine blk_alloc ?_ _)); exact BK157.out) hg (Kd.R_ne HO_161001.out BK157.out (by decide))); have n2_ := Aside0.mk (blk_grown (g := gb159) (o := .cells #[.int .i64 (wrap64 (Int.tdiv a1 2)), .string (((t158.extract 0 ((ji5) : Int).toNat) ++ a2) ++ (t158.extract ((ji9) : Int).toNat t158.size)), .bool false] 47 (0, 0)) (by (with_reducible repeat (first | refine blk_drewN ?_ _ | refine blk_drew ?_ | refine blk_alloc ?_ _)); exact BK159.out) hg (Kd.R_away HO_161001.out (fun _ hk => hk))); have n3_ := Aside0.mk (blk_grown (g := gb160) (o := .cells #[.string a0_0, u161001] 29 (0, 0)) (by (with_reducible repeat (first | refine blk_drewN ?_ _ | refine blk_drew ?_ | refine blk_alloc ?_ _)); exact BK160.out) hg (Kd.R_ne HO_161001.out BK160.out (by decide))); have n4_ := Aside0.mk (hb); have n5_ := Aside0.mk (ho); clear BK156; clear BK157; clear BK159; clear BK160; clear HB; clear HO_161001; have BK156 := n0_; have BK157 := n1_; have BK159 := n2_; have BK160 := n3_; have HB := n4_; have HO167 := n5_; clear n0_ n1_ n2_ n3_ n4_ n5_; clear ho hb hg hat; obtain ⟨Ao68, co68, eo68⟩ := Kd.R_slice HO167.out; subst eo68; have hcz69_0 : w67.cell? ⟨gb160, 0, none⟩ = some (.string a0_0) := (blk_cell BK160.out 0).trans rfl; have hcz69_1 : w67.cell? ⟨gb160, 1, none⟩ = some (u161001) := (blk_cell BK160.out 1).trans rfl; have hfz69_0 := blk_frozen BK160.out 0; have hfz69_1 := blk_frozen BK160.out 1; have hnb70 := NB156_157.out; have hnc70 := NB157_156.out; have hcz71_0 : w67.cell? ⟨gb156, 0, none⟩ = some (.string a0_0) := (blk_cell BK156.out 0).trans rfl; have hcz71_1 : w67.cell? ⟨gb156, 1, none⟩ = some (.slice A0_1 l0_1.length c0_1) := (blk_cell BK156.out 1).trans rfl; have hfz71_0 := blk_frozen BK156.out 0; have hfz71_1 := blk_frozen BK156.out 1; have p168 : 0 ≤ (x13_1 : Int) := of_decide_eq_true (by first | (with_reducible assumption) | assumption); have q168 : x13_1 < (l0_1.length : Int) := of_decide_eq_true (by first | (with_reducible assumption) | assumption); obtain ⟨ad168, e168, hx168_0, hx168_1, hx168_2⟩ := at_T47 HR0_1.out x13_1 p168 q168; cases e168; have hn168_0 : ad168.block ≠ gb160 := Nat.ne_of_lt (Nat.lt_of_lt_of_le (by have := World.block_lt_of_cell? _ _ hx168_0; first | rwa [add_block] at this | exact this) GW160.out); replace hx168_0 := (HB.out.cell (World.block_lt_of_cell? w _ hx168_0)).trans hx168_0; replace hx168_1 := (HB.out.cell (World.block_lt_of_cell? w _ hx168_1)).trans hx168_1; replace hx168_2 := (HB.out.cell (World.block_lt_of_cell? w _ hx168_2)).trans hx168_2; replace hx168_0 := (cell_far (p := ⟨gb160, 1, none⟩) (by first | (rw [add_block]; exact hn168_0) | (show (Addr.add _ _).block ≠ _; rw [add_block]; exact hn168_0) | exact hn168_0) (.slice Ao68 y165.length co68)).trans hx168_0; replace hx168_1 := (cell_far (p := ⟨gb160, 1, none⟩) (by first | (rw [add_block]; exact hn168_0) | (show (Addr.add _ _).block ≠ _; rw [add_block]; exact hn168_0) | exact hn168_0) (.slice Ao68 y165.length co68)).trans hx168_1; replace hx168_2 := (cell_far (p := ⟨gb160, 1, none⟩) (by first | (rw [add_block]; exact hn168_0) | (show (Addr.add _ _).block ≠ _; rw [add_block]; exact hn168_0) | exact hn168_0) (.slice Ao68 y165.length co68)).trans hx168_2; clear hn168_0; replace p168 := eq_true p168; replace q168 := eq_true q168))
                                    have n0_ : Aside0 (Kd.R k47 47 (w67.setCell ⟨gb160, 1, none⟩ (.slice Ao68 y165.length co68)) w.heap.size (fun k_ => k_ ≠ gb159) (.slice Ao68 y165.length co68) y165) := ⟨by (with_reducible repeat (first | apply Kd.R_alloc | apply Kd.R_drewN | apply Kd.R_drew)); exact Kd.R_mono (Kd.R_far (p := ⟨gb160, 1, none⟩) (Kd.R_types HO167.out BK160.out (by decide)) (fun _ hk => hk.2) (.slice Ao68 y165.length co68)) (fun _ hk => hk.1)⟩
                                    have n1_ : Aside0 ((w67.setCell ⟨gb160, 1, none⟩ (.slice Ao68 y165.length co68)).heap[gb156]? = some (.cells #[.string a0_0, .slice (some ad168) l0_1.length c0_1] 29 (0, 0))) := ⟨by (with_reducible repeat (first | refine blk_drewN ?_ _ | refine blk_drew ?_ | refine blk_alloc ?_ _)); refine blk_far ?_ NB156_160.out _; (with_reducible repeat (first | refine blk_drewN ?_ _ | refine blk_drew ?_ | refine blk_alloc ?_ _)); exact BK156.out⟩
                                    have n2_ : Aside0 ((w67.setCell ⟨gb160, 1, none⟩ (.slice Ao68 y165.length co68)).heap[gb157]? = some (.cells #[.string (⟨#[]⟩ : ByteArray), .slice none 0 0] 29 (0, 0))) := ⟨by (with_reducible repeat (first | refine blk_drewN ?_ _ | refine blk_drew ?_ | refine blk_alloc ?_ _)); refine blk_far ?_ NB157_160.out _; (with_reducible repeat (first | refine blk_drewN ?_ _ | refine blk_drew ?_ | refine blk_alloc ?_ _)); exact BK157.out⟩
                                    have n3_ : Aside0 ((w67.setCell ⟨gb160, 1, none⟩ (.slice Ao68 y165.length co68)).heap[gb159]? = some (.cells #[.int .i64 (wrap64 (Int.tdiv a1 2)), .string (((t158.extract 0 ((ji5) : Int).toNat) ++ a2) ++ (t158.extract ((ji9) : Int).toNat t158.size)), .bool false] 47 (0, 0))) := ⟨by (with_reducible repeat (first | refine blk_drewN ?_ _ | refine blk_drew ?_ | refine blk_alloc ?_ _)); refine blk_far ?_ NB159_160.out _; (with_reducible repeat (first | refine blk_drewN ?_ _ | refine blk_drew ?_ | refine blk_alloc ?_ _)); exact BK159.out⟩
                                    have n4_ : Aside0 ((w67.setCell ⟨gb160, 1, none⟩ (.slice Ao68 y165.length co68)).heap[gb160]? = some (.cells #[.string a0_0, .slice Ao68 y165.length co68] 29 (0, 0))) := ⟨by (with_reducible repeat (first | refine blk_drewN ?_ _ | refine blk_drew ?_ | refine blk_alloc ?_ _)); refine blk_put (cs := #[.string a0_0, u161001]) ?_ 1 _ rfl; (with_reducible repeat (first | refine blk_drewN ?_ _ | refine blk_drew ?_ | refine blk_alloc ?_ _)); exact BK160.out⟩
                                    have n5_ : Aside0 (Below w.heap.size w (w67.setCell ⟨gb160, 1, none⟩ (.slice Ao68 y165.length co68))) := ⟨by repeat (first | (with_reducible first | exact HB.out | apply below_alloc | apply pw_below_drewN | apply below_drew1 | refine below_set ?_ GE156.out | refine below_set ?_ GE157.out | refine below_set ?_ GE159.out | refine below_set ?_ GE160.out) | exact HB.out)⟩
                                    (try clear HO167)
                                    (try clear BK156)
                                    (try clear BK157)
                                    (try clear BK159)
                                    (try clear BK160)
                                    (try clear HB)
                                    generalize (w67.setCell ⟨gb160, 1, none⟩ (.slice Ao68 y165.length co68)) = w72 at n0_ n1_ n2_ n3_ n4_ n5_ ⊢
                                    have HO167 := n0_
                                    have BK156 := n1_
                                    have BK157 := n2_
                                    have BK159 := n3_
                                    have BK160 := n4_
                                    have HB := n5_
                                    clear n0_ n1_ n2_ n3_ n4_ n5_
                                    have n0_ := Aside0.mk (Kd.R_drew HO167.out)
                                    have n1_ := Aside0.mk (blk_drew BK156.out)
                                    have n2_ := Aside0.mk (blk_drew BK157.out)
                                    have n3_ := Aside0.mk (blk_drew BK159.out)
                                    have n4_ := Aside0.mk (blk_drew BK160.out)
                                    have n5_ := Aside0.mk (below_drew1 HB.out)
                                    clear HO167
                                    clear BK156
                                    clear BK157
                                    clear BK159
                                    clear BK160
                                    clear HB
                                    have HO167 := n0_
                                    have BK156 := n1_
                                    have BK157 := n2_
                                    have BK159 := n3_
                                    have BK160 := n4_
                                    have HB := n5_
                                    clear n0_ n1_ n2_ n3_ n4_ n5_
                                    have p169 : 0 ≤ (x13_1 : Int) := of_decide_eq_true (by first | (with_reducible assumption) | assumption)
                                    have q169 : x13_1 < (l0_1.length : Int) := of_decide_eq_true (by first | (with_reducible assumption) | assumption)
                                    obtain ⟨ad169, e169, hx169_0, hx169_1, hx169_2⟩ := at_T47 HR0_1.out x13_1 p169 q169
                                    have hw169_2 := hx169_2
                                    have hw169_1 := hx169_1
                                    have hw169_0 := hx169_0
                                    obtain rfl : ad168 = ad169 := (by injection e169)
                                    replace hx169_0 := (HB.out.cell (World.block_lt_of_cell? w _ hx169_0)).trans hx169_0
                                    replace hx169_1 := (HB.out.cell (World.block_lt_of_cell? w _ hx169_1)).trans hx169_1
                                    replace hx169_2 := (HB.out.cell (World.block_lt_of_cell? w _ hx169_2)).trans hx169_2
                                    replace p169 := eq_true p169
                                    replace q169 := eq_true q169
                                    refine start_ (n := 11) (S := fun w' => w'.cell? ⟨gb160, 0, none⟩ = some (.string a0_0) ∧ w'.cell? ⟨gb160, 1, none⟩ = some (.slice Ao68 y165.length co68) ∧ w'.cell? ⟨gb156, 0, none⟩ = some (.string a0_0) ∧ w'.cell? ⟨gb156, 1, none⟩ = some (.slice (some ad168) l0_1.length c0_1) ∧ w'.cell? (ad168.add ((x13_1).toNat * 3)) = some (.int .i64 ((rd_T47 l0_1 x13_1).f0)) ∧ w'.cell? ⟨(ad168.add ((x13_1).toNat * 3)).block, (ad168.add ((x13_1).toNat * 3)).off + 1, none⟩ = some (.string ((rd_T47 l0_1 x13_1).f1)) ∧ w'.cell? ⟨(ad168.add ((x13_1).toNat * 3)).block, (ad168.add ((x13_1).toNat * 3)).off + 2, none⟩ = some (.bool ((rd_T47 l0_1 x13_1).f2))) (ds := [10]) #[false, false, false, false, false, false, false, false, false, false, false] (by kernel_rfl) rfl rfl ⟨(blk_cell BK160.out 0).trans rfl, (blk_cell BK160.out 1).trans rfl, (blk_cell BK156.out 0).trans rfl, (blk_cell BK156.out 1).trans rfl, ((HB.out.cell (World.block_lt_of_cell? w _ hw169_0)).trans hw169_0), ((HB.out.cell (World.block_lt_of_cell? w _ hw169_1)).trans hw169_1), ((HB.out.cell (World.block_lt_of_cell? w _ hw169_2)).trans hw169_2)⟩ (fun hHeld => ?_); refine with_tabW spec_l10Store.tab14 spec_l10Store.bits14 (fun HT_ HW_ => ?_)
                                    generalize w72.drew = w73 at HO167 BK156 BK157 BK159 BK160 HB hx169_0 hx169_1 hx169_2 hHeld ⊢
                                    refine pure_ (i := 0) (N := some 70) (v := ?_) (a' := ?_) #[true, false, false, false, false, false, false, false, false, false, false] rfl rfl (any_of HT_.out (by kernel_rfl)) (fun _ _ _ h => h) (Or.inl ⟨by rfl, ?_⟩) ?_ ?_
                                    rotate_left
                                    · intro w'
                                      go_simp
                                      with_reducible rfl
                                    rotate_left
                                    · simp only [Act.put, List.setIfInBounds_toArray, List.set_cons_zero, List.set_cons_succ, i64_w, i32_w]
                                      rfl
                                    refine pure_ (i := 2) (N := some 72) (v := ?_) (a' := ?_) #[true, false, true, false, false, false, false, false, false, false, false] rfl rfl (any_of HT_.out (by kernel_rfl)) (fun _ _ _ h => h) (Or.inl ⟨by rfl, ?_⟩) ?_ ?_
                                    rotate_left
                                    · intro w'
                                      go_simp
                                      with_reducible rfl
                                    rotate_left
                                    · simp only [Act.put, List.setIfInBounds_toArray, List.set_cons_zero, List.set_cons_succ, i64_w, i32_w]
                                      rfl
                                    refine pure_ (i := 4) (N := some 74) (v := ?_) (a' := ?_) #[true, false, true, false, true, false, false, false, false, false, false] rfl rfl (any_of HT_.out (by kernel_rfl)) (fun _ _ _ h => h) (Or.inl ⟨by rfl, ?_⟩) ?_ ?_
                                    rotate_left
                                    · intro w'
                                      go_simp
                                      with_reducible rfl
                                    rotate_left
                                    · simp only [Act.put, List.setIfInBounds_toArray, List.set_cons_zero, List.set_cons_succ, i64_w, i32_w]
                                      rfl
                                    refine take_ (i := 1) (N := some 71) (v := ?_) (a' := ?_) #[true, true, true, false, true, false, false, false, false, false, false] rfl rfl (take_ofW HT_.out HW_.out (by kernel_rfl)) (fun _ _ _ h => h) (Or.inl ⟨by rfl, ?_⟩) hHeld ?_ ?_
                                    rotate_left
                                    · rintro w' ⟨s0, s1, s2, s3, s4, s5, s6⟩
                                      go_simp
                                      with_reducible rfl
                                    rotate_left
                                    · simp only [Act.put, List.setIfInBounds_toArray, List.set_cons_zero, List.set_cons_succ, i64_w, i32_w]
                                      rfl
                                    refine take_ (i := 3) (N := some 73) (v := ?_) (a' := ?_) #[true, true, true, true, true, false, false, false, false, false, false] rfl rfl (take_ofW HT_.out HW_.out (by kernel_rfl)) (fun _ _ _ h => h) (Or.inl ⟨by rfl, ?_⟩) hHeld ?_ ?_
                                    rotate_left
                                    · rintro w' ⟨s0, s1, s2, s3, s4, s5, s6⟩
                                      go_simp
                                      with_reducible rfl
                                    rotate_left
                                    · simp only [Act.put, List.setIfInBounds_toArray, List.set_cons_zero, List.set_cons_succ, i64_w, i32_w]
                                      rfl
                                    refine pure_ (i := 5) (N := some 75) (v := ?_) (a' := ?_) #[true, true, true, true, true, true, false, false, false, false, false] rfl rfl (any_of HT_.out (by kernel_rfl)) (fun _ _ _ h => h) (Or.inl ⟨by rfl, ?_⟩) ?_ ?_
                                    rotate_left
                                    · intro w'
                                      go_simp
                                      with_reducible rfl
                                    rotate_left
                                    · simp only [Act.put, List.setIfInBounds_toArray, List.set_cons_zero, List.set_cons_succ, i64_w, i32_w]
                                      rfl
                                    refine take_ (i := 6) (N := some 76) (v := ?_) (a' := ?_) #[true, true, true, true, true, true, true, false, false, false, false] rfl rfl (take_ofW HT_.out HW_.out (by kernel_rfl)) (fun _ _ _ h => h) (Or.inl ⟨by rfl, ?_⟩) hHeld ?_ ?_
                                    rotate_left
                                    · rintro w' ⟨s0, s1, s2, s3, s4, s5, s6⟩
                                      go_simp
                                      with_reducible rfl
                                    rotate_left
                                    · simp only [Act.put, List.setIfInBounds_toArray, List.set_cons_zero, List.set_cons_succ, i64_w, i32_w]
                                      rfl
                                    refine one_ (i := 7) (N := some 77) #[true, true, true, true, true, true, true, true, false, false, false] rfl rfl (one_of HT_.out (by kernel_rfl)) (by decide) (fun K hK => ?_)
                                    refine value_ (w1 := ?_) (v := ?_) (by rfl) rfl ?_ ?_
                                    rotate_left 2
                                    · go_simp
                                      constructor
                                      · rfl
                                      · rfl
                                    refine hK.out _ _ ⟨(blk_cell (blk_alloc BK160.out _) 0).trans rfl, (blk_cell (blk_alloc BK160.out _) 1).trans rfl, (blk_cell (blk_alloc BK156.out _) 0).trans rfl, (blk_cell (blk_alloc BK156.out _) 1).trans rfl, (World.cell?_alloc_lt _ _ _ (World.block_lt_of_cell? _ _ (((HB.out.cell (World.block_lt_of_cell? w _ hw169_0)).trans hw169_0)))).trans (((HB.out.cell (World.block_lt_of_cell? w _ hw169_0)).trans hw169_0)), (World.cell?_alloc_lt _ _ _ (World.block_lt_of_cell? _ _ (((HB.out.cell (World.block_lt_of_cell? w _ hw169_1)).trans hw169_1)))).trans (((HB.out.cell (World.block_lt_of_cell? w _ hw169_1)).trans hw169_1)), (World.cell?_alloc_lt _ _ _ (World.block_lt_of_cell? _ _ (((HB.out.cell (World.block_lt_of_cell? w _ hw169_2)).trans hw169_2)))).trans (((HB.out.cell (World.block_lt_of_cell? w _ hw169_2)).trans hw169_2))⟩ (fun hHeld => ?_)
                                    clear hK K
                                    refine norm_ (a' := ?_) ?_ ?_
                                    rotate_left
                                    · show Act.put _ (some 77) _ = _
                                      simp only [Act.put, List.setIfInBounds_toArray, List.set_cons_zero, List.set_cons_succ, i64_w, i32_w]
                                      rfl
                                    refine one_ (i := 8) (N := some 78) #[true, true, true, true, true, true, true, true, true, false, false] rfl rfl (one_of HT_.out (by kernel_rfl)) (by decide) (fun K hK => ?_)
                                    refine Kd.R_append_step k47 (w0 := w) w.heap.size (by rfl) (.tmp 71) (.tmp 77) 27 47 (.agg #[(.int .i64 0), (.string ⟨#[]⟩), (.bool false)]) 32 rfl Try.underlying27 info47 rfl (by decide) (by omega) (.slice Ao68 y165.length co68) y165 (⟨(rd_T47 l0_1 x13_1).f0, (rd_T47 l0_1 x13_1).f1, (rd_T47 l0_1 x13_1).f2⟩ : S47) [.int .i64 ((rd_T47 l0_1 x13_1).f0), .string ((rd_T47 l0_1 x13_1).f1), .bool ((rd_T47 l0_1 x13_1).f2)] (fun k_ => k_ ≠ gb159) (fun _ => False) rfl rfl ?aP (fun _ hk => hk.elim) ?aF ?aO ?aB ?aS ?aL ?_
                                    (case aP => exact k47_mkM _ _ _ (⟨(rd_T47 l0_1 x13_1).f0, (rd_T47 l0_1 x13_1).f1, (rd_T47 l0_1 x13_1).f2⟩ : S47))
                                    (case aB => exact (by repeat (first | (with_reducible first | exact HB.out | apply below_alloc | apply pw_below_drewN | apply below_drew1 | refine below_set ?_ GE156.out | refine below_set ?_ GE157.out | refine below_set ?_ GE159.out | refine below_set ?_ GE160.out) | exact HB.out)))
                                    (case aF => exact (fun k_ hk => Kd.freshB (g := gb159) (o := .cells #[.int .i64 (wrap64 (Int.tdiv a1 2)), .string (((t158.extract 0 ((ji5) : Int).toNat) ++ a2) ++ (t158.extract ((ji9) : Int).toNat t158.size)), .bool false] 47 (0, 0)) (by (with_reducible repeat (first | refine blk_drewN ?_ _ | refine blk_drew ?_ | refine blk_alloc ?_ _)); exact BK159.out) k_ hk))
                                    (case aO => exact (by (with_reducible repeat (first | apply Kd.R_alloc | apply Kd.R_drewN | apply Kd.R_drew)); exact HO167.out))
                                    (case aS => exact (below_size (by repeat (first | (with_reducible first | exact HB.out | apply below_alloc | apply pw_below_drewN | apply below_drew1 | refine below_set ?_ GE156.out | refine below_set ?_ GE157.out | refine below_set ?_ GE159.out | refine below_set ?_ GE160.out) | exact HB.out))))
                                    (case aL => have := LMc59.out; omega)
                                    intro v171 w74 ho hb hg hat
                                    rw [← Ny170.out] at ho
                                    have n0_ := Aside0.mk (blk_grown (g := gb156) (o := .cells #[.string a0_0, .slice (some ad168) l0_1.length c0_1] 29 (0, 0)) (by (with_reducible repeat (first | refine blk_drewN ?_ _ | refine blk_drew ?_ | refine blk_alloc ?_ _)); exact BK156.out) hg (Kd.R_ne HO167.out BK156.out (by decide)))
                                    have n1_ := Aside0.mk (blk_grown (g := gb157) (o := .cells #[.string (⟨#[]⟩ : ByteArray), .slice none 0 0] 29 (0, 0)) (by (with_reducible repeat (first | refine blk_drewN ?_ _ | refine blk_drew ?_ | refine blk_alloc ?_ _)); exact BK157.out) hg (Kd.R_ne HO167.out BK157.out (by decide)))
                                    have n2_ := Aside0.mk (blk_grown (g := gb159) (o := .cells #[.int .i64 (wrap64 (Int.tdiv a1 2)), .string (((t158.extract 0 ((ji5) : Int).toNat) ++ a2) ++ (t158.extract ((ji9) : Int).toNat t158.size)), .bool false] 47 (0, 0)) (by (with_reducible repeat (first | refine blk_drewN ?_ _ | refine blk_drew ?_ | refine blk_alloc ?_ _)); exact BK159.out) hg (Kd.R_away HO167.out (fun _ hk => hk)))
                                    have n3_ := Aside0.mk (blk_grown (g := gb160) (o := .cells #[.string a0_0, .slice Ao68 y165.length co68] 29 (0, 0)) (by (with_reducible repeat (first | refine blk_drewN ?_ _ | refine blk_drew ?_ | refine blk_alloc ?_ _)); exact BK160.out) hg (Kd.R_ne HO167.out BK160.out (by decide)))
                                    have n4_ := Aside0.mk (hb)
                                    have n5_ := Aside0.mk (ho)
                                    clear BK156
                                    clear BK157
                                    clear BK159
                                    clear BK160
                                    clear HB
                                    clear HO167
                                    have BK156 := n0_
                                    have BK157 := n1_
                                    have BK159 := n2_
                                    have BK160 := n3_
                                    have HB := n4_
                                    have HO172 := n5_
                                    clear n0_ n1_ n2_ n3_ n4_ n5_
                                    clear ho hb hg hat
                                    obtain ⟨Ao75, co75, eo75⟩ := Kd.R_slice HO172.out
                                    (first | subst eo75 | (injection eo75 with f1_ f2_ f3_; have f4_ := f1_.symm; have f5_ := f3_.symm; clear f1_ f2_ f3_; subst f4_; subst f5_))
                                    refine hK.out _ _ ⟨(blk_cell BK160.out 0).trans rfl, (blk_cell BK160.out 1).trans rfl, (blk_cell BK156.out 0).trans rfl, (blk_cell BK156.out 1).trans rfl, ((HB.out.cell (World.block_lt_of_cell? w _ hw169_0)).trans hw169_0), ((HB.out.cell (World.block_lt_of_cell? w _ hw169_1)).trans hw169_1), ((HB.out.cell (World.block_lt_of_cell? w _ hw169_2)).trans hw169_2)⟩ (fun hHeld => ?_)
                                    clear hK K
                                    refine norm_ (a' := ?_) ?_ ?_
                                    rotate_left
                                    · show Act.put _ (some 78) _ = _
                                      simp only [Act.put, List.setIfInBounds_toArray, List.set_cons_zero, List.set_cons_succ, i64_w, i32_w]
                                      rfl
                                    refine pure_ (i := 9) (N := some 79) (v := ?_) (a' := ?_) #[true, true, true, true, true, true, true, true, true, true, false] rfl rfl (any_of HT_.out (by kernel_rfl)) (fun _ _ _ h => h) (Or.inl ⟨by rfl, ?_⟩) ?_ ?_
                                    rotate_left
                                    · intro w'
                                      go_simp
                                      with_reducible rfl
                                    rotate_left
                                    · simp only [Act.put, List.setIfInBounds_toArray, List.set_cons_zero, List.set_cons_succ, i64_w, i32_w]
                                      rfl
                                    refine last_ (i := 10) (N := none) #[true, true, true, true, true, true, true, true, true, true, true] rfl rfl (one_of HT_.out (by kernel_rfl)) (by decide) (fun K hK => ?_)
                                    have hs76 : w74.cell? ⟨gb160, 1, none⟩ = some (.slice Ao68 y165.length co68) := (blk_cell BK160.out 1).trans rfl
                                    have hfs76 := blk_frozen BK160.out 1
                                    have hns76_0 := NB156_160.out
                                    have hns76_1 := NB157_160.out
                                    have hns76_2 := NB159_160.out
                                    have hms76_0 := NB160_156.out
                                    have hms76_1 := NB160_157.out
                                    have hms76_2 := NB160_159.out
                                    refine skip_ (w1 := ?_) (by rfl) rfl ?_ ?_
                                    rotate_left
                                    · go_simp
                                      rfl
                                    refine hK.out _ _ ?_
                                    clear hK K
                                    refine done_ (done_of HT_.out (by kernel_rfl)) ?_
                                    try go_wp2
                                    go_roundg kj30
                                    case measure => have := HK1.out; have := HJ30.out; omega
                                    case rel => exact ⟨(true), (wrap64 (x13_1 + 1)), (y170), (.slice Ao75 y170.length co75), (by first | rfl | (simp; done) | (simp [*]; done)), (by first | rfl | (simp; done) | (simp [*]; done)), H', ⟨by have := HK1.out; have := HJ30.out; omega⟩, ⟨by (with_reducible repeat (first | apply Kd.R_alloc | apply Kd.R_drewN | apply Kd.R_drew)); exact Kd.R_mono (Kd.R_far (p := ⟨gb160, 1, none⟩) (Kd.R_types HO172.out BK160.out (by decide)) (fun _ hk => hk.2) (.slice Ao75 y170.length co75)) (fun _ hk => hk.1)⟩, ⟨by (with_reducible repeat (first | refine blk_drewN ?_ _ | refine blk_drew ?_ | refine blk_alloc ?_ _)); refine blk_far ?_ NB156_160.out _; (with_reducible repeat (first | refine blk_drewN ?_ _ | refine blk_drew ?_ | refine blk_alloc ?_ _)); exact BK156.out⟩, ⟨by (with_reducible repeat (first | refine blk_drewN ?_ _ | refine blk_drew ?_ | refine blk_alloc ?_ _)); refine blk_far ?_ NB157_160.out _; (with_reducible repeat (first | refine blk_drewN ?_ _ | refine blk_drew ?_ | refine blk_alloc ?_ _)); exact BK157.out⟩, ⟨by (with_reducible repeat (first | refine blk_drewN ?_ _ | refine blk_drew ?_ | refine blk_alloc ?_ _)); refine blk_far ?_ NB159_160.out _; (with_reducible repeat (first | refine blk_drewN ?_ _ | refine blk_drew ?_ | refine blk_alloc ?_ _)); exact BK159.out⟩, ⟨by (with_reducible repeat (first | refine blk_drewN ?_ _ | refine blk_drew ?_ | refine blk_alloc ?_ _)); refine blk_put (cs := #[.string a0_0, .slice Ao68 y165.length co68]) ?_ 1 _ rfl; (with_reducible repeat (first | refine blk_drewN ?_ _ | refine blk_drew ?_ | refine blk_alloc ?_ _)); exact BK160.out⟩, ⟨by repeat (first | (with_reducible first | exact HB.out | apply below_alloc | apply pw_below_drewN | apply below_drew1 | refine below_set ?_ GE156.out | refine below_set ?_ GE157.out | refine below_set ?_ GE159.out | refine below_set ?_ GE160.out) | exact HB.out)⟩⟩
                                  · rw [if_neg c59] at H
                                    exact absurd H (by simp)
                              · rw [if_neg c45] at H
                                exact absurd H (by simp)
                            · rw [if_neg c44] at H
                              exact absurd H (by simp)
                          · rw [if_neg c43] at H
                            exact absurd H (by simp)
                        · replace c42 := Bool.eq_false_iff.mpr c42
                          subst c42
                          have H1 : (if 0 ≤ x13_1 then (if x13_1 < (l0_1.length : Int) then (if ((rd_T47 l0_1 x13_1).f0) = (wrap64 (Int.tdiv a1 2)) then (spec_l10Store.l0 kj30 (wrap64 (Int.tdiv a1 2)) x12_1 (wrap64 (x13_1 + 1)) a0_0 l0_1 (wrap64 (Int.tdiv a1 2)) (((t158.extract 0 ((ji5) : Int).toNat) ++ a2) ++ (t158.extract ((ji9) : Int).toNat t158.size)) false a0_0 x161001_1) else (if x161001_1.length < 4398046511104 then (spec_l10Store.l0 kj30 (wrap64 (Int.tdiv a1 2)) x12_1 (wrap64 (x13_1 + 1)) a0_0 l0_1 (wrap64 (Int.tdiv a1 2)) (((t158.extract 0 ((ji5) : Int).toNat) ++ a2) ++ (t158.extract ((ji9) : Int).toNat t158.size)) false a0_0 (x161001_1 ++ [(⟨(rd_T47 l0_1 x13_1).f0, (rd_T47 l0_1 x13_1).f1, (rd_T47 l0_1 x13_1).f2⟩ : S47)])) else (none))) else (none)) else (none)) = some (r1, r2) := by rw [if_neg (show ¬ (false = true) by decide)] at H; exact H
                          clear H
                          have H := H1
                          clear H1
                          by_cases c77 : 0 ≤ x13_1
                          · rw [if_pos c77] at H
                            have c77b0 : decide (0 ≤ x13_1) = true := decide_eq_true c77
                            clear c77
                            by_cases c78 : x13_1 < (l0_1.length : Int)
                            · rw [if_pos c78] at H
                              have c78b0 : decide (x13_1 < (l0_1.length : Int)) = true := decide_eq_true c78
                              clear c78
                              by_cases c79 : ((rd_T47 l0_1 x13_1).f0) = (wrap64 (Int.tdiv a1 2))
                              · rw [if_pos c79] at H
                                have c79b0 : (((rd_T47 l0_1 x13_1).f0) == (wrap64 (Int.tdiv a1 2))) = true := beq_iff_eq.mpr c79
                                have c79b1 : (((rd_T47 l0_1 x13_1).f0) != (wrap64 (Int.tdiv a1 2))) = false := bne_eq_false_iff_eq.mpr c79
                                clear c79
                                have H' := Aside0.mk H
                                clear H
                                have hnb80 := NB156_157.out
                                have hnc80 := NB157_156.out
                                have hnb81 := NB156_159.out
                                have hnc81 := NB159_156.out
                                have hnb82 := NB156_160.out
                                have hnc82 := NB160_156.out
                                have hcz83_0 : wc.cell? ⟨gb156, 0, none⟩ = some (.string a0_0) := (blk_cell BK156.out 0).trans rfl
                                have hcz83_1 : wc.cell? ⟨gb156, 1, none⟩ = some (.slice A0_1 l0_1.length c0_1) := (blk_cell BK156.out 1).trans rfl
                                have hfz83_0 := blk_frozen BK156.out 0
                                have hfz83_1 := blk_frozen BK156.out 1
                                have p173 : 0 ≤ (x13_1 : Int) := of_decide_eq_true (by first | (with_reducible assumption) | assumption)
                                have q173 : x13_1 < (l0_1.length : Int) := of_decide_eq_true (by first | (with_reducible assumption) | assumption)
                                obtain ⟨ad173, e173, hx173_0, hx173_1, hx173_2⟩ := at_T47 HR0_1.out x13_1 p173 q173
                                cases e173
                                replace hx173_0 := (HB.out.cell (World.block_lt_of_cell? w _ hx173_0)).trans hx173_0
                                replace hx173_1 := (HB.out.cell (World.block_lt_of_cell? w _ hx173_1)).trans hx173_1
                                replace hx173_2 := (HB.out.cell (World.block_lt_of_cell? w _ hx173_2)).trans hx173_2
                                replace p173 := eq_true p173
                                replace q173 := eq_true q173
                                go_wp2
                                go_roundg kj30
                                case measure => have := HK1.out; have := HJ30.out; omega
                                case rel => exact ⟨(x12_1), (wrap64 (x13_1 + 1)), (x161001_1), (u161001), (by first | rfl | (simp; done) | (simp [*]; done)), (by first | rfl | (simp; done) | (simp [*]; done)), H', ⟨by have := HK1.out; have := HJ30.out; omega⟩, ⟨by (with_reducible repeat (first | apply Kd.R_alloc | apply Kd.R_drewN | apply Kd.R_drew)); exact HO_161001.out⟩, ⟨by (with_reducible repeat (first | refine blk_drewN ?_ _ | refine blk_drew ?_ | refine blk_alloc ?_ _)); exact BK156.out⟩, ⟨by (with_reducible repeat (first | refine blk_drewN ?_ _ | refine blk_drew ?_ | refine blk_alloc ?_ _)); exact BK157.out⟩, ⟨by (with_reducible repeat (first | refine blk_drewN ?_ _ | refine blk_drew ?_ | refine blk_alloc ?_ _)); exact BK159.out⟩, ⟨by (with_reducible repeat (first | refine blk_drewN ?_ _ | refine blk_drew ?_ | refine blk_alloc ?_ _)); exact BK160.out⟩, ⟨by repeat (first | (with_reducible first | exact HB.out | apply below_alloc | apply pw_below_drewN | apply below_drew1 | refine below_set ?_ GE156.out | refine below_set ?_ GE157.out | refine below_set ?_ GE159.out | refine below_set ?_ GE160.out) | exact HB.out)⟩⟩
                              · rw [if_neg c79] at H
                                have c79b0 : (((rd_T47 l0_1 x13_1).f0) == (wrap64 (Int.tdiv a1 2))) = false := beq_eq_false_iff_ne.mpr c79
                                have c79b1 : (((rd_T47 l0_1 x13_1).f0) != (wrap64 (Int.tdiv a1 2))) = true := bne_iff_ne.mpr c79
                                by_cases c84 : x161001_1.length < 4398046511104
                                · rw [if_pos c84] at H
                                  have LMc84 := Aside0.mk c84
                                  clear c84
                                  obtain ⟨y175, hy175⟩ : ∃ y_ : List (S47), y_ = (x161001_1 ++ [(⟨(rd_T47 l0_1 x13_1).f0, (rd_T47 l0_1 x13_1).f1, (rd_T47 l0_1 x13_1).f2⟩ : S47)]) := ⟨_, rfl⟩
                                  replace H : (spec_l10Store.l0 kj30 (wrap64 (Int.tdiv a1 2)) x12_1 (wrap64 (x13_1 + 1)) a0_0 l0_1 (wrap64 (Int.tdiv a1 2)) (((t158.extract 0 ((ji5) : Int).toNat) ++ a2) ++ (t158.extract ((ji9) : Int).toNat t158.size)) false a0_0 y175) = some (r1, r2) := by first | (rw [hy175]; with_reducible exact H) | (have H2_ := (Option.bind_some _ _).symm.trans H; rw [hy175]; with_reducible exact H2_) | (have H2_ := (Option.bind_some _ _).symm.trans H; with_reducible exact H2_) | with_reducible exact H | (rw [hy175]; exact H) | exact H
                                  have Ny175 := Aside0.mk hy175
                                  clear hy175
                                  have H' := Aside0.mk H
                                  clear H
                                  have hnb85 := NB156_157.out
                                  have hnc85 := NB157_156.out
                                  have hnb86 := NB156_159.out
                                  have hnc86 := NB159_156.out
                                  have hnb87 := NB156_160.out
                                  have hnc87 := NB160_156.out
                                  have hcz88_0 : wc.cell? ⟨gb156, 0, none⟩ = some (.string a0_0) := (blk_cell BK156.out 0).trans rfl
                                  have hcz88_1 : wc.cell? ⟨gb156, 1, none⟩ = some (.slice A0_1 l0_1.length c0_1) := (blk_cell BK156.out 1).trans rfl
                                  have hfz88_0 := blk_frozen BK156.out 0
                                  have hfz88_1 := blk_frozen BK156.out 1
                                  have p173 : 0 ≤ (x13_1 : Int) := of_decide_eq_true (by first | (with_reducible assumption) | assumption)
                                  have q173 : x13_1 < (l0_1.length : Int) := of_decide_eq_true (by first | (with_reducible assumption) | assumption)
                                  obtain ⟨ad173, e173, hx173_0, hx173_1, hx173_2⟩ := at_T47 HR0_1.out x13_1 p173 q173
                                  cases e173
                                  replace hx173_0 := (HB.out.cell (World.block_lt_of_cell? w _ hx173_0)).trans hx173_0
                                  replace hx173_1 := (HB.out.cell (World.block_lt_of_cell? w _ hx173_1)).trans hx173_1
                                  replace hx173_2 := (HB.out.cell (World.block_lt_of_cell? w _ hx173_2)).trans hx173_2
                                  replace p173 := eq_true p173
                                  replace q173 := eq_true q173
                                  try go_wp2
                                  have n0_ := Aside0.mk (Kd.R_drew HO_161001.out)
                                  have n1_ := Aside0.mk (blk_drew BK156.out)
                                  have n2_ := Aside0.mk (blk_drew BK157.out)
                                  have n3_ := Aside0.mk (blk_drew BK159.out)
                                  have n4_ := Aside0.mk (blk_drew BK160.out)
                                  have n5_ := Aside0.mk (below_drew1 HB.out)
                                  clear HO_161001
                                  clear BK156
                                  clear BK157
                                  clear BK159
                                  clear BK160
                                  clear HB
                                  have HO_161001 := n0_
                                  have BK156 := n1_
                                  have BK157 := n2_
                                  have BK159 := n3_
                                  have BK160 := n4_
                                  have HB := n5_
                                  clear n0_ n1_ n2_ n3_ n4_ n5_
                                  have p174 : 0 ≤ (x13_1 : Int) := of_decide_eq_true (by first | (with_reducible assumption) | assumption)
                                  have q174 : x13_1 < (l0_1.length : Int) := of_decide_eq_true (by first | (with_reducible assumption) | assumption)
                                  obtain ⟨ad174, e174, hx174_0, hx174_1, hx174_2⟩ := at_T47 HR0_1.out x13_1 p174 q174
                                  have hw174_2 := hx174_2
                                  have hw174_1 := hx174_1
                                  have hw174_0 := hx174_0
                                  obtain rfl : ad173 = ad174 := (by injection e174)
                                  replace hx174_0 := (HB.out.cell (World.block_lt_of_cell? w _ hx174_0)).trans hx174_0
                                  replace hx174_1 := (HB.out.cell (World.block_lt_of_cell? w _ hx174_1)).trans hx174_1
                                  replace hx174_2 := (HB.out.cell (World.block_lt_of_cell? w _ hx174_2)).trans hx174_2
                                  replace p174 := eq_true p174
                                  replace q174 := eq_true q174
                                  refine start_ (n := 11) (S := fun w' => w'.cell? ⟨gb160, 0, none⟩ = some (.string a0_0) ∧ w'.cell? ⟨gb160, 1, none⟩ = some (u161001) ∧ w'.cell? ⟨gb156, 0, none⟩ = some (.string a0_0) ∧ w'.cell? ⟨gb156, 1, none⟩ = some (.slice (some ad173) l0_1.length c0_1) ∧ w'.cell? (ad173.add ((x13_1).toNat * 3)) = some (.int .i64 ((rd_T47 l0_1 x13_1).f0)) ∧ w'.cell? ⟨(ad173.add ((x13_1).toNat * 3)).block, (ad173.add ((x13_1).toNat * 3)).off + 1, none⟩ = some (.string ((rd_T47 l0_1 x13_1).f1)) ∧ w'.cell? ⟨(ad173.add ((x13_1).toNat * 3)).block, (ad173.add ((x13_1).toNat * 3)).off + 2, none⟩ = some (.bool ((rd_T47 l0_1 x13_1).f2))) (ds := [10]) #[false, false, false, false, false, false, false, false, false, false, false] (by kernel_rfl) rfl rfl ⟨(blk_cell BK160.out 0).trans rfl, (blk_cell BK160.out 1).trans rfl, (blk_cell BK156.out 0).trans rfl, (blk_cell BK156.out 1).trans rfl, ((HB.out.cell (World.block_lt_of_cell? w _ hw174_0)).trans hw174_0), ((HB.out.cell (World.block_lt_of_cell? w _ hw174_1)).trans hw174_1), ((HB.out.cell (World.block_lt_of_cell? w _ hw174_2)).trans hw174_2)⟩ (fun hHeld => ?_); refine with_tabW spec_l10Store.tab14 spec_l10Store.bits14 (fun HT_ HW_ => ?_)
                                  generalize wc.drew = w89 at HO_161001 BK156 BK157 BK159 BK160 HB hx174_0 hx174_1 hx174_2 hHeld ⊢
                                  refine pure_ (i := 0) (N := some 70) (v := ?_) (a' := ?_) #[true, false, false, false, false, false, false, false, false, false, false] rfl rfl (any_of HT_.out (by kernel_rfl)) (fun _ _ _ h => h) (Or.inl ⟨by rfl, ?_⟩) ?_ ?_
                                  rotate_left
                                  · intro w'
                                    go_simp
                                    with_reducible rfl
                                  rotate_left
                                  · simp only [Act.put, List.setIfInBounds_toArray, List.set_cons_zero, List.set_cons_succ, i64_w, i32_w]
                                    rfl
                                  refine pure_ (i := 2) (N := some 72) (v := ?_) (a' := ?_) #[true, false, true, false, false, false, false, false, false, false, false] rfl rfl (any_of HT_.out (by kernel_rfl)) (fun _ _ _ h => h) (Or.inl ⟨by rfl, ?_⟩) ?_ ?_
                                  rotate_left
                                  · intro w'
                                    go_simp
                                    with_reducible rfl
                                  rotate_left
                                  · simp only [Act.put, List.setIfInBounds_toArray, List.set_cons_zero, List.set_cons_succ, i64_w, i32_w]
                                    rfl
                                  refine pure_ (i := 4) (N := some 74) (v := ?_) (a' := ?_) #[true, false, true, false, true, false, false, false, false, false, false] rfl rfl (any_of HT_.out (by kernel_rfl)) (fun _ _ _ h => h) (Or.inl ⟨by rfl, ?_⟩) ?_ ?_
                                  rotate_left
                                  · intro w'
                                    go_simp
                                    with_reducible rfl
                                  rotate_left
                                  · simp only [Act.put, List.setIfInBounds_toArray, List.set_cons_zero, List.set_cons_succ, i64_w, i32_w]
                                    rfl
                                  refine take_ (i := 1) (N := some 71) (v := ?_) (a' := ?_) #[true, true, true, false, true, false, false, false, false, false, false] rfl rfl (take_ofW HT_.out HW_.out (by kernel_rfl)) (fun _ _ _ h => h) (Or.inl ⟨by rfl, ?_⟩) hHeld ?_ ?_
                                  rotate_left
                                  · rintro w' ⟨s0, s1, s2, s3, s4, s5, s6⟩
                                    go_simp
                                    with_reducible rfl
                                  rotate_left
                                  · simp only [Act.put, List.setIfInBounds_toArray, List.set_cons_zero, List.set_cons_succ, i64_w, i32_w]
                                    rfl
                                  refine take_ (i := 3) (N := some 73) (v := ?_) (a' := ?_) #[true, true, true, true, true, false, false, false, false, false, false] rfl rfl (take_ofW HT_.out HW_.out (by kernel_rfl)) (fun _ _ _ h => h) (Or.inl ⟨by rfl, ?_⟩) hHeld ?_ ?_
                                  rotate_left
                                  · rintro w' ⟨s0, s1, s2, s3, s4, s5, s6⟩
                                    go_simp
                                    with_reducible rfl
                                  rotate_left
                                  · simp only [Act.put, List.setIfInBounds_toArray, List.set_cons_zero, List.set_cons_succ, i64_w, i32_w]
                                    rfl
                                  refine pure_ (i := 5) (N := some 75) (v := ?_) (a' := ?_) #[true, true, true, true, true, true, false, false, false, false, false] rfl rfl (any_of HT_.out (by kernel_rfl)) (fun _ _ _ h => h) (Or.inl ⟨by rfl, ?_⟩) ?_ ?_
                                  rotate_left
                                  · intro w'
                                    go_simp
                                    with_reducible rfl
                                  rotate_left
                                  · simp only [Act.put, List.setIfInBounds_toArray, List.set_cons_zero, List.set_cons_succ, i64_w, i32_w]
                                    rfl
                                  refine take_ (i := 6) (N := some 76) (v := ?_) (a' := ?_) #[true, true, true, true, true, true, true, false, false, false, false] rfl rfl (take_ofW HT_.out HW_.out (by kernel_rfl)) (fun _ _ _ h => h) (Or.inl ⟨by rfl, ?_⟩) hHeld ?_ ?_
                                  rotate_left
                                  · rintro w' ⟨s0, s1, s2, s3, s4, s5, s6⟩
                                    go_simp
                                    with_reducible rfl
                                  rotate_left
                                  · simp only [Act.put, List.setIfInBounds_toArray, List.set_cons_zero, List.set_cons_succ, i64_w, i32_w]
                                    rfl
                                  refine one_ (i := 7) (N := some 77) #[true, true, true, true, true, true, true, true, false, false, false] rfl rfl (one_of HT_.out (by kernel_rfl)) (by decide) (fun K hK => ?_)
                                  refine value_ (w1 := ?_) (v := ?_) (by rfl) rfl ?_ ?_
                                  rotate_left 2
                                  · go_simp
                                    constructor
                                    · rfl
                                    · rfl
                                  refine hK.out _ _ ⟨(blk_cell (blk_alloc BK160.out _) 0).trans rfl, (blk_cell (blk_alloc BK160.out _) 1).trans rfl, (blk_cell (blk_alloc BK156.out _) 0).trans rfl, (blk_cell (blk_alloc BK156.out _) 1).trans rfl, (World.cell?_alloc_lt _ _ _ (World.block_lt_of_cell? _ _ (((HB.out.cell (World.block_lt_of_cell? w _ hw174_0)).trans hw174_0)))).trans (((HB.out.cell (World.block_lt_of_cell? w _ hw174_0)).trans hw174_0)), (World.cell?_alloc_lt _ _ _ (World.block_lt_of_cell? _ _ (((HB.out.cell (World.block_lt_of_cell? w _ hw174_1)).trans hw174_1)))).trans (((HB.out.cell (World.block_lt_of_cell? w _ hw174_1)).trans hw174_1)), (World.cell?_alloc_lt _ _ _ (World.block_lt_of_cell? _ _ (((HB.out.cell (World.block_lt_of_cell? w _ hw174_2)).trans hw174_2)))).trans (((HB.out.cell (World.block_lt_of_cell? w _ hw174_2)).trans hw174_2))⟩ (fun hHeld => ?_)
                                  clear hK K
                                  refine norm_ (a' := ?_) ?_ ?_
                                  rotate_left
                                  · show Act.put _ (some 77) _ = _
                                    simp only [Act.put, List.setIfInBounds_toArray, List.set_cons_zero, List.set_cons_succ, i64_w, i32_w]
                                    rfl
                                  refine one_ (i := 8) (N := some 78) #[true, true, true, true, true, true, true, true, true, false, false] rfl rfl (one_of HT_.out (by kernel_rfl)) (by decide) (fun K hK => ?_)
                                  refine Kd.R_append_step k47 (w0 := w) w.heap.size (by rfl) (.tmp 71) (.tmp 77) 27 47 (.agg #[(.int .i64 0), (.string ⟨#[]⟩), (.bool false)]) 32 rfl Try.underlying27 info47 rfl (by decide) (by omega) u161001 x161001_1 (⟨(rd_T47 l0_1 x13_1).f0, (rd_T47 l0_1 x13_1).f1, (rd_T47 l0_1 x13_1).f2⟩ : S47) [.int .i64 ((rd_T47 l0_1 x13_1).f0), .string ((rd_T47 l0_1 x13_1).f1), .bool ((rd_T47 l0_1 x13_1).f2)] (fun k_ => k_ ≠ gb159) (fun _ => False) rfl rfl ?aP (fun _ hk => hk.elim) ?aF ?aO ?aB ?aS ?aL ?_
                                  (case aP => exact k47_mkM _ _ _ (⟨(rd_T47 l0_1 x13_1).f0, (rd_T47 l0_1 x13_1).f1, (rd_T47 l0_1 x13_1).f2⟩ : S47))
                                  (case aB => exact (by repeat (first | (with_reducible first | exact HB.out | apply below_alloc | apply pw_below_drewN | apply below_drew1 | refine below_set ?_ GE156.out | refine below_set ?_ GE157.out | refine below_set ?_ GE159.out | refine below_set ?_ GE160.out) | exact HB.out)))
                                  (case aF => exact (fun k_ hk => Kd.freshB (g := gb159) (o := .cells #[.int .i64 (wrap64 (Int.tdiv a1 2)), .string (((t158.extract 0 ((ji5) : Int).toNat) ++ a2) ++ (t158.extract ((ji9) : Int).toNat t158.size)), .bool false] 47 (0, 0)) (by (with_reducible repeat (first | refine blk_drewN ?_ _ | refine blk_drew ?_ | refine blk_alloc ?_ _)); exact BK159.out) k_ hk))
                                  (case aO => exact (by (with_reducible repeat (first | apply Kd.R_alloc | apply Kd.R_drewN | apply Kd.R_drew)); exact HO_161001.out))
                                  (case aS => exact (below_size (by repeat (first | (with_reducible first | exact HB.out | apply below_alloc | apply pw_below_drewN | apply below_drew1 | refine below_set ?_ GE156.out | refine below_set ?_ GE157.out | refine below_set ?_ GE159.out | refine below_set ?_ GE160.out) | exact HB.out))))
                                  (case aL => have := LMc84.out; omega)
                                  intro v176 w90 ho hb hg hat
                                  rw [← Ny175.out] at ho
                                  have n0_ := Aside0.mk (blk_grown (g := gb156) (o := .cells #[.string a0_0, .slice (some ad173) l0_1.length c0_1] 29 (0, 0)) (by (with_reducible repeat (first | refine blk_drewN ?_ _ | refine blk_drew ?_ | refine blk_alloc ?_ _)); exact BK156.out) hg (Kd.R_ne HO_161001.out BK156.out (by decide)))
                                  have n1_ := Aside0.mk (blk_grown (g := gb157) (o := .cells #[.string (⟨#[]⟩ : ByteArray), .slice none 0 0] 29 (0, 0)) (by (with_reducible repeat (first | refine blk_drewN ?_ _ | refine blk_drew ?_ | refine blk_alloc ?_ _)); exact BK157.out) hg (Kd.R_ne HO_161001.out BK157.out (by decide)))
                                  have n2_ := Aside0.mk (blk_grown (g := gb159) (o := .cells #[.int .i64 (wrap64 (Int.tdiv a1 2)), .string (((t158.extract 0 ((ji5) : Int).toNat) ++ a2) ++ (t158.extract ((ji9) : Int).toNat t158.size)), .bool false] 47 (0, 0)) (by (with_reducible repeat (first | refine blk_drewN ?_ _ | refine blk_drew ?_ | refine blk_alloc ?_ _)); exact BK159.out) hg (Kd.R_away HO_161001.out (fun _ hk => hk)))
                                  have n3_ := Aside0.mk (blk_grown (g := gb160) (o := .cells #[.string a0_0, u161001] 29 (0, 0)) (by (with_reducible repeat (first | refine blk_drewN ?_ _ | refine blk_drew ?_ | refine blk_alloc ?_ _)); exact BK160.out) hg (Kd.R_ne HO_161001.out BK160.out (by decide)))
                                  have n4_ := Aside0.mk (hb)
                                  have n5_ := Aside0.mk (ho)
                                  clear BK156
                                  clear BK157
                                  clear BK159
                                  clear BK160
                                  clear HB
                                  clear HO_161001
                                  have BK156 := n0_
                                  have BK157 := n1_
                                  have BK159 := n2_
                                  have BK160 := n3_
                                  have HB := n4_
                                  have HO177 := n5_
                                  clear n0_ n1_ n2_ n3_ n4_ n5_
                                  clear ho hb hg hat
                                  obtain ⟨Ao91, co91, eo91⟩ := Kd.R_slice HO177.out
                                  (first | subst eo91 | (injection eo91 with f1_ f2_ f3_; have f4_ := f1_.symm; have f5_ := f3_.symm; clear f1_ f2_ f3_; subst f4_; subst f5_))
                                  refine hK.out _ _ ⟨(blk_cell BK160.out 0).trans rfl, (blk_cell BK160.out 1).trans rfl, (blk_cell BK156.out 0).trans rfl, (blk_cell BK156.out 1).trans rfl, ((HB.out.cell (World.block_lt_of_cell? w _ hw174_0)).trans hw174_0), ((HB.out.cell (World.block_lt_of_cell? w _ hw174_1)).trans hw174_1), ((HB.out.cell (World.block_lt_of_cell? w _ hw174_2)).trans hw174_2)⟩ (fun hHeld => ?_)
                                  clear hK K
                                  refine norm_ (a' := ?_) ?_ ?_
                                  rotate_left
                                  · show Act.put _ (some 78) _ = _
                                    simp only [Act.put, List.setIfInBounds_toArray, List.set_cons_zero, List.set_cons_succ, i64_w, i32_w]
                                    rfl
                                  refine pure_ (i := 9) (N := some 79) (v := ?_) (a' := ?_) #[true, true, true, true, true, true, true, true, true, true, false] rfl rfl (any_of HT_.out (by kernel_rfl)) (fun _ _ _ h => h) (Or.inl ⟨by rfl, ?_⟩) ?_ ?_
                                  rotate_left
                                  · intro w'
                                    go_simp
                                    with_reducible rfl
                                  rotate_left
                                  · simp only [Act.put, List.setIfInBounds_toArray, List.set_cons_zero, List.set_cons_succ, i64_w, i32_w]
                                    rfl
                                  refine last_ (i := 10) (N := none) #[true, true, true, true, true, true, true, true, true, true, true] rfl rfl (one_of HT_.out (by kernel_rfl)) (by decide) (fun K hK => ?_)
                                  have hs92 : w90.cell? ⟨gb160, 1, none⟩ = some (u161001) := (blk_cell BK160.out 1).trans rfl
                                  have hfs92 := blk_frozen BK160.out 1
                                  have hns92_0 := NB156_160.out
                                  have hns92_1 := NB157_160.out
                                  have hns92_2 := NB159_160.out
                                  have hms92_0 := NB160_156.out
                                  have hms92_1 := NB160_157.out
                                  have hms92_2 := NB160_159.out
                                  refine skip_ (w1 := ?_) (by rfl) rfl ?_ ?_
                                  rotate_left
                                  · go_simp
                                    rfl
                                  refine hK.out _ _ ?_
                                  clear hK K
                                  refine done_ (done_of HT_.out (by kernel_rfl)) ?_
                                  try go_wp2
                                  go_roundg kj30
                                  case measure => have := HK1.out; have := HJ30.out; omega
                                  case rel => exact ⟨(x12_1), (wrap64 (x13_1 + 1)), (y175), (.slice Ao91 y175.length co91), (by first | rfl | (simp; done) | (simp [*]; done)), (by first | rfl | (simp; done) | (simp [*]; done)), H', ⟨by have := HK1.out; have := HJ30.out; omega⟩, ⟨by (with_reducible repeat (first | apply Kd.R_alloc | apply Kd.R_drewN | apply Kd.R_drew)); exact Kd.R_mono (Kd.R_far (p := ⟨gb160, 1, none⟩) (Kd.R_types HO177.out BK160.out (by decide)) (fun _ hk => hk.2) (.slice Ao91 y175.length co91)) (fun _ hk => hk.1)⟩, ⟨by (with_reducible repeat (first | refine blk_drewN ?_ _ | refine blk_drew ?_ | refine blk_alloc ?_ _)); refine blk_far ?_ NB156_160.out _; (with_reducible repeat (first | refine blk_drewN ?_ _ | refine blk_drew ?_ | refine blk_alloc ?_ _)); exact BK156.out⟩, ⟨by (with_reducible repeat (first | refine blk_drewN ?_ _ | refine blk_drew ?_ | refine blk_alloc ?_ _)); refine blk_far ?_ NB157_160.out _; (with_reducible repeat (first | refine blk_drewN ?_ _ | refine blk_drew ?_ | refine blk_alloc ?_ _)); exact BK157.out⟩, ⟨by (with_reducible repeat (first | refine blk_drewN ?_ _ | refine blk_drew ?_ | refine blk_alloc ?_ _)); refine blk_far ?_ NB159_160.out _; (with_reducible repeat (first | refine blk_drewN ?_ _ | refine blk_drew ?_ | refine blk_alloc ?_ _)); exact BK159.out⟩, ⟨by (with_reducible repeat (first | refine blk_drewN ?_ _ | refine blk_drew ?_ | refine blk_alloc ?_ _)); refine blk_put (cs := #[.string a0_0, u161001]) ?_ 1 _ rfl; (with_reducible repeat (first | refine blk_drewN ?_ _ | refine blk_drew ?_ | refine blk_alloc ?_ _)); exact BK160.out⟩, ⟨by repeat (first | (with_reducible first | exact HB.out | apply below_alloc | apply pw_below_drewN | apply below_drew1 | refine below_set ?_ GE156.out | refine below_set ?_ GE157.out | refine below_set ?_ GE159.out | refine below_set ?_ GE160.out) | exact HB.out)⟩⟩
                                · rw [if_neg c84] at H
                                  exact absurd H (by simp)
                            · rw [if_neg c78] at H
                              exact absurd H (by simp)
                          · rw [if_neg c77] at H
                            exact absurd H (by simp)
                  · rw [if_neg c30] at H
                    have c30b0 : decide (x13_1 < (l0_1.length : Int)) = false := decide_eq_false c30
                    clear c30
                    by_cases c93 : x12_1 = true
                    · subst c93
                      have H1 : (some (a0_0, x161001_1)) = some (r1, r2) := by rw [if_pos rfl] at H; exact H
                      clear H
                      have H := H1
                      clear H1
                      simp only [Option.some.injEq, Prod.mk.injEq] at H
                      obtain ⟨rfl, rfl⟩ := H
                      have hnb94 := NB156_157.out
                      have hnc94 := NB157_156.out
                      have hnb95 := NB156_159.out
                      have hnc95 := NB159_156.out
                      have hnb96 := NB156_160.out
                      have hnc96 := NB160_156.out
                      have hcz97_0 : wr.cell? ⟨gb156, 0, none⟩ = some (.string a0_0) := (blk_cell BK156.out 0).trans rfl
                      have hcz97_1 : wr.cell? ⟨gb156, 1, none⟩ = some (.slice A0_1 l0_1.length c0_1) := (blk_cell BK156.out 1).trans rfl
                      have hfz97_0 := blk_frozen BK156.out 0
                      have hfz97_1 := blk_frozen BK156.out 1
                      have hnb98 := NB160_157.out
                      have hnc98 := NB157_160.out
                      have hnb99 := NB160_159.out
                      have hnc99 := NB159_160.out
                      have hcz100_0 : wr.cell? ⟨gb160, 0, none⟩ = some (.string a0_0) := (blk_cell BK160.out 0).trans rfl
                      have hcz100_1 : wr.cell? ⟨gb160, 1, none⟩ = some (u161001) := (blk_cell BK160.out 1).trans rfl
                      have hfz100_0 := blk_frozen BK160.out 0
                      have hfz100_1 := blk_frozen BK160.out 1
                      have hnb101 := NB157_159.out
                      have hnc101 := NB159_157.out
                      have hcz102_0 : wr.cell? ⟨gb157, 0, none⟩ = some (.string (⟨#[]⟩ : ByteArray)) := (blk_cell BK157.out 0).trans rfl
                      have hcz102_1 : wr.cell? ⟨gb157, 1, none⟩ = some (.slice none 0 0) := (blk_cell BK157.out 1).trans rfl
                      have hfz102_0 := blk_frozen BK157.out 0
                      have hfz102_1 := blk_frozen BK157.out 1
                      obtain ⟨Ao103, co103, eo103⟩ := Kd.R_slice HO_161001.out
                      subst eo103
                      go_wp2
                      refine bodyPost_ret (results_cell_row rfl _ _ gb157 29 #[.string a0_0, .slice Ao103 x161001_1.length co103] (0, 0) _ rfl (by (with_reducible repeat (first | refine blk_drewN ?_ _ | refine blk_drew ?_ | refine blk_alloc ?_ _)); refine blk_put (cs := #[.string a0_0, .slice none 0 0]) ?_ 1 _ rfl; (with_reducible repeat (first | refine blk_drewN ?_ _ | refine blk_drew ?_ | refine blk_alloc ?_ _)); refine blk_put (cs := #[.string (⟨#[]⟩ : ByteArray), .slice none 0 0]) ?_ 0 _ rfl; (with_reducible repeat (first | refine blk_drewN ?_ _ | refine blk_drew ?_ | refine blk_alloc ?_ _)); exact BK157.out) Try.underlying29 rfl (by kernel_rfl)) rfl ?_
                      exact ⟨_, by first | rfl | (simp [errW_none, errW_some] <;> rfl) | (simp only [← hji5, ← hji9]; first | rfl | (simp [errW_none, errW_some] <;> rfl)) | (simp [*, errW_none, errW_some] <;> rfl), by (with_reducible repeat (first | apply Kd.R_alloc | apply Kd.R_drewN | apply Kd.R_drew)); exact Kd.R_mono (Kd.R_far (p := ⟨gb157, 1, none⟩) (Kd.R_far (p := ⟨gb157, 0, none⟩) (Kd.R_types HO_161001.out BK157.out (by decide)) (fun _ hk => hk.2) (.string a0_0)) (fun _ hk => hk.2) (.slice Ao103 x161001_1.length co103)) (fun _ hk => trivial), by repeat (first | (with_reducible first | exact HB.out | apply below_alloc | apply pw_below_drewN | apply below_drew1 | refine below_set ?_ GE156.out | refine below_set ?_ GE157.out | refine below_set ?_ GE159.out | refine below_set ?_ GE160.out) | exact HB.out)⟩
                    · replace c93 := Bool.eq_false_iff.mpr c93
                      subst c93
                      have H1 : (if x161001_1.length < 4398046511104 then (some (a0_0, (x161001_1 ++ [(⟨(wrap64 (Int.tdiv a1 2)), (((t158.extract 0 ((ji5) : Int).toNat) ++ a2) ++ (t158.extract ((ji9) : Int).toNat t158.size)), false⟩ : S47)]))) else (none)) = some (r1, r2) := by rw [if_neg (show ¬ (false = true) by decide)] at H; exact H
                      clear H
                      have H := H1
                      clear H1
                      by_cases c104 : x161001_1.length < 4398046511104
                      · rw [if_pos c104] at H
                        have LMc104 := Aside0.mk c104
                        clear c104
                        obtain ⟨y161, hy161⟩ : ∃ y_ : List (S47), y_ = (x161001_1 ++ [(⟨(wrap64 (Int.tdiv a1 2)), (((t158.extract 0 ((ji5) : Int).toNat) ++ a2) ++ (t158.extract ((ji9) : Int).toNat t158.size)), false⟩ : S47)]) := ⟨_, rfl⟩
                        replace H : (some (a0_0, y161)) = some (r1, r2) := by first | (rw [hy161]; with_reducible exact H) | (have H2_ := (Option.bind_some _ _).symm.trans H; rw [hy161]; with_reducible exact H2_) | (have H2_ := (Option.bind_some _ _).symm.trans H; with_reducible exact H2_) | with_reducible exact H | (rw [hy161]; exact H) | exact H
                        have Ny161 := Aside0.mk hy161
                        clear hy161
                        simp only [Option.some.injEq, Prod.mk.injEq] at H
                        obtain ⟨rfl, rfl⟩ := H
                        have hnb105 := NB156_157.out
                        have hnc105 := NB157_156.out
                        have hnb106 := NB156_159.out
                        have hnc106 := NB159_156.out
                        have hnb107 := NB156_160.out
                        have hnc107 := NB160_156.out
                        have hcz108_0 : wr.cell? ⟨gb156, 0, none⟩ = some (.string a0_0) := (blk_cell BK156.out 0).trans rfl
                        have hcz108_1 : wr.cell? ⟨gb156, 1, none⟩ = some (.slice A0_1 l0_1.length c0_1) := (blk_cell BK156.out 1).trans rfl
                        have hfz108_0 := blk_frozen BK156.out 0
                        have hfz108_1 := blk_frozen BK156.out 1
                        have hnb109 := NB160_157.out
                        have hnc109 := NB157_160.out
                        have hnb110 := NB160_159.out
                        have hnc110 := NB159_160.out
                        have hcz111_0 : wr.cell? ⟨gb160, 0, none⟩ = some (.string a0_0) := (blk_cell BK160.out 0).trans rfl
                        have hcz111_1 : wr.cell? ⟨gb160, 1, none⟩ = some (u161001) := (blk_cell BK160.out 1).trans rfl
                        have hfz111_0 := blk_frozen BK160.out 0
                        have hfz111_1 := blk_frozen BK160.out 1
                        have hnb112 := NB159_157.out
                        have hnc112 := NB157_159.out
                        have hcz113_0 : wr.cell? ⟨gb159, 0, none⟩ = some (.int .i64 (wrap64 (Int.tdiv a1 2))) := (blk_cell BK159.out 0).trans rfl
                        have hcz113_1 : wr.cell? ⟨gb159, 1, none⟩ = some (.string (((t158.extract 0 ((ji5) : Int).toNat) ++ a2) ++ (t158.extract ((ji9) : Int).toNat t158.size))) := (blk_cell BK159.out 1).trans rfl
                        have hcz113_2 : wr.cell? ⟨gb159, 2, none⟩ = some (.bool false) := (blk_cell BK159.out 2).trans rfl
                        have hfz113_0 := blk_frozen BK159.out 0
                        have hfz113_1 := blk_frozen BK159.out 1
                        have hfz113_2 := blk_frozen BK159.out 2
                        go_wp2_with (first | ((with_reducible refine gate_builtin (b := .append) (xs := #[.tmp 83, .tmp 85]) rfl ?_); at_builtin; refine Kd.R_append k47 (w0 := w) w.heap.size rfl (.tmp 83) (.tmp 85) 27 47 (.agg #[(.int .i64 0), (.string ⟨#[]⟩), (.bool false)]) 32 rfl Try.underlying27 info47 rfl (by decide) (by omega) u161001 x161001_1 (⟨(wrap64 (Int.tdiv a1 2)), (((t158.extract 0 ((ji5) : Int).toNat) ++ a2) ++ (t158.extract ((ji9) : Int).toNat t158.size)), false⟩ : S47) [.int .i64 (wrap64 (Int.tdiv a1 2)), .string (((t158.extract 0 ((ji5) : Int).toNat) ++ a2) ++ (t158.extract ((ji9) : Int).toNat t158.size)), .bool false] (fun k_ => k_ ≠ gb159) (fun _ => False) rfl rfl ?aP (fun _ hk => hk.elim) ?aF ?aO ?aB ?aS ?aL ?_; (case aP => exact k47_mkM _ _ _ (⟨(wrap64 (Int.tdiv a1 2)), (((t158.extract 0 ((ji5) : Int).toNat) ++ a2) ++ (t158.extract ((ji9) : Int).toNat t158.size)), false⟩ : S47)); (case aB => exact (by repeat (first | (with_reducible first | exact HB.out | apply below_alloc | apply pw_below_drewN | apply below_drew1 | refine below_set ?_ GE156.out | refine below_set ?_ GE157.out | refine below_set ?_ GE159.out | refine below_set ?_ GE160.out) | exact HB.out))); (case aF => exact (fun k_ hk => Kd.freshB (g := gb159) (o := .cells #[.int .i64 (wrap64 (Int.tdiv a1 2)), .string (((t158.extract 0 ((ji5) : Int).toNat) ++ a2) ++ (t158.extract ((ji9) : Int).toNat t158.size)), .bool false] 47 (0, 0)) (by (with_reducible repeat (first | refine blk_drewN ?_ _ | refine blk_drew ?_ | refine blk_alloc ?_ _)); exact BK159.out) k_ hk)); (case aO => exact (by (with_reducible repeat (first | apply Kd.R_alloc | apply Kd.R_drewN | apply Kd.R_drew)); exact HO_161001.out)); (case aS => exact (below_size (by repeat (first | (with_reducible first | exact HB.out | apply below_alloc | apply pw_below_drewN | apply below_drew1 | refine below_set ?_ GE156.out | refine below_set ?_ GE157.out | refine below_set ?_ GE159.out | refine below_set ?_ GE160.out) | exact HB.out)))); (case aL => have := LMc104.out; omega); intro v162 w114 ho hb hg hat; rw [← Ny161.out] at ho; have n0_ := Aside0.mk (blk_grown (g := gb156) (o := .cells #[.string a0_0, .slice A0_1 l0_1.length c0_1] 29 (0, 0)) (by (with_reducible repeat (first | refine blk_drewN ?_ _ | refine blk_drew ?_ | refine blk_alloc ?_ _)); exact BK156.out) hg (Kd.R_ne HO_161001.out BK156.out (by decide))); have n1_ := Aside0.mk (blk_grown (g := gb157) (o := .cells #[.string (⟨#[]⟩ : ByteArray), .slice none 0 0] 29 (0, 0)) (by (with_reducible repeat (first | refine blk_drewN ?_ _ | refine blk_drew ?_ | refine blk_alloc ?_ _)); exact BK157.out) hg (Kd.R_ne HO_161001.out BK157.out (by decide))); have n2_ := Aside0.mk (blk_grown (g := gb159) (o := .cells #[.int .i64 (wrap64 (Int.tdiv a1 2)), .string (((t158.extract 0 ((ji5) : Int).toNat) ++ a2) ++ (t158.extract ((ji9) : Int).toNat t158.size)), .bool false] 47 (0, 0)) (by (with_reducible repeat (first | refine blk_drewN ?_ _ | refine blk_drew ?_ | refine blk_alloc ?_ _)); exact BK159.out) hg (Kd.R_away HO_161001.out (fun _ hk => hk))); have n3_ := Aside0.mk (blk_grown (g := gb160) (o := .cells #[.string a0_0, u161001] 29 (0, 0)) (by (with_reducible repeat (first | refine blk_drewN ?_ _ | refine blk_drew ?_ | refine blk_alloc ?_ _)); exact BK160.out) hg (Kd.R_ne HO_161001.out BK160.out (by decide))); have n4_ := Aside0.mk (hb); have n5_ := Aside0.mk (ho); clear BK156; clear BK157; clear BK159; clear BK160; clear HB; clear HO_161001; have BK156 := n0_; have BK157 := n1_; have BK159 := n2_; have BK160 := n3_; have HB := n4_; have HO163 := n5_; clear n0_ n1_ n2_ n3_ n4_ n5_; clear ho hb hg hat; obtain ⟨Ao115, co115, eo115⟩ := Kd.R_slice HO163.out; subst eo115; have hcz116_0 : w114.cell? ⟨gb160, 0, none⟩ = some (.string a0_0) := (blk_cell BK160.out 0).trans rfl; have hcz116_1 : w114.cell? ⟨gb160, 1, none⟩ = some (u161001) := (blk_cell BK160.out 1).trans rfl; have hfz116_0 := blk_frozen BK160.out 0; have hfz116_1 := blk_frozen BK160.out 1; have hcz117_0 : w114.cell? ⟨gb157, 0, none⟩ = some (.string (⟨#[]⟩ : ByteArray)) := (blk_cell BK157.out 0).trans rfl; have hcz117_1 : w114.cell? ⟨gb157, 1, none⟩ = some (.slice none 0 0) := (blk_cell BK157.out 1).trans rfl; have hfz117_0 := blk_frozen BK157.out 0; have hfz117_1 := blk_frozen BK157.out 1))
                        refine bodyPost_ret (results_cell_row rfl _ _ gb157 29 #[.string a0_0, .slice Ao115 y161.length co115] (0, 0) _ rfl (by (with_reducible repeat (first | refine blk_drewN ?_ _ | refine blk_drew ?_ | refine blk_alloc ?_ _)); refine blk_put (cs := #[.string a0_0, .slice none 0 0]) ?_ 1 _ rfl; (with_reducible repeat (first | refine blk_drewN ?_ _ | refine blk_drew ?_ | refine blk_alloc ?_ _)); refine blk_put (cs := #[.string (⟨#[]⟩ : ByteArray), .slice none 0 0]) ?_ 0 _ rfl; (with_reducible repeat (first | refine blk_drewN ?_ _ | refine blk_drew ?_ | refine blk_alloc ?_ _)); refine blk_far ?_ NB157_160.out _; (with_reducible repeat (first | refine blk_drewN ?_ _ | refine blk_drew ?_ | refine blk_alloc ?_ _)); exact BK157.out) Try.underlying29 rfl (by kernel_rfl)) rfl ?_
                        exact ⟨_, by first | rfl | (simp [errW_none, errW_some] <;> rfl) | (simp only [← hji5, ← hji9]; first | rfl | (simp [errW_none, errW_some] <;> rfl)) | (simp [*, errW_none, errW_some] <;> rfl), by (with_reducible repeat (first | apply Kd.R_alloc | apply Kd.R_drewN | apply Kd.R_drew)); exact Kd.R_mono (Kd.R_far (p := ⟨gb157, 1, none⟩) (Kd.R_far (p := ⟨gb157, 0, none⟩) (Kd.R_far (p := ⟨gb160, 1, none⟩) (Kd.R_types (Kd.R_types HO163.out BK160.out (by decide)) BK157.out (by decide)) (fun _ hk => hk.1.2) (.slice Ao115 y161.length co115)) (fun _ hk => hk.2) (.string a0_0)) (fun _ hk => hk.2) (.slice Ao115 y161.length co115)) (fun _ hk => trivial), by repeat (first | (with_reducible first | exact HB.out | apply below_alloc | apply pw_below_drewN | apply below_drew1 | refine below_set ?_ GE156.out | refine below_set ?_ GE157.out | refine below_set ?_ GE159.out | refine below_set ?_ GE160.out) | exact HB.out)⟩
                      · rw [if_neg c104] at H
                        exact absurd H (by simp)
            · rw [if_neg c12] at H
              exact absurd H (by simp)
          · rw [if_neg c11] at H
            exact absurd H (by simp)
        · rw [if_neg c10] at H
          exact absurd H (by simp)
      · rw [if_neg c8] at H
        exact absurd H (by simp)
    · rw [if_neg c7] at H
      exact absurd H (by simp)
  · rw [if_neg c6] at H
    exact absurd H (by simp)

end Go.Proofs.Ytcfdabmeejfcoaa.PFnExactStoreWord
