-- Written by a program of this session for this claim; Lean checks it.
import Derived.Test.YtcfdabmeejfcoaaRows
import Derived.Test.YtcfdabmeejfcoaaMFnExactStoreWordx11
import Derived.Test.YtcfdabmeejfcoaaPureFnExactStoreWord
import Derived.WalkKit
import Derived.ProofKit
import Derived.OpenShut
import Derived.ShutString
import Derived.ChangeOld
import Derived.Below
import Derived.SizedLaws
import Derived.Carry
import Derived.Lib.SmallJoins
import Derived.Deep.Slices
import Derived.Deep.Fields
import Derived.ChangeSame
namespace Go.Proofs.Ytcfdabmeejfcoaa.fnExactStoreWord
open Go.ChangeShapes Go.WideShapes Go.ChangeAt Go.RowKit Go.Joins
open Go.ChangeMaps (open_string shut_string)
set_option linter.unusedVariables false
open Go.Proofs.Ytcfdabmeejfcoaa.PFnExactStoreWord Go.Proofs.YtcfdabmeejfcoaaW.PrintWords
section
variable {H : Type} {enc : TypeId × Value → H} {P : Program} {w : World} {base : Nat} {spare : Nat → Bool} {held : Bool}
/-- A slice that came in, whose elements are of one kind. -/
theorem openedOf {α : Type} (d : Kd α) (ok : α → Prop) {t e : TypeId} {fuel : Nat} {cs : List Value} {x : DataW H × List MemPlace} (ht : P.underlying t = some (.slice e)) (hC : P.cellsOf e = d.sz)
    (hel : ∀ n cs x, cs.length = d.sz → DataW.trod enc P w base spare held n e cs = some x → ∃ a : α, d.K w a cs ∧ ok a) (h : DataW.trod enc P w base spare held fuel t cs = some x) :
    ∃ (A : Option Addr) (c : Nat) (l : List α), cs = [.slice A l.length c] ∧ d.C w A l.length l ∧ l.length ≤ c ∧ l.length ≤ 9223372036854775807 ∧ ∀ y ∈ l, ok y := by
  rcases Go.Deep.open_slice ht h with ⟨rfl, _⟩ | ⟨a, len, cap, m, n, D, Pl, rfl, _, hl, hm, hmm, _, hi⟩
  · exact ⟨none, 0, [], rfl, Kd.C_nil d w, by simp, by simp, by simp⟩
  · have hle : len ≤ m := by rw [hmm]; split <;> omega
    have key : ∀ i : Fin len, ∃ y : α, ok y ∧ ∃ c : List Value, c.length = d.sz ∧ d.K w y c ∧ ∀ j u, c[j]? = some u → w.cell? (a.add (i.1 * d.sz + j)) = some u := by
      intro i
      obtain ⟨cs', hc, ht'⟩ := hi i.1 (by have := i.2; omega)
      rw [hC] at hc
      obtain ⟨_, hcl, hat⟩ := World.cells?_some hc
      obtain ⟨y, hK, hok⟩ := hel _ _ _ hcl ht'
      refine ⟨y, hok, cs', hcl, hK, fun j u hj => ?_⟩
      have hjl : j < d.sz := by rw [← hcl]; exact (List.getElem?_eq_some_iff.1 hj).1
      rw [← Go.Deep.add_add, hat j hjl, hj]
    unfold maxLen at hm
    refine ⟨some a, cap, List.ofFn fun i => (key i).choose, by rw [List.length_ofFn], ⟨rfl, by rw [List.length_ofFn]; omega, fun _ => ⟨a, rfl, fun j p hj => ?_⟩⟩, by rw [List.length_ofFn]; exact hl, by rw [List.length_ofFn]; omega, fun y hy => ?_⟩
    · obtain ⟨hj', hp⟩ := List.getElem?_eq_some_iff.1 hj
      rw [List.getElem_ofFn] at hp
      subst hp
      exact (key _).choose_spec.2
    · obtain ⟨i, rfl⟩ := List.mem_ofFn.1 hy
      exact (key i).choose_spec.1
theorem openedInt {k : IntKind} {t e : TypeId} {fuel : Nat} {cs : List Value} {x : DataW H × List MemPlace} (ht : P.underlying t = some (.slice e)) (he : P.underlying e = some (.int k)) (hC : P.cellsOf e = 1)
    (h : DataW.trod enc P w base spare held fuel t cs = some x) :
    ∃ (A : Option Addr) (c : Nat) (l : List Int), cs = [.slice A l.length c] ∧ (Kd.int k).C w A l.length l ∧ l.length ≤ c ∧ l.length ≤ 9223372036854775807 ∧ ∀ y ∈ l, (Lit.int k y).wf = true :=
  openedOf (Kd.int k) _ ht hC (fun n cs x _ h => by
    obtain ⟨a, rfl, _, hw⟩ := DataW.trod_int he h
    exact ⟨a, rfl, hw⟩) h
theorem fieldOf {fs : Array Field} (hone : Go.Deep.oneCellFields P fs = true) {cs : List Value} {n : Nat} {xs : List (DataW H × List MemPlace)} (hx : xs.length = fs.size) (hc : cs.length = fs.size)
    (hf : ∀ (i : Nat) (f : Field), fs[i]? = some f → DataW.trod enc P w base spare held n f.type ((cs.drop f.offset).take (P.cellsOf f.type)) = xs[i]?) (i : Nat) (f : Field) (hi : fs[i]? = some f) :
    ∃ (v : Value) (y : DataW H × List MemPlace), cs[i]? = some v ∧ xs[i]? = some y ∧ DataW.trod enc P w base spare held n f.type [v] = some y := by
  obtain ⟨ho, hk⟩ := Go.Deep.hone_of hone i f hi
  have hlt : i < fs.size := (Array.getElem?_eq_some_iff.1 hi).1
  have h1 := hf i f hi
  rw [ho, hk, List.drop_eq_getElem_cons (by omega)] at h1
  exact ⟨_, _, List.getElem?_eq_getElem (by omega), List.getElem?_eq_getElem (by omega), h1.trans (List.getElem?_eq_getElem (by omega))⟩
theorem open_aggs {r : Reach} {b0 : Nat} {t : TypeId} {fs : Array Field} {v : Value} {d : DataW H} {p : List MemPlace} (hs : P.underlying t = some (.struct fs)) (hone : Go.Deep.oneCellFields P fs = true) (hC : P.cellsOf t = fs.size) (hv : Value.okWide P w r b0 t v) (h : DataW.Trod enc P w base spare held t v d p) :
    ∃ (cs : Array Value) (n : Nat), v = .agg cs ∧ cs.toList.length = fs.size ∧ ∀ (i : Nat) (f : Field), fs[i]? = some f → ∃ (u : Value) (y : DataW H × List MemPlace), cs.toList[i]? = some u ∧ DataW.trod enc P w base spare held n f.type [u] = some y := by
  obtain ⟨cs, rfl, hsz⟩ := okWide_struct hs hv
  obtain ⟨fuel, hf⟩ := h
  obtain ⟨xs, m, _, _, _, hx, hf'⟩ := DataW.trod_struct hs hf
  have hl : cs.toList.length = fs.size := by rw [Array.length_toList]; exact hsz.trans hC
  refine ⟨cs, m, rfl, hl, fun i f hi => ?_⟩
  obtain ⟨u, y, e1, _, e2⟩ := fieldOf hone hx hl hf' i f hi
  exact ⟨u, y, e1, e2⟩
end
theorem ofItems1 {α : Type} {cs : List α} {a0 : α} (hl : cs.length = 1) (e0 : cs[0]? = some a0) : cs = [a0] := by
  match cs, hl, e0 with
  | [b0], _, p0 => simp_all
theorem ofItems2 {α : Type} {cs : List α} {a0 a1 : α} (hl : cs.length = 2) (e0 : cs[0]? = some a0) (e1 : cs[1]? = some a1) : cs = [a0, a1] := by
  match cs, hl, e0, e1 with
  | [b0, b1], _, p0, p1 => simp_all
theorem ofItems3 {α : Type} {cs : List α} {a0 a1 a2 : α} (hl : cs.length = 3) (e0 : cs[0]? = some a0) (e1 : cs[1]? = some a1) (e2 : cs[2]? = some a2) : cs = [a0, a1, a2] := by
  match cs, hl, e0, e1, e2 with
  | [b0, b1, b2], _, p0, p1, p2 => simp_all
theorem ofItems4 {α : Type} {cs : List α} {a0 a1 a2 a3 : α} (hl : cs.length = 4) (e0 : cs[0]? = some a0) (e1 : cs[1]? = some a1) (e2 : cs[2]? = some a2) (e3 : cs[3]? = some a3) : cs = [a0, a1, a2, a3] := by
  match cs, hl, e0, e1, e2, e3 with
  | [b0, b1, b2, b3], _, p0, p1, p2, p3 => simp_all
theorem ofItems5 {α : Type} {cs : List α} {a0 a1 a2 a3 a4 : α} (hl : cs.length = 5) (e0 : cs[0]? = some a0) (e1 : cs[1]? = some a1) (e2 : cs[2]? = some a2) (e3 : cs[3]? = some a3) (e4 : cs[4]? = some a4) : cs = [a0, a1, a2, a3, a4] := by
  match cs, hl, e0, e1, e2, e3, e4 with
  | [b0, b1, b2, b3, b4], _, p0, p1, p2, p3, p4 => simp_all
theorem ofItems6 {α : Type} {cs : List α} {a0 a1 a2 a3 a4 a5 : α} (hl : cs.length = 6) (e0 : cs[0]? = some a0) (e1 : cs[1]? = some a1) (e2 : cs[2]? = some a2) (e3 : cs[3]? = some a3) (e4 : cs[4]? = some a4) (e5 : cs[5]? = some a5) : cs = [a0, a1, a2, a3, a4, a5] := by
  match cs, hl, e0, e1, e2, e3, e4, e5 with
  | [b0, b1, b2, b3, b4, b5], _, p0, p1, p2, p3, p4, p5 => simp_all
theorem ofItems7 {α : Type} {cs : List α} {a0 a1 a2 a3 a4 a5 a6 : α} (hl : cs.length = 7) (e0 : cs[0]? = some a0) (e1 : cs[1]? = some a1) (e2 : cs[2]? = some a2) (e3 : cs[3]? = some a3) (e4 : cs[4]? = some a4) (e5 : cs[5]? = some a5) (e6 : cs[6]? = some a6) : cs = [a0, a1, a2, a3, a4, a5, a6] := by
  match cs, hl, e0, e1, e2, e3, e4, e5, e6 with
  | [b0, b1, b2, b3, b4, b5, b6], _, p0, p1, p2, p3, p4, p5, p6 => simp_all
theorem ofItems8 {α : Type} {cs : List α} {a0 a1 a2 a3 a4 a5 a6 a7 : α} (hl : cs.length = 8) (e0 : cs[0]? = some a0) (e1 : cs[1]? = some a1) (e2 : cs[2]? = some a2) (e3 : cs[3]? = some a3) (e4 : cs[4]? = some a4) (e5 : cs[5]? = some a5) (e6 : cs[6]? = some a6) (e7 : cs[7]? = some a7) : cs = [a0, a1, a2, a3, a4, a5, a6, a7] := by
  match cs, hl, e0, e1, e2, e3, e4, e5, e6, e7 with
  | [b0, b1, b2, b3, b4, b5, b6, b7], _, p0, p1, p2, p3, p4, p5, p6, p7 => simp_all

theorem elE59 {H : Type} {enc : TypeId × Value → H} {w : World} {base : Nat} {spare : Nat → Bool} {held : Bool} (n : Nat) (cs : List Value) (y : DataW H × List MemPlace) (hl : cs.length = k59.sz) (h : DataW.trod enc Try.prog w base spare held n 59 cs = some y) : ∃ x : S59, k59.K w x cs ∧ ((Lit.int .i64 x.f0).wf = true ∧ x.f1.size ≤ 9223372036854775807) := by
  obtain ⟨xs, m, _, _, _, hx, hf⟩ := DataW.trod_struct Try.underlying59 h
  have hl3 : cs.length = 3 := hl
  have g := fieldOf (by kernel_rfl) hx hl3 hf
  obtain ⟨v0, y0, e0, _, t0⟩ := g 0 _ rfl
  obtain ⟨v1, y1, e1, _, t1⟩ := g 1 _ rfl
  obtain ⟨v2, y2, e2, _, t2⟩ := g 2 _ rfl
  obtain ⟨a0, q0, _, w0⟩ := DataW.trod_int Try.underlying3 t0
  simp only [List.cons.injEq, and_true] at q0
  subst q0
  obtain ⟨a1, q1, _, w1⟩ := DataW.trod_string Try.underlying9 t1
  unfold maxLen at w1
  simp only [List.cons.injEq, and_true] at q1
  subst q1
  obtain ⟨a2, q2, _⟩ := DataW.trod_bool Try.underlying4 t2
  simp only [List.cons.injEq, and_true] at q2
  subst q2
  have hcs : cs = [.int .i64 a0, .string a1, .bool a2] := ofItems3 hl3 e0 e1 e2
  rw [hcs]
  exact ⟨⟨a0, a1, a2⟩, k59_mk w _, w0, w1⟩
theorem openedE59 {H : Type} {enc : TypeId × Value → H} {w : World} {base : Nat} {spare : Nat → Bool} {held : Bool} {t : TypeId} {fuel : Nat} {cs : List Value} {y : DataW H × List MemPlace} (ht : Try.prog.underlying t = some (.slice 59)) (h : DataW.trod enc Try.prog w base spare held fuel t cs = some y) :
    ∃ (A : Option Addr) (c : Nat) (l : List S59), cs = [.slice A l.length c] ∧ k59.C w A l.length l ∧ l.length ≤ c ∧ l.length ≤ 9223372036854775807 ∧ ∀ x ∈ l, ((Lit.int .i64 x.f0).wf = true ∧ x.f1.size ≤ 9223372036854775807) := openedOf k59 _ ht (by kernel_rfl) elE59 h
theorem own : ownKnob Try.prog.godebug = none := by kernel_rfl
theorem laidOut : laidOutB Try.prog = true := by kernel_rfl
set_option maxRecDepth 100000 in
theorem lifted (os : Os) (started : os.Started) (H : Type) (enc : TypeId × Value → H) :
    ReturnsInHanded {} Try.checked os 5 .any (Rows.fnExactStoreWordSpec.pre6 enc Try.prog Try.f5 Rows.fnExactStoreWordRow.domain false) (Rows.fnExactStoreWordSpec.post enc Try.prog Try.f5 false true false false) := by
  refine returnsInHanded_of_change_sized (C := Try.checked) own started (by kernel_rfl) Try.func5
    (ChangeSpec.witness6 (enc := enc) (C := Try.checked) false ⟨#[], #[.agg #[.string ByteArray.empty, .slice none 0 0], .int .i64 0, .string ByteArray.empty], []⟩ 8 (by kernel_rfl) (by kernel_rfl) (by kernel_rfl) (by kernel_rfl)) ?_
  intro W base args ds gs before hval0 hW hcnd hsz0 _
  have hval : ∀ (j : Nat) t v, Try.f5.params[j]? = some t → args[j]? = some v → Value.okWide Try.prog W .any base t v := hval0
  have hW' := hW
  obtain ⟨p, q, hA0, hV, rfl, hfz, hnd⟩ := hW
  have hA : DataW.TrodAll enc Try.prog W 0 (fun _ => true) true Try.f5.params.toList args.toList ds p := hA0
  rw [Try.params5] at hA hval
  obtain ⟨v0, vs0, d0, ds0, p0, q0, hargs, rfl, rfl, h0, r0⟩ := trodAll_cons hA
  obtain ⟨v1, vs1, d1, ds1, p1, q1, rfl, rfl, rfl, h1, r1⟩ := trodAll_cons r0
  obtain ⟨v2, vs2, d2, ds2, p2, q2, rfl, rfl, rfl, h2, r2⟩ := trodAll_cons r1
  obtain ⟨rfl, rfl, rfl⟩ := trodAll_nil r2
  obtain rfl : args = #[v0, v1, v2] := by cases args; simp_all
  obtain ⟨rfl, rfl⟩ := trodVars_none hV
  have k0 := h0
  have lt0 : ∀ x ∈ p0, x.block < W.heap.size := by obtain ⟨m, hm⟩ := k0; exact DataW.trod_lt m _ _ _ hm
  obtain ⟨u0_0, u0_1, z0_0, z0_1, m0, hv0_, hd0_, hp0_, t0_0, t0_1⟩ := open_agg2 Try.underlying24 (by kernel_rfl) (by kernel_rfl) (hval 0 24 v0 rfl rfl) h0
  obtain ⟨a0_0, e0_0, _, w0_0_0⟩ := DataW.trod_string Try.underlying9 t0_0
  simp only [List.cons.injEq, and_true] at e0_0
  subst e0_0
  unfold maxLen at w0_0_0
  obtain ⟨A0_1, c0_1, l0_1, e0_1, hr0_1, hc0_1, w0_1_0, w0_1_1⟩ := openedE59 Try.underlying22 t0_1
  simp only [List.cons.injEq, and_true] at e0_1
  subst e0_1
  subst hv0_
  obtain ⟨a1, rfl, rfl, rfl, w1_0⟩ := open_int Try.underlying3 (hval 1 3 v1 rfl rfl) h1
  obtain ⟨a2, rfl, rfl, rfl, w2_0⟩ := open_string Try.underlying9 (hval 2 9 v2 rfl rfl) h2
  have w2_0' := w2_0
  unfold maxLen at w2_0'
  clear hA0 hval0 hsz0
  refine (PFnExactStoreWord.laws_FnExactStoreWord.walk Pure.FnExactStoreWord a0_0 _ _ l0_1 a1 a2 W w0_0_0 hr0_1 hc0_1 w0_1_0 w0_1_1 w1_0 w2_0').mono fun e W' ⟨he, bel⟩ => ?_
  subst he
  exact ⟨_, rfl, _, _, _, [], _, [], hW', trodAll_mk1 (shut_bool Try.underlying4 _), (trodAll_cons_mk (Below.trod laidOut (by kernel_rfl) (of_decide_eq_true (by kernel_rfl)) k0 bel lt0) (trodAll_cons_mk (shut_int Try.underlying3 w1_0) (trodAll_cons_mk (shut_string Try.underlying9 w2_0) trodAll_mk0))), rfl, bel.frame _, fun h => by cases h⟩
theorem over : Rows.fnExactStoreWordRow.holds Try.pinned (OpenSpec.ofChange Rows.fnExactStoreWordSpec) :=
  OpenClaim.holds_of_wide 5 Try.f5 rfl rfl rfl rfl rfl rfl rfl ⟨rfl, rfl, rfl, rfl, rfl⟩ rfl rfl rfl rfl rfl (by kernel_rfl) Try.func5 (by kernel_rfl)
    (of_decide_eq_true (by kernel_rfl)) (by unfold Func.isWrapper; first | (rw [if_pos (by decide +kernel)]; kernel_rfl) | (rw [if_neg (by decide +kernel)]; exact ⟨rfl, rfl⟩))
    (fun os started H enc _ => lifted os started H enc)
theorem proved : Rows.FnExactStoreWordSaid := over
#print axioms proved
end Go.Proofs.Ytcfdabmeejfcoaa.fnExactStoreWord
namespace Go.Proofs.Ytcfdabmeejfcoaa
/-- The row, under a short name, for the claim. -/
theorem fnExactStoreWord_holds : Rows.FnExactStoreWordSaid := fnExactStoreWord.proved
end Go.Proofs.Ytcfdabmeejfcoaa
