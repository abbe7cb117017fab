-- Written by a program of this session for this claim; Lean checks it.
import Derived.Test.YtmlleefmkmelmaaDoorMFnFiguresx0
namespace Go.Proofs.YtmlleefmkmelmaaDoor.PFnFigures
open Go.RowKit Go.Proofs.YtmlleefmkmelmaaDoorW.PrintWords Go.Proofs.YtmlleefmkmelmaaDoorW.PrintLast Go.Proofs.YtmlleefmkmelmaaDoorW.PrintMore
attribute [local go_sem] max2_int min2_int max_two min_two max_three min_three max_four min_four   -- for this text's walks alone
set_option linter.unusedVariables false
set_option linter.unusedSimpArgs false

/-! ### impl_Unhex: function 9 -/
def numsU (l : List UInt8) : List Int := l.map fun b => (b.toNat : Int)
theorem str_numsU (l : List UInt8) : strOfNums (numsU l) = ⟨l.toArray⟩ := by
  have e : strOfNums (numsU l) = (⟨((numsU l).map fun x => UInt8.ofNat x.toNat).toArray⟩ : ByteArray) := rfl
  rw [e]
  congr 2
  unfold numsU
  rw [List.map_map]
  conv => rhs; rw [← List.map_id l]
  apply List.map_congr_left
  intro b _
  simp
theorem nums_map (D : List UInt8) : (D.map fun b => Value.int .u8 (b.toNat : Int)) = nums .u8 (numsU D) := by
  simp [nums, numsU, List.map_map, Function.comp_def]
open Classical in
/-- What impl.Unhex gives. -/
noncomputable def impl_Unhex.w (a : ByteArray) : ByteArray × Bool :=
  if (Lib.Hx.decode a.data.toList).2 = .ok ∧ (Lib.Hx.decode a.data.toList).1.length ≤ 20000 ∧ Lib.Hx.encode (Lib.Hx.decode a.data.toList).1 = a.data.toList then (⟨(Lib.Hx.decode a.data.toList).1.toArray⟩, true) else (⟨#[]⟩, false)
theorem want_bad (a : ByteArray) (h : (Lib.Hx.decode a.data.toList).2 ≠ .ok) : impl_Unhex.w a = (⟨#[]⟩, false) := by
  unfold impl_Unhex.w; rw [if_neg (fun hh => h hh.1)]
theorem want_long (a : ByteArray) (h : 20000 < (Lib.Hx.decode a.data.toList).1.length) : impl_Unhex.w a = (⟨#[]⟩, false) := by
  unfold impl_Unhex.w; rw [if_neg (fun hh => by have := hh.2.1; omega)]
theorem want_ne (a : ByteArray) (h : Lib.Hx.encode (Lib.Hx.decode a.data.toList).1 ≠ a.data.toList) : impl_Unhex.w a = (⟨#[]⟩, false) := by
  unfold impl_Unhex.w; rw [if_neg (fun hh => h hh.2.2)]
theorem want_eq (a : ByteArray) (h0 : (Lib.Hx.decode a.data.toList).2 = .ok) (h1 : (Lib.Hx.decode a.data.toList).1.length ≤ 20000) (h : Lib.Hx.encode (Lib.Hx.decode a.data.toList).1 = a.data.toList) : impl_Unhex.w a = (⟨(Lib.Hx.decode a.data.toList).1.toArray⟩, true) := by
  unfold impl_Unhex.w; rw [if_pos ⟨h0, h1, h⟩]
set_option maxHeartbeats 4000000 in
set_option maxRecDepth 100000 in
theorem unhex_calls_ (a : ByteArray) (hb : a.size ≤ 1048576) (w : World) (tp : TypeId) (pa : Addr) (hv : w.var? Tryd.prog "encoding/hex.ErrLength" = some #[.iface tp (.pointer (some pa))]) :
    Calls Tryd.prog 9 #[.string a] w fun e w' => e = .returned (.tuple #[.string (impl_Unhex.w a).1, .bool (impl_Unhex.w a).2]) ∧ Below w.heap.size w w' := by
  have C1 := Tryd.hex_DecodeString a w _ (by have h0 := World.var?_cell Go.Proofs.YtmlleefmkmelmaaDoorW.LaidT.gErr hv 0; simpa using h0) (by omega)
  have hlen := Lib.Hx.decode_len a.data.toList
  have hn : a.data.toList.length = a.size := rfl
  have w1 := want_bad a
  have w2 := want_long a
  have w3 := want_ne a
  have w4 := want_eq a
  generalize impl_Unhex.w a = R at *
  generalize hD : Lib.Hx.decode a.data.toList = D at *
  obtain ⟨D1, D2⟩ := D
  clear hD hv
  have C1 := Aside0.mk C1
  have L := Aside0.mk hlen
  clear hlen
  cases D2 with
  | bad c =>
    obtain rfl := w1 (by simp)
    clear w1 w2 w3 w4
    go_enter Tryd.func9, Tryd.ntmps9
    go_wp2_with (go_at_call 24; refine C1.out.mono ?_; rintro e w1 ⟨rfl, -, hb⟩; simp only [Lib.Hx.errVal]; have HB1 := Aside0.mk hb; clear hb)
    go_ret2
    exact ⟨rfl, HB1.out⟩
  | odd =>
    obtain rfl := w1 (by simp)
    clear w1 w2 w3 w4
    go_enter Tryd.func9, Tryd.ntmps9
    go_wp2_with (go_at_call 24; refine C1.out.mono ?_; rintro e w1 ⟨rfl, -, hb⟩; simp only [Lib.Hx.errVal]; have HB1 := Aside0.mk hb; clear hb)
    go_ret2
    exact ⟨rfl, HB1.out⟩
  | ok =>
    clear w1
    obtain ⟨n, hn1⟩ : ∃ n, n = D1.length := ⟨_, rfl⟩
    by_cases c : 20000 < n
    · obtain rfl := w2 (by simpa [hn1] using c)
      clear w2 w3 w4
      have C1 := C1.out
      simp only [← hn1] at C1
      have C1 := Aside0.mk C1
      go_enter Tryd.func9, Tryd.ntmps9
      go_wp2_with (go_at_call 24; refine C1.out.mono ?_; rintro e w1 ⟨rfl, -, hb⟩; simp only [Lib.Hx.errVal]; have HB1 := Aside0.mk hb; clear hb)
      go_ret2
      exact ⟨rfl, HB1.out⟩
    · clear w2
      have w4 := w4 rfl (by show D1.length ≤ 20000; omega)
      have w3 : Lib.Hx.encode D1 ≠ a.data.toList → R = (⟨#[]⟩, false) := w3
      have w4 : Lib.Hx.encode D1 = a.data.toList → R = (⟨D1.toArray⟩, true) := w4
      have L1 : D1.length ≤ a.size / 2 := by have := L.out; simpa [hn] using this
      obtain ⟨st, hst⟩ : ∃ st : ByteArray, st = ⟨(Lib.Hx.encode D1).toArray⟩ := ⟨_, rfl⟩
      have hmx : a.size / 2 ≤ maxLen := by unfold maxLen; omega
      have cn : ¬ (20000 : Int) < (D1.length : Int) := by rw [← hn1]; omega
      have CN := Aside0.mk cn
      have C2 : Aside0 (∀ (W : World) (g : Nat), g < W.heap.size → W.rowIs g 5 (a.size / 2) (Lib.Hx.rowP (fun _ => .int .u8 0) 0 D1) → Calls Tryd.prog 25 #[.slice (some ⟨g, 0, none⟩) D1.length (a.size / 2)] W fun e w' => e = .returned (.string st) ∧ Below W.heap.size W w' ∧ w'.ownsRow g 5 1 (.slice (some ⟨g, 0, none⟩) D1.length (a.size / 2)) D1.length (nums .u8 (numsU D1))) := ⟨fun W g hg hr => by
        have ho := rowP_owns hr L1 hmx g (Nat.le_refl _)
        refine (Tryd.hex_EncodeToString_bytes g 0 (a.size / 2) D1 W (fun i hi => ?_) hg (by omega)).mono ?_
        · have e := ho.cells (g := g) rfl i (.int .u8 ((D1[i]'hi).toNat : Int)) (by simp [hi])
          rw [Go.Proofs.YtmlleefmkmelmaaDoorW.PrintWords.add_plain] at e
          rw [Nat.zero_add]
          exact e
        · rintro e w' ⟨rfl, hb⟩
          rw [nums_map] at ho
          exact ⟨by rw [hst], hb, own_move ho (fun k hk => by
            have : g = k := by simpa [Value.ownBlock] using hk
            subst this
            exact hb.block _ hg)⟩⟩
      have C1 : Aside0 (Calls Tryd.prog 24 #[.string a] w fun e w' => e = .returned (.tuple #[.slice (some ⟨w.heap.size, 0, none⟩) D1.length (a.size / 2), .nilIface]) ∧ w'.rowIs w.heap.size 5 (a.size / 2) (Lib.Hx.rowP (fun _ => .int .u8 0) 0 D1) ∧ Below w.heap.size w w') := C1
      by_cases ce : st.toList = a.toList
      · have he : Lib.Hx.encode D1 = a.data.toList := by
          rw [ByteArray.toList_eq, ByteArray.toList_eq, hst] at ce
          exact ce
        obtain rfl := w4 he
        have c5b0 : (st.toList == a.toList) = true := beq_iff_eq.mpr ce
        have c5b1 : (st.toList != a.toList) = false := bne_eq_false_iff_eq.mpr ce
        clear w3 w4 he ce hst cn
        have cn := CN.out
        go_enter Tryd.func9, Tryd.ntmps9
        go_wp2_with (first | (go_at_call 24; refine C1.out.mono ?_; rintro e w1 ⟨rfl, hr, hb⟩; have HB1 := Aside0.mk hb; have HR := Aside0.mk hr; have HG := Aside0.mk (show w.heap.size < w1.heap.size from (by obtain ⟨c_, h_, _⟩ := hr; exact (Array.getElem?_eq_some_iff.1 h_).1)); clear hb hr) | (go_at_call 25; refine (C2.out _ _ HG.out HR.out).mono ?_; rintro e w2 ⟨rfl, hb, ho⟩; have HB2 := Aside0.mk (below_step HB1.out hb); clear hb; have hcv := own_string (P := Tryd.prog) (src := 29) (dst := 9) Tryd.underlying29 Tryd.underlying5 Tryd.underlying9 ho; clear ho; rw [str_numsU] at hcv))
        go_ret2
        exact ⟨rfl, HB2.out⟩
      · have he : Lib.Hx.encode D1 ≠ a.data.toList := fun h => ce (by rw [ByteArray.toList_eq, ByteArray.toList_eq, hst]; exact h)
        obtain rfl := w3 he
        have c5b0 : (st.toList == a.toList) = false := by simpa using ce
        have c5b1 : (st.toList != a.toList) = true := by simpa using ce
        clear w3 w4 he ce hst cn
        have cn := CN.out
        go_enter Tryd.func9, Tryd.ntmps9
        go_wp2_with (first | (go_at_call 24; refine C1.out.mono ?_; rintro e w1 ⟨rfl, hr, hb⟩; have HB1 := Aside0.mk hb; have HR := Aside0.mk hr; have HG := Aside0.mk (show w.heap.size < w1.heap.size from (by obtain ⟨c_, h_, _⟩ := hr; exact (Array.getElem?_eq_some_iff.1 h_).1)); clear hb hr) | (go_at_call 25; refine (C2.out _ _ HG.out HR.out).mono ?_; rintro e w2 ⟨rfl, hb, -⟩; have HB2 := Aside0.mk (below_step HB1.out hb); clear hb))
        go_ret2
        exact ⟨rfl, HB2.out⟩
noncomputable def impl_Unhex.f (a0 : ByteArray) : Option (ByteArray × Bool) := if a0.size ≤ 1048576 then some (impl_Unhex.w a0) else none
theorem impl_Unhex.calls (a0 : ByteArray) (r0 : ByteArray) (r1 : Bool) (w : World) (h : impl_Unhex.f a0 = some (r0, r1)) (HT : Go.Proofs.YtmlleefmkmelmaaDoorW.LaidT.LaidT w := by exact HLAID.out.below (by repeat (first | (with_reducible first | exact HB.out | apply below_alloc | apply pw_below_drewN | apply below_drew1) | exact HB.out)) (Nat.le_refl _)) :
    Calls Tryd.prog 9 #[.string a0] w fun e w' => e = .returned (.tuple #[.string r0, .bool r1]) ∧ Below w.heap.size w w' := by
  unfold impl_Unhex.f at h
  by_cases c : a0.size ≤ 1048576
  · rw [if_pos c] at h
    obtain ⟨tp, pa, hv⟩ := HT.err
    have e := unhex_calls_ a0 c w tp pa hv
    rw [Option.some.inj h] at e
    exact e
  · rw [if_neg c] at h
    cases h

/-! ### impl_Decimal: function 13 -/
def impl_Decimal.f (a0 : Int) : Option (ByteArray) := if -9223372036854775808 ≤ a0 ∧ a0 ≤ 9223372036854775807 then some ⟨(Lib.itoa a0).toArray⟩ else none
theorem impl_Decimal.calls (a0 : Int) (r : ByteArray) (w : World) (h : impl_Decimal.f a0 = some r) (HT : Go.Proofs.YtmlleefmkmelmaaDoorW.LaidT.LaidT w := by exact HLAID.out.below (by repeat (first | (with_reducible first | exact HB.out | apply below_alloc | apply pw_below_drewN | apply below_drew1) | exact HB.out)) (Nat.le_refl _)) :
    Calls Tryd.prog 13 #[.int .i64 a0] w fun e w' => e = .returned (.string r) ∧ Below w.heap.size w w' := by
  unfold impl_Decimal.f at h
  by_cases c : -9223372036854775808 ≤ a0 ∧ a0 ≤ 9223372036854775807
  · rw [if_pos c] at h
    cases h
    go_enter Tryd.func13, Tryd.ntmps13
    go_wp2_with (go_at_call 29; refine (Tryd.strconv_Itoa a0 c.1 c.2 _ HT.tab).mono ?_; rintro e w' ⟨rfl, k, os, rfl⟩)
    go_ret
    exact ⟨rfl, Lib.below_grow _ _ (Nat.le_refl _) _ _⟩
  · rw [if_neg c] at h
    cases h
end Go.Proofs.YtmlleefmkmelmaaDoor.PFnFigures
