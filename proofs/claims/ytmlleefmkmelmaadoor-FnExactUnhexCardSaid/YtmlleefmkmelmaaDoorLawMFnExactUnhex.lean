-- Written for this claim; Lean checks it. The door: FnExactUnhex (spec.Unhex against encoding/hex.DecodeString and EncodeToString).
import Derived.Test.YtmlleefmkmelmaaDoorTie
import Derived.Test.YtmlleefmkmelmaaDoorCards
import Derived.Test.YtmlleefmkmelmaaDoorMFnExactUnhexx1
import Derived.Test.YtmlleefmkmelmaaDoorLibUnhex
import Derived.WalkKit
import Derived.ProofKit
import Derived.OpenShut
import Derived.ShutString
import Derived.Below
import Derived.LaidMore
import Derived.LaidHandle
import Derived.MakeChecks
import Derived.Stop.LaidErr
import Derived.Stop.Joined
import Derived.Lib.LaidTab
import Derived.Lib.SmallJoins
import Derived.Lib.HexFns2
import Derived.SizedLaws
import Derived.SevenTiedAt
namespace Go.Proofs.YtmlleefmkmelmaaDoor.fnExactUnhex
open Go.ChangeShapes Go.WideShapes Go.ChangeAt Go.RowKit
open Go.ChangeMaps (open_string shut_string)
open Go.Proofs.YtmlleefmkmelmaaDoor.PFnExactUnhex Go.Proofs.YtmlleefmkmelmaaDoorW.PrintWords
open Go.Lib (Hx.decode Hx.encode Hx.digit)
set_option linter.unusedVariables false
/-! ### The plain law -/
def allN (n : Nat) (p : Nat → Bool) : Bool := (List.range n).all p
theorem allN_at {n : Nat} {p : Nat → Bool} (h : allN n p = true) (a : Nat) (ha : a < n) : p a = true := by
  unfold allN at h
  rw [List.all_eq_true] at h
  exact h a (List.mem_range.2 ha)
/-- The value of a lower-case digit, -1 else. -/
def lv (c : UInt8) : Int := (spec_l01Value.f 1 (c.toNat : Int)).getD 0
theorem value_at : allN 256 (fun c => decide (spec_l01Value.f 1 (c : Int) = some ((spec_l01Value.f 1 (c : Int)).getD 0))) = true := by decide +kernel
theorem value_f (k : Nat) (c : UInt8) : spec_l01Value.f (k + 1) (c.toNat : Int) = some (lv c) := of_decide_eq_true (allN_at value_at c.toNat c.toNat_lt)
theorem digits_ok : allN 256 (fun n => let c := UInt8.ofNat n; if lv c < 0 then (decide (15 < Lib.Hx.v c) || decide (Lib.Hx.digit (Lib.Hx.v c) ≠ c)) else (decide (Lib.Hx.v c ≤ 15) && decide (lv c = (Lib.Hx.v c : Int)) && decide (Lib.Hx.digit (Lib.Hx.v c) = c))) = true := by decide +kernel
theorem lv_neg {c : UInt8} (h : lv c < 0) : 15 < Lib.Hx.v c ∨ Lib.Hx.digit (Lib.Hx.v c) ≠ c := by
  have e := allN_at digits_ok c.toNat c.toNat_lt
  simp only [UInt8.ofNat_toNat] at e
  rw [if_pos h] at e
  simpa using e
theorem lv_pos {c : UInt8} (h : ¬ lv c < 0) : Lib.Hx.v c ≤ 15 ∧ lv c = (Lib.Hx.v c : Int) ∧ Lib.Hx.digit (Lib.Hx.v c) = c := by
  have e := allN_at digits_ok c.toNat c.toNat_lt
  simp only [UInt8.ofNat_toNat] at e
  rw [if_neg h] at e
  simpa [and_assoc] using e
/-- The strict decoding. -/
def strict : List UInt8 → Option (List UInt8)
  | [] => some []
  | [_] => none
  | p :: q :: t => if lv p < 0 then none else if lv q < 0 then none else (strict t).map (UInt8.ofNat (Lib.Hx.v p * 16 + Lib.Hx.v q) :: ·)
theorem encode_two (x y : Nat) (hx : x ≤ 15) (hy : y ≤ 15) (o : List UInt8) : Lib.Hx.encode (UInt8.ofNat (x * 16 + y) :: o) = Lib.Hx.digit x :: Lib.Hx.digit y :: Lib.Hx.encode o := by
  rw [Lib.Hx.encode_cons]
  have e : (UInt8.ofNat (x * 16 + y)).toNat = x * 16 + y := by
    rw [UInt8.toNat_ofNat']; omega
  rw [e, show (x * 16 + y) / 16 = x by omega, show (x * 16 + y) % 16 = y by omega]
open Classical in
theorem strict_eq : ∀ l : List UInt8, strict l = if (Lib.Hx.decode l).2 = .ok ∧ Lib.Hx.encode (Lib.Hx.decode l).1 = l then some (Lib.Hx.decode l).1 else none
  | [] => by
    rw [Lib.Hx.decode_nil, if_pos ⟨rfl, rfl⟩]; rfl
  | [c] => by
    rw [Lib.Hx.decode_one]
    split <;> (rw [if_neg (by simp)]; rfl)
  | p :: q :: t => by
    have ih := strict_eq t
    rw [Lib.Hx.decode_two]
    simp only [strict]
    by_cases cp : 15 < Lib.Hx.v p
    · have : lv p < 0 := Classical.byContradiction fun h => by have := (lv_pos h).1; omega
      rw [if_pos cp, if_pos this, if_neg (by simp)]
    · rw [if_neg cp]
      by_cases cq : 15 < Lib.Hx.v q
      · have : lv q < 0 := Classical.byContradiction fun h => by have := (lv_pos h).1; omega
        rw [if_pos cq, if_pos this, ite_self, if_neg (by simp)]
      · rw [if_neg cq]
        simp only []
        rw [encode_two _ _ (by omega) (by omega)]
        by_cases np : lv p < 0
        · rw [if_pos np, if_neg]
          rintro ⟨_, h⟩
          rcases lv_neg np with h2 | h2
          · omega
          · simp only [List.cons.injEq] at h; exact h2 h.1
        · rw [if_neg np]
          by_cases nq : lv q < 0
          · rw [if_pos nq, if_neg]
            rintro ⟨_, h⟩
            rcases lv_neg nq with h2 | h2
            · omega
            · simp only [List.cons.injEq] at h; exact h2 h.2.1
          · rw [if_neg nq, ih, (lv_pos np).2.2, (lv_pos nq).2.2]
            simp only [List.cons.injEq, true_and]
            split <;> rfl
theorem strict_odd : ∀ l : List UInt8, l.length % 2 = 1 → strict l = none
  | [], h => by simp at h
  | [c], _ => rfl
  | p :: q :: t, h => by
    simp only [strict]
    rw [strict_odd t (by simp at h; omega)]
    split
    · rfl
    · split <;> rfl
def outU : Option (List UInt8) → ByteArray × Bool
  | some o => (⟨o.toArray⟩, true)
  | none => (⟨#[]⟩, false)
def numsU (l : List UInt8) : List Int := l.map fun b => (b.toNat : Int)
theorem str_numsU (l : List UInt8) : strOfNums (numsU l) = ⟨l.toArray⟩ := by
  have e : strOfNums (numsU l) = (⟨((numsU l).map fun x => UInt8.ofNat x.toNat).toArray⟩ : ByteArray) := rfl
  rw [e]
  congr 2
  unfold numsU
  rw [List.map_map]
  conv => rhs; rw [← List.map_id l]
  apply List.map_congr_left
  intro b _
  simp
theorem bt_l (a : ByteArray) (i : Nat) (h : i < a.data.toList.length) : bt a (i : Int) = ((a.data.toList[i]'h).toNat : Int) := by
  have h_ : i < a.size := h
  rw [← bt_at a (i : Int) (by simpa using h_)]
  rfl
theorem wrap_of {x : Int} (h0 : -9223372036854775808 ≤ x) (h1 : x ≤ 9223372036854775807) : wrap64 x = x := by
  unfold wrap64; omega
theorem unhex_loop (a : ByteArray) (hs : a.size ≤ 40000) (he : a.size % 2 = 0) (d : Nat) : ∀ (k i : Nat) (pre : List UInt8), 2 * i + 2 * d = a.size → d + 1 < k → pre.length ≤ i →
    spec_Unhex.l0 k a (numsU pre) ((2 * i : Nat) : Int) = some (outU ((strict (a.data.toList.drop (2 * i))).map (pre ++ ·))) := by
  have hn : a.data.toList.length = a.size := rfl
  induction d with
  | zero =>
    intro k i pre hi hk hp
    obtain ⟨k, rfl⟩ : ∃ q, k = q + 1 := ⟨k - 1, by omega⟩
    simp only [spec_Unhex.l0]
    rw [if_neg (by omega), List.drop_of_length_le (by omega), str_numsU]
    simp [strict, outU]
  | succ d ih =>
    intro k i pre hi hk hp
    obtain ⟨k, rfl⟩ : ∃ q, k = q + 1 := ⟨k - 1, by omega⟩
    have h1 : 2 * i < a.data.toList.length := by omega
    have h2 : 2 * i + 1 < a.data.toList.length := by omega
    have ed : a.data.toList.drop (2 * i) = a.data.toList[2 * i] :: a.data.toList[2 * i + 1] :: a.data.toList.drop (2 * (i + 1)) := by
      rw [List.drop_eq_getElem_cons h1, List.drop_eq_getElem_cons h2, show 2 * (i + 1) = 2 * i + 1 + 1 by omega]
    have b1 := bt_l a _ h1
    have b2 := bt_l a _ h2
    rw [ed]
    generalize a.data.toList[2 * i] = p at *
    generalize a.data.toList[2 * i + 1] = q at *
    have ww : wrap64 (((2 * i : Nat) : Int) + 1) = ((2 * i + 1 : Nat) : Int) := by rw [wrap_of (by omega) (by omega)]; omega
    have w2 : wrap64 (((2 * i : Nat) : Int) + 2) = ((2 * (i + 1) : Nat) : Int) := by rw [wrap_of (by omega) (by omega)]; omega
    simp only [spec_Unhex.l0, strict]
    obtain ⟨k, rfl⟩ : ∃ q, k = q + 1 := ⟨k - 1, by omega⟩
    rw [if_pos (by omega), if_pos (by omega), b1, value_f, ww, w2, b2, value_f]
    simp only [Option.bind_some]
    rw [if_pos (by omega), if_pos (by omega)]
    by_cases np : lv p < 0
    · rw [if_pos np, if_pos np]; rfl
    · rw [if_neg np, if_neg np]
      by_cases nq : lv q < 0
      · rw [if_pos nq, if_pos nq]; rfl
      · rw [if_neg nq, if_neg nq]
        obtain ⟨p1, p2, _⟩ := lv_pos np
        obtain ⟨q1, q2, _⟩ := lv_pos nq
        have ev : wrap64 (wrap64 (16 * lv p) + lv q) % 256 = (((UInt8.ofNat (Lib.Hx.v p * 16 + Lib.Hx.v q)).toNat : Nat) : Int) := by
          rw [p2, q2, wrap_of (show -9223372036854775808 ≤ 16 * (Lib.Hx.v p : Int) by omega) (by omega), wrap_of (by omega) (by omega), UInt8.toNat_ofNat']
          omega
        rw [ev, if_pos (by simp [numsU]; omega)]
        have e := ih (k + 1) (i + 1) (pre ++ [UInt8.ofNat (Lib.Hx.v p * 16 + Lib.Hx.v q)]) (by omega) (by omega) (by simp; omega)
        have en : numsU (pre ++ [UInt8.ofNat (Lib.Hx.v p * 16 + Lib.Hx.v q)]) = numsU pre ++ [(((UInt8.ofNat (Lib.Hx.v p * 16 + Lib.Hx.v q)).toNat : Nat) : Int)] := by simp [numsU]
        rw [en] at e
        rw [e, Option.map_map]
        congr 3
        funext x
        simp
theorem spec_unhex (a : ByteArray) : spec_Unhex.f (a.size + 3) a = some (outU (if a.size ≤ 40000 then strict a.data.toList else none)) := by
  have hn : a.data.toList.length = a.size := rfl
  unfold spec_Unhex.f
  by_cases h : a.size ≤ 40000
  · rw [if_neg (by omega), if_pos h]
    by_cases ho : a.size % 2 = 0
    · have : (((a.size : Int) % 2) != 0) = false := by
        rw [bne_eq_false_iff_eq]; omega
      rw [this]
      simp only [spec_Unhex.j0]
      rw [if_neg (by decide)]
      have e := unhex_loop a h ho (a.size / 2) (a.size + 2) 0 [] (by omega) (by omega) (by simp)
      simpa [numsU] using e
    · have : (((a.size : Int) % 2) != 0) = true := by
        rw [bne_iff_ne]; omega
      rw [this]
      simp only [spec_Unhex.j0]
      rw [if_pos trivial, strict_odd _ (by omega)]
      rfl
  · rw [if_pos (by omega), if_neg h]
    simp only [spec_Unhex.j0]
    rw [if_pos trivial]; rfl
/-! ### The walk -/
theorem gErr : Tryd.prog.globalNamed "encoding/hex.ErrLength" = some 1 := by kernel_rfl
def wantU (a : ByteArray) : ByteArray × Bool := outU (if a.size ≤ 40000 then strict a.data.toList else none)
theorem want_bad (a : ByteArray) (h : (Lib.Hx.decode a.data.toList).2 ≠ .ok) : wantU a = (⟨#[]⟩, false) := by
  unfold wantU
  have e : strict a.data.toList = none := by rw [strict_eq, if_neg (fun hh => h hh.1)]
  rw [e, ite_self]; rfl
theorem want_long (a : ByteArray) (h : 20000 < (Lib.Hx.decode a.data.toList).1.length) : wantU a = (⟨#[]⟩, false) := by
  unfold wantU
  have h1 := Lib.Hx.decode_len a.data.toList
  have hn : a.data.toList.length = a.size := rfl
  rw [if_neg (by omega)]; rfl
theorem want_ne (a : ByteArray) (h : Lib.Hx.encode (Lib.Hx.decode a.data.toList).1 ≠ a.data.toList) : wantU a = (⟨#[]⟩, false) := by
  unfold wantU
  have e : strict a.data.toList = none := by rw [strict_eq, if_neg (fun hh => h hh.2)]
  rw [e, ite_self]; rfl
theorem want_eq (a : ByteArray) (h0 : (Lib.Hx.decode a.data.toList).2 = .ok) (h1 : (Lib.Hx.decode a.data.toList).1.length ≤ 20000) (h : Lib.Hx.encode (Lib.Hx.decode a.data.toList).1 = a.data.toList) : wantU a = (⟨(Lib.Hx.decode a.data.toList).1.toArray⟩, true) := by
  unfold wantU
  have h2 := congrArg List.length h
  rw [Lib.Hx.encode_length] at h2
  have hn : a.data.toList.length = a.size := rfl
  rw [if_pos (by omega), strict_eq, if_pos ⟨h0, h⟩]; rfl
theorem nums_map (D : List UInt8) : (D.map fun b => Value.int .u8 (b.toNat : Int)) = nums .u8 (numsU D) := by
  simp [nums, numsU, List.map_map, Function.comp_def]
set_option maxHeartbeats 4000000 in
set_option maxRecDepth 100000 in
theorem impl_calls (a : ByteArray) (hb : a.size ≤ 1048576) (w : World) (tp : TypeId) (pa : Addr) (hE : w.cell? ⟨1, 0, none⟩ = some (.iface tp (.pointer (some pa)))) :
    Calls Tryd.prog 9 #[.string a] w fun e w' => e = .returned (.tuple #[.string (wantU a).1, .bool (wantU a).2]) ∧ Below w.heap.size w w' := by
  have C1 := Tryd.hex_DecodeString a w _ hE (by omega)
  have hlen := Lib.Hx.decode_len a.data.toList
  have hn : a.data.toList.length = a.size := rfl
  have w1 := want_bad a
  have w2 := want_long a
  have w3 := want_ne a
  have w4 := want_eq a
  generalize wantU a = R at *
  generalize hD : Lib.Hx.decode a.data.toList = D at *
  obtain ⟨D1, D2⟩ := D
  clear hD hE
  have C1 := Aside0.mk C1
  have L := Aside0.mk hlen
  clear hlen
  cases D2 with
  | bad c =>
    obtain rfl := w1 (by simp)
    clear w1 w2 w3 w4
    go_enter Tryd.func9, Tryd.ntmps9
    go_wp2_with (go_at_call 24; refine C1.out.mono ?_; rintro e w1 ⟨rfl, -, hb⟩; simp only [Lib.Hx.errVal]; have HB1 := Aside0.mk hb; clear hb)
    go_ret2
    exact ⟨rfl, HB1.out⟩
  | odd =>
    obtain rfl := w1 (by simp)
    clear w1 w2 w3 w4
    go_enter Tryd.func9, Tryd.ntmps9
    go_wp2_with (go_at_call 24; refine C1.out.mono ?_; rintro e w1 ⟨rfl, -, hb⟩; simp only [Lib.Hx.errVal]; have HB1 := Aside0.mk hb; clear hb)
    go_ret2
    exact ⟨rfl, HB1.out⟩
  | ok =>
    clear w1
    obtain ⟨n, hn1⟩ : ∃ n, n = D1.length := ⟨_, rfl⟩
    by_cases c : 20000 < n
    · obtain rfl := w2 (by simpa [hn1] using c)
      clear w2 w3 w4
      have C1 := C1.out
      simp only [← hn1] at C1
      have C1 := Aside0.mk C1
      go_enter Tryd.func9, Tryd.ntmps9
      go_wp2_with (go_at_call 24; refine C1.out.mono ?_; rintro e w1 ⟨rfl, -, hb⟩; simp only [Lib.Hx.errVal]; have HB1 := Aside0.mk hb; clear hb)
      go_ret2
      exact ⟨rfl, HB1.out⟩
    · clear w2
      have w4 := w4 rfl (by show D1.length ≤ 20000; omega)
      have w3 : Lib.Hx.encode D1 ≠ a.data.toList → R = (⟨#[]⟩, false) := w3
      have w4 : Lib.Hx.encode D1 = a.data.toList → R = (⟨D1.toArray⟩, true) := w4
      have L1 : D1.length ≤ a.size / 2 := by have := L.out; simpa [hn] using this
      obtain ⟨st, hst⟩ : ∃ st : ByteArray, st = ⟨(Lib.Hx.encode D1).toArray⟩ := ⟨_, rfl⟩
      have hmx : a.size / 2 ≤ maxLen := by unfold maxLen; omega
      have cn : ¬ (20000 : Int) < (D1.length : Int) := by rw [← hn1]; omega
      have CN := Aside0.mk cn
      have C2 : Aside0 (∀ (W : World) (g : Nat), g < W.heap.size → W.rowIs g 5 (a.size / 2) (Lib.Hx.rowP (fun _ => .int .u8 0) 0 D1) → Calls Tryd.prog 25 #[.slice (some ⟨g, 0, none⟩) D1.length (a.size / 2)] W fun e w' => e = .returned (.string st) ∧ Below W.heap.size W w' ∧ w'.ownsRow g 5 1 (.slice (some ⟨g, 0, none⟩) D1.length (a.size / 2)) D1.length (nums .u8 (numsU D1))) := ⟨fun W g hg hr => by
        have ho := rowP_owns hr L1 hmx g (Nat.le_refl _)
        refine (Tryd.hex_EncodeToString_bytes g 0 (a.size / 2) D1 W (fun i hi => ?_) hg (by omega)).mono ?_
        · have e := ho.cells (g := g) rfl i (.int .u8 ((D1[i]'hi).toNat : Int)) (by simp [hi])
          rw [Go.Proofs.YtmlleefmkmelmaaDoorW.PrintWords.add_plain] at e
          rw [Nat.zero_add]
          exact e
        · rintro e w' ⟨rfl, hb⟩
          rw [nums_map] at ho
          exact ⟨by rw [hst], hb, own_move ho (fun k hk => by
            have : g = k := by simpa [Value.ownBlock] using hk
            subst this
            exact hb.block _ hg)⟩⟩
      have C1 : Aside0 (Calls Tryd.prog 24 #[.string a] w fun e w' => e = .returned (.tuple #[.slice (some ⟨w.heap.size, 0, none⟩) D1.length (a.size / 2), .nilIface]) ∧ w'.rowIs w.heap.size 5 (a.size / 2) (Lib.Hx.rowP (fun _ => .int .u8 0) 0 D1) ∧ Below w.heap.size w w') := C1
      by_cases ce : st.toList = a.toList
      · have he : Lib.Hx.encode D1 = a.data.toList := by
          rw [ByteArray.toList_eq, ByteArray.toList_eq, hst] at ce
          exact ce
        obtain rfl := w4 he
        have c5b0 : (st.toList == a.toList) = true := beq_iff_eq.mpr ce
        have c5b1 : (st.toList != a.toList) = false := bne_eq_false_iff_eq.mpr ce
        clear w3 w4 he ce hst cn
        have cn := CN.out
        go_enter Tryd.func9, Tryd.ntmps9
        go_wp2_with (first | (go_at_call 24; refine C1.out.mono ?_; rintro e w1 ⟨rfl, hr, hb⟩; have HB1 := Aside0.mk hb; have HR := Aside0.mk hr; have HG := Aside0.mk (show w.heap.size < w1.heap.size from (by obtain ⟨c_, h_, _⟩ := hr; exact (Array.getElem?_eq_some_iff.1 h_).1)); clear hb hr) | (go_at_call 25; refine (C2.out _ _ HG.out HR.out).mono ?_; rintro e w2 ⟨rfl, hb, ho⟩; have HB2 := Aside0.mk (below_step HB1.out hb); clear hb; have hcv := own_string (P := Tryd.prog) (src := 29) (dst := 9) Tryd.underlying29 Tryd.underlying5 Tryd.underlying9 ho; clear ho; rw [str_numsU] at hcv))
        go_ret2
        exact ⟨rfl, HB2.out⟩
      · have he : Lib.Hx.encode D1 ≠ a.data.toList := fun h => ce (by rw [ByteArray.toList_eq, ByteArray.toList_eq, hst]; exact h)
        obtain rfl := w3 he
        have c5b0 : (st.toList == a.toList) = false := by simpa using ce
        have c5b1 : (st.toList != a.toList) = true := by simpa using ce
        clear w3 w4 he ce hst cn
        have cn := CN.out
        go_enter Tryd.func9, Tryd.ntmps9
        go_wp2_with (first | (go_at_call 24; refine C1.out.mono ?_; rintro e w1 ⟨rfl, hr, hb⟩; have HB1 := Aside0.mk hb; have HR := Aside0.mk hr; have HG := Aside0.mk (show w.heap.size < w1.heap.size from (by obtain ⟨c_, h_, _⟩ := hr; exact (Array.getElem?_eq_some_iff.1 h_).1)); clear hb hr) | (go_at_call 25; refine (C2.out _ _ HG.out HR.out).mono ?_; rintro e w2 ⟨rfl, hb, -⟩; have HB2 := Aside0.mk (below_step HB1.out hb); clear hb))
        go_ret2
        exact ⟨rfl, HB2.out⟩
set_option maxHeartbeats 4000000 in
theorem law_calls (a : ByteArray) (w : World) (tp : TypeId) (pa : Addr) (hv : w.var? Tryd.prog "encoding/hex.ErrLength" = some #[.iface tp (.pointer (some pa))]) :
    Calls Tryd.prog 3 #[.string a] w fun e w' => e = .returned (.bool true) ∧ Below w.heap.size w w' := by
  by_cases c : a.size ≤ 1048576
  · have C1 := spec_Unhex.calls (a.size + 3) a (wantU a).1 (wantU a).2 w (spec_unhex a)
    have C2 := fun W (hW : W.var? Tryd.prog "encoding/hex.ErrLength" = some #[.iface tp (.pointer (some pa))]) => impl_calls a c W tp pa (by have h0 := World.var?_cell gErr hW 0; simpa using h0)
    generalize wantU a = R at *
    obtain ⟨r0, r1⟩ := R
    have C1 : Aside0 (Calls Tryd.prog 8 #[.string a] w fun e w' => e = .returned (.tuple #[.string r0, .bool r1]) ∧ Below w.heap.size w w') := ⟨C1⟩
    have C2 : Aside0 (∀ W : World, W.var? Tryd.prog "encoding/hex.ErrLength" = some #[.iface tp (.pointer (some pa))] → Calls Tryd.prog 9 #[.string a] W fun e w' => e = .returned (.tuple #[.string r0, .bool r1]) ∧ Below W.heap.size W w') := ⟨C2⟩
    have HV := Aside0.mk hv
    clear hv
    have c5b0 : (r0.toList == r0.toList) = true := beq_iff_eq.mpr rfl
    have c5b1 : (r0.toList != r0.toList) = false := bne_eq_false_iff_eq.mpr rfl
    have c6 : (r1 != r1) = false := bne_eq_false_iff_eq.mpr rfl
    go_enter Tryd.func3, Tryd.ntmps3
    go_wp2_with (first | (go_at_call 8; refine C1.out.mono ?_; rintro e w1 ⟨rfl, hb⟩; have HB1 := Aside0.mk hb; clear hb) | (go_at_call 9; refine (C2.out _ (Go.Joins.var_stays gErr HV.out HB1.out (Nat.le_refl _))).mono ?_; rintro e w2 ⟨rfl, hb⟩; have HB2 := Aside0.mk (below_step HB1.out hb); clear hb))
    go_ret
    exact ⟨rfl, HB2.out⟩
  · go_enter Tryd.func3, Tryd.ntmps3
    go_wp2
    go_ret
    exact ⟨rfl, Below.refl _ _⟩
/-! ### The row and the card -/
theorem own : ownKnob Tryd.prog.godebug = none := by kernel_rfl
theorem star : "*" ++ "errors.errorString" = "*errors.errorString" := by decide
theorem rowE (u : TypeId) (h : Tryd.prog.typeName? 3 u = some "*errors.errorString") : u = 103 :=
  typeName_ptr_named (nm := "errors.errorString") (by rw [star]; kernel_rfl) (by kernel_rfl) (by decide) u (by rw [star]; exact h)
theorem door_met (os : Os) (args : Array Value) : laidMetH Tryd.prog Rows.fnExactUnhexRow.laid ((World.doorLaid Tryd.prog 105 os).forCall (fun _ _ => 0) ⟨#[], args, []⟩).memory :=
  laidMetH_of_parts3 (fuel := 8) (laidMet_of_run' 8 (by kernel_rfl) (by kernel_rfl)) (by kernel_rfl) (by kernel_rfl)
theorem err_of {W : World} (h : laidMetH Tryd.prog Rows.fnExactUnhexRow.laid W) : ∃ pa : Addr, W.var? Tryd.prog "encoding/hex.ErrLength" = some #[.iface 103 (.pointer (some pa))] := by
  rw [MakeChecks.laidMetH_plain _ _ _ (by kernel_rfl)] at h
  obtain ⟨pa, s, hv, -, -, -⟩ := laid_sentinel (r := []) h gErr (show (Tryd.prog.globals[1]?).map (·.type) = some 41 by kernel_rfl) Tryd.underlying41 rowE Tryd.underlying103 Tryd.underlying105 rfl rfl Tryd.underlying9 (by kernel_rfl) (by kernel_rfl)
  exact ⟨pa, hv⟩
set_option maxRecDepth 100000 in
theorem lifted (os : Os) (started : os.Started) (H : Type) (enc : TypeId × Value → H) :
    ReturnsInHanded {} Tryd.checked os 3 .any (fun w args => (Rows.fnExactUnhexSpec.pre enc Tryd.prog Tryd.f3 [] false w args ∧ laidMetH Tryd.prog Rows.fnExactUnhexRow.laid w) ∧ sizedMet enc Tryd.prog Tryd.f3 (OpenSpec.ofChange Rows.fnExactUnhexSpec) false w args)
      (Rows.fnExactUnhexSpec.post enc Tryd.prog Tryd.f3 false true false false) := by
  refine returnsInHanded_of_change_and (C := Tryd.checked) (X := fun w _ => laidMetH Tryd.prog Rows.fnExactUnhexRow.laid w) (fun _ _ _ hh h => h.of_heap hh) own started (by kernel_rfl) Tryd.func3
    (ChangeSpec.witness_shaped (enc := enc) (C := Tryd.checked) (os := os) (X := fun w _ => laidMetH Tryd.prog Rows.fnExactUnhexRow.laid w) false (World.doorLaid Tryd.prog 105 os) #[.string ByteArray.empty] 8 rfl (World.shaped_of_RefB (by kernel_rfl) (by kernel_rfl)) (by kernel_rfl) (by kernel_rfl) (by kernel_rfl) (door_met os _)) ?_
  intro W base args ds gs before hval0 hW _ _ hL _
  have hval : ∀ (j : Nat) t v, Tryd.f3.params[j]? = some t → args[j]? = some v → Value.okWide Tryd.prog W .any base t v := hval0
  have hW' := hW
  obtain ⟨p, q, hA0, hV, rfl, hfz, hnd⟩ := hW
  have hA : DataW.TrodAll enc Tryd.prog W 0 (fun _ => true) true Tryd.f3.params.toList args.toList ds p := hA0
  rw [Tryd.params3] at hA hval
  obtain ⟨v0, d0, rfl, rfl, h0⟩ := trodAll_one hA
  obtain ⟨rfl, rfl⟩ := trodVars_none hV
  obtain ⟨a0, rfl, rfl, rfl, y0⟩ := open_string Tryd.underlying9 (hval 0 9 v0 rfl rfl) h0
  obtain ⟨pa, hv⟩ := err_of hL
  clear hA0 hval0 hL
  refine (law_calls a0 W _ pa hv).mono fun e W' ⟨he, bel⟩ => ?_
  subst he
  exact ⟨_, rfl, _, _, _, [], _, [], hW', trodAll_mk1 (shut_bool Tryd.underlying4 _), trodAll_mk1 (shut_string Tryd.underlying9 y0), rfl, bel.frame _, fun h => by cases h⟩
theorem over : Rows.FnExactUnhexSaid :=
  OpenClaim.holds_of_wide 3 Tryd.f3 rfl rfl rfl rfl rfl rfl rfl ⟨rfl, rfl, rfl, rfl, rfl⟩ rfl rfl rfl rfl rfl (by kernel_rfl) Tryd.func3 (by kernel_rfl)
    (of_decide_eq_true (by kernel_rfl)) (by unfold Func.isWrapper; first | (rw [if_pos (by decide +kernel)]; kernel_rfl) | (rw [if_neg (by decide +kernel)]; exact ⟨rfl, rfl⟩))
    (fun os started H enc _ => lifted os started H enc)
theorem card : Rows.FnExactUnhexCardSaid :=
  Claim7.holds_tied_plain_at .later [] [.sentinel] true (true, "073fc4ebdcedeb51fa8953e0d8fccff8e889b13b224c81254eca9d33eb5e2553") true
    over (fun _ h => by cases h) (by kernel_rfl) (fun _ h => by cases h) fnExactUnhex_row_tie rfl ⟨rfl, rfl⟩ (by kernel_rfl) rfl
    (fun f fn hf hfn => by
      obtain rfl : f = 3 := Option.some.inj ((show Tryd.prog.funcNamed "loop.example/g00969/laws.FnExactUnhex" = some 3 by kernel_rfl).symm.trans hf) |>.symm
      obtain rfl : fn = Tryd.f3 := (Option.some.inj (Tryd.func3.symm.trans hfn)).symm
      exact ⟨by kernel_rfl, fun j t ht => by
        rw [Tryd.params3] at ht
        have h3 : t = 9 := by
          rcases j with _ | j
          · simpa using ht.symm
          · simp at ht
        subst h3
        exact (show Tryd.prog.wantsStandIn 9 = false by kernel_rfl)⟩)
    (by kernel_rfl)
#print axioms card
end Go.Proofs.YtmlleefmkmelmaaDoor.fnExactUnhex
namespace Go.Proofs.YtmlleefmkmelmaaDoor
/-- The card, under a short name, for the claim. -/
theorem fnExactUnhex_card : Rows.FnExactUnhexCardSaid := fnExactUnhex.card
end Go.Proofs.YtmlleefmkmelmaaDoor
