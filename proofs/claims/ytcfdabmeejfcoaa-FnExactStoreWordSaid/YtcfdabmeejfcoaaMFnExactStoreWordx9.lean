-- Written by a program of this session for this claim; Lean checks it.
import Derived.Test.YtcfdabmeejfcoaaMFnExactStoreWordx0
import Derived.Test.YtcfdabmeejfcoaaMFnExactStoreWordx8
namespace Go.Proofs.Ytcfdabmeejfcoaa.PFnExactStoreWord
open Go.RowKit Go.Proofs.YtcfdabmeejfcoaaW.PrintWords Go.Proofs.YtcfdabmeejfcoaaW.PrintLast Go.Proofs.YtcfdabmeejfcoaaW.PrintMore
attribute [local go_sem] max2_int min2_int max_two min_two max_three min_three max_four min_four   -- for this text's walks alone
set_option linter.unusedVariables false
set_option linter.unusedSimpArgs false

-- NOT PRINTED: function 42 (impl_Memory_store)

/-! ### impl_StoreWord: function 17 -/
/-- Every block of the type of a memory, but one, is as it was. -/
def Keep29 (g : Nat) (w w' : World) : Prop := ∀ q cs, q ≠ g → w.heap[q]? = some (.cells cs 29 (0, 0)) → w'.heap[q]? = some (.cells cs 29 (0, 0))
theorem Keep29_refl (g : Nat) (w : World) : Keep29 g w w := fun _ _ _ h => h
theorem Keep29_trans {g : Nat} {w w1 w2 : World} (h : Keep29 g w w1) (k : Keep29 g w1 w2) : Keep29 g w w2 := fun q cs hq hb => k q cs hq (h q cs hq hb)
theorem Keep29_below {g : Nat} {w w1 : World} (h : Below w.heap.size w w1) : Keep29 g w w1 := fun q cs _ hb => blk_below hb h
theorem Keep29_grown {g : Nat} {w w1 : World} {row : Nat} {cells : Array Value} (hg : w.grownBy w1 (some row)) (hr : w.heap[row]? = some (.cells cells 47 (0, 0))) : Keep29 g w w1 := fun q cs _ hb => blk_grown hb hg (fun e => by
  injection e with e
  subst e
  rw [hr] at hb
  injection hb with hb
  injection hb with _ hb
  cases hb)
theorem blkFar29 {w : World} {q : Nat} {o : Obj} (h : w.heap[q]? = some o) (p : Addr) (u : Value) (hne : q ≠ p.block) : (w.setCell p u).heap[q]? = some o := (Below.heap_setCell w p u q hne).trans h
/-- The cells of a list of Cells. -/
def enc47 (l : List S47) : List Value := l.flatMap fun x => [.int .i64 x.f0, .string x.f1, .bool x.f2]
theorem enc47_cons (x : S47) (l : List S47) : enc47 (x :: l) = .int .i64 x.f0 :: .string x.f1 :: .bool x.f2 :: enc47 l := rfl
theorem enc47_len : ∀ l : List S47, (enc47 l).length = l.length * 3
  | [] => rfl
  | x :: l => by rw [enc47_cons, List.length_cons, List.length_cons, List.length_cons, enc47_len l, List.length_cons]; omega
theorem enc47_app (a b : List S47) : enc47 (a ++ b) = enc47 a ++ enc47 b := by simp [enc47]
theorem enc47_take : ∀ (l : List S47) (i : Nat), enc47 (l.take i) = (enc47 l).take (i * 3)
  | [], i => by simp [enc47]
  | x :: l, 0 => by simp [enc47]
  | x :: l, i + 1 => by
    rw [List.take_succ_cons, enc47_cons, enc47_cons, enc47_take l i, show (i + 1) * 3 = i * 3 + 1 + 1 + 1 by omega]
    rfl
theorem enc47_drop : ∀ (l : List S47) (i : Nat), enc47 (l.drop i) = (enc47 l).drop (i * 3)
  | [], i => by simp [enc47]
  | x :: l, 0 => by simp
  | x :: l, i + 1 => by
    rw [List.drop_succ_cons, enc47_cons, enc47_drop l i, show (i + 1) * 3 = i * 3 + 1 + 1 + 1 by omega]
    rfl
theorem enc47_one (l : List S47) : ∀ v ∈ enc47 l, v.oneCell' = true := by
  intro v hv
  simp only [enc47, List.mem_flatMap] at hv
  obtain ⟨x, _, hx⟩ := hv
  simp only [List.mem_cons, List.not_mem_nil, or_false] at hx
  rcases hx with rfl | rfl | rfl <;> rfl
theorem enc47_of_reps {w : World} {base : Nat} {ok : Nat → Prop} : ∀ (l : List S47) (cs : List Value), Reps (k47.M w base ok) 3 l cs → cs = enc47 l
  | [], cs, h => by
    have := h.1
    simp at this
    subst this
    rfl
  | x :: l, cs, h => by
    obtain ⟨hl, hp⟩ := h
    have h0 := hp 0 x rfl
    rw [Nat.zero_mul, List.drop_zero] at h0
    have e0 := k47_openM h0
    have hr : Reps (k47.M w base ok) 3 l (cs.drop 3) := by
      refine ⟨by rw [List.length_drop, hl, List.length_cons]; omega, fun j p hj => ?_⟩
      have := hp (j + 1) p (by simpa using hj)
      rw [List.drop_drop, show 3 + j * 3 = (j + 1) * 3 by omega]
      exact this
    have e1 := enc47_of_reps l _ hr
    rw [← List.take_append_drop 3 cs, e0, e1]
    rfl
theorem reps_enc47 (w : World) (base : Nat) (ok : Nat → Prop) (l : List S47) : Reps (k47.M w base ok) 3 l (enc47 l) := by
  refine ⟨enc47_len l, fun j p hj => ?_⟩
  rw [← enc47_drop]
  have hlt : j < l.length := (List.getElem?_eq_some_iff.1 hj).1
  rw [List.drop_eq_getElem_cons hlt, (List.getElem?_eq_some_iff.1 hj).2]
  exact k47_mkM w base ok p
theorem R47_form {w : World} {base : Nat} {ok : Nat → Prop} {v : Value} {l : List S47} (h : Kd.R k47 47 w base ok v l) :
    (v = .slice none 0 0 ∧ l = []) ∨ ∃ g cap cur, v = .slice (some ⟨g, 0, none⟩) l.length cap ∧ base ≤ g ∧ w.heap[g]? = some (.cells cur 47 (0, 0)) ∧ l.length ≤ cap ∧ cap ≤ maxLen ∧ cur.size = cap * 3 ∧ cur.toList.take (l.length * 3) = enc47 l := by
  obtain ⟨_, inner, ho, hr⟩ := h
  have e := enc47_of_reps l inner hr
  rcases ho.2 with ⟨h1, h2⟩ | ⟨g, cap, cur, h1, h2, h3, h4, h5, h6, h7⟩
  · exact .inl ⟨h1, List.eq_nil_of_length_eq_zero h2⟩
  · exact .inr ⟨g, cap, cur, h1, h2, h3, h4, h5, h6, by rw [← e]; exact h7⟩
theorem R47_of {w : World} {base g cap : Nat} {cur : Array Value} {l : List S47} (h2 : base ≤ g) (h3 : w.heap[g]? = some (.cells cur 47 (0, 0))) (h4 : l.length ≤ cap) (h5 : cap ≤ maxLen) (h6 : cur.size = cap * 3) (h7 : cur.toList.take (l.length * 3) = enc47 l) :
    Kd.R k47 47 w base (fun _ => True) (.slice (some ⟨g, 0, none⟩) l.length cap) l :=
  ⟨fun _ _ => trivial, enc47 l, ⟨enc47_len l, .inr ⟨g, cap, cur, rfl, h2, h3, h4, h5, h6, h7⟩⟩, reps_enc47 _ _ _ l⟩
/-- 'copy' at elements of three cells. -/
theorem copy3 {P : Program} (w : World) (dT sT ty elem : TypeId) (g o dLen dCap : Nat) (a : Addr) (sLen sCap m : Nat) (cur : Array Value) (t : TypeId) (cs : List Value)
    (hu : P.underlying dT = some (.slice elem)) (hs : (P.info? elem).map (·.size) = some 3) (hm : Nat.min sLen dLen = m)
    (hg : w.heap[g]? = some (.cells cur t (0, 0))) (hn : cs.length = m * 3)
    (hsrc : ∀ j v, cs[j]? = some v → w.cell? (a.add j) = some v) (hfit : o + cs.length ≤ cur.size) (h1 : ∀ v ∈ cs, v.oneCell' = true) :
    (Builtin.copy_ #[dT, sT] ty #[.slice (some ⟨g, o, none⟩) dLen dCap, .slice (some a) sLen sCap]).run P w =
      .ok (goInt m) (w.setRow g (cur.toList.take o ++ cs ++ cur.toList.drop (o + cs.length)).toArray) := by
  have hl := run_loadCells_list (P := P) w a cs hsrc
  have hst := run_storeCells_at P g o t cs 0 cur w hg (by simpa using hfit) h1
  cases hq : P.info? elem with
  | none => simp [hq] at hs
  | some i =>
    have hi : i.size = 3 := by simpa [hq] using hs
    simp only [Nat.add_zero] at hst
    simp [Builtin.copy_, run_underlying hu, Builtin.lenOf, Builtin.firstCells, sizeOf, typeInfo, hq, hi, hm, ← hn, hl, hst]
theorem C47_of {w : World} {g : Nat} {x : S47} (h : w.heap[g]? = some (.cells #[.int .i64 x.f0, .string x.f1, .bool x.f2] 47 (0, 0))) : Kd.C k47 w (some ⟨g, 0, none⟩) 1 [x] := by
  refine ⟨rfl, by omega, fun _ => ⟨_, rfl, fun j p hj => ?_⟩⟩
  have hj0 : j = 0 := by
    have := (List.getElem?_eq_some_iff.1 hj).1
    simp at this
    exact this
  subst hj0
  simp at hj
  subst hj
  refine ⟨_, rfl, k47_mk w x, fun i u hi => ?_⟩
  rw [Nat.zero_mul, Nat.zero_add, add_plain, blk_cell h i]
  simpa using hi
/-- Every block of the type of a memory is as it was. -/
def Kept29 (w w' : World) : Prop := ∀ (q : Nat) (cs : Array Value), w.heap[q]? = some (Obj.cells cs 29 (0, 0)) → w'.heap[q]? = some (Obj.cells cs 29 (0, 0))
theorem Kept29_below {w w1 : World} (h : Below w.heap.size w w1) : Kept29 w w1 := fun q cs hb => blk_below hb h
theorem Kept29_grown {w w1 : World} {row : Option Nat} (hg : w.grownBy w1 row) (hr : ∀ k, row = some k → ∃ cells, w.heap[k]? = some (Obj.cells cells 47 (0, 0))) : Kept29 w w1 := fun q cs hb => blk_grown hb hg (fun e => by
  obtain ⟨cells, hc⟩ := hr q e.symm
  rw [hc] at hb
  injection hb with hb
  injection hb with _ hb
  cases hb)
def insF (l : List S47) (i : Nat) (x : S47) : List S47 := l.take i ++ x :: l.drop i
set_option maxHeartbeats 4000000 in
set_option maxRecDepth 100000 in
theorem insert_end (l : List S47) (x : S47) (A : Option Addr) (c gx : Nat) (w0 w : World) (hls : l.length ≤ 2000000) (hB : Below w0.heap.size w0 w) (HO : Kd.R k47 47 w w0.heap.size (fun _ => True) (.slice A l.length c) l) (hlc : l.length ≤ c) (hx : w.heap[gx]? = some (.cells #[.int .i64 x.f0, .string x.f1, .bool x.f2] 47 (0, 0))) :
    Calls Try.prog 57 #[.slice A l.length c, .int .i64 l.length, .slice (some ⟨gx, 0, none⟩) 1 1] w fun e w' => ∃ v', e = .returned v' ∧ Kd.R k47 47 w' w0.heap.size (fun _ => True) v' (insF l l.length x) ∧ Below w0.heap.size w0 w' ∧ Kept29 w w' := by
  have hty := Kd.R_typed HO
  have HR := Aside0.mk (C47_of hx)
  have HB := Aside0.mk hB
  have HLS := Aside0.mk hls
  have HTY := Aside0.mk hty
  have HO := Aside0.mk HO
  have hin : insF l l.length x = l ++ [x] := by unfold insF; rw [List.take_length, List.drop_length]
  have HIN := Aside0.mk hin
  have hcl : (l.length : Int) ≤ (l.length : Int) := Int.le_refl _
  clear hB hls hx hty hin
  go_enter Try.func57, Try.ntmps57
  go_wp2_with (at_builtin; refine Kd.R_append_rows k47 (w0 := w0) w0.heap.size rfl (.tmp 23) (.tmp 24) 27 47 (.agg #[(.int .i64 0), (.string ⟨#[]⟩), (.bool false)]) 32 rfl Try.underlying27 info47 rfl (by decide) (by omega) (.slice A l.length c) l [x] _ _ _ (fun _ => True) (fun _ => False) rfl rfl ?aO ?aR (fun _ _ h => h) (fun _ h => h.elim) ?aF ?aB ?aS ?aL ?_; (case aR => exact HR.out); (case aB => exact HB.out); (case aF => exact (fun _ _ => trivial)); (case aO => exact HO.out); (case aS => exact below_size HB.out); (case aL => have := HLS.out; omega); intro v7 w8 ho hb hg hat; have n1_ := Aside0.mk hb; have n2_ := Aside0.mk ho; have n3_ := Aside0.mk (Kept29_grown hg HTY.out); clear HB HO ho hb hg hat; have HB := n1_; have HO := n2_; have HK := n3_; clear n1_ n2_ n3_)
  all_goals go_ret
  all_goals exact ⟨_, rfl, by rw [HIN.out]; exact HO.out, HB.out, HK.out⟩
theorem copy_step {P : Program} {w : World} {ops : Array Oper} {o : Oper} {a : Act} {K : Act → World → Prop} {Q : Exit → Act → World → Prop} {E : Prop}
    (hg : o.guard = none) (d x : Operand) (dT sT : TypeId) (hop : o.op = Op.call { callee := Callee.builtin Builtin.copy, args := #[d, x], argTypes := #[dT, sT] })
    (v u : Value) (hd : a.eval d = v) (hx : a.eval x = u) {v' : Value} {w' : World} (hr : (Builtin.copy_ #[dT, sT] o.type #[v, u]).run P w = .ok v' w') (hK : K (a.put o.dst v') w') :
    if Region.wanted o (yielded ops a.tmps) = true then Oper.wp P o a w K Q else E := by
  have hw : Region.wanted o (yielded ops a.tmps) = true := by simp [Region.wanted, hg]
  rw [if_pos hw]
  unfold Oper.wp
  simp [execOp, hop, resolve, invoke, builtin, hd, hx, hr, Result.andThen]
  exact hK
theorem copy_run {P : Program} (w : World) {ops : Array Oper} {rest : List Oper} {o : Oper} {a : Act} {Q : Exit → Act → World → Prop} (hgd : o.guard = none) (d s : Operand) (t t' : TypeId)
    (ho : o.op = .call { callee := .builtin .copy, args := #[d, s], argTypes := #[t, t'] }) (v u : Value) (hd : a.eval d = v) (hs : a.eval s = u) {v' : Value} {w' : World}
    (hr : (Builtin.copy_ #[t, t'] o.type #[v, u]).run P w = .ok v' w') (h : wpList P ops Q rest (a.put o.dst v') w') : wpList P ops Q (o :: rest) a w :=
  wpList_plain hgd fun _ hK => by
    unfold Oper.wp execOp
    simp only [ho, resolve, invoke, builtin, Sem.run_bind, Sem.run_pure, Result.andThen_ok, List.map_toArray, List.map_cons, List.map_nil, hd, hs, hr]
    exact hK _ _ h
theorem overlaps_no (w : World) (gx g o la ca lb cb : Nat) (ca1 ca2 : Array Value) (hne : gx ≠ g) (hx : w.heap[gx]? = some (.cells ca1 47 (0, 0))) (hg : w.heap[g]? = some (.cells ca2 47 (0, 0))) (h0 : ca2.size ≠ 0) :
    (callFunc 64 #[.slice (some ⟨gx, 0, none⟩) la ca, .slice (some ⟨g, o, none⟩) lb cb]).run Try.prog w = .ok (.value (.bool false)) w := by
  have hz : ∀ w, (Go.sizeOf 47).run Try.prog w = .ok 3 w := fun w => by rfl
  rw [run_callFunc_extern Try.func64 (by kernel_rfl) (by kernel_rfl) (by kernel_rfl) (e := Extern.SlicesOverlaps.overlaps #[27, 27] #[4]) (by kernel_rfl),
    Lib.run_overlaps_apart w 27 4 47 Try.underlying27 3 hz ⟨gx, 0, none⟩ ⟨g, o, none⟩ la ca lb cb hne 47 47 ca1.size ca2.size (by simp [World.shape?, hx]) (by simp [World.shape?, hg]) h0 (blk_frozen hx 0) (blk_frozen hx _)]
  rfl
theorem insF_len (l : List S47) (i : Nat) (x : S47) (hi : i ≤ l.length) : (insF l i x).length = l.length + 1 := by
  unfold insF
  rw [List.length_append, List.length_take, List.length_cons, List.length_drop]
  omega
theorem insF_enc (l : List S47) (i : Nat) (x : S47) : enc47 (insF l i x) = (enc47 l).take (i * 3) ++ enc47 [x] ++ enc47 (l.drop i) := by
  unfold insF
  rw [enc47_app, enc47_take, List.append_assoc]
  rfl
theorem row_at {cur : Array Value} {n : Nat} {cs : List Value} (ht : cur.toList.take n = cs) (j : Nat) (v : Value) (h : cs[j]? = some v) : cur[j]? = some v := by
  rw [← ht, List.getElem?_take] at h
  split at h
  · simpa using h
  · cases h
theorem shift_cells (cur : List Value) (l : List S47) (i : Nat) (x : S47) (c1 : List Value) (hi : i < l.length) (hroom : (l.length + 1) * 3 ≤ cur.length) (ht : cur.take (l.length * 3) = enc47 l)
    (h1 : c1 = cur.take ((i + 1) * 3) ++ enc47 (l.drop i) ++ cur.drop ((i + 1) * 3 + (enc47 (l.drop i)).length)) :
    (c1.take (i * 3) ++ enc47 [x] ++ c1.drop (i * 3 + (enc47 [x]).length)).take ((l.length + 1) * 3) = enc47 (insF l i x) ∧ (c1.take (i * 3) ++ enc47 [x] ++ c1.drop (i * 3 + (enc47 [x]).length)).length = cur.length ∧ c1.length = cur.length := by
  have hA : (cur.take ((i + 1) * 3)).length = (i + 1) * 3 := by rw [List.length_take]; omega
  have hD : (enc47 (l.drop i)).length = (l.length - i) * 3 := by rw [enc47_len, List.length_drop]
  have hX : (enc47 [x]).length = 3 := rfl
  have e1 : c1.take (i * 3) = (enc47 l).take (i * 3) := by
    rw [h1, List.append_assoc, List.take_append_of_le_length (by omega), List.take_take, ← ht, List.take_take]
    congr 1
    omega
  have e2 : c1.drop (i * 3 + (enc47 [x]).length) = enc47 (l.drop i) ++ cur.drop ((i + 1) * 3 + (enc47 (l.drop i)).length) := by
    rw [h1, List.append_assoc, hX]
    exact List.drop_left' (by rw [hA]; omega)
  have e3 : (enc47 (insF l i x)).length = (l.length + 1) * 3 := by rw [enc47_len, insF_len l i x (by omega)]
  have e4 : c1.take (i * 3) ++ enc47 [x] ++ c1.drop (i * 3 + (enc47 [x]).length) = enc47 (insF l i x) ++ cur.drop ((i + 1) * 3 + (enc47 (l.drop i)).length) := by
    rw [e1, e2, insF_enc]
    simp only [List.append_assoc]
  refine ⟨by rw [e4]; exact List.take_left' e3, ?_, ?_⟩
  · rw [e4, List.length_append, e3, List.length_drop, hD]; omega
  · rw [h1, List.length_append, List.length_append, hA, hD, List.length_drop]; omega
set_option maxHeartbeats 4000000 in
set_option maxRecDepth 100000 in
theorem insert_shift (l : List S47) (i : Nat) (x : S47) (g cap gx : Nat) (cur : Array Value) (w0 w : World) (hi : i < l.length) (hls : l.length ≤ 2000000) (hB : Below w0.heap.size w0 w) (hb : w0.heap.size ≤ g) (hg : w.heap[g]? = some (.cells cur 47 (0, 0))) (hroom : l.length + 1 ≤ cap) (hcm : cap ≤ maxLen) (hc : cur.size = cap * 3) (ht : cur.toList.take (l.length * 3) = enc47 l)
    (hx : w.heap[gx]? = some (.cells #[.int .i64 x.f0, .string x.f1, .bool x.f2] 47 (0, 0))) (hne : gx ≠ g) :
    Calls Try.prog 57 #[.slice (some ⟨g, 0, none⟩) l.length cap, .int .i64 i, .slice (some ⟨gx, 0, none⟩) 1 1] w fun e w' => ∃ v', e = .returned v' ∧ Kd.R k47 47 w' w0.heap.size (fun _ => True) v' (insF l i x) ∧ Below w0.heap.size w0 w' ∧ Kept29 w w' := by
  have hov := fun o la ca lb cb => overlaps_no w gx g o la ca lb cb _ _ hne hx hg (by omega)
  have I47 : (Try.prog.info? 47).map (·.size) = some 3 := by kernel_rfl
  obtain ⟨cs1, hcs1⟩ : ∃ cs1, cs1 = cur.toList.take ((i + 1) * 3) ++ enc47 (l.drop i) ++ cur.toList.drop ((i + 1) * 3 + (enc47 (l.drop i)).length) := ⟨_, rfl⟩
  have hcur : cur.toList.length = cur.size := Array.length_toList
  obtain ⟨hs1, hs2, hs3⟩ := shift_cells cur.toList l i x cs1 hi (by rw [hcur]; omega) ht hcs1
  rw [hcur] at hs2 hs3
  have hD : (enc47 (l.drop i)).length = (l.length - i) * 3 := by rw [enc47_len, List.length_drop]
  have hcp1 : ∀ ty, (Builtin.copy_ #[27, 27] ty #[.slice (some ⟨g, (i + 1) * 3, none⟩) (l.length + 1 - (i + 1)) (cap - (i + 1)), .slice (some ⟨g, i * 3, none⟩) (l.length + 1 - i) (cap - i)]).run Try.prog w.drew = .ok (goInt ((l.length - i : Nat) : Int)) (w.drew.setRow g cs1.toArray) := by
    intro ty
    rw [hcs1]
    exact copy3 w.drew 27 27 ty 47 g ((i + 1) * 3) (l.length + 1 - (i + 1)) (cap - (i + 1)) ⟨g, i * 3, none⟩ (l.length + 1 - i) (cap - i) (l.length - i) cur 47 (enc47 (l.drop i)) Try.underlying27 I47 (by simp only [Nat.min_def]; split <;> omega) hg hD
      (fun j v hj => by
        rw [Addr.add_lit]
        rw [enc47_drop, List.getElem?_drop] at hj
        exact (blk_cell hg _).trans (row_at ht _ _ hj)) (by rw [hD, hc]; omega) (enc47_one _)
  obtain ⟨w1, hw1⟩ : ∃ w1, w1 = w.drew.setRow g cs1.toArray := ⟨_, rfl⟩
  rw [← hw1] at hcp1
  have hg1 : w1.heap[g]? = some (.cells cs1.toArray 47 (0, 0)) := by rw [hw1]; exact setRow_heap w.drew g cur cs1.toArray 47 (0, 0) hg
  have ho1 : ∀ q, q ≠ g → w1.heap[q]? = w.heap[q]? := fun q hq => by rw [hw1]; exact setRow_other w.drew g q _ hq
  have hb1 : Below g w w1 := by rw [hw1]; exact (below_drew1 (Below.refl g w)).trans ⟨rfl, rfl, rfl, by simp [size_setRow], fun k hk => setRow_other w.drew g k _ (Nat.ne_of_lt hk)⟩
  clear hw1
  have hx1 : w1.heap[gx]? = some (.cells #[.int .i64 x.f0, .string x.f1, .bool x.f2] 47 (0, 0)) := (ho1 gx hne).trans hx
  have hcp2 : ∀ ty, (Builtin.copy_ #[27, 27] ty #[.slice (some ⟨g, i * 3, none⟩) (l.length + 1 - i) (cap - i), .slice (some ⟨gx, 0, none⟩) 1 1]).run Try.prog w1 = .ok (goInt 1) (w1.setRow g (cs1.take (i * 3) ++ enc47 [x] ++ cs1.drop (i * 3 + (enc47 [x]).length)).toArray) := by
    intro ty
    exact copy3 w1 27 27 ty 47 g (i * 3) (l.length + 1 - i) (cap - i) ⟨gx, 0, none⟩ 1 1 1 cs1.toArray 47 (enc47 [x]) Try.underlying27 I47 (by simp only [Nat.min_def]; split <;> omega) hg1 rfl
      (fun j v hj => by
        rw [Addr.add_lit, Nat.zero_add, blk_cell hx1 j]
        simpa [enc47] using hj) (by rw [List.size_toArray, hs3, show (enc47 [x]).length = 3 from rfl]; omega) (enc47_one _)
  generalize hcs2 : cs1.take (i * 3) ++ enc47 [x] ++ cs1.drop (i * 3 + (enc47 [x]).length) = cs2 at hs1 hs2 hcp2
  obtain ⟨w2, hw2⟩ : ∃ w2, w2 = w1.setRow g cs2.toArray := ⟨_, rfl⟩
  rw [← hw2] at hcp2
  have hg2 : w2.heap[g]? = some (.cells cs2.toArray 47 (0, 0)) := by rw [hw2]; exact setRow_heap w1 g cs1.toArray cs2.toArray 47 (0, 0) hg1
  have ho2 : ∀ q, q ≠ g → w2.heap[q]? = w.heap[q]? := fun q hq => by rw [hw2]; exact (setRow_other w1 g q _ hq).trans (ho1 q hq)
  have hb2 : Below g w w2 := by rw [hw2]; exact hb1.trans ⟨rfl, rfl, rfl, by simp [size_setRow], fun k hk => setRow_other w1 g k _ (Nat.ne_of_lt hk)⟩
  clear hw2 hcs2
  have hfin : Kd.R k47 47 w2 w0.heap.size (fun _ => True) (.slice (some ⟨g, 0, none⟩) (l.length + 1) cap) (insF l i x) ∧ Below w0.heap.size w0 w2 ∧ Kept29 w w2 := by
    have e := insF_len l i x (by omega)
    refine ⟨?_, hB.trans (hb2.mono hb), ?_⟩
    · rw [← e]
      exact R47_of hb hg2 (by omega) hcm (by rw [List.size_toArray, hs2]; exact hc) (by rw [e]; exact hs1)
    · intro q cs hq
      rw [ho2 q (fun e => by subst e; rw [hg] at hq; injection hq with hq; injection hq with _ hq; cases hq)]
      exact hq
  have HFIN := Aside0.mk hfin
  have C1 := Aside0.mk hcp1
  have C2 := Aside0.mk hcp2
  clear hfin hcp1 hcp2 hg1 ho1 hb1 hx1 hg2 ho2 hb2 hs1 hs2 hs3 hcs1 hD I47 hcur
  obtain ⟨n, hn⟩ : ∃ n, n = l.length := ⟨_, rfl⟩
  rw [← hn] at hi hls hroom C1 C2 HFIN ⊢
  have hcm' : cap ≤ 9223372036854775807 := hcm
  clear hcm hc ht hg hx hB hb hne hn
  have e1 : IntKind.i64.wrap ((n : Int) + 1) = (n : Int) + 1 := by rw [IntKind.wrap_i64]; omega
  have e2 : IntKind.i64.wrap ((i : Int) + 1) = (i : Int) + 1 := by rw [IntKind.wrap_i64]; omega
  have d1 : decide ((cap : Int) < (n : Int) + 1) = false := decide_eq_false (by omega)
  have d2 : ((i : Int) == (n : Int)) = false := beq_eq_false_iff_ne.mpr (by omega)
  have d3 : ((i : Int) ≤ (n : Int)) = True := eq_true (by omega)
  have d4 : ((0 : Int) ≤ (n : Int) + 1) = True := eq_true (by omega)
  have d5 : ((n : Int) + 1 ≤ (cap : Int)) = True := eq_true (by omega)
  have d6 : ((0 : Int) ≤ (i : Int) + 1) = True := eq_true (by omega)
  have d7 : ((i : Int) + 1 ≤ (n : Int) + 1) = True := eq_true (by omega)
  have d8 : ((i : Int) ≤ (n : Int) + 1) = True := eq_true (by omega)
  have t1 : ((n : Int) + 1).toNat = n + 1 := by omega
  have t2 : ((i : Int) + 1).toNat = i + 1 := by omega
  have c1 : (cap = i) = False := eq_false (by omega)
  have c2 : (cap = i + 1) = False := eq_false (by omega)
  go_enter Try.func57, Try.ntmps57
  go_upto_region 15 with (simp only [hov])
  go_region_law (refine copy_step rfl _ _ 27 27 rfl (.slice (some ⟨g, (i + 1) * 3, none⟩) (n + 1 - (i + 1)) (cap - (i + 1))) (.slice (some ⟨g, i * 3, none⟩) (n + 1 - i) (cap - i)) (by simp [Act.eval, Act.put]) (by simp [Act.eval, Act.put]) (C1.out _) ?_)
  all_goals go_wp2_with ((with_reducible refine gate_dst (N := 82) rfl ?_); refine copy_run _ rfl _ _ 27 27 rfl (.slice (some ⟨g, i * 3, none⟩) (n + 1 - i) (cap - i)) (.slice (some ⟨gx, 0, none⟩) 1 1) rfl rfl (C2.out _) ?_)
  all_goals go_ret
  all_goals exact ⟨_, rfl, HFIN.out.1, HFIN.out.2.1, HFIN.out.2.2⟩
theorem grow_cells (row : List Value) (l : List S47) (i : Nat) (x : S47) (c1 : List Value) (hi : i < l.length) (hr : (l.length + 1) * 3 ≤ row.length) (ht : row.take (i * 3) = (enc47 l).take (i * 3))
    (h1 : c1 = row.take (i * 3) ++ enc47 [x] ++ row.drop (i * 3 + (enc47 [x]).length)) :
    (c1.take ((i + 1) * 3) ++ enc47 (l.drop i) ++ c1.drop ((i + 1) * 3 + (enc47 (l.drop i)).length)).take ((l.length + 1) * 3) = enc47 (insF l i x) ∧ (c1.take ((i + 1) * 3) ++ enc47 (l.drop i) ++ c1.drop ((i + 1) * 3 + (enc47 (l.drop i)).length)).length = row.length ∧ c1.length = row.length := by
  have hA : (row.take (i * 3)).length = i * 3 := by rw [List.length_take]; omega
  have hD : (enc47 (l.drop i)).length = (l.length - i) * 3 := by rw [enc47_len, List.length_drop]
  have hX : (enc47 [x]).length = 3 := rfl
  have hl1 : c1.length = row.length := by rw [h1, List.length_append, List.length_append, hA, hX, List.length_drop]; omega
  have e1 : c1.take ((i + 1) * 3) = (enc47 l).take (i * 3) ++ enc47 [x] := by
    rw [h1, ht]
    refine List.take_left' ?_
    rw [List.length_append, ← ht, hA, hX]; omega
  have e3 : (enc47 (insF l i x)).length = (l.length + 1) * 3 := by rw [enc47_len, insF_len l i x (by omega)]
  refine ⟨?_, ?_, hl1⟩
  · rw [e1, ← insF_enc]
    exact List.take_left' e3
  · rw [e1, ← insF_enc, List.length_append, e3, List.length_drop, hl1, hD]; omega
set_option maxHeartbeats 4000000 in
set_option maxRecDepth 100000 in
theorem insert_grow (l : List S47) (i : Nat) (x : S47) (g cap gx : Nat) (cur : Array Value) (w0 w : World) (hi : i < l.length) (hls : l.length ≤ 2000000) (hB : Below w0.heap.size w0 w) (hg : w.heap[g]? = some (.cells cur 47 (0, 0))) (hnc : l.length ≤ cap) (hroom : cap < l.length + 1) (ht : cur.toList.take (l.length * 3) = enc47 l)
    (hx : w.heap[gx]? = some (.cells #[.int .i64 x.f0, .string x.f1, .bool x.f2] 47 (0, 0))) :
    Calls Try.prog 57 #[.slice (some ⟨g, 0, none⟩) l.length cap, .int .i64 i, .slice (some ⟨gx, 0, none⟩) 1 1] w fun e w' => ∃ v', e = .returned v' ∧ Kd.R k47 47 w' w0.heap.size (fun _ => True) v' (insF l i x) ∧ Below w0.heap.size w0 w' ∧ Kept29 w w' := by
  obtain ⟨i0, hi0, hzz⟩ := Option.map_eq_some_iff.1 info47
  simp only [Prod.mk.injEq] at hzz
  obtain ⟨hz0, hz1, hz2⟩ := hzz
  have I47 : (Try.prog.info? 47).map (·.size) = some 3 := by kernel_rfl
  have hold : (Builtin.firstCells i0.size i (.slice (some ⟨g, 0, none⟩) i cap)).run Try.prog w.drew = .ok (enc47 (l.take i)).toArray w.drew := by
    rw [hz1]
    exact run_firstCells_some w.drew 3 i ⟨g, 0, none⟩ i cap (enc47 (l.take i)) (by rw [enc47_len, List.length_take]; omega) (fun j v hj => by
      rw [Addr.add_lit, Nat.zero_add]
      rw [enc47_take, List.getElem?_take] at hj
      split at hj
      · exact (blk_cell (show w.drew.heap[g]? = _ from hg) j).trans (row_at ht _ _ hj)
      · cases hj)
  obtain ⟨G, hG⟩ : ∃ G, G = grownCap w (l.length + 1) cap 47 := ⟨_, rfl⟩
  have hGn : l.length + 1 ≤ G := by rw [hG]; exact grownCap_ge w _ _ _
  have hGm : G ≤ maxLen := by rw [hG]; exact grownCap_le_maxLen w (l.length + 1) cap 47 (by unfold maxLen; omega)
  obtain ⟨ROW, hROW⟩ : ∃ ROW : Array Value, ROW = (enc47 (l.take i)).toArray ++ Builtin.zeroCells (Value.agg #[.int .i64 0, .string ⟨#[]⟩, .bool false]).cells (l.length + 1 - i) ++ Builtin.zeroCells (Value.agg #[.int .i64 0, .string ⟨#[]⟩, .bool false]).cells (G - (l.length + 1)) := ⟨_, rfl⟩
  obtain ⟨w1, hw1⟩ : ∃ w1, w1 = w.drew.alloc (.cells ROW 47) := ⟨_, rfl⟩
  have hrz : ∀ ty, (Builtin.append_ #[27, 3] ty #[.slice (some ⟨g, 0, none⟩) i cap, .int .i64 ((l.length : Int) + 1 - (i : Int))]).run Try.prog w = .ok (.slice (some ⟨w.heap.size, 0, none⟩) (l.length + 1) G) w1 := fun ty => by
    have h := Lib.run_append_grow_zeros w 27 3 ty 47 i0 _ .i64 .i64 Try.underlying27 Try.underlying3 hi0 hz0 (some ⟨g, 0, none⟩) i cap (enc47 (l.take i)) hold (l.length + 1 - i) (by omega) (by omega) (by omega) (by omega) (by rw [hz2]; omega) (by rw [hz2]; exact growslice_fits (by omega) (by omega))
    rw [show i + (l.length + 1 - i) = l.length + 1 by omega, ← hG, ← hROW, ← hw1] at h
    rw [show (l.length : Int) + 1 - (i : Int) = ((l.length + 1 - i : Nat) : Int) by omega]
    exact h
  have hRs : ROW.size = G * 3 := by
    rw [hROW]
    simp only [Array.size_append, List.size_toArray, size_zeroCells, enc47_len, List.length_take]
    simp only [Value.cells, List.size_toArray, List.length_cons, List.length_nil]
    omega
  have hRt : ROW.toList.take (i * 3) = (enc47 l).take (i * 3) := by
    rw [hROW, Array.toList_append, Array.toList_append, List.toList_toArray, List.append_assoc, enc47_take]
    refine List.take_left' ?_
    rw [List.length_take, enc47_len]; omega
  have hg1 : w1.heap[w.heap.size]? = some (.cells ROW 47 (0, 0)) := by rw [hw1]; exact heap_alloc_new w.drew _
  have hb1 : Below w.heap.size w w1 := by rw [hw1]; exact below_alloc (below_drew1 (Below.refl _ _)) _
  have hgl := blk_lt hg
  have hxl := blk_lt hx
  obtain ⟨gN, hgN⟩ : ∃ gN, gN = w.heap.size := ⟨_, rfl⟩
  rw [← hgN] at hrz hg1 hb1 hgl hxl
  have hBg : w0.heap.size ≤ gN := by rw [hgN]; exact below_size hB
  have hKb : ∀ w', Below gN w w' → Kept29 w w' := fun w' h => Kept29_below (by rw [← hgN]; exact h)
  clear hgN hw1 hold hROW
  obtain ⟨cs1, hcs1⟩ : ∃ cs1, cs1 = ROW.toList.take (i * 3) ++ enc47 [x] ++ ROW.toList.drop (i * 3 + (enc47 [x]).length) := ⟨_, rfl⟩
  have hrl : ROW.toList.length = ROW.size := Array.length_toList
  obtain ⟨hs1, hs2, hs3⟩ := grow_cells ROW.toList l i x cs1 hi (by rw [hrl]; omega) hRt hcs1
  rw [hrl] at hs2 hs3
  have hD : (enc47 (l.drop i)).length = (l.length - i) * 3 := by rw [enc47_len, List.length_drop]
  have hcp1 : ∀ ty, (Builtin.copy_ #[27, 27] ty #[.slice (some ⟨gN, i * 3, none⟩) (l.length + 1 - i) (G - i), .slice (some ⟨gx, 0, none⟩) 1 1]).run Try.prog w1 = .ok (goInt 1) (w1.setRow gN cs1.toArray) := by
    intro ty
    rw [hcs1]
    exact copy3 w1 27 27 ty 47 gN (i * 3) (l.length + 1 - i) (G - i) ⟨gx, 0, none⟩ 1 1 1 ROW 47 (enc47 [x]) Try.underlying27 I47 (by simp only [Nat.min_def]; split <;> omega) hg1 rfl
      (fun j v hj => by
        rw [Addr.add_lit, Nat.zero_add, blk_cell ((hb1.block gx hxl).trans hx) j]
        simpa [enc47] using hj) (by rw [hRs, show (enc47 [x]).length = 3 from rfl]; omega) (enc47_one _)
  obtain ⟨w2, hw2⟩ : ∃ w2, w2 = w1.setRow gN cs1.toArray := ⟨_, rfl⟩
  rw [← hw2] at hcp1
  have hg2 : w2.heap[gN]? = some (.cells cs1.toArray 47 (0, 0)) := by rw [hw2]; exact setRow_heap w1 gN ROW cs1.toArray 47 (0, 0) hg1
  have hb2 : Below gN w w2 := by rw [hw2]; exact hb1.trans ⟨rfl, rfl, rfl, by simp [size_setRow], fun k hk => setRow_other w1 gN k _ (Nat.ne_of_lt hk)⟩
  clear hw2
  have hcp2 : ∀ ty, (Builtin.copy_ #[27, 27] ty #[.slice (some ⟨gN, (i + 1) * 3, none⟩) (l.length + 1 - (i + 1)) (G - (i + 1)), .slice (some ⟨g, i * 3, none⟩) (l.length - i) (cap - i)]).run Try.prog w2.drew = .ok (goInt ((l.length - i : Nat) : Int)) (w2.drew.setRow gN (cs1.take ((i + 1) * 3) ++ enc47 (l.drop i) ++ cs1.drop ((i + 1) * 3 + (enc47 (l.drop i)).length)).toArray) := by
    intro ty
    exact copy3 w2.drew 27 27 ty 47 gN ((i + 1) * 3) (l.length + 1 - (i + 1)) (G - (i + 1)) ⟨g, i * 3, none⟩ (l.length - i) (cap - i) (l.length - i) cs1.toArray 47 (enc47 (l.drop i)) Try.underlying27 I47 (by simp only [Nat.min_def]; split <;> omega) hg2 hD
      (fun j v hj => by
        rw [Addr.add_lit]
        rw [enc47_drop, List.getElem?_drop] at hj
        exact (blk_cell (show w2.drew.heap[g]? = _ from (hb2.block g hgl).trans hg) _).trans (row_at ht _ _ hj)) (by rw [hD, List.size_toArray, hs3, hRs]; omega) (enc47_one _)
  generalize hcs2 : cs1.take ((i + 1) * 3) ++ enc47 (l.drop i) ++ cs1.drop ((i + 1) * 3 + (enc47 (l.drop i)).length) = cs2 at hs1 hs2 hcp2
  obtain ⟨w3, hw3⟩ : ∃ w3, w3 = w2.drew.setRow gN cs2.toArray := ⟨_, rfl⟩
  rw [← hw3] at hcp2
  have hg3 : w3.heap[gN]? = some (.cells cs2.toArray 47 (0, 0)) := by rw [hw3]; exact setRow_heap w2.drew gN cs1.toArray cs2.toArray 47 (0, 0) hg2
  have hb3 : Below gN w w3 := by rw [hw3]; exact (hb2.trans (below_drew1 (Below.refl gN w2))).trans ⟨rfl, rfl, rfl, by simp [size_setRow], fun k hk => setRow_other w2.drew gN k _ (Nat.ne_of_lt hk)⟩
  clear hw3 hcs2
  have hfin : Kd.R k47 47 w3 w0.heap.size (fun _ => True) (.slice (some ⟨gN, 0, none⟩) (l.length + 1) G) (insF l i x) ∧ Below w0.heap.size w0 w3 ∧ Kept29 w w3 := by
    have e := insF_len l i x (by omega)
    refine ⟨?_, hB.trans (hb3.mono hBg), hKb _ hb3⟩
    rw [← e]
    exact R47_of hBg hg3 (by omega) hGm (by rw [List.size_toArray, hs2]; exact hRs) (by rw [e]; exact hs1)
  have HFIN := Aside0.mk hfin
  have C0 := Aside0.mk hrz
  have C1 := Aside0.mk hcp1
  have C2 := Aside0.mk hcp2
  clear hfin hrz hcp1 hcp2 hg1 hb1 hg2 hb2 hg3 hb3 hs1 hs2 hs3 hcs1 hD I47 hrl hKb hBg hRs hRt hgl hxl hz0 hz1 hz2 hi0 hG
  obtain ⟨n, hn⟩ : ∃ n, n = l.length := ⟨_, rfl⟩
  rw [← hn] at hi hls hroom hnc hGn C0 C1 C2 HFIN ⊢
  have hGm' : G ≤ 9223372036854775807 := hGm
  clear hGm ht hg hx hB hn
  have e1 : IntKind.i64.wrap ((n : Int) + 1) = (n : Int) + 1 := by rw [IntKind.wrap_i64]; omega
  have e2 : IntKind.i64.wrap ((i : Int) + 1) = (i : Int) + 1 := by rw [IntKind.wrap_i64]; omega
  have e3 : IntKind.i64.wrap ((n : Int) + 1 - (i : Int)) = (n : Int) + 1 - (i : Int) := by rw [IntKind.wrap_i64]; omega
  have d1 : decide ((cap : Int) < (n : Int) + 1) = true := decide_eq_true (by omega)
  have d2 : ((i : Int) == (n : Int)) = false := beq_eq_false_iff_ne.mpr (by omega)
  have d3 : ((i : Int) ≤ (n : Int)) = True := eq_true (by omega)
  have d4 : ((i : Int) ≤ (cap : Int)) = True := eq_true (by omega)
  have d6 : ((0 : Int) ≤ (i : Int) + 1) = True := eq_true (by omega)
  have d7 : ((i : Int) + 1 ≤ (n : Int) + 1) = True := eq_true (by omega)
  have d8 : ((i : Int) ≤ (n : Int) + 1) = True := eq_true (by omega)
  have t1 : ((n : Int) + 1).toNat = n + 1 := by omega
  have t2 : ((i : Int) + 1).toNat = i + 1 := by omega
  have c1 : (cap = i) = False := eq_false (by omega)
  have c2 : (G = i) = False := eq_false (by omega)
  have c3 : (G = i + 1) = False := eq_false (by omega)
  go_enter Try.func57, Try.ntmps57
  go_upto_region 11 with (first | (at_builtin; refine Lib.wpList_append_run _ rfl (.tmp 34) (.tmp 39) 27 3 rfl _ _ rfl rfl _ _ (C0.out _) ?_) | ((with_reducible refine gate_dst (N := 45) rfl ?_); refine copy_run _ rfl _ _ 27 27 rfl (.slice (some ⟨gN, i * 3, none⟩) (n + 1 - i) (G - i)) (.slice (some ⟨gx, 0, none⟩) 1 1) rfl rfl (C1.out _) ?_))
  go_region_law (refine copy_step rfl _ _ 27 27 rfl (.slice (some ⟨gN, (i + 1) * 3, none⟩) (n + 1 - (i + 1)) (G - (i + 1))) (.slice (some ⟨g, i * 3, none⟩) (n - i) (cap - i)) (by simp [Act.eval, Act.put]) (by simp [Act.eval, Act.put]) (C2.out _) ?_)
  all_goals go_wp2
  all_goals go_ret
  all_goals exact ⟨_, rfl, HFIN.out.1, HFIN.out.2.1, HFIN.out.2.2⟩
theorem insert_at (l : List S47) (i : Nat) (x : S47) (v : Value) (gx : Nat) (w0 w : World) (hi : i ≤ l.length) (hls : l.length ≤ 2000000) (hB : Below w0.heap.size w0 w) (HO : Kd.R k47 47 w w0.heap.size (fun _ => True) v l) (hx : w.heap[gx]? = some (.cells #[.int .i64 x.f0, .string x.f1, .bool x.f2] 47 (0, 0))) (hne : some gx ≠ v.ownBlock) :
    Calls Try.prog 57 #[v, .int .i64 i, .slice (some ⟨gx, 0, none⟩) 1 1] w fun e w' => ∃ v', e = .returned v' ∧ Kd.R k47 47 w' w0.heap.size (fun _ => True) v' (insF l i x) ∧ Below w0.heap.size w0 w' ∧ Kept29 w w' := by
  rcases Nat.lt_or_eq_of_le hi with h | h
  · rcases R47_form HO with ⟨_, h2⟩ | ⟨g, cap, cur, rfl, h2, h3, h4, h5, h6, h7⟩
    · rw [h2] at h
      exact absurd h (Nat.not_lt_zero _)
    · by_cases hr : l.length + 1 ≤ cap
      · exact insert_shift l i x g cap gx cur w0 w h hls hB h2 h3 hr h5 h6 h7 hx (fun e => hne (by rw [e]; rfl))
      · exact insert_grow l i x g cap gx cur w0 w h hls hB h3 h4 (by omega) h7 hx
  · subst h
    obtain ⟨A, c, rfl, hlc, _⟩ := Kd.R_reads HO
    exact insert_end l x A c gx w0 w hls hB HO hlc hx
theorem enc47_set (x : S47) : ∀ (l : List S47) (j : Nat), j < l.length → enc47 (l.set j x) = (((enc47 l).set (j * 3) (.int .i64 x.f0)).set (j * 3 + 1) (.string x.f1)).set (j * 3 + 2) (.bool x.f2)
  | [], j, h => absurd h (Nat.not_lt_zero _)
  | y :: l, 0, _ => rfl
  | y :: l, j + 1, h => by
    rw [List.set_cons_succ, enc47_cons, enc47_cons, enc47_set x l j (by simpa using h), show (j + 1) * 3 = j * 3 + 1 + 1 + 1 by omega]
    rfl
theorem set_cells (cur : Array Value) (l : List S47) (j : Nat) (x : S47) (hj : j < l.length) (ht : cur.toList.take (l.length * 3) = enc47 l) :
    (((cur.setIfInBounds (j * 3) (.int .i64 x.f0)).setIfInBounds (j * 3 + 1) (.string x.f1)).setIfInBounds (j * 3 + 2) (.bool x.f2)).toList.take ((l.set j x).length * 3) = enc47 (l.set j x) := by
  rw [enc47_set x l j hj, List.length_set, Array.toList_setIfInBounds, Array.toList_setIfInBounds, Array.toList_setIfInBounds, List.take_set, List.take_set, List.take_set, ht]
/-- The cell of a line with a word laid into it. -/
def cellOf (t : ByteArray) (a : Int) (word : ByteArray) : S47 := ⟨a / 2, t.extract 0 (a % 2 * 8).toNat ++ word ++ t.extract ((a % 2 * 8).toNat + 8) t.size, false⟩
def storeF (k : Nat) (kept : ByteArray) (l : List S47) (a : Int) (word : ByteArray) : Option (List S47) :=
  if 0 ≤ a ∧ a ≤ 1099511627776 ∧ word.size = 8 ∧ l.length ≤ 2000000 then (impl_Memory_line.f k kept l (a / 2)).bind fun t => (impl_Memory_findCell.f k kept l (a / 2)).bind fun p => if t.size = 16 then (if p.2 = true then (if 0 ≤ p.1 ∧ p.1 < (l.length : Int) then some (l.set p.1.toNat (cellOf t a word)) else none) else (if 0 ≤ p.1 ∧ p.1 ≤ (l.length : Int) then some (insF l p.1.toNat (cellOf t a word)) else none)) else none else none
theorem storeF_mono (k : Nat) (kept : ByteArray) (l : List S47) (a : Int) (word : ByteArray) : LeO (storeF k kept l a word) (storeF (k + 1) kept l a word) := by
  unfold storeF
  exact LeO.ite (LeO.bind (impl_Memory_line.mono _ _ _ _) fun _ => LeO.bind (impl_Memory_findCell.mono _ _ _ _) fun _ => LeO.refl _) (LeO.refl _)
set_option maxHeartbeats 4000000 in
set_option maxRecDepth 100000 in
theorem store_at (k g : Nat) (kept : ByteArray) (l r2 : List S47) (v1 : Value) (a : Int) (word : ByteArray) (w0 w : World) (hB : Below w0.heap.size w0 w) (hg : w0.heap.size ≤ g) (hbk : w.heap[g]? = some (.cells #[.string kept, v1] 29 (0, 0)))
    (HO : Kd.R k47 47 w w0.heap.size (fun _ => True) v1 l) (h : storeF k kept l a word = some r2) :
    Calls Try.prog 42 #[.pointer (some ⟨g, 0, none⟩), .int .i64 a, .string word] w fun e w' => ∃ v', e = .returned (.tuple #[]) ∧ w'.heap[g]? = some (.cells #[.string kept, v'] 29 (0, 0)) ∧ Kd.R k47 47 w' w0.heap.size (fun _ => True) v' r2 ∧ Below w0.heap.size w0 w' ∧ Keep29 g w w' := by
  obtain ⟨A, c, rfl, hlc, hC⟩ := Kd.R_reads HO
  have hz0 : w.cell? ⟨g, 0, none⟩ = some (.string kept) := (blk_cell hbk 0).trans rfl
  have hz1 : w.cell? ⟨g, 1, none⟩ = some (.slice A l.length c) := (blk_cell hbk 1).trans rfl
  unfold storeF at h
  by_cases cnd : 0 ≤ a ∧ a ≤ 1099511627776 ∧ word.size = 8 ∧ l.length ≤ 2000000
  · rw [if_pos cnd] at h
    obtain ⟨t, hline, h⟩ := Option.bind_eq_some_iff.1 h
    obtain ⟨⟨i, b⟩, hp, h⟩ := Option.bind_eq_some_iff.1 h
    dsimp only at h
    by_cases ht : t.size = 16
    · rw [if_pos ht] at h
      obtain ⟨a0, a1, hw8, hls⟩ := cnd
      obtain ⟨q, hq⟩ : ∃ q, q = a / 2 := ⟨_, rfl⟩
      obtain ⟨m, hm⟩ : ∃ m : Nat, m = (a % 2).toNat := ⟨_, rfl⟩
      obtain ⟨f, hf⟩ : ∃ f : Nat, f = (a % 2 * 8).toNat := ⟨_, rfl⟩
      rw [← hq] at hline hp
      obtain ⟨x, hx⟩ : ∃ x, x = cellOf t a word := ⟨_, rfl⟩
      rw [← hx] at h
      have hxe : x = ⟨q, t.extract 0 f ++ word ++ t.extract (f + 8) t.size, false⟩ := by rw [hx, cellOf, ← hq, ← hf]
      have e1 : Int.tdiv a 2 = q := by rw [Int.tdiv_eq_ediv_of_nonneg a0]; exact hq.symm
      have e2 : IntKind.i64.wrap q = q := IntWalk.i64_in _ (by omega)
      have e3 : Int.tmod a 2 = (m : Int) := by rw [Int.tmod_eq_emod_of_nonneg a0]; omega
      have e4 : IntKind.i64.wrap (m : Int) = (m : Int) := IntWalk.i64_in _ (by omega)
      have e5 : IntKind.i64.wrap ((m : Int) * 8) = (f : Int) := by rw [IntWalk.i64_in _ (by omega)]; omega
      have e6 : IntKind.i64.wrap ((f : Int) + 8) = (f : Int) + 8 := IntWalk.i64_in _ (by omega)
      have e7 : ((f : Int) + 8).toNat = f + 8 := by omega
      have b6 : ((0 : Int) ≤ (f : Int) + 8) = True := eq_true (by omega)
      have hf8 : f ≤ 8 := by omega
      have b1 : ((f : Int) ≤ (t.size : Int)) = True := eq_true (by omega)
      have b2 : ((f : Int) + 8 ≤ (t.size : Int)) = True := eq_true (by omega)
      have b3 : min f t.size = f := by omega
      have b4 : (9223372036854775807 < f + word.size) = False := eq_false (by omega)
      have b5 : (9223372036854775807 < f + word.size + (t.size - (f + 8))) = False := eq_false (by omega)
      have HO := Aside0.mk HO
      have HB := Aside0.mk hB
      have BK := Aside0.mk hbk
      have HC := Aside0.mk hC
      have HL := Aside0.mk hlc
      have HP := Aside0.mk hp
      have HG := Aside0.mk hg
      have HLI := Aside0.mk hline
      have HLS := Aside0.mk hls
      have HXE := Aside0.mk hxe
      have KP := Aside0.mk (Keep29_refl g w)
      have hgl := blk_lt hbk
      have H16 := Aside0.mk ht
      clear hB hbk hC hlc hp hg hline hls hxe hx hq hm hf a0 a1 hw8 hf8 ht hgl
      go_enter Try.func42, Try.ntmps42
      go_upto_region 3 with (go_at_call 54; ((with_reducible refine (impl_Memory_line.calls k kept A c l q t w HC.out HL.out HLI.out).mono ?_)); rintro e w' ⟨rfl, hb⟩; have n0_ := Aside0.mk (blk_below BK.out hb); have n1_ := Aside0.mk (Kd.R_below HO.out hb); have n2_ := Aside0.mk (below_step HB.out hb); have n3_ := Aside0.mk (Keep29_below (g := g) hb); have n4_ := Aside0.mk (Kd.C_below HC.out hb); clear BK HO HB KP HC hz0 hz1 hb; have BK := n0_; have HO := n1_; have HB := n2_; have KP := n3_; have HC := n4_; clear n0_ n1_ n2_ n3_ n4_)
      go_region_law (fail)
      obtain ⟨T, hT⟩ : ∃ T, T = t.extract 0 f ++ word ++ t.extract (f + 8) t.size := ⟨_, rfl⟩
      rw [← hT]
      have hxe := HXE.out
      rw [← hT] at hxe
      obtain ⟨gx, hgx⟩ : ∃ gx, gx = w'.heap.size := ⟨_, rfl⟩
      rw [← hgx]
      have hb := below_drew1 (below_alloc (Below.refl w'.heap.size w') (.cells #[.int .i64 q, .string T, .bool false] 47))
      have hbx : (w'.alloc (.cells #[.int .i64 q, .string T, .bool false] 47)).drew.heap[gx]? = some (.cells #[.int .i64 q, .string T, .bool false] 47 (0, 0)) := by rw [hgx]; exact heap_alloc_new w' _
      generalize (w'.alloc (.cells #[.int .i64 q, .string T, .bool false] 47)).drew = w1 at hb hbx ⊢
      have GX := Aside0.mk (show w0.heap.size ≤ gx by rw [hgx]; exact below_size HB.out)
      have n0_ := Aside0.mk (blk_below BK.out hb)
      have n1_ := Aside0.mk (Kd.R_below HO.out hb)
      have n2_ := Aside0.mk (below_step HB.out hb)
      have n3_ := Aside0.mk (Keep29_trans KP.out (Keep29_below (g := g) hb))
      have n4_ := Aside0.mk (Kd.C_below HC.out hb)
      have NX := Aside0.mk (show some gx ≠ (Value.slice A l.length c).ownBlock from fun e => by
        have h_ := Kd.R_lt HO.out gx e.symm
        omega)
      clear BK HO HB KP HC hb HXE hT e1 e2 e3 e4 e5 e6 e7 b1 b2 b3 b4 b5 b6 hgx
      have BK := n0_
      have HO := n1_
      have HB := n2_
      have KP := n3_
      have HC := n4_
      have BX := Aside0.mk hbx
      have HXE := Aside0.mk hxe
      clear n0_ n1_ n2_ n3_ n4_ hbx hxe
      have hz0 : w1.cell? ⟨g, 0, none⟩ = some (.string kept) := (blk_cell BK.out 0).trans rfl
      have hz1 : w1.cell? ⟨g, 1, none⟩ = some (.slice A l.length c) := (blk_cell BK.out 1).trans rfl
      cases b
      · rw [if_neg (by simp)] at h
        by_cases ci : 0 ≤ i ∧ i ≤ (l.length : Int)
        · rw [if_pos ci] at h
          cases h
          obtain ⟨j, rfl⟩ := Int.eq_ofNat_of_zero_le ci.1
          have hj : j ≤ l.length := by omega
          have HJ := Aside0.mk hj
          obtain rfl := HXE.out
          clear ci hj HXE
          go_upto_region 7 with (go_at_call 56; ((with_reducible refine (impl_Memory_findCell.calls k kept A c l q (j : Int) false w1 HC.out HL.out HP.out).mono ?_)); rintro e w2 ⟨rfl, hb⟩; have n0_ := Aside0.mk (blk_below BK.out hb); have n1_ := Aside0.mk (Kd.R_below HO.out hb); have n2_ := Aside0.mk (below_step HB.out hb); have n3_ := Aside0.mk (Keep29_trans KP.out (Keep29_below (g := g) hb)); have n4_ := Aside0.mk (blk_below BX.out hb); clear BK HO HB KP BX HC hz0 hz1 hb; have BK := n0_; have HO := n1_; have HB := n2_; have KP := n3_; have BX := n4_; clear n0_ n1_ n2_ n3_ n4_; have hz0 : w2.cell? ⟨g, 0, none⟩ = some (.string kept) := (blk_cell BK.out 0).trans rfl; have hz1 : w2.cell? ⟨g, 1, none⟩ = some (.slice A l.length c) := (blk_cell BK.out 1).trans rfl; have hx0 : w2.cell? ⟨gx, 0, none⟩ = some (.int .i64 q) := (blk_cell BX.out 0).trans rfl; have hx1 : w2.cell? ⟨gx, 1, none⟩ = some (.string T) := (blk_cell BX.out 1).trans rfl; have hx2 : w2.cell? ⟨gx, 2, none⟩ = some (.bool false) := (blk_cell BX.out 2).trans rfl)
          have hW := below_drew1 (below_alloc (Below.refl w2.heap.size w2) (.cells #[.int .i64 q, .string T, .bool false] 47))
          have CI := Aside0.mk (insert_at l j (⟨q, T, false⟩ : S47) (.slice A l.length c) w2.heap.size w0 (w2.alloc (.cells #[.int .i64 q, .string T, .bool false] 47)).drew HJ.out HLS.out (below_step HB.out hW) (Kd.R_below HO.out hW) (heap_alloc_new w2 _) (fun e => by
            have h_ := Kd.R_lt HO.out w2.heap.size e.symm
            omega))
          have BW := Aside0.mk (blk_below BK.out hW)
          have KW := Aside0.mk (Keep29_trans KP.out (Keep29_below (g := g) hW))
          have hza : (w2.alloc (.cells #[.int .i64 q, .string T, .bool false] 47)).cell? ⟨g, 1, none⟩ = some (.slice A l.length c) := (blk_cell (show (w2.alloc (.cells #[.int .i64 q, .string T, .bool false] 47)).heap[g]? = _ from BW.out) 1).trans rfl
          clear hW
          go_region_law ((go_simp; go_at_call 57; refine (CI.out).mono ?_; rintro e w3 ⟨v3, rfl, ho, hb3, hk3⟩; obtain ⟨A9, c9, rfl⟩ := Kd.R_slice ho; have BK3 := Aside0.mk (hk3 _ _ BW.out); have HO3 := Aside0.mk ho; have HB3 := Aside0.mk hb3; have HK3 := Aside0.mk hk3; have hz1 : w3.cell? ⟨g, 1, none⟩ = some (.slice A l.length c) := (blk_cell BK3.out 1).trans rfl; have hf1 := blk_frozen BK3.out 1; clear ho hb3 hk3))
          all_goals go_end0
          all_goals exact ⟨_, rfl, blk_put (cs := #[.string kept, .slice A l.length c]) BK3.out 1 _ rfl, Kd.R_mono (Kd.R_far (p := ⟨g, 1, none⟩) (Kd.R_types HO3.out BK3.out (by decide)) (fun _ hk => hk.2) _) (fun _ _ => trivial), below_set HB3.out HG.out, Keep29_trans (Keep29_trans KW.out (fun q_ cs _ hb => HK3.out q_ cs hb)) (fun q_ cs hq hb => blkFar29 hb ⟨g, 1, none⟩ _ hq)⟩
        · rw [if_neg ci] at h
          cases h
      · rw [if_pos rfl] at h
        by_cases ci : 0 ≤ i ∧ i < (l.length : Int)
        · rw [if_pos ci] at h
          cases h
          obtain ⟨j, rfl⟩ := Int.eq_ofNat_of_zero_le ci.1
          have hj : j < l.length := by omega
          obtain rfl := HXE.out
          clear ci HXE
          rcases R47_form HO.out with ⟨_, h2⟩ | ⟨go, cap, cur, eo, h2, h3, h4, h5, h6, h7⟩
          · rw [h2] at hj
            exact absurd hj (Nat.not_lt_zero _)
          · injection eo with ea _ ec
            subst ea
            subst ec
            have HJ := Aside0.mk (show j < l.length ∧ l.length ≤ c from ⟨hj, h4⟩)
            have HCS := Aside0.mk h6
            have BO := Aside0.mk h3
            have HGO := Aside0.mk h2
            have HT := Aside0.mk (And.intro h5 h7)
            have hjc : (j : Int) < (l.length : Int) := by omega
            have NG := Aside0.mk (show g ≠ go from fun e => by
              have h_ := BK.out
              rw [e, h3] at h_
              injection h_ with h_
              injection h_ with _ h_
              cases h_)
            clear h2 h3 h4 h5 h6 h7
            go_upto_region 6 with (go_at_call 56; ((with_reducible refine (impl_Memory_findCell.calls k kept (some ⟨go, 0, none⟩) c l q (j : Int) true w1 HC.out HL.out HP.out).mono ?_)); rintro e w2 ⟨rfl, hb⟩; have hb1_ := hb; have n0_ := Aside0.mk (blk_below BK.out hb); have n1_ := Aside0.mk (Kd.R_below HO.out hb); have n2_ := Aside0.mk (below_step HB.out hb); have n3_ := Aside0.mk (Keep29_trans KP.out (Keep29_below (g := g) hb)); have n4_ := Aside0.mk (blk_below BX.out hb); clear BK HO HB KP BX HC hz0 hz1 hb; have BK := n0_; have HO := n1_; have HB := n2_; have KP := n3_; have BX := n4_; clear n0_ n1_ n2_ n3_ n4_; have hz0 : w2.cell? ⟨g, 0, none⟩ = some (.string kept) := (blk_cell BK.out 0).trans rfl; have hz1 : w2.cell? ⟨g, 1, none⟩ = some (.slice (some ⟨go, 0, none⟩) l.length c) := (blk_cell BK.out 1).trans rfl; have hx0 : w2.cell? ⟨gx, 0, none⟩ = some (.int .i64 q) := (blk_cell BX.out 0).trans rfl; have hx1 : w2.cell? ⟨gx, 1, none⟩ = some (.string T) := (blk_cell BX.out 1).trans rfl; have hx2 : w2.cell? ⟨gx, 2, none⟩ = some (.bool false) := (blk_cell BX.out 2).trans rfl; have n0_ := Aside0.mk (blk_below BO.out hb1_); clear BO hb1_; have BO := n0_; clear n0_; obtain ⟨u0, hu0⟩ : ∃ u, w2.cell? ⟨go, j * 3, none⟩ = some u := ⟨_, (blk_cell BO.out (j * 3)).trans (Array.getElem?_eq_getElem (by have := HJ.out; have := HCS.out; omega))⟩; obtain ⟨u1, hu1⟩ : ∃ u, w2.cell? ⟨go, j * 3 + 1, none⟩ = some u := ⟨_, (blk_cell BO.out (j * 3 + 1)).trans (Array.getElem?_eq_getElem (by have := HJ.out; have := HCS.out; omega))⟩; obtain ⟨u2, hu2⟩ : ∃ u, w2.cell? ⟨go, j * 3 + 2, none⟩ = some u := ⟨_, (blk_cell BO.out (j * 3 + 2)).trans (Array.getElem?_eq_getElem (by have := HJ.out; have := HCS.out; omega))⟩; have f0 := blk_frozen BO.out (j * 3); have f1 := blk_frozen BO.out (j * 3 + 1); have f2 := blk_frozen BO.out (j * 3 + 2))
            go_still_tail 7, (by kernel_rfl)
            change wpList _ _ _ _ _ w2.drew
            go_wp2
            go_end0
            refine ⟨.slice (some ⟨go, 0, none⟩) l.length c, rfl, ?_, ?_, below_drew1 (below_set (below_set (below_set HB.out HGO.out) HGO.out) HGO.out), Keep29_trans KP.out (fun q_ cs _ hb => ?_)⟩
            · exact blkFar29 (blkFar29 (blkFar29 BK.out ⟨go, j * 3, none⟩ _ NG.out) ⟨go, j * 3 + 1, none⟩ _ NG.out) ⟨go, j * 3 + 2, none⟩ _ NG.out
            · have hbk := blk_put (blk_put (blk_put BO.out (j * 3) (.int .i64 q) rfl) (j * 3 + 1) (.string T) rfl) (j * 3 + 2) (.bool false) rfl
              have e := set_cells cur l j (⟨q, T, false⟩ : S47) HJ.out.1 HT.out.2
              have hl : (l.set j (⟨q, T, false⟩ : S47)).length = l.length := List.length_set
              have hR := R47_of HGO.out hbk (by rw [hl]; exact HJ.out.2) HT.out.1 (by rw [Array.size_setIfInBounds, Array.size_setIfInBounds, Array.size_setIfInBounds]; exact HCS.out) e
              rw [hl] at hR
              exact Kd.R_drew hR
            · have hq_ : q_ ≠ go := fun e => by
                rw [e, BO.out] at hb
                injection hb with hb
                injection hb with _ hb
                cases hb
              exact blkFar29 (blkFar29 (blkFar29 hb ⟨go, j * 3, none⟩ _ hq_) ⟨go, j * 3 + 1, none⟩ _ hq_) ⟨go, j * 3 + 2, none⟩ _ hq_
        · rw [if_neg ci] at h
          cases h
    · rw [if_neg ht] at h
      cases h
  · rw [if_neg cnd] at h
    cases h
def impl_StoreWord.f (k : Nat) (a0_0 : ByteArray) (l0_1 : List S47) (a1 : Int) (a2 : ByteArray) : Option (ByteArray × List S47) :=
  (impl_copyMemory.f a0_0 l0_1).bind fun m => (impl_isWordOf.f k a0_0 l0_1 a1).bind fun b => if b = true ∧ a2.size = 8 then (storeF k m.1 m.2 a1 a2).bind fun l => some (m.1, l) else some m
theorem impl_StoreWord.mono : ∀ a0_0 l0_1 a1 a2 k, LeO (impl_StoreWord.f k a0_0 l0_1 a1 a2) (impl_StoreWord.f (k + 1) a0_0 l0_1 a1 a2) := by
  intro a0_0 l0_1 a1 a2 k
  unfold impl_StoreWord.f
  exact LeO.bind (LeO.refl _) fun _ => LeO.bind (impl_isWordOf.mono _ _ _ _) fun _ => LeO.ite (LeO.bind (storeF_mono _ _ _ _ _) fun _ => LeO.refl _) (LeO.refl _)
set_option maxHeartbeats 8000000 in
set_option maxRecDepth 100000 in
theorem impl_StoreWord.calls (k : Nat) (a0_0 : ByteArray) (A0_1 : Option Addr) (c0_1 : Nat) (l0_1 : List (S47)) (a1 : Int) (a2 : ByteArray) (r1 : ByteArray) (r2 : List (S47)) (w : World) (hr0_1 : Kd.C k47 w A0_1 l0_1.length l0_1) (hc0_1 : l0_1.length ≤ c0_1) (h : impl_StoreWord.f k a0_0 l0_1 a1 a2 = some (r1, r2)) :
    Calls Try.prog 17 #[.agg #[.string a0_0, .slice A0_1 l0_1.length c0_1], .int .i64 a1, .string a2] w fun e w' => ∃ v1_ : Value, e = .returned (.agg #[.string r1, v1_]) ∧ Kd.R k47 47 w' w.heap.size (fun _ => True) v1_ r2 ∧ Below w.heap.size w w' := by
  have hu29 := Try.underlying29
  unfold impl_StoreWord.f at h
  obtain ⟨⟨m1, m2⟩, hm, h⟩ := Option.bind_eq_some_iff.1 h
  obtain ⟨b, hb0, h⟩ := Option.bind_eq_some_iff.1 h
  have HM := Aside0.mk hm
  have HK := Aside0.mk hb0
  have HR := Aside0.mk hr0_1
  have HC := Aside0.mk hc0_1
  have HB := Aside0.mk (Below.refl w.heap.size w)
  clear hm hb0 hr0_1 hc0_1
  by_cases ok : b = true ∧ a2.size = 8
  · rw [if_pos ok] at h
    obtain ⟨rfl, h8⟩ := ok
    obtain ⟨l2, hf, h⟩ := Option.bind_eq_some_iff.1 h
    obtain ⟨rfl, rfl⟩ : m1 = r1 ∧ l2 = r2 := by simpa using h
    have HF := Aside0.mk hf
    have s8 : ((a2.size : Int) == 8) = true := by rw [h8]; rfl
    clear hf h h8
    go_enter Try.func17, Try.ntmps17
    go_wp2_with (first | ((with_reducible refine gate_dst (N := 3) rfl ?_); refine box_event ?hg (N := 3) ?hd (cs := #[.string a0_0, .slice A0_1 l0_1.length c0_1]) (t := 29) ?hr ?_; (case hd => rfl); (case hg => rfl); (case hr => first | (go_simp; done) | (go_simp; rfl)); intro gA hg w3 hbox hb; have GA := Aside0.mk (show w.heap.size ≤ gA by rw [hg]; exact below_size HB.out); have n0_ := Aside0.mk (below_step HB.out hb); clear HB; have HB := n0_; have BA := Aside0.mk hbox; clear n0_ hb hbox hg) | ((with_reducible refine gate_dst (N := 6) rfl ?_); refine box_event ?hg (N := 6) ?hd (cs := #[.string (⟨#[]⟩ : ByteArray), .slice none 0 0]) (t := 29) ?hr ?_; (case hd => rfl); (case hg => rfl); (case hr => first | (go_simp; done) | (go_simp; rfl)); intro gR hg w4 hbox hb; have GR := Aside0.mk (show w.heap.size ≤ gR by rw [hg]; exact below_size HB.out); have n0_ := Aside0.mk (below_step HB.out hb); have n1_ := Aside0.mk (blk_below BA.out hb); clear HB BA; have HB := n0_; have BA := n1_; have BR := Aside0.mk hbox; clear n0_ n1_ hb hbox hg; have hA0 : w4.cell? ⟨gA, 0, none⟩ = some (.string a0_0) := (blk_cell BA.out 0).trans rfl; have hA1 : w4.cell? ⟨gA, 1, none⟩ = some (.slice A0_1 l0_1.length c0_1) := (blk_cell BA.out 1).trans rfl) | (go_at_call 41; ((with_reducible refine (impl_copyMemory.calls a0_0 A0_1 c0_1 l0_1 m1 m2 w4 (Kd.C_below HR.out HB.out) HC.out HM.out).mono ?_)); rintro e w5 ⟨v1, rfl, ho, hb⟩; obtain ⟨Ao, co, rfl⟩ := Kd.R_slice ho; have n0_ := Aside0.mk (below_step HB.out hb); have n1_ := Aside0.mk (blk_below BA.out hb); have n2_ := Aside0.mk (blk_below BR.out hb); have n3_ := Aside0.mk (Kd.R_lower ho (below_size HB.out)); clear HB BA BR hA0 hA1; have HB := n0_; have BA := n1_; have BR := n2_; have HO := n3_; clear n0_ n1_ n2_ n3_ hb ho) | ((with_reducible refine gate_dst (N := 7) rfl ?_); refine box_event ?hg (N := 7) ?hd (cs := #[.string (⟨#[]⟩ : ByteArray), .slice none 0 0]) (t := 29) ?hr ?_; (case hd => rfl); (case hg => rfl); (case hr => first | (go_simp; done) | (go_simp; rfl)); intro gM hg w6 hbox hb; have GM := Aside0.mk (show w.heap.size ≤ gM by rw [hg]; exact below_size HB.out); have NA := Aside0.mk (show gA ≠ gM by rw [hg]; exact Nat.ne_of_lt (blk_lt BA.out)); have NR := Aside0.mk (show gR ≠ gM by rw [hg]; exact Nat.ne_of_lt (blk_lt BR.out)); have n0_ := Aside0.mk (below_step HB.out hb); have n1_ := Aside0.mk (blk_below BA.out hb); have n2_ := Aside0.mk (blk_below BR.out hb); have n3_ := Aside0.mk (Kd.R_below HO.out hb); clear HB BA BR HO; have HB := n0_; have BA := n1_; have BR := n2_; have HO := n3_; have BM := Aside0.mk hbox; clear n0_ n1_ n2_ n3_ hb hbox hg; have hM0 : w6.cell? ⟨gM, 0, none⟩ = some (.string (⟨#[]⟩ : ByteArray)) := (blk_cell BM.out 0).trans rfl; have hM1 : w6.cell? ⟨gM, 1, none⟩ = some (.slice none 0 0) := (blk_cell BM.out 1).trans rfl; have fM0 := blk_frozen BM.out 0; have fM1 := blk_frozen BM.out 1; have hA0 : w6.cell? ⟨gA, 0, none⟩ = some (.string a0_0) := (blk_cell BA.out 0).trans rfl; have hA1 : w6.cell? ⟨gA, 1, none⟩ = some (.slice A0_1 l0_1.length c0_1) := (blk_cell BA.out 1).trans rfl; have hnA := NA.out; have hnA' := NA.out.symm) | (go_at_call 37; ((with_reducible refine (impl_isWordOf.calls k a0_0 A0_1 c0_1 l0_1 a1 _ _ (Kd.C_below HR.out (below_set (below_set (j := 0) (v := .string m1) HB.out GM.out) GM.out)) HC.out HK.out).mono ?_)); rintro e w8 ⟨rfl, hb⟩; have m0_ := Aside0.mk (show ((w6.setCell ⟨gM, 0, none⟩ (.string m1)).setCell ⟨gM, 1, none⟩ (.slice Ao m2.length co)).heap[gM]? = some (.cells #[.string m1, .slice Ao m2.length co] 29 (0, 0)) from blk_put (cs := #[.string m1, .slice none 0 0]) (blk_put (cs := #[.string (⟨#[]⟩ : ByteArray), .slice none 0 0]) BM.out 0 _ rfl) 1 _ rfl); have m2_ := Aside0.mk (show ((w6.setCell ⟨gM, 0, none⟩ (.string m1)).setCell ⟨gM, 1, none⟩ (.slice Ao m2.length co)).heap[gR]? = some (.cells #[.string (⟨#[]⟩ : ByteArray), .slice none 0 0] 29 (0, 0)) from blkFar29 (blkFar29 BR.out ⟨gM, 0, none⟩ _ NR.out) ⟨gM, 1, none⟩ _ NR.out); have m3_ := Aside0.mk (show Kd.R k47 47 ((w6.setCell ⟨gM, 0, none⟩ (.string m1)).setCell ⟨gM, 1, none⟩ (.slice Ao m2.length co)) w.heap.size (fun _ => True) (.slice Ao m2.length co) m2 from Kd.R_mono (Kd.R_far (p := ⟨gM, 1, none⟩) (Kd.R_far (p := ⟨gM, 0, none⟩) (Kd.R_types HO.out BM.out (by decide)) (fun _ hk => hk.2) (.string m1)) (fun _ hk => hk.2) (.slice Ao m2.length co)) (fun _ hk => trivial)); have m4_ := Aside0.mk (show Below w.heap.size w ((w6.setCell ⟨gM, 0, none⟩ (.string m1)).setCell ⟨gM, 1, none⟩ (.slice Ao m2.length co)) from below_set (below_set HB.out GM.out) GM.out); have n0_ := Aside0.mk (below_step m4_.out hb); have n2_ := Aside0.mk (blk_below m2_.out hb); have n3_ := Aside0.mk (Kd.R_below m3_.out hb); have n4_ := Aside0.mk (blk_below m0_.out hb); clear HB BA BR HO BM hA0 hA1 hM0 hM1 fM0 fM1 hnA hnA' m0_ m2_ m3_ m4_; have HB := n0_; have BR := n2_; have HO := n3_; have BM := n4_; clear n0_ n2_ n3_ n4_ hb; have hM0 : w8.cell? ⟨gM, 0, none⟩ = some (.string m1) := (blk_cell BM.out 0).trans rfl; have hM1 : w8.cell? ⟨gM, 1, none⟩ = some (.slice Ao m2.length co) := (blk_cell BM.out 1).trans rfl; have hR0 : w8.cell? ⟨gR, 0, none⟩ = some (.string (⟨#[]⟩ : ByteArray)) := (blk_cell BR.out 0).trans rfl; have hR1 : w8.cell? ⟨gR, 1, none⟩ = some (.slice none 0 0) := (blk_cell BR.out 1).trans rfl; have fR0 := blk_frozen BR.out 0; have fR1 := blk_frozen BR.out 1) | (go_at_call 42; ((with_reducible refine (store_at k gM m1 m2 l2 _ a1 a2 w w8 HB.out GM.out BM.out HO.out HF.out).mono ?_)); rintro e w9 ⟨v9, rfl, bm, ho, hb, hk⟩; obtain ⟨A9, c9, rfl⟩ := Kd.R_slice ho; have n0_ := Aside0.mk (hk gR _ NR.out BR.out); clear BR HB HO BM; have BR := n0_; have HB := Aside0.mk hb; have HO := Aside0.mk ho; have BM := Aside0.mk bm; clear n0_ hb ho bm hk hM0 hM1 hR0 hR1 fR0 fR1; have hM0 : w9.cell? ⟨gM, 0, none⟩ = some (.string m1) := (blk_cell BM.out 0).trans rfl; have hM1 : w9.cell? ⟨gM, 1, none⟩ = some (.slice A9 l2.length c9) := (blk_cell BM.out 1).trans rfl; have hR0 : w9.cell? ⟨gR, 0, none⟩ = some (.string (⟨#[]⟩ : ByteArray)) := (blk_cell BR.out 0).trans rfl; have hR1 : w9.cell? ⟨gR, 1, none⟩ = some (.slice none 0 0) := (blk_cell BR.out 1).trans rfl; have fR0 := blk_frozen BR.out 0; have fR1 := blk_frozen BR.out 1))
    refine bodyPost_ret (results_cell_row rfl _ _ gR 29 #[.string m1, .slice A9 l2.length c9] (0, 0) _ rfl (blk_put (cs := #[.string m1, .slice none 0 0]) (blk_put (cs := #[.string (⟨#[]⟩ : ByteArray), .slice none 0 0]) BR.out 0 _ rfl) 1 _ rfl) Try.underlying29 rfl (by kernel_rfl)) rfl ?_
    exact ⟨_, rfl, Kd.R_mono (Kd.R_far (p := ⟨gR, 1, none⟩) (Kd.R_far (p := ⟨gR, 0, none⟩) (Kd.R_types HO.out BR.out (by decide)) (fun _ hk => hk.2) (.string m1)) (fun _ hk => hk.2) (.slice A9 l2.length c9)) (fun _ hk => trivial), below_set (below_set HB.out GR.out) GR.out⟩
  · rw [if_neg ok] at h
    obtain ⟨rfl, rfl⟩ : m1 = r1 ∧ m2 = r2 := by simpa using h
    clear h
    cases b
    · clear ok
      go_enter Try.func17, Try.ntmps17
      go_wp2_with (first | ((with_reducible refine gate_dst (N := 3) rfl ?_); refine box_event ?hg (N := 3) ?hd (cs := #[.string a0_0, .slice A0_1 l0_1.length c0_1]) (t := 29) ?hr ?_; (case hd => rfl); (case hg => rfl); (case hr => first | (go_simp; done) | (go_simp; rfl)); intro gA hg w3 hbox hb; have GA := Aside0.mk (show w.heap.size ≤ gA by rw [hg]; exact below_size HB.out); have n0_ := Aside0.mk (below_step HB.out hb); clear HB; have HB := n0_; have BA := Aside0.mk hbox; clear n0_ hb hbox hg) | ((with_reducible refine gate_dst (N := 6) rfl ?_); refine box_event ?hg (N := 6) ?hd (cs := #[.string (⟨#[]⟩ : ByteArray), .slice none 0 0]) (t := 29) ?hr ?_; (case hd => rfl); (case hg => rfl); (case hr => first | (go_simp; done) | (go_simp; rfl)); intro gR hg w4 hbox hb; have GR := Aside0.mk (show w.heap.size ≤ gR by rw [hg]; exact below_size HB.out); have n0_ := Aside0.mk (below_step HB.out hb); have n1_ := Aside0.mk (blk_below BA.out hb); clear HB BA; have HB := n0_; have BA := n1_; have BR := Aside0.mk hbox; clear n0_ n1_ hb hbox hg; have hA0 : w4.cell? ⟨gA, 0, none⟩ = some (.string a0_0) := (blk_cell BA.out 0).trans rfl; have hA1 : w4.cell? ⟨gA, 1, none⟩ = some (.slice A0_1 l0_1.length c0_1) := (blk_cell BA.out 1).trans rfl) | (go_at_call 41; ((with_reducible refine (impl_copyMemory.calls a0_0 A0_1 c0_1 l0_1 m1 m2 w4 (Kd.C_below HR.out HB.out) HC.out HM.out).mono ?_)); rintro e w5 ⟨v1, rfl, ho, hb⟩; obtain ⟨Ao, co, rfl⟩ := Kd.R_slice ho; have n0_ := Aside0.mk (below_step HB.out hb); have n1_ := Aside0.mk (blk_below BA.out hb); have n2_ := Aside0.mk (blk_below BR.out hb); have n3_ := Aside0.mk (Kd.R_lower ho (below_size HB.out)); clear HB BA BR hA0 hA1; have HB := n0_; have BA := n1_; have BR := n2_; have HO := n3_; clear n0_ n1_ n2_ n3_ hb ho) | ((with_reducible refine gate_dst (N := 7) rfl ?_); refine box_event ?hg (N := 7) ?hd (cs := #[.string (⟨#[]⟩ : ByteArray), .slice none 0 0]) (t := 29) ?hr ?_; (case hd => rfl); (case hg => rfl); (case hr => first | (go_simp; done) | (go_simp; rfl)); intro gM hg w6 hbox hb; have GM := Aside0.mk (show w.heap.size ≤ gM by rw [hg]; exact below_size HB.out); have NA := Aside0.mk (show gA ≠ gM by rw [hg]; exact Nat.ne_of_lt (blk_lt BA.out)); have NR := Aside0.mk (show gR ≠ gM by rw [hg]; exact Nat.ne_of_lt (blk_lt BR.out)); have n0_ := Aside0.mk (below_step HB.out hb); have n1_ := Aside0.mk (blk_below BA.out hb); have n2_ := Aside0.mk (blk_below BR.out hb); have n3_ := Aside0.mk (Kd.R_below HO.out hb); clear HB BA BR HO; have HB := n0_; have BA := n1_; have BR := n2_; have HO := n3_; have BM := Aside0.mk hbox; clear n0_ n1_ n2_ n3_ hb hbox hg; have hM0 : w6.cell? ⟨gM, 0, none⟩ = some (.string (⟨#[]⟩ : ByteArray)) := (blk_cell BM.out 0).trans rfl; have hM1 : w6.cell? ⟨gM, 1, none⟩ = some (.slice none 0 0) := (blk_cell BM.out 1).trans rfl; have fM0 := blk_frozen BM.out 0; have fM1 := blk_frozen BM.out 1; have hA0 : w6.cell? ⟨gA, 0, none⟩ = some (.string a0_0) := (blk_cell BA.out 0).trans rfl; have hA1 : w6.cell? ⟨gA, 1, none⟩ = some (.slice A0_1 l0_1.length c0_1) := (blk_cell BA.out 1).trans rfl; have hnA := NA.out; have hnA' := NA.out.symm) | (go_at_call 37; ((with_reducible refine (impl_isWordOf.calls k a0_0 A0_1 c0_1 l0_1 a1 _ _ (Kd.C_below HR.out (below_set (below_set (j := 0) (v := .string m1) HB.out GM.out) GM.out)) HC.out HK.out).mono ?_)); rintro e w8 ⟨rfl, hb⟩; have m0_ := Aside0.mk (show ((w6.setCell ⟨gM, 0, none⟩ (.string m1)).setCell ⟨gM, 1, none⟩ (.slice Ao m2.length co)).heap[gM]? = some (.cells #[.string m1, .slice Ao m2.length co] 29 (0, 0)) from blk_put (cs := #[.string m1, .slice none 0 0]) (blk_put (cs := #[.string (⟨#[]⟩ : ByteArray), .slice none 0 0]) BM.out 0 _ rfl) 1 _ rfl); have m2_ := Aside0.mk (show ((w6.setCell ⟨gM, 0, none⟩ (.string m1)).setCell ⟨gM, 1, none⟩ (.slice Ao m2.length co)).heap[gR]? = some (.cells #[.string (⟨#[]⟩ : ByteArray), .slice none 0 0] 29 (0, 0)) from blkFar29 (blkFar29 BR.out ⟨gM, 0, none⟩ _ NR.out) ⟨gM, 1, none⟩ _ NR.out); have m3_ := Aside0.mk (show Kd.R k47 47 ((w6.setCell ⟨gM, 0, none⟩ (.string m1)).setCell ⟨gM, 1, none⟩ (.slice Ao m2.length co)) w.heap.size (fun _ => True) (.slice Ao m2.length co) m2 from Kd.R_mono (Kd.R_far (p := ⟨gM, 1, none⟩) (Kd.R_far (p := ⟨gM, 0, none⟩) (Kd.R_types HO.out BM.out (by decide)) (fun _ hk => hk.2) (.string m1)) (fun _ hk => hk.2) (.slice Ao m2.length co)) (fun _ hk => trivial)); have m4_ := Aside0.mk (show Below w.heap.size w ((w6.setCell ⟨gM, 0, none⟩ (.string m1)).setCell ⟨gM, 1, none⟩ (.slice Ao m2.length co)) from below_set (below_set HB.out GM.out) GM.out); have n0_ := Aside0.mk (below_step m4_.out hb); have n2_ := Aside0.mk (blk_below m2_.out hb); have n3_ := Aside0.mk (Kd.R_below m3_.out hb); have n4_ := Aside0.mk (blk_below m0_.out hb); clear HB BA BR HO BM hA0 hA1 hM0 hM1 fM0 fM1 hnA hnA' m0_ m2_ m3_ m4_; have HB := n0_; have BR := n2_; have HO := n3_; have BM := n4_; clear n0_ n2_ n3_ n4_ hb; have hM0 : w8.cell? ⟨gM, 0, none⟩ = some (.string m1) := (blk_cell BM.out 0).trans rfl; have hM1 : w8.cell? ⟨gM, 1, none⟩ = some (.slice Ao m2.length co) := (blk_cell BM.out 1).trans rfl; have hR0 : w8.cell? ⟨gR, 0, none⟩ = some (.string (⟨#[]⟩ : ByteArray)) := (blk_cell BR.out 0).trans rfl; have hR1 : w8.cell? ⟨gR, 1, none⟩ = some (.slice none 0 0) := (blk_cell BR.out 1).trans rfl; have fR0 := blk_frozen BR.out 0; have fR1 := blk_frozen BR.out 1))
      refine bodyPost_ret (results_cell_row rfl _ _ gR 29 #[.string m1, .slice Ao m2.length co] (0, 0) _ rfl (blk_put (cs := #[.string m1, .slice none 0 0]) (blk_put (cs := #[.string (⟨#[]⟩ : ByteArray), .slice none 0 0]) BR.out 0 _ rfl) 1 _ rfl) Try.underlying29 rfl (by kernel_rfl)) rfl ?_
      exact ⟨_, rfl, Kd.R_mono (Kd.R_far (p := ⟨gR, 1, none⟩) (Kd.R_far (p := ⟨gR, 0, none⟩) (Kd.R_types HO.out BR.out (by decide)) (fun _ hk => hk.2) (.string m1)) (fun _ hk => hk.2) (.slice Ao m2.length co)) (fun _ hk => trivial), below_set (below_set HB.out GR.out) GR.out⟩
    · have s8 : ((a2.size : Int) == 8) = false := beq_eq_false_iff_ne.mpr (fun e => ok ⟨rfl, by omega⟩)
      clear ok
      go_enter Try.func17, Try.ntmps17
      go_wp2_with (first | ((with_reducible refine gate_dst (N := 3) rfl ?_); refine box_event ?hg (N := 3) ?hd (cs := #[.string a0_0, .slice A0_1 l0_1.length c0_1]) (t := 29) ?hr ?_; (case hd => rfl); (case hg => rfl); (case hr => first | (go_simp; done) | (go_simp; rfl)); intro gA hg w3 hbox hb; have GA := Aside0.mk (show w.heap.size ≤ gA by rw [hg]; exact below_size HB.out); have n0_ := Aside0.mk (below_step HB.out hb); clear HB; have HB := n0_; have BA := Aside0.mk hbox; clear n0_ hb hbox hg) | ((with_reducible refine gate_dst (N := 6) rfl ?_); refine box_event ?hg (N := 6) ?hd (cs := #[.string (⟨#[]⟩ : ByteArray), .slice none 0 0]) (t := 29) ?hr ?_; (case hd => rfl); (case hg => rfl); (case hr => first | (go_simp; done) | (go_simp; rfl)); intro gR hg w4 hbox hb; have GR := Aside0.mk (show w.heap.size ≤ gR by rw [hg]; exact below_size HB.out); have n0_ := Aside0.mk (below_step HB.out hb); have n1_ := Aside0.mk (blk_below BA.out hb); clear HB BA; have HB := n0_; have BA := n1_; have BR := Aside0.mk hbox; clear n0_ n1_ hb hbox hg; have hA0 : w4.cell? ⟨gA, 0, none⟩ = some (.string a0_0) := (blk_cell BA.out 0).trans rfl; have hA1 : w4.cell? ⟨gA, 1, none⟩ = some (.slice A0_1 l0_1.length c0_1) := (blk_cell BA.out 1).trans rfl) | (go_at_call 41; ((with_reducible refine (impl_copyMemory.calls a0_0 A0_1 c0_1 l0_1 m1 m2 w4 (Kd.C_below HR.out HB.out) HC.out HM.out).mono ?_)); rintro e w5 ⟨v1, rfl, ho, hb⟩; obtain ⟨Ao, co, rfl⟩ := Kd.R_slice ho; have n0_ := Aside0.mk (below_step HB.out hb); have n1_ := Aside0.mk (blk_below BA.out hb); have n2_ := Aside0.mk (blk_below BR.out hb); have n3_ := Aside0.mk (Kd.R_lower ho (below_size HB.out)); clear HB BA BR hA0 hA1; have HB := n0_; have BA := n1_; have BR := n2_; have HO := n3_; clear n0_ n1_ n2_ n3_ hb ho) | ((with_reducible refine gate_dst (N := 7) rfl ?_); refine box_event ?hg (N := 7) ?hd (cs := #[.string (⟨#[]⟩ : ByteArray), .slice none 0 0]) (t := 29) ?hr ?_; (case hd => rfl); (case hg => rfl); (case hr => first | (go_simp; done) | (go_simp; rfl)); intro gM hg w6 hbox hb; have GM := Aside0.mk (show w.heap.size ≤ gM by rw [hg]; exact below_size HB.out); have NA := Aside0.mk (show gA ≠ gM by rw [hg]; exact Nat.ne_of_lt (blk_lt BA.out)); have NR := Aside0.mk (show gR ≠ gM by rw [hg]; exact Nat.ne_of_lt (blk_lt BR.out)); have n0_ := Aside0.mk (below_step HB.out hb); have n1_ := Aside0.mk (blk_below BA.out hb); have n2_ := Aside0.mk (blk_below BR.out hb); have n3_ := Aside0.mk (Kd.R_below HO.out hb); clear HB BA BR HO; have HB := n0_; have BA := n1_; have BR := n2_; have HO := n3_; have BM := Aside0.mk hbox; clear n0_ n1_ n2_ n3_ hb hbox hg; have hM0 : w6.cell? ⟨gM, 0, none⟩ = some (.string (⟨#[]⟩ : ByteArray)) := (blk_cell BM.out 0).trans rfl; have hM1 : w6.cell? ⟨gM, 1, none⟩ = some (.slice none 0 0) := (blk_cell BM.out 1).trans rfl; have fM0 := blk_frozen BM.out 0; have fM1 := blk_frozen BM.out 1; have hA0 : w6.cell? ⟨gA, 0, none⟩ = some (.string a0_0) := (blk_cell BA.out 0).trans rfl; have hA1 : w6.cell? ⟨gA, 1, none⟩ = some (.slice A0_1 l0_1.length c0_1) := (blk_cell BA.out 1).trans rfl; have hnA := NA.out; have hnA' := NA.out.symm) | (go_at_call 37; ((with_reducible refine (impl_isWordOf.calls k a0_0 A0_1 c0_1 l0_1 a1 _ _ (Kd.C_below HR.out (below_set (below_set (j := 0) (v := .string m1) HB.out GM.out) GM.out)) HC.out HK.out).mono ?_)); rintro e w8 ⟨rfl, hb⟩; have m0_ := Aside0.mk (show ((w6.setCell ⟨gM, 0, none⟩ (.string m1)).setCell ⟨gM, 1, none⟩ (.slice Ao m2.length co)).heap[gM]? = some (.cells #[.string m1, .slice Ao m2.length co] 29 (0, 0)) from blk_put (cs := #[.string m1, .slice none 0 0]) (blk_put (cs := #[.string (⟨#[]⟩ : ByteArray), .slice none 0 0]) BM.out 0 _ rfl) 1 _ rfl); have m2_ := Aside0.mk (show ((w6.setCell ⟨gM, 0, none⟩ (.string m1)).setCell ⟨gM, 1, none⟩ (.slice Ao m2.length co)).heap[gR]? = some (.cells #[.string (⟨#[]⟩ : ByteArray), .slice none 0 0] 29 (0, 0)) from blkFar29 (blkFar29 BR.out ⟨gM, 0, none⟩ _ NR.out) ⟨gM, 1, none⟩ _ NR.out); have m3_ := Aside0.mk (show Kd.R k47 47 ((w6.setCell ⟨gM, 0, none⟩ (.string m1)).setCell ⟨gM, 1, none⟩ (.slice Ao m2.length co)) w.heap.size (fun _ => True) (.slice Ao m2.length co) m2 from Kd.R_mono (Kd.R_far (p := ⟨gM, 1, none⟩) (Kd.R_far (p := ⟨gM, 0, none⟩) (Kd.R_types HO.out BM.out (by decide)) (fun _ hk => hk.2) (.string m1)) (fun _ hk => hk.2) (.slice Ao m2.length co)) (fun _ hk => trivial)); have m4_ := Aside0.mk (show Below w.heap.size w ((w6.setCell ⟨gM, 0, none⟩ (.string m1)).setCell ⟨gM, 1, none⟩ (.slice Ao m2.length co)) from below_set (below_set HB.out GM.out) GM.out); have n0_ := Aside0.mk (below_step m4_.out hb); have n2_ := Aside0.mk (blk_below m2_.out hb); have n3_ := Aside0.mk (Kd.R_below m3_.out hb); have n4_ := Aside0.mk (blk_below m0_.out hb); clear HB BA BR HO BM hA0 hA1 hM0 hM1 fM0 fM1 hnA hnA' m0_ m2_ m3_ m4_; have HB := n0_; have BR := n2_; have HO := n3_; have BM := n4_; clear n0_ n2_ n3_ n4_ hb; have hM0 : w8.cell? ⟨gM, 0, none⟩ = some (.string m1) := (blk_cell BM.out 0).trans rfl; have hM1 : w8.cell? ⟨gM, 1, none⟩ = some (.slice Ao m2.length co) := (blk_cell BM.out 1).trans rfl; have hR0 : w8.cell? ⟨gR, 0, none⟩ = some (.string (⟨#[]⟩ : ByteArray)) := (blk_cell BR.out 0).trans rfl; have hR1 : w8.cell? ⟨gR, 1, none⟩ = some (.slice none 0 0) := (blk_cell BR.out 1).trans rfl; have fR0 := blk_frozen BR.out 0; have fR1 := blk_frozen BR.out 1))
      refine bodyPost_ret (results_cell_row rfl _ _ gR 29 #[.string m1, .slice Ao m2.length co] (0, 0) _ rfl (blk_put (cs := #[.string m1, .slice none 0 0]) (blk_put (cs := #[.string (⟨#[]⟩ : ByteArray), .slice none 0 0]) BR.out 0 _ rfl) 1 _ rfl) Try.underlying29 rfl (by kernel_rfl)) rfl ?_
      exact ⟨_, rfl, Kd.R_mono (Kd.R_far (p := ⟨gR, 1, none⟩) (Kd.R_far (p := ⟨gR, 0, none⟩) (Kd.R_types HO.out BR.out (by decide)) (fun _ hk => hk.2) (.string m1)) (fun _ hk => hk.2) (.slice Ao m2.length co)) (fun _ hk => trivial), below_set (below_set HB.out GR.out) GR.out⟩

/-! ### laws_markText: function 58 -/
def laws_markText.l0 : Nat → Int → ByteArray → Option (ByteArray)
  | 0, _, _ => none
  | k + 1, x0, x3 => if x0 > 0 then ((some (([(wrap64 (48 + (Int.tmod x0 10))) % 256] : List Int) : List Int)).bind fun y229 => (if (strOfNums y229).size + x3.size ≤ 9223372036854775807 then (laws_markText.l0 k (wrap64 (Int.tdiv x0 10)) ((strOfNums y229) ++ x3)) else (none))) else (if 1 + x3.size ≤ 9223372036854775807 then (some ((⟨#[109]⟩ : ByteArray) ++ x3)) else (none))
def laws_markText.f (k : Nat) (a0 : Int) : Option (ByteArray) := if a0 ≤ 0 then (some (⟨#[109, 48]⟩ : ByteArray)) else (laws_markText.l0 k a0 (⟨#[]⟩ : ByteArray))
theorem laws_markText.mono_l : ∀ k, (∀ y0 y1, LeO (laws_markText.l0 k y0 y1) (laws_markText.l0 (k + 1) y0 y1))
  | 0 => fun _ _ r h => by simp [laws_markText.l0] at h
  | k + 1 => by
    have ih0 := laws_markText.mono_l k
    · intro y0 y1
      unfold laws_markText.l0
      repeat' first
      | (with_reducible exact ih0 _ _)
      | (with_reducible exact LeO.refl _)
      | (with_reducible exact LeO.none _)
      | (with_reducible refine LeO.ite ?_ ?_)
      | (with_reducible refine LeO.bind ?_ (fun _ => ?_))
      | exact ih0 _ _
      | exact LeO.none _
      | refine LeO.ite ?_ ?_
      | refine LeO.bind ?_ (fun _ => ?_)
theorem laws_markText.mono : ∀ a0 k, LeO (laws_markText.f k a0) (laws_markText.f (k + 1) a0) := by
  intro a0 k
  have ih0 := laws_markText.mono_l k
  unfold laws_markText.f
  repeat' first
      | (with_reducible exact ih0 _ _)
      | (with_reducible exact LeO.refl _)
      | (with_reducible exact LeO.none _)
      | (with_reducible refine LeO.ite ?_ ?_)
      | (with_reducible refine LeO.bind ?_ (fun _ => ?_))
      | exact ih0 _ _
      | exact LeO.none _
      | refine LeO.ite ?_ ?_
      | refine LeO.bind ?_ (fun _ => ?_)
set_option maxHeartbeats 8000000 in
set_option maxRecDepth 100000 in
theorem laws_markText.calls (k : Nat) (a0 : Int) (r : ByteArray) (w : World) (h : laws_markText.f k a0 = some r) :
    Calls Try.prog 58 #[.int .i64 a0] w fun e w' => e = .returned (.string r) ∧ Below w.heap.size w w' := by
  have HB := Aside0.mk (Below.refl w.heap.size w)
  have H : (if a0 ≤ 0 then (some (⟨#[109, 48]⟩ : ByteArray)) else (laws_markText.l0 k a0 (⟨#[]⟩ : ByteArray))) = some r := h
  clear h
  by_cases c2 : a0 ≤ 0
  · rw [if_pos c2] at H
    have c2b0 : decide (a0 ≤ 0) = true := decide_eq_true c2
    clear c2
    obtain rfl := Option.some.inj H
    go_enter Try.func58, Try.ntmps58
    go_wp2
    go_ret
    exact ⟨by first | rfl | (simp [errW_none, errW_some] <;> rfl) | (simp [*, errW_none, errW_some] <;> rfl), by repeat (first | (with_reducible first | exact HB.out | apply below_alloc | apply pw_below_drewN | apply below_drew1) | exact HB.out)⟩
  · rw [if_neg c2] at H
    have c2b0 : decide (a0 ≤ 0) = false := decide_eq_false c2
    clear c2
    have H' := Aside0.mk H
    clear H
    go_enter Try.func58, Try.ntmps58
    go_wp2
    go_loopg [0, 3] k (fun kq v0 v3 w' => ∃ (x0_1 : Int) (x3_1 : ByteArray), v0 = .int .i64 x0_1 ∧ v3 = .string x3_1 ∧ Aside0 (laws_markText.l0 kq x0_1 x3_1 = some r) ∧ Aside0 (kq ≤ k) ∧ Aside0 (Below w.heap.size w w'))
    case atStart => exact ⟨(a0), ((⟨#[]⟩ : ByteArray)), (by first | rfl | (simp; done) | (simp [*]; done)), (by first | rfl | (simp; done) | (simp [*]; done)), H', ⟨Nat.le_refl _⟩, ⟨by repeat (first | (with_reducible first | exact HB.out | apply below_alloc | apply pw_below_drewN | apply below_drew1) | exact HB.out)⟩⟩
    case round =>
      clear H'
      try clear c2
      try clear c2b0
      try clear p2
      obtain ⟨x0_1, x3_1, rfl, rfl, HA, HK1, HB⟩ := hrel
      cases gk with
      | zero => exact absurd HA.out (by simp [laws_markText.l0])
      | succ k1 =>
        have H := HA.out
        clear HA
        simp only [laws_markText.l0] at H
        by_cases c3 : x0_1 > 0
        · rw [if_pos c3] at H
          have c3b0 : decide (0 < x0_1) = true := decide_eq_true c3
          clear c3
          obtain ⟨y229, hy229⟩ : ∃ y_ : List Int, y_ = (([(wrap64 (48 + (Int.tmod x0_1 10))) % 256] : List Int)) := ⟨_, rfl⟩
          replace H : (if (strOfNums y229).size + x3_1.size ≤ 9223372036854775807 then (laws_markText.l0 k1 (wrap64 (Int.tdiv x0_1 10)) ((strOfNums y229) ++ x3_1)) else (none)) = some r := by first | (rw [hy229]; with_reducible exact H) | (have H2_ := (Option.bind_some _ _).symm.trans H; rw [hy229]; with_reducible exact H2_) | (have H2_ := (Option.bind_some _ _).symm.trans H; with_reducible exact H2_) | with_reducible exact H | (rw [hy229]; exact H) | exact H
          have Ny229 := Aside0.mk hy229
          clear hy229
          by_cases c4 : (strOfNums y229).size + x3_1.size ≤ 9223372036854775807
          · rw [if_pos c4] at H
            have c4b0 := eq_true c4
            have c4b1 : decide ((strOfNums y229).size + x3_1.size ≤ 9223372036854775807) = true := decide_eq_true c4
            try have c4b2 : (9223372036854775807 < (strOfNums y229).size + x3_1.size) = False := eq_false (Nat.not_lt.2 c4)
            have H' := Aside0.mk H
            clear H
            go_wp2_with (first | ((with_reducible refine gate_dst (N := 12) rfl ?_); refine Kd.R_lit (Kd.int .u8) _ 5 ?hg (N := 12) ?hd (xs := ([(wrap64 (48 + (Int.tmod x0_1 10))) % 256] : List Int)) (inner := [.int .u8 ((wrap64 (48 + (Int.tmod x0_1 10))) % 256)]) (ok := fun _ => True) (okp := fun _ => True) ?hr ?hp (fun _ hk => hk) trivial (Below.refl _ _) (Nat.le_refl _) (by simp) ?_; (case hd => rfl); (case hg => rfl); (case hr => first | (go_simp; done) | (go_simp; rfl)); (case hp => exact (Reps.one (show Kd.M (Kd.int .u8) _ _ _ ((wrap64 (48 + (Int.tmod x0_1 10))) % 256) [.int .u8 ((wrap64 (48 + (Int.tmod x0_1 10))) % 256)] from rfl) (Reps.none _ _))); intro v230 w5 ho6 hb hg_ hnew_; clear hg_ hnew_; (first | rw [← Ny229.out] at ho6 | (simp only [Int.reduceToNat] at ho6; rw [← Ny229.out] at ho6)); have n0_ := Aside0.mk (Kd.R_lower ho6 (below_size (by repeat (first | (with_reducible first | exact HB.out | apply below_alloc | apply pw_below_drewN | apply below_drew1) | exact HB.out)))); have n1_ := Aside0.mk (below_step (by repeat (first | (with_reducible first | exact HB.out | apply below_alloc | apply pw_below_drewN | apply below_drew1) | exact HB.out)) hb); clear HB; have HO231 := n0_; have HB := n1_; clear n0_ n1_; clear hb ho6; have hcv7 := own_string (P := Try.prog) Try.underlying73 Try.underlying5 Try.underlying9 (Kd.own_of_R HO231.out)))
            go_roundg k1
            case measure => have := HK1.out; omega
            case rel => exact ⟨(wrap64 (Int.tdiv x0_1 10)), ((strOfNums y229) ++ x3_1), (by first | rfl | (simp; done) | (simp [*]; done)), (by first | rfl | (simp; done) | (simp [*]; done)), H', ⟨by have := HK1.out; omega⟩, ⟨by repeat (first | (with_reducible first | exact HB.out | apply below_alloc | apply pw_below_drewN | apply below_drew1) | exact HB.out)⟩⟩
          · rw [if_neg c4] at H
            exact absurd H (by simp)
        · rw [if_neg c3] at H
          have c3b0 : decide (0 < x0_1) = false := decide_eq_false c3
          clear c3
          by_cases c8 : 1 + x3_1.size ≤ 9223372036854775807
          · rw [if_pos c8] at H
            have c8b0 := eq_true c8
            have c8b1 : decide (1 + x3_1.size ≤ 9223372036854775807) = true := decide_eq_true c8
            try have c8b2 : (9223372036854775807 < 1 + x3_1.size) = False := eq_false (Nat.not_lt.2 c8)
            obtain rfl := Option.some.inj H
            go_wp2
            go_ret
            exact ⟨by first | rfl | (simp [errW_none, errW_some] <;> rfl) | (simp [*, errW_none, errW_some] <;> rfl), by repeat (first | (with_reducible first | exact HB.out | apply below_alloc | apply pw_below_drewN | apply below_drew1) | exact HB.out)⟩
          · rw [if_neg c8] at H
            exact absurd H (by simp)

/-! ### laws_markCellS: function 43 -/
def laws_markCellS.l0 : Nat → List (S47) → Int → Int → Option (Int × (List (S47)))
  | 0, _, _, _ => none
  | k + 1, x0, x1, x5 => if x5 < (x0.length : Int) then (if 0 ≤ x5 then ((some (x0.set (x5 : Int).toNat (⟨x1, (rd_T47 x0 x5).f1, (rd_T47 x0 x5).f2⟩ : S47) : List (S47))).bind fun y232 => ((laws_markText.f k (wrap64 (x1 + 1))).bind fun t233 => ((some (y232.set (x5 : Int).toNat (⟨(rd_T47 y232 x5).f0, t233, (rd_T47 y232 x5).f2⟩ : S47) : List (S47))).bind fun y234 => (laws_markCellS.l0 k (y234.set (x5 : Int).toNat (⟨(rd_T47 y234 x5).f0, (rd_T47 y234 x5).f1, ((Int.tmod (wrap64 ((wrap64 (x1 + 1)) + 1)) 3) == 0)⟩ : S47)) (wrap64 ((wrap64 ((wrap64 (x1 + 1)) + 1)) + 1)) (wrap64 (x5 + 1)))))) else (none)) else (some (x1, x0))
def laws_markCellS.f (k : Nat) (l0 : List (S47)) (a1 : Int) : Option (Int × (List (S47))) := laws_markCellS.l0 k l0 a1 0
theorem laws_markCellS.mono_l : ∀ k, (∀ y0 y1 y2, LeO (laws_markCellS.l0 k y0 y1 y2) (laws_markCellS.l0 (k + 1) y0 y1 y2))
  | 0 => fun _ _ _ r h => by simp [laws_markCellS.l0] at h
  | k + 1 => by
    have ih0 := laws_markCellS.mono_l k
    · intro y0 y1 y2
      unfold laws_markCellS.l0
      repeat' first
      | (with_reducible exact ih0 _ _ _)
      | (with_reducible exact laws_markText.mono _ _)
      | (with_reducible exact LeO.refl _)
      | (with_reducible exact LeO.none _)
      | (with_reducible refine LeO.ite ?_ ?_)
      | (with_reducible refine LeO.bind ?_ (fun _ => ?_))
      | exact ih0 _ _ _
      | exact laws_markText.mono _ _
      | exact LeO.none _
      | refine LeO.ite ?_ ?_
      | refine LeO.bind ?_ (fun _ => ?_)
theorem laws_markCellS.mono : ∀ a0 a1 k, LeO (laws_markCellS.f k a0 a1) (laws_markCellS.f (k + 1) a0 a1) := by
  intro a0 a1 k
  have ih0 := laws_markCellS.mono_l k
  unfold laws_markCellS.f
  repeat' first
      | (with_reducible exact ih0 _ _ _)
      | (with_reducible exact laws_markText.mono _ _)
      | (with_reducible exact LeO.refl _)
      | (with_reducible exact LeO.none _)
      | (with_reducible refine LeO.ite ?_ ?_)
      | (with_reducible refine LeO.bind ?_ (fun _ => ?_))
      | exact ih0 _ _ _
      | exact laws_markText.mono _ _
      | exact LeO.none _
      | refine LeO.ite ?_ ?_
      | refine LeO.bind ?_ (fun _ => ?_)
set_option maxHeartbeats 8000000 in
set_option maxRecDepth 100000 in
theorem laws_markCellS.calls (k : Nat) (P0_ : Nat → Prop) (u9000_ : Value) (l0 : List (S47)) (a1 : Int) (r1 : Int) (r2 : List (S47)) (w0 w : World) (hB : Below w0.heap.size w0 w) (ho0 : Kd.R k47 47 w w0.heap.size P0_ u9000_ l0) (h : laws_markCellS.f k l0 a1 = some (r1, r2)) :
    Calls Try.prog 43 #[u9000_, .int .i64 a1] w fun e w' => e = .returned (.int .i64 r1) ∧ Kd.R k47 47 w' w0.heap.size (fun k_ => (P0_ k_ ∨ w.heap.size ≤ k_)) u9000_ r2 ∧ Below w0.heap.size w0 w' ∧ Kept w w' (fun k_ => P0_ k_) := by
  have HO0 := Aside0.mk (show Kd.R k47 47 w w0.heap.size (fun k_ => (P0_ k_ ∨ w.heap.size ≤ k_)) u9000_ l0 from Kd.R_mono ho0 (fun k_ hk => (.inl hk)))
  have HK := Aside0.mk (Kept.refl w (fun k_ => P0_ k_))
  have HW0 := Aside0.mk hB.size
  have HB := Aside0.mk hB
  clear hB
  have H : (laws_markCellS.l0 k l0 a1 0) = some (r1, r2) := h
  clear h
  have H' := Aside0.mk H
  clear H
  go_enter Try.func43, Try.ntmps43
  go_wp2
  go_loopg [1, 5] k (fun kq v1 v5 w' => ∃ (x0_1 : List (S47)) (x1_1 : Int) (x5_1 : Int), v1 = .int .i64 x1_1 ∧ v5 = .int .i64 x5_1 ∧ Aside0 (laws_markCellS.l0 kq x0_1 x1_1 x5_1 = some (r1, r2)) ∧ Aside0 (kq ≤ k) ∧ Aside0 (Kd.R k47 47 w' w0.heap.size (fun k_ => (P0_ k_ ∨ w.heap.size ≤ k_)) u9000_ x0_1) ∧ Aside0 (Kept w w' (fun k_ => P0_ k_)) ∧ Aside0 (Below w0.heap.size w0 w'))
  case atStart => exact ⟨(l0), (a1), (0), (by first | rfl | (simp; done) | (simp [*]; done)), (by first | rfl | (simp; done) | (simp [*]; done)), H', ⟨Nat.le_refl _⟩, ⟨by (with_reducible repeat (first | apply Kd.R_alloc | apply Kd.R_drewN | apply Kd.R_drew)); exact HO0.out⟩, ⟨by repeat (first | (with_reducible first | exact HK.out | apply Kept.alloc | apply Kept.drewN | apply Kept.drew) | exact HK.out)⟩, ⟨by repeat (first | (with_reducible first | exact HB.out | apply below_alloc | apply pw_below_drewN | apply below_drew1) | exact HB.out)⟩⟩
  case round =>
    clear H'
    try clear p2
    obtain ⟨x0_1, x1_1, x5_1, rfl, rfl, HA, HK1, HO_0, HK, HB⟩ := hrel
    cases gk with
    | zero => exact absurd HA.out (by simp [laws_markCellS.l0])
    | succ k1 =>
      have H := HA.out
      clear HA
      simp only [laws_markCellS.l0] at H
      by_cases c3 : x5_1 < (x0_1.length : Int)
      · rw [if_pos c3] at H
        have c3b0 : decide (x5_1 < (x0_1.length : Int)) = true := decide_eq_true c3
        clear c3
        by_cases c4 : 0 ≤ x5_1
        · rw [if_pos c4] at H
          have c4b0 : decide (0 ≤ x5_1) = true := decide_eq_true c4
          clear c4
          obtain ⟨y232, hy232⟩ : ∃ y_ : List (S47), y_ = (x0_1.set (x5_1 : Int).toNat (⟨x1_1, (rd_T47 x0_1 x5_1).f1, (rd_T47 x0_1 x5_1).f2⟩ : S47)) := ⟨_, rfl⟩
          replace H : ((laws_markText.f k1 (wrap64 (x1_1 + 1))).bind fun t233 => ((some (y232.set (x5_1 : Int).toNat (⟨(rd_T47 y232 x5_1).f0, t233, (rd_T47 y232 x5_1).f2⟩ : S47) : List (S47))).bind fun y234 => (laws_markCellS.l0 k1 (y234.set (x5_1 : Int).toNat (⟨(rd_T47 y234 x5_1).f0, (rd_T47 y234 x5_1).f1, ((Int.tmod (wrap64 ((wrap64 (x1_1 + 1)) + 1)) 3) == 0)⟩ : S47)) (wrap64 ((wrap64 ((wrap64 (x1_1 + 1)) + 1)) + 1)) (wrap64 (x5_1 + 1))))) = some (r1, r2) := by first | (rw [hy232]; with_reducible exact H) | (have H2_ := (Option.bind_some _ _).symm.trans H; rw [hy232]; with_reducible exact H2_) | (have H2_ := (Option.bind_some _ _).symm.trans H; with_reducible exact H2_) | with_reducible exact H | (rw [hy232]; exact H) | exact H
          have Ny232 := Aside0.mk hy232
          clear hy232
          replace H := Option.bind_eq_some_iff.mp H
          obtain ⟨t233, A60, H⟩ := H
          replace H : ((some (y232.set (x5_1 : Int).toNat (⟨(rd_T47 y232 x5_1).f0, t233, (rd_T47 y232 x5_1).f2⟩ : S47) : List (S47))).bind fun y234 => (laws_markCellS.l0 k1 (y234.set (x5_1 : Int).toNat (⟨(rd_T47 y234 x5_1).f0, (rd_T47 y234 x5_1).f1, ((Int.tmod (wrap64 ((wrap64 (x1_1 + 1)) + 1)) 3) == 0)⟩ : S47)) (wrap64 ((wrap64 ((wrap64 (x1_1 + 1)) + 1)) + 1)) (wrap64 (x5_1 + 1)))) = some (r1, r2) := H
          have A6 := Aside0.mk A60
          clear A60
          obtain ⟨y234, hy234⟩ : ∃ y_ : List (S47), y_ = (y232.set (x5_1 : Int).toNat (⟨(rd_T47 y232 x5_1).f0, t233, (rd_T47 y232 x5_1).f2⟩ : S47)) := ⟨_, rfl⟩
          replace H : (laws_markCellS.l0 k1 (y234.set (x5_1 : Int).toNat (⟨(rd_T47 y234 x5_1).f0, (rd_T47 y234 x5_1).f1, ((Int.tmod (wrap64 ((wrap64 (x1_1 + 1)) + 1)) 3) == 0)⟩ : S47)) (wrap64 ((wrap64 ((wrap64 (x1_1 + 1)) + 1)) + 1)) (wrap64 (x5_1 + 1))) = some (r1, r2) := by first | (rw [hy234]; with_reducible exact H) | (have H2_ := (Option.bind_some _ _).symm.trans H; rw [hy234]; with_reducible exact H2_) | (have H2_ := (Option.bind_some _ _).symm.trans H; with_reducible exact H2_) | with_reducible exact H | (rw [hy234]; exact H) | exact H
          have Ny234 := Aside0.mk hy234
          clear hy234
          obtain ⟨y235, hy235⟩ : ∃ y_ : List (S47), y_ = (y234.set (x5_1 : Int).toNat (⟨(rd_T47 y234 x5_1).f0, (rd_T47 y234 x5_1).f1, ((Int.tmod (wrap64 ((wrap64 (x1_1 + 1)) + 1)) 3) == 0)⟩ : S47)) := ⟨_, rfl⟩
          replace H : (laws_markCellS.l0 k1 y235 (wrap64 ((wrap64 ((wrap64 (x1_1 + 1)) + 1)) + 1)) (wrap64 (x5_1 + 1))) = some (r1, r2) := by first | (rw [hy235]; with_reducible exact H) | (have H2_ := (Option.bind_some _ _).symm.trans H; rw [hy235]; with_reducible exact H2_) | (have H2_ := (Option.bind_some _ _).symm.trans H; with_reducible exact H2_) | with_reducible exact H | (rw [hy235]; exact H) | exact H
          have Ny235 := Aside0.mk hy235
          clear hy235
          have H' := Aside0.mk H
          clear H
          obtain ⟨Ao9, co9, eo9⟩ := Kd.R_slice HO_0.out
          subst eo9
          have p5 : 0 ≤ (x5_1 : Int) := of_decide_eq_true (by first | (with_reducible assumption) | assumption)
          have q5 : (x5_1 : Int) < ((x0_1.length : Int) : Int) := of_decide_eq_true (by first | (with_reducible assumption) | assumption)
          obtain ⟨go5, co5, eo5, gb5, gl5, cl5, HG5⟩ := Kd.R_form HO_0.out (by omega)
          (first | cases eo5 | (injection eo5 with ea_ en_ ec_; (first | subst ea_ | (injection ea_ with ea_; subst ea_)); subst ec_; clear en_))
          have GB5 := Aside0.mk gb5
          have GG5 := Aside0.mk HG5
          clear gb5 gl5 HG5
          have HMgo5 := Aside0.mk (show (P0_ go5 ∨ w.heap.size ≤ go5) from (HO_0.out.1 _ rfl))
          obtain ⟨ce5, hcl5, hM5, hcc5, hfr5⟩ := Kd.R_elem HO_0.out z47 (x5_1 : Int) p5 q5
          obtain rfl := k47_openM hM5
          have hx5_0 : wr.cell? ⟨go5, (x5_1 : Int).toNat * 3, none⟩ = some (.int .i64 ((rd_T47 x0_1 x5_1).f0)) := hcc5 0 _ rfl
          have hx5_1 : wr.cell? ⟨go5, (x5_1 : Int).toNat * 3 + 1, none⟩ = some (.string ((rd_T47 x0_1 x5_1).f1)) := hcc5 1 _ rfl
          have hx5_2 : wr.cell? ⟨go5, (x5_1 : Int).toNat * 3 + 2, none⟩ = some (.bool ((rd_T47 x0_1 x5_1).f2)) := hcc5 2 _ rfl
          have hf5_0 : wr.frozen? ⟨go5, (x5_1 : Int).toNat * 3, none⟩ = false := hfr5 0
          have hf5_1 : wr.frozen? ⟨go5, (x5_1 : Int).toNat * 3 + 1, none⟩ = false := hfr5 1
          have hf5_2 : wr.frozen? ⟨go5, (x5_1 : Int).toNat * 3 + 2, none⟩ = false := hfr5 2
          clear hcl5 hcc5 hfr5 hM5
          replace p5 := eq_true p5
          replace q5 := eq_true q5
          have HX10 := Aside0.mk (show Kd.R k47 47 wr w0.heap.size (fun k_ => (P0_ k_ ∨ w.heap.size ≤ k_)) (.slice (some ⟨go5, 0, none⟩) x0_1.length co9) x0_1 from (by (with_reducible repeat (first | apply Kd.R_alloc | apply Kd.R_drewN | apply Kd.R_drew)); exact HO_0.out))
          obtain ⟨ce10, hcl10, hM10, hcc10, hfr10⟩ := Kd.R_elem HX10.out z47 (x5_1 : Int) (of_decide_eq_true (by first | (with_reducible assumption) | assumption)) (by have h_ : (x5_1 : Int) < ((x0_1.length : Int) : Int) := of_decide_eq_true (by first | (with_reducible assumption) | assumption); first | exact h_ | (have e_ := (Kd.R_reads' HO_0.out).1; omega) | simpa using h_)
          obtain rfl := k47_openM hM10
          have HP10 := Kd.R_seg HX10.out (x5_1 : Int) (of_decide_eq_true (by first | (with_reducible assumption) | assumption)) (by have h_ : (x5_1 : Int) < ((x0_1.length : Int) : Int) := of_decide_eq_true (by first | (with_reducible assumption) | assumption); first | exact h_ | (have e_ := (Kd.R_reads' HO_0.out).1; omega) | simpa using h_) (seg := [.int .i64 x1_1]) (j := 0) hcl10 hcc10 (show 1 ≤ 3 from by decide) (x' := (⟨x1_1, (rd_T47 x0_1 x5_1).f1, (rd_T47 x0_1 x5_1).f2⟩ : S47)) (k47_mkM _ _ _ (⟨x1_1, (rd_T47 x0_1 x5_1).f1, (rd_T47 x0_1 x5_1).f2⟩ : S47) ) (fun _ hk => hk)
          have hx10_0 := hcc10 0 _ rfl
          (try simp only [show (k47).sz = 3 from rfl, Nat.mul_one, Nat.add_zero] at hx10_0)
          have hf10_0 := hfr10 0
          (try simp only [show (k47).sz = 3 from rfl, Nat.mul_one, Nat.add_zero] at hf10_0)
          clear hcl10 hcc10 hfr10 hM10
          go_wp2_with (first | ((with_reducible refine gate_store (t := 3) (p := 16) rfl ?_); refine store_event (t := 3) (p := 16) (v := ?vo_w11) (w1 := (wr.setCell ⟨go5, (x5_1 : Int).toNat * 3, none⟩ (.int .i64 x1_1))) ?hg ?ho ?hn ?hr ?_; (case ho => rfl); (case hg => rfl); (case hn => rfl); (case hr => first | (go_simp; done) | (go_simp; rfl)); intro w11 hw; have hg : wr.grownBy w11 (some go5) := (by rw [hw]; exact HP10.2); have hp_ : Kd.R k47 47 w11 w0.heap.size (fun k_ => (P0_ k_ ∨ w.heap.size ≤ k_)) (.slice (some ⟨go5, 0, none⟩) x0_1.length co9) y232 := (by rw [hw, Ny232.out]; exact HP10.1); clear HP10; have n0_ := Aside0.mk (hp_); have n1_ := Aside0.mk ((by rw [hw]; exact below_set (HB.out) GB5.out : Below w0.heap.size w0 w11)); have n2_ := Aside0.mk (Kept.of_grown (S := (fun k_ => P0_ k_)) hg (by repeat (first | (with_reducible first | exact HK.out | apply Kept.alloc | apply Kept.drewN | apply Kept.drew) | exact HK.out)) (fun k_ e_ => (HO_0.out.1 k_ e_))); clear HO_0; clear HB; clear HK; have HO_0 := n0_; have HB := n1_; have HK := n2_; clear n0_ n1_ n2_; clear hg hw hp_) | ((with_reducible refine gate_callee (f := 58) rfl ?_); refine goesL_ (some 22) rfl rfl Try.func58 (by kernel_rfl) rfl #[.int .i64 (wrap64 (x1_1 + 1))] rfl (by (try simp only [List.map_toArray, List.map_cons, List.map_nil]); first | done | rfl | (simp only [List.length_drop, List.length_take]; rfl)) ?_; (with_reducible refine (laws_markText.calls k1 (wrap64 (x1_1 + 1)) t233 _ A6.out).mono ?_); rintro e w12 ⟨rfl, hb⟩; refine ⟨_, rfl, ?_⟩; have n0_ := Aside0.mk (Kd.R_below (by (with_reducible repeat (first | apply Kd.R_alloc | apply Kd.R_drewN | apply Kd.R_drew)); exact HO_0.out) hb); have n1_ := Aside0.mk (Kept.below (S := (fun k_ => P0_ k_)) (by repeat (first | (with_reducible first | exact HK.out | apply Kept.alloc | apply Kept.drewN | apply Kept.drew) | exact HK.out)) hb); have n2_ := Aside0.mk (below_step (by repeat (first | (with_reducible first | exact HB.out | apply below_alloc | apply pw_below_drewN | apply below_drew1) | exact HB.out)) hb); clear HO_0; clear HK; clear HB; have HO_0 := n0_; have HK := n1_; have HB := n2_; clear n0_ n1_ n2_; (try clear hb); (try clear hb2); (try clear hk); (try clear hi); have p7 : 0 ≤ (x5_1 : Int) := of_decide_eq_true (by first | (with_reducible assumption) | assumption); have q7 : (x5_1 : Int) < ((x0_1.length : Int) : Int) := of_decide_eq_true (by first | (with_reducible assumption) | assumption); obtain ⟨ce7, hcl7, hM7, hcc7, hfr7⟩ := Kd.R_elem HO_0.out z47 (x5_1 : Int) p7 q7; obtain rfl := k47_openM hM7; have hx7_0 : w12.cell? ⟨go5, (x5_1 : Int).toNat * 3, none⟩ = some (.int .i64 ((rd_T47 y232 x5_1).f0)) := hcc7 0 _ rfl; have hx7_1 : w12.cell? ⟨go5, (x5_1 : Int).toNat * 3 + 1, none⟩ = some (.string ((rd_T47 y232 x5_1).f1)) := hcc7 1 _ rfl; have hx7_2 : w12.cell? ⟨go5, (x5_1 : Int).toNat * 3 + 2, none⟩ = some (.bool ((rd_T47 y232 x5_1).f2)) := hcc7 2 _ rfl; have hf7_0 : w12.frozen? ⟨go5, (x5_1 : Int).toNat * 3, none⟩ = false := hfr7 0; have hf7_1 : w12.frozen? ⟨go5, (x5_1 : Int).toNat * 3 + 1, none⟩ = false := hfr7 1; have hf7_2 : w12.frozen? ⟨go5, (x5_1 : Int).toNat * 3 + 2, none⟩ = false := hfr7 2; clear hcl7 hcc7 hfr7 hM7; replace p7 := eq_true p7; replace q7 := eq_true q7; have HX13 := Aside0.mk (show Kd.R k47 47 w12 w0.heap.size (fun k_ => (P0_ k_ ∨ w.heap.size ≤ k_)) (.slice (some ⟨go5, 0, none⟩) x0_1.length co9) y232 from (by (with_reducible repeat (first | apply Kd.R_alloc | apply Kd.R_drewN | apply Kd.R_drew)); exact HO_0.out)); obtain ⟨ce13, hcl13, hM13, hcc13, hfr13⟩ := Kd.R_elem HX13.out z47 (x5_1 : Int) (of_decide_eq_true (by first | (with_reducible assumption) | assumption)) (by have h_ : (x5_1 : Int) < ((x0_1.length : Int) : Int) := of_decide_eq_true (by first | (with_reducible assumption) | assumption); first | exact h_ | (have e_ := (Kd.R_reads' HO_0.out).1; omega) | simpa using h_); obtain rfl := k47_openM hM13; have HP13 := Kd.R_seg HX13.out (x5_1 : Int) (of_decide_eq_true (by first | (with_reducible assumption) | assumption)) (by have h_ : (x5_1 : Int) < ((x0_1.length : Int) : Int) := of_decide_eq_true (by first | (with_reducible assumption) | assumption); first | exact h_ | (have e_ := (Kd.R_reads' HO_0.out).1; omega) | simpa using h_) (seg := [.string t233]) (j := 1) hcl13 hcc13 (show 2 ≤ 3 from by decide) (x' := (⟨(rd_T47 y232 x5_1).f0, t233, (rd_T47 y232 x5_1).f2⟩ : S47)) (k47_mkM _ _ _ (⟨(rd_T47 y232 x5_1).f0, t233, (rd_T47 y232 x5_1).f2⟩ : S47) ) (fun _ hk => hk); have hx13_1 := hcc13 1 _ rfl; (try simp only [show (k47).sz = 3 from rfl, Nat.mul_one, Nat.add_zero] at hx13_1); have hf13_1 := hfr13 1; (try simp only [show (k47).sz = 3 from rfl, Nat.mul_one, Nat.add_zero] at hf13_1); clear hcl13 hcc13 hfr13 hM13) | ((with_reducible refine gate_store (t := 9) (p := 24) rfl ?_); refine store_event (t := 9) (p := 24) (v := ?vo_w14) (w1 := (w12.setCell ⟨go5, (x5_1 : Int).toNat * 3 + 1, none⟩ (.string t233))) ?hg ?ho ?hn ?hr ?_; (case ho => rfl); (case hg => rfl); (case hn => rfl); (case hr => first | (go_simp; done) | (go_simp; rfl)); intro w14 hw; have hg : w12.grownBy w14 (some go5) := (by rw [hw]; exact HP13.2); have hp_ : Kd.R k47 47 w14 w0.heap.size (fun k_ => (P0_ k_ ∨ w.heap.size ≤ k_)) (.slice (some ⟨go5, 0, none⟩) x0_1.length co9) y234 := (by rw [hw, Ny234.out]; exact HP13.1); clear HP13; have n0_ := Aside0.mk (hp_); have n1_ := Aside0.mk ((by rw [hw]; exact below_set (HB.out) GB5.out : Below w0.heap.size w0 w14)); have n2_ := Aside0.mk (Kept.of_grown (S := (fun k_ => P0_ k_)) hg (by repeat (first | (with_reducible first | exact HK.out | apply Kept.alloc | apply Kept.drewN | apply Kept.drew) | exact HK.out)) (fun k_ e_ => (HO_0.out.1 k_ e_))); clear HO_0; clear HB; clear HK; have HO_0 := n0_; have HB := n1_; have HK := n2_; clear n0_ n1_ n2_; clear hg hw hp_; have p8 : 0 ≤ (x5_1 : Int) := of_decide_eq_true (by first | (with_reducible assumption) | assumption); have q8 : (x5_1 : Int) < ((x0_1.length : Int) : Int) := of_decide_eq_true (by first | (with_reducible assumption) | assumption); obtain ⟨ce8, hcl8, hM8, hcc8, hfr8⟩ := Kd.R_elem HO_0.out z47 (x5_1 : Int) p8 q8; obtain rfl := k47_openM hM8; have hx8_0 : w14.cell? ⟨go5, (x5_1 : Int).toNat * 3, none⟩ = some (.int .i64 ((rd_T47 y234 x5_1).f0)) := hcc8 0 _ rfl; have hx8_1 : w14.cell? ⟨go5, (x5_1 : Int).toNat * 3 + 1, none⟩ = some (.string ((rd_T47 y234 x5_1).f1)) := hcc8 1 _ rfl; have hx8_2 : w14.cell? ⟨go5, (x5_1 : Int).toNat * 3 + 2, none⟩ = some (.bool ((rd_T47 y234 x5_1).f2)) := hcc8 2 _ rfl; have hf8_0 : w14.frozen? ⟨go5, (x5_1 : Int).toNat * 3, none⟩ = false := hfr8 0; have hf8_1 : w14.frozen? ⟨go5, (x5_1 : Int).toNat * 3 + 1, none⟩ = false := hfr8 1; have hf8_2 : w14.frozen? ⟨go5, (x5_1 : Int).toNat * 3 + 2, none⟩ = false := hfr8 2; clear hcl8 hcc8 hfr8 hM8; replace p8 := eq_true p8; replace q8 := eq_true q8; have HX15 := Aside0.mk (show Kd.R k47 47 w14 w0.heap.size (fun k_ => (P0_ k_ ∨ w.heap.size ≤ k_)) (.slice (some ⟨go5, 0, none⟩) x0_1.length co9) y234 from (by (with_reducible repeat (first | apply Kd.R_alloc | apply Kd.R_drewN | apply Kd.R_drew)); exact HO_0.out)); obtain ⟨ce15, hcl15, hM15, hcc15, hfr15⟩ := Kd.R_elem HX15.out z47 (x5_1 : Int) (of_decide_eq_true (by first | (with_reducible assumption) | assumption)) (by have h_ : (x5_1 : Int) < ((x0_1.length : Int) : Int) := of_decide_eq_true (by first | (with_reducible assumption) | assumption); first | exact h_ | (have e_ := (Kd.R_reads' HO_0.out).1; omega) | simpa using h_); obtain rfl := k47_openM hM15; have HP15 := Kd.R_seg HX15.out (x5_1 : Int) (of_decide_eq_true (by first | (with_reducible assumption) | assumption)) (by have h_ : (x5_1 : Int) < ((x0_1.length : Int) : Int) := of_decide_eq_true (by first | (with_reducible assumption) | assumption); first | exact h_ | (have e_ := (Kd.R_reads' HO_0.out).1; omega) | simpa using h_) (seg := [.bool ((Int.tmod (wrap64 ((wrap64 (x1_1 + 1)) + 1)) 3) == 0)]) (j := 2) hcl15 hcc15 (show 3 ≤ 3 from by decide) (x' := (⟨(rd_T47 y234 x5_1).f0, (rd_T47 y234 x5_1).f1, ((Int.tmod (wrap64 ((wrap64 (x1_1 + 1)) + 1)) 3) == 0)⟩ : S47)) (k47_mkM _ _ _ (⟨(rd_T47 y234 x5_1).f0, (rd_T47 y234 x5_1).f1, ((Int.tmod (wrap64 ((wrap64 (x1_1 + 1)) + 1)) 3) == 0)⟩ : S47) ) (fun _ hk => hk); have hx15_2 := hcc15 2 _ rfl; (try simp only [show (k47).sz = 3 from rfl, Nat.mul_one, Nat.add_zero] at hx15_2); have hf15_2 := hfr15 2; (try simp only [show (k47).sz = 3 from rfl, Nat.mul_one, Nat.add_zero] at hf15_2); clear hcl15 hcc15 hfr15 hM15) | ((with_reducible refine gate_store (t := 4) (p := 33) rfl ?_); refine store_event (t := 4) (p := 33) (v := ?vo_w16) (w1 := (w14.setCell ⟨go5, (x5_1 : Int).toNat * 3 + 2, none⟩ (.bool ((Int.tmod (wrap64 ((wrap64 (x1_1 + 1)) + 1)) 3) == 0)))) ?hg ?ho ?hn ?hr ?_; (case ho => rfl); (case hg => rfl); (case hn => rfl); (case hr => first | (go_simp; done) | (go_simp; rfl)); intro w16 hw; have hg : w14.grownBy w16 (some go5) := (by rw [hw]; exact HP15.2); have hp_ : Kd.R k47 47 w16 w0.heap.size (fun k_ => (P0_ k_ ∨ w.heap.size ≤ k_)) (.slice (some ⟨go5, 0, none⟩) x0_1.length co9) y235 := (by rw [hw, Ny235.out]; exact HP15.1); clear HP15; have n0_ := Aside0.mk (hp_); have n1_ := Aside0.mk ((by rw [hw]; exact below_set (HB.out) GB5.out : Below w0.heap.size w0 w16)); have n2_ := Aside0.mk (Kept.of_grown (S := (fun k_ => P0_ k_)) hg (by repeat (first | (with_reducible first | exact HK.out | apply Kept.alloc | apply Kept.drewN | apply Kept.drew) | exact HK.out)) (fun k_ e_ => (HO_0.out.1 k_ e_))); clear HO_0; clear HB; clear HK; have HO_0 := n0_; have HB := n1_; have HK := n2_; clear n0_ n1_ n2_; clear hg hw hp_))
          go_roundg k1
          case measure => have := HK1.out; omega
          case rel => exact ⟨(y235), (wrap64 ((wrap64 ((wrap64 (x1_1 + 1)) + 1)) + 1)), (wrap64 (x5_1 + 1)), (by first | rfl | (simp; done) | (simp [*]; done)), (by first | rfl | (simp; done) | (simp [*]; done)), H', ⟨by have := HK1.out; omega⟩, ⟨by (with_reducible repeat (first | apply Kd.R_alloc | apply Kd.R_drewN | apply Kd.R_drew)); exact HO_0.out⟩, ⟨by repeat (first | (with_reducible first | exact HK.out | apply Kept.alloc | apply Kept.drewN | apply Kept.drew) | exact HK.out)⟩, ⟨by repeat (first | (with_reducible first | exact HB.out | apply below_alloc | apply pw_below_drewN | apply below_drew1) | exact HB.out)⟩⟩
        · rw [if_neg c4] at H
          exact absurd H (by simp)
      · rw [if_neg c3] at H
        have c3b0 : decide (x5_1 < (x0_1.length : Int)) = false := decide_eq_false c3
        clear c3
        simp only [Option.some.injEq, Prod.mk.injEq] at H
        obtain ⟨rfl, rfl⟩ := H
        obtain ⟨Ao17, co17, eo17⟩ := Kd.R_slice HO_0.out
        subst eo17
        go_wp2
        go_ret
        exact ⟨by first | rfl | (simp [errW_none, errW_some] <;> rfl) | (simp [*, errW_none, errW_some] <;> rfl), by (with_reducible repeat (first | apply Kd.R_alloc | apply Kd.R_drewN | apply Kd.R_drew)); exact HO_0.out, by repeat (first | (with_reducible first | exact HB.out | apply below_alloc | apply pw_below_drewN | apply below_drew1) | exact HB.out), by repeat (first | (with_reducible first | exact HK.out | apply Kept.alloc | apply Kept.drewN | apply Kept.drew) | exact HK.out)⟩

end Go.Proofs.Ytcfdabmeejfcoaa.PFnExactStoreWord
