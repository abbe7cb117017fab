-- Written by a program of this session for this claim; Lean checks it.
import Derived.Test.YtngdfchpknglhaaMFnExactRoundKeysx0
import Derived.Test.YtngdfchpknglhaaMFnExactRoundKeysx1
namespace Go.Proofs.Ytngdfchpknglhaa.PFnExactRoundKeys
open Go.RowKit Go.Proofs.YtngdfchpknglhaaW.PrintWords Go.Proofs.YtngdfchpknglhaaW.PrintLast Go.Proofs.YtngdfchpknglhaaW.PrintMore
attribute [local go_sem] max2_int min2_int max_two min_two max_three min_three max_four min_four   -- for this text's walks alone
set_option linter.unusedVariables false
set_option linter.unusedSimpArgs false

/-! ### spec_RoundKeys: function 32 -/
/-- Block g holds n numbers of kind k that may be written. -/
structure RowG (k : IntKind) (w : World) (g n : Nat) (val : Nat → Int) : Prop where
  cell : ∀ j, j < n → w.cell? ⟨g, j, none⟩ = some (.int k (val j))
  free : ∀ j, j < n → w.frozen? ⟨g, j, none⟩ = false
theorem RowG.ofBlock {k : IntKind} {w : World} {g : Nat} {t : TypeId} (xs : List Int) (h : w.heap[g]? = some (.cells (nums k xs).toArray t (0, 0))) : RowG k w g xs.length (fun j => xs.getD j 0) := by
  refine ⟨fun j hj => ?_, fun j _ => blk_frozen h j⟩
  rw [blk_cell h j]
  simp [nums, List.getElem?_eq_getElem hj, List.getD_eq_getElem?_getD]
theorem RowG.set {k : IntKind} {w : World} {g n : Nat} {val : Nat → Int} (h : RowG k w g n val) (i : Nat) (hi : i < n) (x : Int) : RowG k (w.setCell ⟨g, i, none⟩ (.int k x)) g n (fun j => if j = i then x else val j) := by
  refine ⟨fun j hj => ?_, fun j hj => by rw [World.frozen?_setCell]; exact h.free j hj⟩
  by_cases e : j = i
  · subst e
    rw [if_pos rfl]
    exact World.cell?_setCell_same _ _ _ (h.cell j hj)
  · rw [if_neg e, World.cell?_setCell_other _ _ _ _ (fun he => e (by injection he with _ h2; exact h2.symm))]
    exact h.cell j hj
theorem RowG.far {k : IntKind} {w : World} {g n g' i' : Nat} {v : Value} {val : Nat → Int} (h : RowG k w g n val) (hg : g ≠ g') : RowG k (w.setCell ⟨g', i', none⟩ v) g n val := by
  refine ⟨fun j hj => ?_, fun j hj => by rw [World.frozen?_setCell]; exact h.free j hj⟩
  rw [World.cell?_setCell_other _ _ _ _ (fun he => hg (by injection he with h1 _; exact h1.symm))]
  exact h.cell j hj
theorem RowG.drewN {k : IntKind} {w : World} {g n : Nat} {val : Nat → Int} (h : RowG k w g n val) (m : Nat) : RowG k (w.drewN m) g n val := ⟨h.cell, h.free⟩
theorem RowG.drew {k : IntKind} {w : World} {g n : Nat} {val : Nat → Int} (h : RowG k w g n val) : RowG k w.drew g n val := ⟨h.cell, h.free⟩
theorem RowG.below {k : IntKind} {w w1 : World} {g n : Nat} {val : Nat → Int} (h : RowG k w g n val) (hg : g < w.heap.size) (hb : Below w.heap.size w w1) : RowG k w1 g n val :=
  ⟨fun j hj => (hb.cell (p := ⟨g, j, none⟩) hg).trans (h.cell j hj), fun j hj => (hb.frozen (p := ⟨g, j, none⟩) hg).trans (h.free j hj)⟩
theorem RowG.ext {k : IntKind} {w : World} {g n : Nat} {val val' : Nat → Int} (h : RowG k w g n val) (e : ∀ j, j < n → val j = val' j) : RowG k w g n val' := ⟨fun j hj => by rw [← e j hj]; exact h.cell j hj, h.free⟩
theorem RowG.other {k : IntKind} {w w1 : World} {g n : Nat} {val : Nat → Int} (h : RowG k w g n val) (e : w1.heap[g]? = w.heap[g]?) : RowG k w1 g n val :=
  ⟨fun j hj => by rw [← h.cell j hj]; simp only [World.cell?, e], fun j hj => by rw [← h.free j hj]; simp only [World.frozen?, e]⟩
/-- A whole array into a block that holds one. -/
theorem store_rowAll {P : Program} {ops : Array Oper} {rest : List Oper} {o : Oper} {a : Act} {Q : Exit → Act → World → Prop} {W : World} (hgd : o.guard = none) (t : TypeId) (x y : Operand) (ho : o.op = .store t x y) (hN : o.dst = none) (g : Nat)
    (hx : a.eval x = .pointer (some ⟨g, 0, none⟩)) (c c' : Array Value) (hy : a.eval y = .agg c') (t' : TypeId) (hg : W.heap[g]? = some (.cells c t' (0, 0))) (hi : (P.info? t).map (·.size) = some c'.size) (hs : c.size = c'.size) (h1 : c'.all (·.oneCell') = true)
    (h : ∀ w1, w1.heap[g]? = some (.cells c' t' (0, 0)) → (∀ q, q ≠ g → w1.heap[q]? = W.heap[q]?) → Below g W w1 → wpList P ops Q rest a w1) : wpList P ops Q (o :: rest) a W := by
  have hrun : (Instr.storeAt t (.pointer (some ⟨g, 0, none⟩)) (.agg c')).run P W = .ok () (W.setRow g c') := by
    simp only [Instr.storeAt, Instr.sureAddr, Sem.run_bind, Sem.run_pure, Result.andThen_ok]
    exact run_storeVar_row W g t' t c c' hg hi hs h1
  refine wpList_plain hgd fun K hK => ?_
  unfold Oper.wp execOp
  simp only [ho, hx, hy, Sem.run_bind, Sem.run_pure, Result.andThen_ok, hrun]
  show K (a.put o.dst undef) _
  rw [hN]
  exact hK a _ (h _ (setRow_heap W g c c' t' (0, 0) hg) (fun q hq => setRow_other W g q c' hq) ⟨rfl, rfl, rfl, by simp [size_setRow], fun k hk => setRow_other W g k c' (Nat.ne_of_lt hk)⟩)
/-- A row of bytes that may be appended to: no cell of its block is frozen (the frozen range may lie behind its end, as a conversion of a string lays it). -/
def OwnU (w : World) (base : Nat) (e : TypeId) (v : Value) (xs : List Int) : Prop :=
  ∃ g cap cur fz, v = .slice (some ⟨g, 0, none⟩) xs.length cap ∧ base ≤ g ∧ w.heap[g]? = some (.cells cur e fz) ∧ (∀ j, j < cur.size → ¬ (fz.1 ≤ j ∧ j < fz.2)) ∧ xs.length ≤ cap ∧ cap ≤ maxLen ∧ cur.size = cap ∧ cur.toList.take xs.length = nums .u8 xs
theorem OwnU.conv (w : World) (e : TypeId) (s : ByteArray) (hs : s.size ≤ maxLen) : OwnU (Lib.bytesWorld w e s) w.heap.size e (.slice (some ⟨w.heap.size, 0, none⟩) s.size (grownCap w s.size 0 e)) (bytesOf s) := by
  have hge := grownCap_ge w s.size 0 e
  have hle := grownCap_le_maxLen w s.size 0 e hs
  have hl : (bytesOf s).length = s.size := bytesOf_length s
  have hsz : (Lib.bytesCells w e s).size = grownCap w s.size 0 e := by
    unfold Lib.bytesCells
    rw [Array.size_append, Array.size_map, Array.size_replicate]
    have : s.data.size = s.size := rfl
    omega
  refine ⟨w.heap.size, grownCap w s.size 0 e, _, _, by rw [hl], Nat.le_refl _, Lib.bytesWorld_at_new w e s, fun j hj => by simp only; omega, by omega, hle, hsz, ?_⟩
  have hml : (s.data.map fun b => Value.int .u8 (b.toNat : Int)).toList.length = (bytesOf s).length := by
    rw [hl]
    simp
  unfold Lib.bytesCells
  rw [Array.toList_append, List.take_append_of_le_length (Nat.le_of_eq hml.symm), List.take_of_length_le (Nat.le_of_eq hml)]
  simp [bytesOf, nums]
theorem OwnU.cell {w : World} {base : Nat} {e : TypeId} {v : Value} {xs : List Int} (h : OwnU w base e v xs) : ∃ g cap, v = .slice (some ⟨g, 0, none⟩) xs.length cap ∧ base ≤ g ∧ g < w.heap.size ∧ ∀ j u, (nums .u8 xs)[j]? = some u → w.cell? ((⟨g, 0, none⟩ : Addr).add j) = some u := by
  obtain ⟨g, cap, cur, fz, rfl, hb, hg, hf, hn, hm, hc, ht⟩ := h
  refine ⟨g, cap, rfl, hb, (Array.getElem?_eq_some_iff.1 hg).1, fun j u hu => ?_⟩
  rw [add_plain, cell_of_row w g j cur e fz hg]
  rw [← ht, List.getElem?_take] at hu
  split at hu
  · simpa using hu
  · cases hu
theorem OwnU.keep {w w1 : World} {base : Nat} {e : TypeId} {v : Value} {xs : List Int} (h : OwnU w base e v xs) (hm : ∀ k, v.ownBlock = some k → w1.heap[k]? = w.heap[k]?) : OwnU w1 base e v xs := by
  obtain ⟨g, cap, cur, fz, rfl, hb, hg, r⟩ := h
  exact ⟨g, cap, cur, fz, rfl, hb, (hm g (by simp [Value.ownBlock])).trans hg, r⟩
/-- 'run_storeCells_at', where no cell of the row is frozen. -/
theorem storeCells_U (P : Program) (g o : Nat) (t : TypeId) (fz : Nat × Nat) : ∀ (vs : List Value) (i : Nat) (cur : Array Value) (w : World), w.heap[g]? = some (.cells cur t fz) → (∀ j, j < cur.size → ¬ (fz.1 ≤ j ∧ j < fz.2)) → o + i + vs.length ≤ cur.size → (∀ v ∈ vs, v.oneCell' = true) →
    (storeCells ⟨g, o, none⟩ vs i).run P w = .ok () (w.setRow g (cur.toList.take (o + i) ++ vs ++ cur.toList.drop (o + i + vs.length)).toArray)
  | [], i, cur, w, hg, _, _, _ => by
    simp only [storeCells, List.append_nil, List.length_nil, Nat.add_zero, List.take_append_drop, Array.toArray_toList]
    rw [setRow_self w g cur t fz hg]
    rfl
  | v :: rest, i, cur, w, hg, hfz, hl, h1 => by
    have hi : o + i < cur.size := by simp at hl; omega
    have hadd : (⟨g, o, none⟩ : Addr).add i = ⟨g, o + i, none⟩ := by unfold Addr.add; split <;> simp_all
    have hcell : w.cell? ⟨g, o + i, none⟩ = some cur[o + i] := by simp [World.cell?, hg, hi]
    have hfro : w.frozen? ⟨g, o + i, none⟩ = false := by
      have h_ := hfz (o + i) hi
      obtain ⟨lo, hi'⟩ := fz
      simp only [World.frozen?, hg, Bool.and_eq_false_iff, decide_eq_false_iff_not]
      simp only at h_
      omega
    have hst : (store ((⟨g, o, none⟩ : Addr).add i) v).run P w = .ok () (w.setRow g (cur.setIfInBounds (o + i) v)) := by
      rw [hadd, run_store P w _ v _ (h1 v (by simp)), hcell]
      simp [hfro, setCell_eq_setRow w g (o + i) cur t fz v hg]
    have ih := storeCells_U P g o t fz rest (i + 1) (cur.setIfInBounds (o + i) v) (w.setRow g (cur.setIfInBounds (o + i) v)) (setRow_heap w g cur _ t _ hg) (by simpa using hfz) (by simp at hl ⊢; omega) (fun x hx => h1 x (by simp [hx]))
    simp only [storeCells, Sem.run_bind, hst, Result.andThen_ok, ih, setRow_setRow]
    congr 3
    have e := list_seg_step cur.toList (o + i) v rest (by simp at hl ⊢; omega)
    simpa [Array.toList_setIfInBounds, Nat.add_assoc] using e
/-- 'append' to such a row. -/
theorem OwnU.append {P : Program} {w : World} {base : Nat} (t ty e : TypeId) (i : TypeInfo) (ht : P.underlying t = some (.slice e)) (hi : P.info? e = some i) (hz : i.zero = some (.int .u8 0)) (hsize : i.size = 1) (hby : i.bytes = 1)
    {v : Value} {xs : List Int} (h : OwnU w base e v xs) (a : Addr) (m c : Nat) (ys : List Int) (hl : ys.length = m) (hnews : ∀ j u, (nums .u8 ys)[j]? = some u → w.cell? (a.add j) = some u) (h48 : xs.length + m ≤ 140737488355328) (hbase : base ≤ w.heap.size) :
    ∃ v' w', (Builtin.append_ #[t, t] ty #[v, .slice (some a) m c]).run P w = .ok v' w' ∧ OwnU w' base e v' (xs ++ ys) ∧ w.grownBy w' v.ownBlock ∧ (v'.ownBlock = v.ownBlock ∨ ∃ b, v'.ownBlock = some b ∧ w.heap.size ≤ b) := by
  have hce := h.cell
  obtain ⟨g, cap, cur, fz, rfl, hbg, hg, hfz, hnc, hcm, hcs, htake⟩ := h
  obtain ⟨g2, cap2, e2, _, _, holds⟩ := hce
  obtain ⟨rfl, rfl⟩ : g2 = g ∧ cap2 = cap := by simpa [eq_comm] using e2
  have hnl : (nums .u8 ys).length = m := by simp [nums, hl]
  have hxl : (nums .u8 xs).length = xs.length := by simp [nums]
  have h1 : ∀ u ∈ nums .u8 ys, u.oneCell' = true := by
    intro u hu
    obtain ⟨x, _, rfl⟩ := List.mem_map.1 hu
    rfl
  have hn : nums .u8 (xs ++ ys) = nums .u8 xs ++ nums .u8 ys := by simp [nums]
  have hm : xs.length + m ≤ maxLen := by unfold maxLen; omega
  by_cases hroom : xs.length + m ≤ cap2
  · have hf := run_firstCells_some (P := P) w i.size m a m c (nums .u8 ys) (by rw [hsize, hnl, Nat.mul_one]) hnews
    have hst := storeCells_U P g2 (xs.length * i.size) e fz (nums .u8 ys) 0 cur w hg hfz (by rw [hsize, hnl]; omega) h1
    simp only [Nat.add_zero] at hst
    refine ⟨.slice (some ⟨g2, 0, none⟩) (xs.length + m) cap2, w.setRow g2 (cur.toList.take (xs.length * i.size) ++ nums .u8 ys ++ cur.toList.drop (xs.length * i.size + (nums .u8 ys).length)).toArray, by simp [Builtin.append_, run_underlying ht, sizeOf, typeInfo, hi, Builtin.lenOf, hroom, hf, Addr.add_lit, hst], ⟨g2, cap2, _, fz, by rw [List.length_append, hl], hbg, setRow_heap w g2 cur _ e _ hg, ?_, by rw [List.length_append, hl]; exact hroom, hcm, ?_, ?_⟩, ⟨rfl, rfl, rfl, by simp, fun k _ hk => setRow_other w g2 k _ (fun e => hk (by simp [Value.ownBlock, e]))⟩, .inl rfl⟩
    · intro j hj
      refine hfz j ?_
      simp [hsize, hnl] at hj
      omega
    · simp [hsize, hnl]
      omega
    · rw [hsize, Nat.mul_one, htake, hn, List.length_append, hl]
      have : xs.length + m = (nums .u8 xs ++ nums .u8 ys).length := by rw [List.length_append, hxl, hnl]
      rw [this]
      exact List.take_left
  · have hr := run_append_grow (P := P) w t ty e i (.int .u8 0) ht hi hz ⟨g2, 0, none⟩ xs.length cap2 (nums .u8 xs) (by rw [hsize, hxl, Nat.mul_one]) holds a m c (nums .u8 ys) (by rw [hsize, hnl, Nat.mul_one]) hnews (by omega) (by unfold maxLen at hm; omega) (by rw [hby]; exact growslice_fits (by omega) (by omega))
    have hge := grownCap_ge w (xs.length + m) cap2 e
    have hcm2 : grownCap w (xs.length + m) cap2 e ≤ maxLen := grownCap_le_maxLen w (xs.length + m) cap2 e hm
    refine ⟨_, _, hr, ⟨w.heap.size, _, _, (0, 0), by rw [List.length_append, hl], hbase, heap_alloc_new w.drew _, fun j _ => by simp, by rw [List.length_append, hl]; exact hge, hcm2, ?_, ?_⟩, ⟨rfl, rfl, rfl, by simp, fun k hk _ => heap_alloc_old w.drew _ hk⟩, .inr ⟨_, rfl, Nat.le_refl _⟩⟩
    · have hz1 : (Value.int IntKind.u8 0).cells.size = 1 := rfl
      simp only [Array.size_append, List.size_toArray, size_zeroCells, hz1, hxl, hnl]
      omega
    · simp only [Array.toList_append, List.append_assoc]
      have : (xs ++ ys).length = (nums .u8 xs ++ nums .u8 ys).length := by rw [List.length_append, List.length_append, hxl, hnl, hl]
      rw [← List.append_assoc, hn, this]
      exact List.take_left
/-- The operation, for the walk: the literal that is appended has just been laid. -/
theorem OwnU.append_wp {P : Program} {ops : Array Oper} {rest : List Oper} {o : Oper} {a : Act} {Q : Exit → Act → World → Prop} {w0 W : World} (base : Nat) (hgd : o.guard = none) (sl x : Operand) (t e : TypeId)
    (ho : o.op = .call { callee := .builtin .append, args := #[sl, x], argTypes := #[t, t] }) (ht : P.underlying t = some (.slice e)) (hinfo : (P.info? e).map (fun i => (i.zero, i.size, i.bytes)) = some (some (.int .u8 0), 1, 1))
    (v : Value) (xs ys : List Int) (hs : a.eval sl = v) (hx : a.eval x = .slice (some ⟨W.heap.size, 0, none⟩) ys.length ys.length) (HO : OwnU W base e v xs) (HB : Below base w0 W) (hbase : base ≤ W.heap.size) (hl : xs.length + ys.length ≤ 140737488355328)
    (h : ∀ v1 w1, OwnU w1 base e v1 (xs ++ ys) → Below base w0 w1 → wpList P ops Q rest (a.put o.dst v1) w1) : wpList P ops Q (o :: rest) a (W.alloc (.cells (nums .u8 ys).toArray e)) := by
  obtain ⟨i, hi, hz⟩ := Option.map_eq_some_iff.1 hinfo
  simp only [Prod.mk.injEq] at hz
  obtain ⟨hz0, hz1, hz2⟩ := hz
  have hsz : (W.alloc (.cells (nums .u8 ys).toArray e)).heap.size = W.heap.size + 1 := by simp
  have hlt : ∀ k, v.ownBlock = some k → base ≤ k ∧ k < W.heap.size := by
    intro k hk
    obtain ⟨g, cap, rfl, hb, hg, _⟩ := HO.cell
    have : g = k := by simpa [Value.ownBlock] using hk
    subst this
    exact ⟨hb, hg⟩
  have HO2 : OwnU (W.alloc (.cells (nums .u8 ys).toArray e)) base e v xs := HO.keep (fun k hk => heap_alloc_old W _ (hlt k hk).2)
  obtain ⟨v', w', hr, h2, h3, h4⟩ := OwnU.append (P := P) t o.type e i ht hi hz0 hz1 hz2 HO2 ⟨W.heap.size, 0, none⟩ ys.length ys.length ys rfl (fun j u hu => by
    rw [add_plain, cell_of_row _ W.heap.size j _ e _ (heap_alloc_new W _)]
    simpa using hu) hl (by omega)
  refine wpList_plain hgd fun _ hK => ?_
  unfold Oper.wp execOp
  simp only [ho, resolve, invoke, builtin, Sem.run_bind, Sem.run_pure, Result.andThen_ok, List.map_toArray, List.map_cons, List.map_nil, hs, hx, hr]
  exact hK _ _ (h v' w' h2 ((HB.alloc hbase _).grown h3 (by omega) (fun k hk => (hlt k hk).1)))
/-- Such a row, as a string. -/
theorem OwnU.string {P : Program} {w : World} {base : Nat} {e e' src dst : TypeId} {v : Value} {xs : List Int} (hs : P.underlying src = some (.slice e)) (he : P.underlying e = some (.int .u8)) (hd : P.underlying dst = some .string) (h : OwnU w base e' v xs) : (convert src dst v).run P w = .ok (.string (strOfNums xs)) w := by
  obtain ⟨g, cap, rfl, _, _, hc⟩ := h.cell
  refine run_convert_bytes_arg w src e hs he g 0 xs.length cap xs rfl (fun i hi => ?_) dst hd
  have e := hc i (.int .u8 (xs.getD i 0)) (by simp [nums, List.getD_eq_getElem?_getD, List.getElem?_eq_getElem hi])
  rw [add_plain] at e
  rw [Nat.zero_add]
  exact e
theorem OwnU.lower {w : World} {base base' : Nat} {e : TypeId} {v : Value} {xs : List Int} (h : OwnU w base e v xs) (hb : base' ≤ base) : OwnU w base' e v xs := by
  obtain ⟨g, cap, cur, fz, e1, hg, r⟩ := h
  exact ⟨g, cap, cur, fz, e1, Nat.le_trans hb hg, r⟩
theorem OwnU.below {w w1 : World} {base : Nat} {e : TypeId} {v : Value} {xs : List Int} (h : OwnU w base e v xs) (hb : Below w.heap.size w w1) : OwnU w1 base e v xs := by
  obtain ⟨g, cap, e1, _, hlt, _⟩ := h.cell
  refine h.keep (fun k hk => hb.block k ?_)
  have : g = k := by rw [e1] at hk; simpa [Value.ownBlock] using hk
  omega
theorem OwnU.at {w : World} {base : Nat} {e : TypeId} {g cap : Nat} {xs : List Int} (h : OwnU w base e (.slice (some ⟨g, 0, none⟩) xs.length cap) xs) (i : Nat) (hi : i < xs.length) : w.cell? ⟨g, i, none⟩ = some (.int .u8 (xs.getD i 0)) := by
  obtain ⟨g2, cap2, e2, _, _, hc⟩ := h.cell
  obtain ⟨rfl, rfl⟩ : g2 = g ∧ cap2 = cap := by simpa [eq_comm] using e2
  have e := hc i (.int .u8 (xs.getD i 0)) (by simp [nums, List.getD_eq_getElem?_getD, List.getElem?_eq_getElem hi])
  rw [add_plain] at e
  exact e
def boxPow : Nat → Option Int
  | 0 => some 1
  | i + 1 => (boxPow i).bind fun x => (spec_FieldDouble.f x).bind fun y => some (Go.bits .xor .i64 x y)
def boxTab (k : Nat) : Nat → Option (List Int)
  | 0 => some ((List.replicate 256 0).set 0 99)
  | i + 1 => (boxTab k i).bind fun B => (boxPow i).bind fun p => (boxPow ((255 - i) % 255)).bind fun q => (spec_l05Turned.f k q).bind fun t => if 0 ≤ p ∧ p < 256 then some (B.set p.toNat (t % 256)) else none
theorem boxPow_le {i n : Nat} (hi : i ≤ n) (h : ∃ x, boxPow n = some x) : ∃ x, boxPow i = some x := by
  induction n with
  | zero => obtain rfl : i = 0 := by omega
            exact h
  | succ n ih =>
    by_cases e : i = n + 1
    · subst e; exact h
    · obtain ⟨x, hx⟩ := h
      unfold boxPow at hx
      obtain ⟨y, hy, _⟩ := Option.bind_eq_some_iff.1 hx
      exact ih (by omega) ⟨y, hy⟩
theorem boxTab_le {k i n : Nat} (hi : i ≤ n) (h : ∃ x, boxTab k n = some x) : ∃ x, boxTab k i = some x := by
  induction n with
  | zero => obtain rfl : i = 0 := by omega
            exact h
  | succ n ih =>
    by_cases e : i = n + 1
    · subst e; exact h
    · obtain ⟨x, hx⟩ := h
      unfold boxTab at hx
      obtain ⟨y, hy, _⟩ := Option.bind_eq_some_iff.1 hx
      exact ih (by omega) ⟨y, hy⟩
theorem boxTab_len {k : Nat} : ∀ {n : Nat} {B : List Int}, boxTab k n = some B → B.length = 256
  | 0, B, h => by
    cases h
    simp only [List.length_set, List.length_replicate]
  | n + 1, B, h => by
    unfold boxTab at h
    obtain ⟨C, hC, h⟩ := Option.bind_eq_some_iff.1 h
    obtain ⟨p, _, h⟩ := Option.bind_eq_some_iff.1 h
    obtain ⟨q, _, h⟩ := Option.bind_eq_some_iff.1 h
    obtain ⟨t, _, h⟩ := Option.bind_eq_some_iff.1 h
    split at h
    · cases h
      rw [List.length_set]
      exact boxTab_len hC
    · cases h
set_option maxHeartbeats 4000000 in
set_option maxRecDepth 100000 in
theorem boxes_calls (k : Nat) (B : List Int) (w : World) (hp : ∃ x, boxPow 255 = some x) (h : boxTab k 255 = some B) :
    Calls Try.prog 47 #[] w fun e w' => e = .returned (.agg (nums .u8 B).toArray) ∧ Below w.heap.size w w' := by
  obtain ⟨hz53, hs53⟩ := zero_of_info (P := Try.prog) (t := 53) (v := .agg (List.replicate 255 (Value.int .i64 0)).toArray) (n := 255) (by kernel_rfl)
  obtain ⟨hz45, hs45⟩ := zero_of_info (P := Try.prog) (t := 45) (v := .agg (List.replicate 256 (Value.int .u8 0)).toArray) (n := 256) (by kernel_rfl)
  generalize hZ5 : (List.replicate 255 (Value.int .i64 0)).toArray = Z5 at hz53
  generalize hZ4 : (List.replicate 256 (Value.int .u8 0)).toArray = Z4 at hz45
  have HZ5 := Aside0.mk hZ5
  have HZ4 := Aside0.mk hZ4
  have HS5 := Aside0.mk hs53
  have HS4 := Aside0.mk hs45
  clear hZ5 hZ4 hs53 hs45
  go_enter Try.func47, Try.ntmps47
  have HB := Aside0.mk (Below.refl w.heap.size w)
  go_upto_region 2 with (first | ((with_reducible refine gate_dst (N := 0) rfl ?_); refine box_event ?hg (N := 0) ?hd (cs := Z4) (t := 45) ?hr ?_; (case hd => rfl); (case hg => rfl); (case hr => first | (go_simp; done) | (go_simp; rfl)); intro g0 hg w3 hbox hb; have G0 := Aside0.mk (show w.heap.size ≤ g0 by rw [hg]; exact below_size HB.out); have n0_ := Aside0.mk (below_step HB.out hb); clear HB; have HB := n0_; have B0 := Aside0.mk hbox; clear n0_ hb hbox hg) | ((with_reducible refine gate_dst (N := 1) rfl ?_); refine box_event ?hg (N := 1) ?hd (cs := Z5) (t := 53) ?hr ?_; (case hd => rfl); (case hg => rfl); (case hr => first | (go_simp; done) | (go_simp; rfl)); intro g1 hg w4 hbox hb; have G1 := Aside0.mk (show w.heap.size ≤ g1 by rw [hg]; exact below_size HB.out); have N01 := Aside0.mk (show g0 ≠ g1 by rw [hg]; exact Nat.ne_of_lt (blk_lt B0.out)); have n0_ := Aside0.mk (below_step HB.out hb); have n1_ := Aside0.mk (blk_below B0.out hb); clear HB B0; have HB := n0_; have B0 := n1_; have B1 := Aside0.mk hbox; clear n0_ n1_ hb hbox hg) | ((with_reducible refine gate_store (t := 53) (p := 1) rfl ?_); refine store_rowAll rfl 53 _ _ rfl rfl g1 rfl Z5 Z5 rfl 53 B1.out (by rw [HS5.out, ← HZ5.out]; simp) rfl (by rw [← HZ5.out]; decide +kernel) ?_; intro w5 hw ho hb; have n0_ := Aside0.mk (HB.out.trans (hb.mono G1.out)); have n1_ := Aside0.mk ((ho g0 N01.out).trans B0.out); clear HB B0 B1; have HB := n0_; have B0 := n1_; have B1 := Aside0.mk hw; clear n0_ n1_ hw ho hb))
  have hpw : ∀ i, i ≤ 255 → ∃ x, boxPow i = some x := fun i hi => boxPow_le hi hp
  have HPW := Aside0.mk hpw
  have HT := Aside0.mk h
  have R1 : Aside0 (RowG .i64 w5 g1 255 (fun _ => 0)) := ⟨by
    have e : Z5 = (nums .i64 (List.replicate 255 0)).toArray := by rw [← HZ5.out]; simp [nums]
    have h1 := B1.out
    rw [e] at h1
    have := RowG.ofBlock (k := .i64) (List.replicate 255 0) h1
    rw [List.length_replicate] at this
    exact this.ext (fun j hj => by rw [List.getD_eq_getElem?_getD, List.getElem?_replicate, if_pos hj]; rfl)⟩
  have L1 := Aside0.mk (blk_lt B1.out)
  clear hpw h hp B1
  go_wp2
  go_loopw [2, 3] (fun v2 v3 wr => ∃ (i : Nat) (x : Int), i ≤ 255 ∧ v2 = .int .i64 x ∧ v3 = .int .i64 (i : Int) ∧ Aside0 (boxPow i = some x) ∧ Aside0 (RowG .i64 wr g1 255 (fun j => if j < i then (boxPow j).getD 0 else 0)) ∧ Aside0 (wr.heap[g0]? = some (.cells Z4 45 (0, 0))) ∧ Aside0 (g1 < wr.heap.size) ∧ Aside0 (Below w.heap.size w wr)) (fun _ v3 _ => 255 - (intOf v3).toNat)
  case atStart => exact ⟨0, 1, by omega, rfl, rfl, ⟨rfl⟩, ⟨R1.out.ext (fun j _ => by rw [if_neg (by omega)])⟩, B0, L1, HB⟩
  case round =>
    clear R1 B0 L1 HB
    obtain ⟨i, x, hi, rfl, rfl, HX, R1, B0, L1, HB⟩ := hrel
    by_cases hlt : i < 255
    · have hc := R1.out.cell i hlt
      have hf := R1.out.free i hlt
      rw [if_neg (Nat.lt_irrefl i)] at hc
      obtain ⟨x1, hx1⟩ := HPW.out (i + 1) (by omega)
      have HX1 := Aside0.mk hx1
      unfold boxPow at hx1
      rw [HX.out] at hx1
      obtain ⟨y, hy, hv⟩ := Option.bind_eq_some_iff.1 ((Option.bind_some x _).symm.trans hx1)
      have HY := Aside0.mk hy
      have HV := Aside0.mk (Option.some.inj hv)
      clear hx1 hy hv
      go_wp2_with (go_at_call 38; ((with_reducible refine (spec_FieldDouble.calls x y _ HY.out).mono ?_)); rintro e w' ⟨rfl, ⟨nd, rfl⟩⟩)
      refine ⟨⟨i + 1, x1, by omega, by rw [HV.out], by go_num, HX1, ⟨?_⟩, ⟨?_⟩, ⟨?_⟩, ⟨?_⟩⟩, by simp [intOf]; omega⟩
      · refine ((R1.out.set i hlt x).drewN nd).ext (fun j _ => ?_)
        by_cases e : j = i
        · subst e
          rw [if_pos rfl, if_pos (by omega), HX.out]
          rfl
        · rw [if_neg e]
          by_cases e2 : j < i
          · rw [if_pos e2, if_pos (by omega)]
          · rw [if_neg e2, if_neg (by omega)]
      · exact blk_drewN ((Below.heap_setCell wr ⟨g1, i, none⟩ _ g0 N01.out).trans B0.out) nd
      · have := L1.out
        show g1 < (wr.setCell ⟨g1, i, none⟩ (.int .i64 x)).heap.size
        simpa [World.setCell] using this
      · exact pw_below_drewN (below_set HB.out G1.out) nd
    · obtain rfl : i = 255 := by omega
      have n0_ : Aside0 (RowG .i64 wr g1 255 (fun j => (boxPow j).getD 0)) := ⟨R1.out.ext (fun j hj => by rw [if_pos hj])⟩
      clear R1 HX hlt hi
      have R1 := n0_
      clear n0_
      go_upto_region 9 with (first | ((with_reducible refine gate_dst (N := 4) rfl ?_); refine box_event ?hg (N := 4) ?hd (cs := Z4) (t := 45) ?hr ?_; (case hd => rfl); (case hg => rfl); (case hr => first | (go_simp; done) | (go_simp; rfl)); intro g4 hg w6 hbox hb; have G4 := Aside0.mk (show w.heap.size ≤ g4 by rw [hg]; exact below_size HB.out); have N04 := Aside0.mk (show g0 ≠ g4 by rw [hg]; exact Nat.ne_of_lt (blk_lt B0.out)); have N14 := Aside0.mk (show g1 ≠ g4 by rw [hg]; exact Nat.ne_of_lt L1.out); have n0_ := Aside0.mk (below_step HB.out hb); have n1_ := Aside0.mk (blk_below B0.out hb); have n2_ := Aside0.mk (R1.out.below L1.out hb); have n3_ := Aside0.mk (Nat.lt_of_lt_of_le L1.out hb.size); clear HB B0 R1 L1; have HB := n0_; have B0 := n1_; have R1 := n2_; have L1 := n3_; have B4 := Aside0.mk hbox; clear n0_ n1_ n2_ n3_ hb hbox hg) | ((with_reducible refine gate_store (t := 45) (p := 4) rfl ?_); refine store_rowAll rfl 45 _ _ rfl rfl g4 rfl Z4 Z4 rfl 45 B4.out (by rw [HS4.out, ← HZ4.out]; simp) rfl (by rw [← HZ4.out]; decide +kernel) ?_; intro w7 hw ho hb; have n0_ := Aside0.mk (HB.out.trans (hb.mono G4.out)); have n1_ := Aside0.mk ((ho g0 N04.out).trans B0.out); have n2_ := Aside0.mk (R1.out.other (ho g1 N14.out)); have n3_ := Aside0.mk (Nat.lt_of_lt_of_le L1.out hb.size); clear HB B0 B4 R1 L1; have HB := n0_; have B0 := n1_; have R1 := n2_; have L1 := n3_; have B4 := Aside0.mk hw; clear n0_ n1_ n2_ n3_ hw ho hb))
      have n4_ : Aside0 (w7.heap[g4]? = some (.cells (nums .u8 (List.replicate 256 0)).toArray 45 (0, 0))) := ⟨by rw [B4.out, ← HZ4.out, nums, List.map_replicate]⟩
      clear B4
      have B4 := n4_
      clear n4_
      have h40 : w7.cell? ⟨g4, 0, none⟩ = some (.int .u8 0) := (blk_cell B4.out 0).trans rfl
      have f40 := blk_frozen B4.out 0
      go_upto_region 10 with (fail)
      have n4_ : Aside0 ((w7.setCell ⟨g4, 0, none⟩ (.int .u8 99)).heap[g4]? = some (.cells (nums .u8 ((List.replicate 256 0).set 0 99)).toArray 45 (0, 0))) := ⟨blk_put B4.out 0 _ (by rw [List.setIfInBounds_toArray, nums, nums, List.map_set])⟩
      have n0_ : Aside0 (Below w.heap.size w (w7.setCell ⟨g4, 0, none⟩ (.int .u8 99))) := ⟨below_set HB.out G4.out⟩
      have n1_ : Aside0 ((w7.setCell ⟨g4, 0, none⟩ (.int .u8 99)).heap[g0]? = some (.cells Z4 45 (0, 0))) := ⟨(Below.heap_setCell w7 ⟨g4, 0, none⟩ _ g0 N04.out).trans B0.out⟩
      have n2_ : Aside0 (RowG .i64 (w7.setCell ⟨g4, 0, none⟩ (.int .u8 99)) g1 255 (fun j => (boxPow j).getD 0)) := ⟨R1.out.far N14.out⟩
      clear h40 f40 B4 HB B0 R1
      generalize w7.setCell ⟨g4, 0, none⟩ (.int .u8 99) = w8 at n0_ n1_ n2_ n4_ ⊢
      go_wp2
      go_loopw [5] (fun v5 wr => ∃ (i : Nat) (C : List Int), i ≤ 255 ∧ v5 = .int .i64 (i : Int) ∧ Aside0 (boxTab k i = some C) ∧ Aside0 (wr.heap[g4]? = some (.cells (nums .u8 C).toArray 45 (0, 0))) ∧ Aside0 (RowG .i64 wr g1 255 (fun j => (boxPow j).getD 0)) ∧ Aside0 (wr.heap[g0]? = some (.cells Z4 45 (0, 0))) ∧ Aside0 (Below w.heap.size w wr)) (fun v5 _ => 255 - (intOf v5).toNat)
      case atStart => exact ⟨0, _, by omega, rfl, ⟨rfl⟩, n4_, n2_, n1_, n0_⟩
      case round =>
        clear n0_ n1_ n2_ n4_
        obtain ⟨i, C, hi, rfl, HC, B4, R1, B0, HB⟩ := hrel
        by_cases hlt : i < 255
        · obtain ⟨C1, hC1⟩ := boxTab_le (k := k) (show i + 1 ≤ 255 by omega) ⟨B, HT.out⟩
          have HC1 := Aside0.mk hC1
          unfold boxTab at hC1
          rw [HC.out] at hC1
          replace hC1 := (Option.bind_some _ _).symm.trans hC1
          obtain ⟨p, hp, hC1⟩ := Option.bind_eq_some_iff.1 hC1
          obtain ⟨q, hq, hC1⟩ := Option.bind_eq_some_iff.1 hC1
          obtain ⟨t, ht, hC1⟩ := Option.bind_eq_some_iff.1 hC1
          by_cases hpp : 0 ≤ p ∧ p < 256
          · rw [if_pos hpp] at hC1
            have HV := Aside0.mk (Option.some.inj hC1)
            have HTN := Aside0.mk ht
            obtain ⟨m, hm⟩ : ∃ m : Nat, m = (255 - i) % 255 := ⟨_, rfl⟩
            have hm1 : (255 - (i : Int)) % 255 = (m : Int) := by omega
            have hml : m < 255 := by omega
            have c1 : wr.cell? ⟨g1, i, none⟩ = some (.int .i64 p) := by have := R1.out.cell i hlt; rw [hp] at this; exact this
            have c2 : wr.cell? ⟨g1, m, none⟩ = some (.int .i64 q) := by have := R1.out.cell m hml; rw [hm, hq, ← hm] at this; exact this
            have HCL := Aside0.mk (boxTab_len HC.out)
            obtain ⟨pn, rfl⟩ := Int.eq_ofNat_of_zero_le hpp.1
            have hpn : pn < 256 := by omega
            have c4 : wr.cell? ⟨g4, pn, none⟩ = some (.int .u8 (C.getD pn 0)) := by
              rw [blk_cell B4.out pn]
              have h_ : pn < C.length := by rw [HCL.out]; exact hpn
              simp [nums, List.getElem?_eq_getElem h_, List.getD_eq_getElem?_getD]
            have f4 := blk_frozen B4.out pn
            clear hC1 hp hq ht hm hpp
            generalize C.getD pn 0 = old at c4
            have e1 : IntKind.i64.wrap (255 - (i : Int)) = 255 - (i : Int) := by rw [IntKind.wrap_i64]; omega
            have e2 : Int.tmod (255 - (i : Int)) 255 = (m : Int) := by rw [Int.tmod_eq_emod_of_nonneg (by omega)]; exact hm1
            have b1 : (0 : Int) ≤ (m : Int) := by omega
            have b2 : (m : Int) < 255 := by omega
            have b3 : (0 : Int) ≤ (pn : Int) := by omega
            have b4 : (pn : Int) < 256 := by omega
            clear hm1
            go_wp2
            go_region_held3 (fun w' => w'.cell? ⟨g1, i, none⟩ = some (.int .i64 (pn : Int)) ∧ w'.cell? ⟨g1, m, none⟩ = some (.int .i64 q)) (first | go_keep | exact ⟨(cell_far (p := ⟨g4, pn, none⟩) N14.out _).trans c1, (cell_far (p := ⟨g4, pn, none⟩) N14.out _).trans c2⟩) (first | (go_at_call 45; refine (spec_l05Turned.calls k q t _ HTN.out).mono ?_; rintro e w' ⟨rfl, ⟨nd, rfl⟩⟩))
            go_wp2
            have hcv : (pn : Int).toNat = pn := rfl
            refine ⟨⟨i + 1, C1, by omega, by go_num, HC1, ⟨?_⟩, ⟨?_⟩, ⟨?_⟩, ⟨?_⟩⟩, by simp [intOf]; omega⟩
            · rw [← HV.out]
              exact blk_put (blk_drewN B4.out _) _ _ (by rw [List.setIfInBounds_toArray, nums, nums, List.map_set]; rfl)
            · exact (R1.out.drewN _).far N14.out
            · exact (Below.heap_setCell _ ⟨g4, pn, none⟩ _ g0 N04.out).trans (blk_drewN B0.out _)
            · exact below_set (pw_below_drewN HB.out _) G4.out
          · rw [if_neg hpp] at hC1; cases hC1
        · obtain rfl : i = 255 := by omega
          obtain rfl : C = B := Option.some.inj (HC.out.symm.trans HT.out)
          have HCL := Aside0.mk (boxTab_len HC.out)
          clear hlt hi R1
          go_wp2_with (first | ((with_reducible refine gate_dst (N := 35) rfl ?_); refine wpList_load_row rfl 45 _ rfl g4 rfl 45 _ (0, 0) _ B4.out Try.underlying45 rfl (by rw [HS4.out]; simp [nums, HCL.out]) ?_) | ((with_reducible refine gate_store (t := 45) (p := 0) rfl ?_); refine store_rowAll rfl 45 _ _ rfl rfl g0 rfl Z4 (nums .u8 C).toArray rfl 45 B0.out (by rw [HS4.out]; simp [nums, HCL.out]) (by rw [← HZ4.out]; simp [nums, HCL.out]) (by simp [nums, Value.oneCell']) ?_; intro w9 hw ho hb; have n0_ := Aside0.mk (HB.out.trans (hb.mono G0.out)); clear HB B0; have HB := n0_; have B0 := Aside0.mk hw; clear n0_ hw ho hb))
          refine bodyPost_ret (results_cell_row rfl _ _ g0 45 _ (0, 0) _ rfl B0.out Try.underlying45 rfl (by rw [HS4.out]; simp [nums, HCL.out])) rfl ?_
          exact ⟨rfl, HB.out⟩
/-- The word that is xored in at step i. -/
def kWord (k : Nat) (B out : List Int) (i : Nat) : Option (List Int) :=
  if i % 4 = 0 then (if (0 ≤ out.getD (4 * i - 4) 0 ∧ out.getD (4 * i - 4) 0 < 256) ∧ (0 ≤ out.getD (4 * i - 3) 0 ∧ out.getD (4 * i - 3) 0 < 256) ∧ (0 ≤ out.getD (4 * i - 2) 0 ∧ out.getD (4 * i - 2) 0 < 256) ∧ (0 ≤ out.getD (4 * i - 1) 0 ∧ out.getD (4 * i - 1) 0 < 256) then (spec_FieldPow.f k 2 ((i / 4 - 1 : Nat) : Int)).bind fun x => some [Go.bits .xor .u8 (B.getD (out.getD (4 * i - 3) 0).toNat 0) (x % 256), B.getD (out.getD (4 * i - 2) 0).toNat 0, B.getD (out.getD (4 * i - 1) 0).toNat 0, B.getD (out.getD (4 * i - 4) 0).toNat 0] else none)
  else some [out.getD (4 * i - 4) 0, out.getD (4 * i - 3) 0, out.getD (4 * i - 2) 0, out.getD (4 * i - 1) 0]
/-- The bytes behind j columns of step i. -/
def kCols (out : List Int) (i : Nat) (T : List Int) (j : Nat) : List Int := out ++ (List.range j).map fun q => Go.bits .xor .u8 (out.getD (4 * i - 16 + q) 0) (T.getD q 0)
def kAll (k : Nat) (B : List Int) : Nat → Nat → List Int → Option (List Int)
  | 0, _, out => some out
  | d + 1, i, out => (kWord k B out i).bind fun T => kAll k B d (i + 1) (kCols out i T 4)
def kKey (out : List Int) (c : Nat) : ByteArray := strOfNums ((out.drop (16 * c)).take 16)
def spec_RoundKeys.f (k : Nat) (a0 : ByteArray) : Option (List ByteArray) := if a0.size = 16 then (boxPow 255).bind fun _ => (boxTab k 255).bind fun B => (kAll k B 40 4 (bytesOf a0)).bind fun out => some ((List.range 11).map (kKey out)) else some []
theorem keysTab_mono (k : Nat) : ∀ n, LeO (boxTab k n) (boxTab (k + 1) n)
  | 0 => LeO.refl _
  | n + 1 => by
    unfold boxTab
    exact LeO.bind (keysTab_mono k n) fun _ => LeO.bind (LeO.refl _) fun _ => LeO.bind (LeO.refl _) fun _ => LeO.bind (spec_l05Turned.mono _ _) fun _ => LeO.refl _
theorem kAll_mono (k : Nat) (B : List Int) : ∀ (d i : Nat) (out : List Int), LeO (kAll k B d i out) (kAll (k + 1) B d i out)
  | 0, _, _ => LeO.refl _
  | d + 1, i, out => by
    unfold kAll
    refine LeO.bind ?_ fun _ => kAll_mono k B d _ _
    unfold kWord
    exact LeO.ite (LeO.ite (LeO.bind (spec_FieldPow.mono _ _ _) fun _ => LeO.refl _) (LeO.refl _)) (LeO.refl _)
theorem spec_RoundKeys.mono : ∀ a0 k, LeO (spec_RoundKeys.f k a0) (spec_RoundKeys.f (k + 1) a0) := by
  intro a0 k
  unfold spec_RoundKeys.f
  exact LeO.ite (LeO.bind (LeO.refl _) fun _ => LeO.bind (keysTab_mono k 255) fun _ => LeO.bind (kAll_mono _ _ _ _ _) fun _ => LeO.refl _) (LeO.refl _)
theorem kCols_len (out : List Int) (i : Nat) (T : List Int) (j : Nat) : (kCols out i T j).length = out.length + j := by simp [kCols]
theorem kCols_old (out : List Int) (i : Nat) (T : List Int) (j p : Nat) (h : p < out.length) : (kCols out i T j).getD p 0 = out.getD p 0 := by
  simp [kCols, List.getD_eq_getElem?_getD, List.getElem?_append_left h]
theorem kCols_succ (out : List Int) (i : Nat) (T : List Int) (j : Nat) : kCols out i T (j + 1) = kCols out i T j ++ [Go.bits .xor .u8 (out.getD (4 * i - 16 + j) 0) (T.getD j 0)] := by
  simp [kCols, List.range_succ]
/-- 'OwnU.append_wp' as one step of a region that draws its order, with what it leaves. -/
theorem OwnU.append_step {P : Program} {ops : Array Oper} {o : Oper} {a : Act} {K : Act → World → Prop} {Q : Exit → Act → World → Prop} {E : Prop} {w0 W : World} (base : Nat) (hgd : o.guard = none) (sl x : Operand) (t e : TypeId)
    (ho : o.op = .call { callee := .builtin .append, args := #[sl, x], argTypes := #[t, t] }) (ht : P.underlying t = some (.slice e)) (hinfo : (P.info? e).map (fun i => (i.zero, i.size, i.bytes)) = some (some (.int .u8 0), 1, 1))
    (v : Value) (xs ys : List Int) (hs : a.eval sl = v) (hx : a.eval x = .slice (some ⟨W.heap.size, 0, none⟩) ys.length ys.length) (HO : OwnU W base e v xs) (HB : Below base w0 W) (hbase : base ≤ W.heap.size) (hl : xs.length + ys.length ≤ 140737488355328)
    (h : ∀ v1 w1, OwnU w1 base e v1 (xs ++ ys) → Below base w0 w1 → (∀ q, q < W.heap.size → some q ≠ v.ownBlock → q < w1.heap.size ∧ w1.heap[q]? = W.heap[q]? ∧ some q ≠ v1.ownBlock) → K (a.put o.dst v1) w1) :
    if Region.wanted o (yielded ops a.tmps) = true then Oper.wp P o a (W.alloc (.cells (nums .u8 ys).toArray e)) K Q else E := by
  obtain ⟨i, hi, hz⟩ := Option.map_eq_some_iff.1 hinfo
  simp only [Prod.mk.injEq] at hz
  obtain ⟨hz0, hz1, hz2⟩ := hz
  have hsz : (W.alloc (.cells (nums .u8 ys).toArray e)).heap.size = W.heap.size + 1 := by simp
  have hlt : ∀ k, v.ownBlock = some k → base ≤ k ∧ k < W.heap.size := by
    intro k hk
    obtain ⟨g, cap, rfl, hb, hg, _⟩ := HO.cell
    have : g = k := by simpa [Value.ownBlock] using hk
    subst this
    exact ⟨hb, hg⟩
  have HO2 : OwnU (W.alloc (.cells (nums .u8 ys).toArray e)) base e v xs := HO.keep (fun k hk => heap_alloc_old W _ (hlt k hk).2)
  obtain ⟨v', w', hr, h2, h3, h4⟩ := OwnU.append (P := P) t o.type e i ht hi hz0 hz1 hz2 HO2 ⟨W.heap.size, 0, none⟩ ys.length ys.length ys rfl (fun j u hu => by
    rw [add_plain, cell_of_row _ W.heap.size j _ e _ (heap_alloc_new W _)]
    simpa using hu) hl (by omega)
  have hw : Region.wanted o (yielded ops a.tmps) = true := by simp [Region.wanted, hgd]
  rw [if_pos hw]
  unfold Oper.wp execOp
  simp only [ho, resolve, invoke, builtin, Sem.run_bind, Sem.run_pure, Result.andThen_ok, List.map_toArray, List.map_cons, List.map_nil, hs, hx, hr]
  have hbb := (HB.alloc hbase (.cells (nums .u8 ys).toArray e)).grown h3 (by omega) (fun k hk => (hlt k hk).1)
  refine h v' w' h2 hbb (fun q hq hne => ?_)
  have e1 := (h3.block q (by omega) hne).trans (heap_alloc_old W _ hq)
  refine ⟨?_, e1, ?_⟩
  · rw [Array.getElem?_eq_getElem hq] at e1
    exact (Array.getElem?_eq_some_iff.1 e1).1
  · rcases h4 with h4 | ⟨b, hb, hle⟩
    · rw [h4]; exact hne
    · rw [hb]
      intro h5
      have := Option.some.inj h5
      omega
set_option maxHeartbeats 4000000 in
set_option maxRecDepth 100000 in
theorem keys_calls (k : Nat) (a0 : ByteArray) (B : List Int) (out : List Int) (w : World) (hB : B.length = 256) (h16 : a0.size = 16) (h : kAll k B 40 4 (bytesOf a0) = some out) :
    Calls Try.prog 50 #[.string a0, .agg (nums .u8 B).toArray] w fun e w' => ∃ v0_ : Value, e = .returned v0_ ∧ Kd.R Kd.string 9 w' w.heap.size (fun _ => True) v0_ ((List.range 11).map (kKey out)) ∧ Below w.heap.size w w' := by
  have HF := Aside0.mk h
  have HBL := Aside0.mk hB
  have H16 := Aside0.mk h16
  obtain ⟨cs, hcs⟩ : ∃ cs, cs = (nums .u8 B).toArray := ⟨_, rfl⟩
  rw [← hcs]
  have HCS := Aside0.mk hcs
  clear hB hcs h h16
  have HB := Aside0.mk (Below.refl w.heap.size w)
  have kb := fun W => print_bytes (P := Try.prog) 9 24 5 Try.underlying9 Try.underlying24 Try.underlying5 a0 W
  have i9 : Aside0 ((Try.prog.info? 9).map (fun i => (i.zero, i.size, i.bytes)) = some (some (.string ⟨#[]⟩), 1, 16)) := ⟨by kernel_rfl⟩
  have i5 : Aside0 ((Try.prog.info? 5).map (fun i => (i.zero, i.size, i.bytes)) = some (some (.int .u8 0), 1, 1)) := ⟨by kernel_rfl⟩
  go_enter Try.func50, Try.ntmps50
  go_wp2_with ((with_reducible refine gate_dst (N := 3) rfl ?_); refine box_event ?hg (N := 3) ?hd (cs := cs) (t := 45) ?hr ?_; (case hd => rfl); (case hg => rfl); (case hr => first | (go_simp; done) | (go_simp; rfl)); intro gB hg w3 hbox hb; have HB3 := Aside0.mk (below_step HB.out hb); clear HB; have BB := Aside0.mk hbox; clear hb hbox hg)
  go_loopw [5, 6] (fun v5 v6 wr => ∃ (i g c : Nat) (o : List Int), 4 ≤ i ∧ i ≤ 44 ∧ v6 = .int .i64 (i : Int) ∧ v5 = .slice (some ⟨g, 0, none⟩) o.length c ∧ Aside0 (o.length = 4 * i) ∧ Aside0 (kAll k B (44 - i) i o = some out) ∧ Aside0 (OwnU wr w3.heap.size 5 (.slice (some ⟨g, 0, none⟩) o.length c) o) ∧ Aside0 (Below w3.heap.size w3 wr)) (fun _ v6 _ => 44 - (intOf v6).toNat)
  case atStart =>
    refine ⟨4, w3.heap.size, _, bytesOf a0, by omega, by omega, rfl, by rw [bytesOf_length], ⟨by rw [bytesOf_length]; exact H16.out⟩, HF, ⟨?_⟩, ⟨bytes_below (Below.refl _ _) (Nat.le_refl _) _ _⟩⟩
    have := OwnU.conv w3 5 a0 (by have := H16.out; unfold maxLen; omega)
    rw [bytesOf_length]
    exact this
  case round =>
    clear HF
    obtain ⟨i, g, c, o, h4, hi, rfl, rfl, HL, HF, HU, HB⟩ := hrel
    by_cases hlt : i < 44
    · have hf := HF.out
      rw [show 44 - i = (44 - (i + 1)) + 1 by omega] at hf
      unfold kAll at hf
      obtain ⟨T, hT, hf2⟩ := Option.bind_eq_some_iff.1 hf
      have HT := Aside0.mk hT
      have HFF := Aside0.mk hf2
      clear hf hT hf2 HF
      have hl := HL.out
      obtain ⟨p0, hp0⟩ : ∃ p : Nat, p = 4 * i - 4 := ⟨_, rfl⟩
      obtain ⟨p1, hp1⟩ : ∃ p : Nat, p = 4 * i - 3 := ⟨_, rfl⟩
      obtain ⟨p2, hp2⟩ : ∃ p : Nat, p = 4 * i - 2 := ⟨_, rfl⟩
      obtain ⟨p3, hp3⟩ : ∃ p : Nat, p = 4 * i - 1 := ⟨_, rfl⟩
      have c0 := OwnU.at HU.out p0 (by omega)
      have c1 := OwnU.at HU.out p1 (by omega)
      have c2 := OwnU.at HU.out p2 (by omega)
      have c3 := OwnU.at HU.out p3 (by omega)
      obtain ⟨x0, hx0⟩ : ∃ x, x = o.getD p0 0 := ⟨_, rfl⟩
      obtain ⟨x1, hx1⟩ : ∃ x, x = o.getD p1 0 := ⟨_, rfl⟩
      obtain ⟨x2, hx2⟩ : ∃ x, x = o.getD p2 0 := ⟨_, rfl⟩
      obtain ⟨x3, hx3⟩ : ∃ x, x = o.getD p3 0 := ⟨_, rfl⟩
      have ht := HT.out
      unfold kWord at ht
      rw [← hp0, ← hp1, ← hp2, ← hp3, ← hx0, ← hx1, ← hx2, ← hx3] at ht
      rw [← hx0] at c0
      rw [← hx1] at c1
      rw [← hx2] at c2
      rw [← hx3] at c3
      have HT2 := Aside0.mk ht
      have m0 : IntKind.i64.wrap (4 * (i : Int)) = 4 * (i : Int) := IntWalk.i64_in _ (by omega)
      have m1 : IntKind.i64.wrap (4 * (i : Int) - 4) = (p0 : Int) := by rw [IntWalk.i64_in _ (by omega)]; omega
      have m2 : IntKind.i64.wrap (4 * (i : Int) - 3) = (p1 : Int) := by rw [IntWalk.i64_in _ (by omega)]; omega
      have m3 : IntKind.i64.wrap (4 * (i : Int) - 2) = (p2 : Int) := by rw [IntWalk.i64_in _ (by omega)]; omega
      have m4 : IntKind.i64.wrap (4 * (i : Int) - 1) = (p3 : Int) := by rw [IntWalk.i64_in _ (by omega)]; omega
      have n0 : (p0 : Int) < (o.length : Int) := by omega
      have n1 : (p1 : Int) < (o.length : Int) := by omega
      have n2 : (p2 : Int) < (o.length : Int) := by omega
      have n3 : (p3 : Int) < (o.length : Int) := by omega
      have q0 : p0 < o.length := by omega
      have q1 : p1 < o.length := by omega
      have q2 : p2 < o.length := by omega
      have q3 : p3 < o.length := by omega
      have b44 : ((i : Int) < 44) = True := eq_true (by omega)
      clear hp0 hp1 hp2 hp3 hx0 hx1 hx2 hx3 ht hl hlt
      go_upto_region 5 with fail
      go_still_tail 24, (by kernel_rfl)
      change wpList _ _ _ _ _ wr.drew
      generalize hw5 : wr.drew = w5
      have HU5 := Aside0.mk (show OwnU w5 w3.heap.size 5 (.slice (some ⟨g, 0, none⟩) o.length c) o by rw [← hw5]; exact HU.out)
      have HB5 := Aside0.mk (show Below w3.heap.size w3 w5 by rw [← hw5]; exact below_drew1 HB.out)
      clear hw5 HU HB c0 c1 c2 c3 m1 m2 m3 m4 n0 n1 n2 n3 q0 q1 q2 q3
      have hrem : ((i : Int).tmod 4) = ((i % 4 : Nat) : Int) := by rw [Int.tmod_eq_emod_of_nonneg (by omega)]; rfl
      go_upto_if 44 with fail
      have hgl : g < w5.heap.size := by obtain ⟨g2, _, e2, _, h2, _⟩ := HU5.out.cell; simp at e2; omega
      have hg3 : w3.heap.size ≤ g := by obtain ⟨g2, _, e2, h2, _⟩ := HU5.out.cell; simp at e2; omega
      have HU6 := Aside0.mk (OwnU.below HU5.out (below_alloc (Below.refl _ _) (.cells #[.int .u8 x0, .int .u8 x1, .int .u8 x2, .int .u8 x3] 5)))
      have HB6 := Aside0.mk (below_alloc HB5.out (.cells #[.int .u8 x0, .int .u8 x1, .int .u8 x2, .int .u8 x3] 5))
      have BT := Aside0.mk (heap_alloc_new w5 (.cells #[.int .u8 x0, .int .u8 x1, .int .u8 x2, .int .u8 x3] 5))
      have h6s : w5.heap.size < (w5.alloc (.cells #[.int .u8 x0, .int .u8 x1, .int .u8 x2, .int .u8 x3] 5)).heap.size := by simp
      generalize w5.alloc (.cells #[.int .u8 x0, .int .u8 x1, .int .u8 x2, .int .u8 x3] 5) = w6 at HU6 HB6 BT h6s ⊢
      generalize hgt : w5.heap.size = gt at hgl BT h6s ⊢
      have hgg : gt ≠ g := by omega
      clear HU5 HB5 hgt
      go_cut [7] from 13 to 91 (fun v7 wx => ∃ gq, v7 = .slice (some ⟨gq, 0, none⟩) 4 4 ∧ gq ≠ g ∧ gq < wx.heap.size ∧ Aside0 (T.length = 4) ∧ Aside0 (wx.heap[gq]? = some (.cells (nums .u8 T).toArray 5 (0, 0))) ∧ Aside0 (OwnU wx w3.heap.size 5 (.slice (some ⟨g, 0, none⟩) o.length c) o) ∧ Aside0 (Below w3.heap.size w3 wx))
      case first =>
        have ht := HT2.out
        by_cases hm : i % 4 = 0
        · rw [if_pos hm] at ht
          have hmb : ((i : Int) % 4 == 0) = true := beq_iff_eq.mpr (by omega)
          by_cases hr : (0 ≤ x0 ∧ x0 < 256) ∧ (0 ≤ x1 ∧ x1 < 256) ∧ (0 ≤ x2 ∧ x2 < 256) ∧ (0 ≤ x3 ∧ x3 < 256)
          · rw [if_pos hr] at ht
            obtain ⟨xx, hxx, ht2⟩ := Option.bind_eq_some_iff.1 ht
            have HFP := Aside0.mk hxx
            have HT3 := Aside0.mk (Option.some.inj ht2)
            clear ht hxx ht2
            obtain ⟨⟨r0, r0'⟩, ⟨r1, r1'⟩, ⟨r2, r2'⟩, r3, r3'⟩ := hr
            obtain ⟨y0, rfl⟩ := Int.eq_ofNat_of_zero_le r0
            obtain ⟨y1, rfl⟩ := Int.eq_ofNat_of_zero_le r1
            obtain ⟨y2, rfl⟩ := Int.eq_ofNat_of_zero_le r2
            obtain ⟨y3, rfl⟩ := Int.eq_ofNat_of_zero_le r3
            have cB : ∀ y : Nat, y < 256 → w6.cell? ⟨gB, y, none⟩ = some (.int .u8 (B.getD y 0)) := by
              intro y hy
              rw [blk_cell (blk_below BB.out HB6.out) y, HCS.out]
              have h_ : y < B.length := by rw [HBL.out]; exact hy
              simp [nums, List.getElem?_eq_getElem h_, List.getD_eq_getElem?_getD]
            have d0 := cB y0 (by omega)
            have d1 := cB y1 (by omega)
            have d2 := cB y2 (by omega)
            have d3 := cB y3 (by omega)
            have e0 : w6.cell? ⟨gt, 0, none⟩ = some (.int .u8 (y0 : Int)) := blk_cell BT.out 0
            have e1 : w6.cell? ⟨gt, 1, none⟩ = some (.int .u8 (y1 : Int)) := blk_cell BT.out 1
            have e2 : w6.cell? ⟨gt, 2, none⟩ = some (.int .u8 (y2 : Int)) := blk_cell BT.out 2
            have e3 : w6.cell? ⟨gt, 3, none⟩ = some (.int .u8 (y3 : Int)) := blk_cell BT.out 3
            have k0 : (y0 : Int) < 256 := r0'
            clear cB hrem
            obtain ⟨z0, hz0⟩ : ∃ z, z = B.getD y0 0 := ⟨_, rfl⟩
            obtain ⟨z1, hz1⟩ : ∃ z, z = B.getD y1 0 := ⟨_, rfl⟩
            obtain ⟨z2, hz2⟩ : ∃ z, z = B.getD y2 0 := ⟨_, rfl⟩
            obtain ⟨z3, hz3⟩ : ∃ z, z = B.getD y3 0 := ⟨_, rfl⟩
            rw [← hz0] at d0
            rw [← hz1] at d1
            rw [← hz2] at d2
            rw [← hz3] at d3
            have HZ := Aside0.mk (And.intro hz0 (And.intro hz1 (And.intro hz2 hz3)))
            clear hz0 hz1 hz2 hz3
            obtain ⟨im, him⟩ : ∃ im : Nat, im = i / 4 - 1 := ⟨_, rfl⟩
            have HFP2 : Aside0 (spec_FieldPow.f k 2 (im : Int) = some xx) := ⟨by rw [him]; exact HFP.out⟩
            have u1 : IntKind.i64.wrap ((i : Int) / 4) = (i : Int) / 4 := IntWalk.i64_in _ (by omega)
            have u2 : IntKind.i64.wrap ((i : Int) / 4 - 1) = (im : Int) := by rw [IntWalk.i64_in _ (by omega)]; omega
            clear him hm
            go_upto_region 7 with fail
            go_region_held3 (fun w' => w'.cell? ⟨gt, 0, none⟩ = some (.int .u8 (y0 : Int)) ∧ w'.cell? ⟨gt, 1, none⟩ = some (.int .u8 (y1 : Int)) ∧ w'.cell? ⟨gt, 2, none⟩ = some (.int .u8 (y2 : Int)) ∧ w'.cell? ⟨gt, 3, none⟩ = some (.int .u8 (y3 : Int)) ∧ w'.cell? ⟨gB, y0, none⟩ = some (.int .u8 z0) ∧ w'.cell? ⟨gB, y1, none⟩ = some (.int .u8 z1) ∧ w'.cell? ⟨gB, y2, none⟩ = some (.int .u8 z2) ∧ w'.cell? ⟨gB, y3, none⟩ = some (.int .u8 z3)) (go_keep) (first | (go_at_call 15; refine (spec_FieldPow.calls k 2 (im : Int) xx _ HFP2.out).mono ?_; rintro e w' ⟨rfl, ⟨nd, rfl⟩⟩))
            go_wp2
            go_meet
            have hT : T = [Go.bits .xor .u8 z1 (xx % 256), z2, z3, z0] := by
              obtain ⟨h0, h1, h2, h3⟩ := HZ.out
              rw [← HT3.out, h0, h1, h2, h3]
              simp only [Int.toNat_natCast]
            refine ⟨w6.heap.size, rfl, by omega, by simp, ⟨by rw [hT]; rfl⟩, ⟨?_⟩, ⟨OwnU.below HU6.out (Below.alloc (pw_below_drewN (Below.refl _ _) _) (Nat.le_refl _) _)⟩, ⟨below_alloc (pw_below_drewN HB6.out _) _⟩⟩
            rw [hT]
            exact heap_alloc_new (w6.drewN _) _
          · rw [if_neg hr] at ht
            cases ht
        · rw [if_neg hm] at ht
          have hmb : ((i : Int) % 4 == 0) = false := beq_eq_false_iff_ne.mpr (by omega)
          have e := Option.some.inj ht
          have HT3 := Aside0.mk e
          clear ht e hm hrem
          go_wp2
          go_meet
          refine ⟨gt, rfl, hgg, h6s, ⟨by rw [← HT3.out]; rfl⟩, ⟨by rw [← HT3.out]; exact BT.out⟩, HU6, HB6⟩
      case rest =>
        clear BT HU6 HB6 h6s hgg HT2 hrem
        obtain ⟨gq, rfl, hgq, hql, HTL, BQ, HU, HB⟩ := hcut
        go_wp2
        go_loopw [5, 8] (fun v5 v8 wr => ∃ (j g2 c2 : Nat), j ≤ 4 ∧ v8 = .int .i64 (j : Int) ∧ v5 = .slice (some ⟨g2, 0, none⟩) (kCols o i T j).length c2 ∧ gq ≠ g2 ∧ gq < wr.heap.size ∧ Aside0 (wr.heap[gq]? = some (.cells (nums .u8 T).toArray 5 (0, 0))) ∧ Aside0 (OwnU wr w3.heap.size 5 (.slice (some ⟨g2, 0, none⟩) (kCols o i T j).length c2) (kCols o i T j)) ∧ Aside0 (Below w3.heap.size w3 wr)) (fun _ v8 _ => 4 - (intOf v8).toNat)
        case atStart =>
          have ek : kCols o i T 0 = o := by simp [kCols]
          exact ⟨0, g, c, by omega, rfl, by rw [ek], hgq, hql, BQ, ⟨by rw [ek]; exact HU.out⟩, HB⟩
        case round =>
          clear HU HB BQ hgq hql
          obtain ⟨j, g2, c2, hj, rfl, rfl, hne, hql, BQ, HU, HB⟩ := hrel
          by_cases hlt : j < 4
          · have hl := HL.out
            have hkl := kCols_len o i T j
            obtain ⟨p, hp⟩ : ∃ p : Nat, p = 4 * i - 16 + j := ⟨_, rfl⟩
            have cp := OwnU.at HU.out p (by omega)
            rw [kCols_old o i T j p (by omega)] at cp
            have cq : wr.cell? ⟨gq, j, none⟩ = some (.int .u8 (T.getD j 0)) := by
              rw [blk_cell BQ.out j]
              have h_ : j < T.length := by rw [HTL.out]; exact hlt
              simp [nums, List.getElem?_eq_getElem h_, List.getD_eq_getElem?_getD]
            have hsu := kCols_succ o i T j
            rw [← hp] at hsu
            obtain ⟨xo, hxo⟩ : ∃ x, x = o.getD p 0 := ⟨_, rfl⟩
            obtain ⟨xt, hxt⟩ : ∃ x, x = T.getD j 0 := ⟨_, rfl⟩
            rw [← hxo] at cp hsu
            rw [← hxt] at cq hsu
            have HSU := Aside0.mk hsu
            have m5 : IntKind.i64.wrap (4 * (i : Int) - 16) = 4 * (i : Int) - 16 := IntWalk.i64_in _ (by omega)
            have m6 : IntKind.i64.wrap (4 * (i : Int) - 16 + (j : Int)) = (p : Int) := by rw [IntWalk.i64_in _ (by omega)]; omega
            have n5 : (p : Int) < ((kCols o i T j).length : Int) := by omega
            have q5 : p < (kCols o i T j).length := by omega
            have b4 : ((j : Int) < 4) = True := eq_true (by omega)
            have q6 : j < 4 := hlt
            have HKL := Aside0.mk (show (kCols o i T j).length + 1 ≤ 140737488355328 by omega)
            have HUD := Aside0.mk (show OwnU wr.drew w3.heap.size 5 (.slice (some ⟨g2, 0, none⟩) (kCols o i T j).length c2) (kCols o i T j) from HU.out)
            have HBD := Aside0.mk (below_drew1 HB.out)
            clear hsu hxo hxt hp hkl hl hlt
            go_upto_region 11 with fail
            go_region_law (refine OwnU.append_step (w0 := w3) w3.heap.size rfl (.tmp 76) (.tmp 90) 24 5 rfl Try.underlying24 i5.out (.slice (some ⟨g2, 0, none⟩) (kCols o i T j).length c2) (kCols o i T j) [Go.bits .xor .u8 xo xt] rfl rfl HUD.out HBD.out (below_size HBD.out) HKL.out ?_; intro v9 w9 ho hb hk; have HO9 := Aside0.mk ho; have HB9 := Aside0.mk hb; have HK9 := Aside0.mk hk; clear ho hb hk)
            all_goals (
              obtain ⟨hq1, hq2, hq3⟩ := HK9.out gq hql (by simpa [Value.ownBlock] using hne)
              have hq2' := hq2.trans (show wr.drew.heap[gq]? = _ from BQ.out)
              have ho9 := HO9.out
              rw [← HSU.out] at ho9
              obtain ⟨g9, c9, rfl, _⟩ := ho9.cell
              have HU9 := Aside0.mk ho9
              have BQ9 := Aside0.mk hq2'
              have hne9 : gq ≠ g9 := by simpa [Value.ownBlock] using hq3
              have HJ := Aside0.mk q6
              clear ho9 hq2 hq3 hq2' HO9 HK9 HSU BQ HU HB HUD HBD cp cq m5 m6 n5 q5 b4 q6 hne hql
              go_wp2
              exact ⟨⟨j + 1, g9, c9, HJ.out, by go_num, rfl, hne9, hq1, BQ9, HU9, HB9⟩, by simp [intOf]; have := HJ.out; omega⟩)
          · obtain rfl : j = 4 := by omega
            have HL5 : Aside0 ((kCols o i T 4).length = 4 * (i + 1)) := ⟨by have := HL.out; rw [kCols_len]; omega⟩
            have HI := Aside0.mk b44
            have HI2 := Aside0.mk h4
            clear hlt hj b44
            go_wp2
            exact ⟨⟨i + 1, g2, c2, kCols o i T 4, by have := HI2.out; omega, by have := HI.out; simp at this; omega, by go_num, rfl, HL5, HFF, HU, HB⟩, by simp [intOf]; have := HI.out; simp at this; omega⟩
    · obtain rfl : i = 44 := by omega
      have hf := HF.out
      rw [Nat.sub_self] at hf
      unfold kAll at hf
      obtain rfl : o = out := by simpa using hf
      have HB0 := Aside0.mk (below_step HB3.out HB.out)
      have HU0 := Aside0.mk (OwnU.lower HU.out (below_size HB3.out))
      have hgl : g < wr.heap.size := by obtain ⟨g2, _, e2, _, h2, _⟩ := HU.out.cell; simp at e2; omega
      clear hf HF hlt hi h4 HB HU
      go_wp2_with ((with_reducible refine gate_dst (N := 92) rfl ?_); refine Kd.R_lit Kd.string _ 9 ?hg (N := 92) ?hd (xs := ([] : List ByteArray)) (inner := []) (ok := fun _ => True) (okp := fun _ => True) ?hr ?hp (fun _ hk => hk) trivial (Below.refl _ _) (Nat.le_refl _) (by simp) ?_; (case hd => rfl); (case hg => rfl); (case hr => first | (go_simp; done) | (go_simp; rfl)); (case hp => exact (Reps.none _ _)); intro v9 w2 ho hb hg_ hnew_; clear hg_ hnew_; have HO := Aside0.mk (Kd.R_lower (Kd.R_mono (ok' := fun k => k ≠ g) (Kd.R_bound ho) (fun k hk => by have := hk.2.1; omega)) (below_size HB0.out)); have HB := Aside0.mk (below_step HB0.out hb); have HU := Aside0.mk (HU0.out.below hb); clear hb ho HB0 HU0)
      go_loopw [9, 10] (fun v9 v10 wr => ∃ (q : Nat), q ≤ 11 ∧ v10 = .int .i64 (q : Int) ∧ Aside0 (OwnU wr w.heap.size 5 (.slice (some ⟨g, 0, none⟩) o.length c) o) ∧ Aside0 (Kd.R Kd.string 9 wr w.heap.size (fun k => k ≠ g) v9 ((List.range q).map (kKey o))) ∧ Aside0 (Below w.heap.size w wr)) (fun _ v10 _ => 11 - (intOf v10).toNat)
      case atStart => exact ⟨0, by omega, rfl, HU, HO, HB⟩
      case round =>
        clear HU HO HB hgl
        obtain ⟨q, hq, rfl, HU, HO, HB⟩ := hrel
        by_cases hlt : q < 11
        · have hl := HL.out
          have hcap : o.length ≤ c := by obtain ⟨g2, cap, cur, fz, e2, _, _, _, hn, _⟩ := HU.out; simp at e2; omega
          have hgl : g < wr.heap.size := by obtain ⟨g2, _, e2, _, h2, _⟩ := HU.out.cell; simp at e2; omega
          have f1 : IntKind.i64.wrap (16 * (q : Int)) = 16 * (q : Int) := IntWalk.i64_in _ (by omega)
          have f2 : IntKind.i64.wrap (16 * (q : Int) + 16) = 16 * (q : Int) + 16 := IntWalk.i64_in _ (by omega)
          have f3 : (0 : Int) ≤ 16 * (q : Int) := by omega
          have f4 : (16 * (q : Int)) ≤ 16 * (q : Int) + 16 := by omega
          have f5 : 16 * (q : Int) + 16 ≤ (c : Int) := by omega
          have f6 : (16 * (q : Int)).toNat = 16 * q := by omega
          have f7 : (16 * (q : Int) + 16).toNat = 16 * q + 16 := by omega
          have f8 : 16 * q + 16 ≤ c := by omega
          have hks := run_convert_bytes_arg (P := Try.prog) wr 24 5 Try.underlying24 Try.underlying5 g (16 * q) 16 (c - 16 * q) ((o.drop (16 * q)).take 16) (by simp; omega) (fun j hj => by
            rw [OwnU.at HU.out (16 * q + j) (by omega)]
            simp [List.getD_eq_getElem?_getD, List.getElem?_take, hj]) 9 Try.underlying9
          have hks2 : (convert 24 9 (.slice (some ⟨g, 16 * q, none⟩) 16 (c - 16 * q))).run Try.prog wr = .ok (.string (kKey o q)) wr := hks
          have b11 : ((q : Int) ≤ 10) = True := eq_true (by omega)
          have HI := Aside0.mk hlt
          clear hks hl hcap hlt
          go_wp2_with (at_builtin; refine Kd.R_append Kd.string (w0 := w) w.heap.size rfl (.tmp 97) (.tmp 106) 35 9 (.string ⟨#[]⟩) 16 rfl Try.underlying35 i9.out rfl (by decide) (by omega) _ ((List.range q).map (kKey o)) (kKey o q) [.string (kKey o q)] (fun k => k ≠ g) (fun _ => False) rfl (by first | (go_simp; done) | (go_simp; rfl)) ?aP (fun _ hk => hk.elim) ?aF ?aO ?aB ?aS ?aL ?_; (case aP => rfl); (case aB => exact HB.out); (case aF => exact (fun k hk => by omega)); (case aO => exact HO.out); (case aS => exact below_size HB.out); (case aL => have := HI.out; simp; omega); intro v8 w6 ho hb hg hat; have HO1 := Aside0.mk ho; have HB1 := Aside0.mk hb; have HU1 := Aside0.mk (HU.out.keep (fun k hk => by have e : g = k := (by simpa [Value.ownBlock] using hk); subst e; exact hg.block _ hgl (fun e => HO.out.1 _ e.symm rfl))); clear ho hb hg hat)
          have hsu : (List.range (q + 1)).map (kKey o) = (List.range q).map (kKey o) ++ [kKey o q] := by simp [List.range_succ]
          have HO2 : Aside0 (Kd.R Kd.string 9 w6 w.heap.size (fun k => k ≠ g) v8 ((List.range (q + 1)).map (kKey o))) := ⟨by rw [hsu]; exact HO1.out⟩
          exact ⟨⟨q + 1, HI.out, by go_num, HU1, HO2, HB1⟩, by simp [intOf]; have := HI.out; omega⟩
        · obtain rfl : q = 11 := by omega
          clear hlt hq
          go_wp2
          go_ret
          exact ⟨_, rfl, Kd.R_mono HO.out (fun _ _ => trivial), HB.out⟩
theorem spec_RoundKeys.calls (k : Nat) (a0 : ByteArray) (r : List ByteArray) (w : World) (h : spec_RoundKeys.f k a0 = some r) :
    Calls Try.prog 32 #[.string a0] w fun e w' => ∃ v0_ : Value, e = .returned v0_ ∧ Kd.R Kd.string 9 w' w.heap.size (fun _ => True) v0_ r ∧ Below w.heap.size w w' := by
  unfold spec_RoundKeys.f at h
  by_cases c : a0.size = 16
  · rw [if_pos c] at h
    obtain ⟨x, hx, h1⟩ := Option.bind_eq_some_iff.1 h
    obtain ⟨B, hB, h2⟩ := Option.bind_eq_some_iff.1 h1
    obtain ⟨o, ho, h3⟩ := Option.bind_eq_some_iff.1 h2
    cases h3
    have C1 := fun W => boxes_calls k B W ⟨x, hx⟩ hB
    have C2 := fun W => keys_calls k a0 B o W (boxTab_len hB) c ho
    generalize (nums .u8 B).toArray = cs at C1 C2
    have C1 := Aside0.mk C1
    have C2 := Aside0.mk C2
    have c1 : ((a0.size : Int) != 16) = false := bne_eq_false_iff_eq.mpr (by omega)
    clear hx hB h1 h2 c ho
    have HB := Aside0.mk (Below.refl w.heap.size w)
    go_enter Try.func32, Try.ntmps32
    go_wp2_with (first | (go_at_call 47; refine (C1.out _).mono ?_; rintro e w' ⟨rfl, hb⟩; have n0_ := Aside0.mk (below_step HB.out hb); clear HB hb; have HB := n0_; clear n0_) | (go_at_call 50; refine (C2.out _).mono ?_; rintro e w' ⟨v0, rfl, hr, hb⟩; have HR := Aside0.mk (Kd.R_lower hr (below_size HB.out)); have n0_ := Aside0.mk (below_step HB.out hb); clear HB hb hr; have HB := n0_; clear n0_))
    go_ret
    exact ⟨_, rfl, HR.out, HB.out⟩
  · rw [if_neg c] at h
    cases h
    have c1 : ((a0.size : Int) != 16) = true := bne_iff_ne.mpr (by omega)
    clear c
    have HB := Aside0.mk (Below.refl w.heap.size w)
    go_enter Try.func32, Try.ntmps32
    go_wp2_with ((with_reducible refine gate_dst (N := 6) rfl ?_); refine Kd.R_lit Kd.string _ 9 ?hg (N := 6) ?hd (xs := ([] : List ByteArray)) (inner := []) (ok := fun _ => True) (okp := fun _ => True) ?hr ?hp (fun _ hk => hk) trivial (Below.refl _ _) (Nat.le_refl _) (by simp) ?_; (case hd => rfl); (case hg => rfl); (case hr => first | (go_simp; done) | (go_simp; rfl)); (case hp => exact (Reps.none _ _)); intro v9 w2 ho hb hg_ hnew_; clear hg_ hnew_; have HO := Aside0.mk ho; have HB1 := Aside0.mk hb; clear hb ho)
    go_ret
    exact ⟨_, rfl, HO.out, HB1.out⟩

/-! ### impl_within: function 41 -/
def impl_within.f (a0 : Int) (a1 : Int) (a2 : Int) : Option (Bool) := if a0 ≥ a1 then (some (decide (a0 ≤ a2))) else (some false)
set_option maxHeartbeats 8000000 in
set_option maxRecDepth 100000 in
theorem impl_within.calls (a0 : Int) (a1 : Int) (a2 : Int) (r : Bool) (w : World) (h : impl_within.f a0 a1 a2 = some r) :
    Calls Try.prog 41 #[.int .i64 a0, .int .i64 a1, .int .i64 a2] w fun e w' => e = .returned (.bool r) ∧ Drawn0 w w' := by
  have H : (if a0 ≥ a1 then (some (decide (a0 ≤ a2))) else (some false)) = some r := h
  clear h
  by_cases c4 : a0 ≥ a1
  · rw [if_pos c4] at H
    have c4b0 : decide (a1 ≤ a0) = true := decide_eq_true c4
    clear c4
    obtain rfl := Option.some.inj H
    go_enter Try.func41, Try.ntmps41
    go_wp2
    go_ret
    exact ⟨by first | rfl | (simp; done) | (simp [*]; done), by repeat (first | exact Drawn0.refl _ | apply Drawn0.step)⟩
  · rw [if_neg c4] at H
    have c4b0 : decide (a1 ≤ a0) = false := decide_eq_false c4
    clear c4
    obtain rfl := Option.some.inj H
    go_enter Try.func41, Try.ntmps41
    go_wp2
    go_ret
    exact ⟨by first | rfl | (simp; done) | (simp [*]; done), by repeat (first | exact Drawn0.refl _ | apply Drawn0.step)⟩

/-! ### impl_isByte: function 39 -/
def impl_isByte.f (a0 : Int) : Option (Bool) := (impl_within.f a0 0 255).bind fun t110 => (some t110)
set_option maxHeartbeats 8000000 in
set_option maxRecDepth 100000 in
theorem impl_isByte.calls (a0 : Int) (r : Bool) (w : World) (h : impl_isByte.f a0 = some r) :
    Calls Try.prog 39 #[.int .i64 a0] w fun e w' => e = .returned (.bool r) ∧ Drawn0 w w' := by
  have H : ((impl_within.f a0 0 255).bind fun t110 => (some t110)) = some r := h
  clear h
  replace H := Option.bind_eq_some_iff.mp H
  obtain ⟨t110, A20, H⟩ := H
  replace H : (some t110) = some r := H
  have A2 := Aside0.mk A20
  clear A20
  obtain rfl := Option.some.inj H
  go_enter Try.func39, Try.ntmps39
  go_wp2_with (first | ((with_reducible refine gate_callee (f := 41) rfl ?_); refine goesL_ (some 4) rfl rfl Try.func41 (by kernel_rfl) rfl #[.int .i64 a0, .int .i64 0, .int .i64 255] rfl (by (try simp only [List.map_toArray, List.map_cons, List.map_nil]); first | done | rfl | (simp only [List.length_drop, List.length_take]; rfl)) ?_; (with_reducible refine (impl_within.calls a0 0 255 t110 _ A2.out).mono ?_); rintro e w' ⟨rfl, ⟨nd, rfl⟩⟩; refine ⟨_, rfl, ?_⟩))
  go_ret
  exact ⟨by first | rfl | (simp; done) | (simp [*]; done), by repeat (first | exact Drawn0.refl _ | apply Drawn0.step)⟩

/-! ### impl_FieldDouble: function 20 -/
def impl_FieldDouble.f (a0 : Int) : Option (Int) := (impl_isByte.f a0).bind fun t111 => (if t111 = true then (if a0 ≥ 128 then (some (Go.bits .xor .i64 (wrap64 (2 * a0)) 283)) else (some (wrap64 (2 * a0)))) else (some 0))
set_option maxHeartbeats 8000000 in
set_option maxRecDepth 100000 in
theorem impl_FieldDouble.calls (a0 : Int) (r : Int) (w : World) (h : impl_FieldDouble.f a0 = some r) :
    Calls Try.prog 20 #[.int .i64 a0] w fun e w' => e = .returned (.int .i64 r) ∧ Drawn0 w w' := by
  have H : ((impl_isByte.f a0).bind fun t111 => (if t111 = true then (if a0 ≥ 128 then (some (Go.bits .xor .i64 (wrap64 (2 * a0)) 283)) else (some (wrap64 (2 * a0)))) else (some 0))) = some r := h
  clear h
  replace H := Option.bind_eq_some_iff.mp H
  obtain ⟨t111, A20, H⟩ := H
  replace H : (if t111 = true then (if a0 ≥ 128 then (some (Go.bits .xor .i64 (wrap64 (2 * a0)) 283)) else (some (wrap64 (2 * a0)))) else (some 0)) = some r := H
  have A2 := Aside0.mk A20
  clear A20
  by_cases c3 : t111 = true
  · subst c3
    have H1 : (if a0 ≥ 128 then (some (Go.bits .xor .i64 (wrap64 (2 * a0)) 283)) else (some (wrap64 (2 * a0)))) = some r := by rw [if_pos rfl] at H; exact H
    clear H
    have H := H1
    clear H1
    by_cases c4 : a0 ≥ 128
    · rw [if_pos c4] at H
      have c4b0 : decide (128 ≤ a0) = true := decide_eq_true c4
      clear c4
      obtain rfl := Option.some.inj H
      go_enter Try.func20, Try.ntmps20
      go_wp2_with (first | ((with_reducible refine gate_callee (f := 39) rfl ?_); refine goesL_ (some 4) rfl rfl Try.func39 (by kernel_rfl) rfl #[.int .i64 a0] rfl (by (try simp only [List.map_toArray, List.map_cons, List.map_nil]); first | done | rfl | (simp only [List.length_drop, List.length_take]; rfl)) ?_; (with_reducible refine (impl_isByte.calls a0 true _ A2.out).mono ?_); rintro e w' ⟨rfl, ⟨nd, rfl⟩⟩; refine ⟨_, rfl, ?_⟩))
      go_ret
      exact ⟨by first | rfl | (simp; done) | (simp [*]; done), by repeat (first | exact Drawn0.refl _ | apply Drawn0.step)⟩
    · rw [if_neg c4] at H
      have c4b0 : decide (128 ≤ a0) = false := decide_eq_false c4
      clear c4
      obtain rfl := Option.some.inj H
      go_enter Try.func20, Try.ntmps20
      go_wp2_with (first | ((with_reducible refine gate_callee (f := 39) rfl ?_); refine goesL_ (some 4) rfl rfl Try.func39 (by kernel_rfl) rfl #[.int .i64 a0] rfl (by (try simp only [List.map_toArray, List.map_cons, List.map_nil]); first | done | rfl | (simp only [List.length_drop, List.length_take]; rfl)) ?_; (with_reducible refine (impl_isByte.calls a0 true _ A2.out).mono ?_); rintro e w' ⟨rfl, ⟨nd, rfl⟩⟩; refine ⟨_, rfl, ?_⟩))
      go_ret
      exact ⟨by first | rfl | (simp; done) | (simp [*]; done), by repeat (first | exact Drawn0.refl _ | apply Drawn0.step)⟩
  · replace c3 := Bool.eq_false_iff.mpr c3
    subst c3
    have H1 : (some 0) = some r := by rw [if_neg (show ¬ (false = true) by decide)] at H; exact H
    clear H
    have H := H1
    clear H1
    obtain rfl := Option.some.inj H
    go_enter Try.func20, Try.ntmps20
    go_wp2_with (first | ((with_reducible refine gate_callee (f := 39) rfl ?_); refine goesL_ (some 4) rfl rfl Try.func39 (by kernel_rfl) rfl #[.int .i64 a0] rfl (by (try simp only [List.map_toArray, List.map_cons, List.map_nil]); first | done | rfl | (simp only [List.length_drop, List.length_take]; rfl)) ?_; (with_reducible refine (impl_isByte.calls a0 false _ A2.out).mono ?_); rintro e w' ⟨rfl, ⟨nd, rfl⟩⟩; refine ⟨_, rfl, ?_⟩))
    go_ret
    exact ⟨by first | rfl | (simp; done) | (simp [*]; done), by repeat (first | exact Drawn0.refl _ | apply Drawn0.step)⟩

end Go.Proofs.Ytngdfchpknglhaa.PFnExactRoundKeys
