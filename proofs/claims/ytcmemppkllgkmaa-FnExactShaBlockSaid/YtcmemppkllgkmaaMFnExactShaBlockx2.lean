-- Written by a program of this session for this claim; Lean checks it.
import Derived.Test.YtcmemppkllgkmaaMFnExactShaBlockx0
import Derived.Test.YtcmemppkllgkmaaMFnExactShaBlockx1
namespace Go.Proofs.Ytcmemppkllgkmaa.PFnExactShaBlock
open Go.RowKit Go.Proofs.YtcmemppkllgkmaaW.PrintWords Go.Proofs.YtcmemppkllgkmaaW.PrintLast Go.Proofs.YtcmemppkllgkmaaW.PrintMore
attribute [local go_sem] max2_int min2_int max_two min_two max_three min_three max_four min_four   -- for this text's walks alone
set_option linter.unusedVariables false
set_option linter.unusedSimpArgs false

/-! ### spec_ShaBlock: function 21 -/
/-- A row of bytes that may be appended to: no cell of its block is frozen (the frozen range may lie behind its end, as a conversion of a string lays it). -/
def OwnU (w : World) (base : Nat) (e : TypeId) (v : Value) (xs : List Int) : Prop :=
  ∃ g cap cur fz, v = .slice (some ⟨g, 0, none⟩) xs.length cap ∧ base ≤ g ∧ w.heap[g]? = some (.cells cur e fz) ∧ (∀ j, j < cur.size → ¬ (fz.1 ≤ j ∧ j < fz.2)) ∧ xs.length ≤ cap ∧ cap ≤ maxLen ∧ cur.size = cap ∧ cur.toList.take xs.length = nums .u8 xs
theorem OwnU.conv (w : World) (e : TypeId) (s : ByteArray) (hs : s.size ≤ maxLen) : OwnU (Lib.bytesWorld w e s) w.heap.size e (.slice (some ⟨w.heap.size, 0, none⟩) s.size (grownCap w s.size 0 e)) (bytesOf s) := by
  have hge := grownCap_ge w s.size 0 e
  have hle := grownCap_le_maxLen w s.size 0 e hs
  have hl : (bytesOf s).length = s.size := bytesOf_length s
  have hsz : (Lib.bytesCells w e s).size = grownCap w s.size 0 e := by
    unfold Lib.bytesCells
    rw [Array.size_append, Array.size_map, Array.size_replicate]
    have : s.data.size = s.size := rfl
    omega
  refine ⟨w.heap.size, grownCap w s.size 0 e, _, _, by rw [hl], Nat.le_refl _, Lib.bytesWorld_at_new w e s, fun j hj => by simp only; omega, by omega, hle, hsz, ?_⟩
  have hml : (s.data.map fun b => Value.int .u8 (b.toNat : Int)).toList.length = (bytesOf s).length := by
    rw [hl]
    simp
  unfold Lib.bytesCells
  rw [Array.toList_append, List.take_append_of_le_length (Nat.le_of_eq hml.symm), List.take_of_length_le (Nat.le_of_eq hml)]
  simp [bytesOf, nums]
theorem OwnU.cell {w : World} {base : Nat} {e : TypeId} {v : Value} {xs : List Int} (h : OwnU w base e v xs) : ∃ g cap, v = .slice (some ⟨g, 0, none⟩) xs.length cap ∧ base ≤ g ∧ g < w.heap.size ∧ ∀ j u, (nums .u8 xs)[j]? = some u → w.cell? ((⟨g, 0, none⟩ : Addr).add j) = some u := by
  obtain ⟨g, cap, cur, fz, rfl, hb, hg, hf, hn, hm, hc, ht⟩ := h
  refine ⟨g, cap, rfl, hb, (Array.getElem?_eq_some_iff.1 hg).1, fun j u hu => ?_⟩
  rw [add_plain, cell_of_row w g j cur e fz hg]
  rw [← ht, List.getElem?_take] at hu
  split at hu
  · simpa using hu
  · cases hu
theorem OwnU.keep {w w1 : World} {base : Nat} {e : TypeId} {v : Value} {xs : List Int} (h : OwnU w base e v xs) (hm : ∀ k, v.ownBlock = some k → w1.heap[k]? = w.heap[k]?) : OwnU w1 base e v xs := by
  obtain ⟨g, cap, cur, fz, rfl, hb, hg, r⟩ := h
  exact ⟨g, cap, cur, fz, rfl, hb, (hm g (by simp [Value.ownBlock])).trans hg, r⟩
/-- 'run_storeCells_at', where no cell of the row is frozen. -/
theorem storeCells_U (P : Program) (g o : Nat) (t : TypeId) (fz : Nat × Nat) : ∀ (vs : List Value) (i : Nat) (cur : Array Value) (w : World), w.heap[g]? = some (.cells cur t fz) → (∀ j, j < cur.size → ¬ (fz.1 ≤ j ∧ j < fz.2)) → o + i + vs.length ≤ cur.size → (∀ v ∈ vs, v.oneCell' = true) →
    (storeCells ⟨g, o, none⟩ vs i).run P w = .ok () (w.setRow g (cur.toList.take (o + i) ++ vs ++ cur.toList.drop (o + i + vs.length)).toArray)
  | [], i, cur, w, hg, _, _, _ => by
    simp only [storeCells, List.append_nil, List.length_nil, Nat.add_zero, List.take_append_drop, Array.toArray_toList]
    rw [setRow_self w g cur t fz hg]
    rfl
  | v :: rest, i, cur, w, hg, hfz, hl, h1 => by
    have hi : o + i < cur.size := by simp at hl; omega
    have hadd : (⟨g, o, none⟩ : Addr).add i = ⟨g, o + i, none⟩ := by unfold Addr.add; split <;> simp_all
    have hcell : w.cell? ⟨g, o + i, none⟩ = some cur[o + i] := by simp [World.cell?, hg, hi]
    have hfro : w.frozen? ⟨g, o + i, none⟩ = false := by
      have h_ := hfz (o + i) hi
      obtain ⟨lo, hi'⟩ := fz
      simp only [World.frozen?, hg, Bool.and_eq_false_iff, decide_eq_false_iff_not]
      simp only at h_
      omega
    have hst : (store ((⟨g, o, none⟩ : Addr).add i) v).run P w = .ok () (w.setRow g (cur.setIfInBounds (o + i) v)) := by
      rw [hadd, run_store P w _ v _ (h1 v (by simp)), hcell]
      simp [hfro, setCell_eq_setRow w g (o + i) cur t fz v hg]
    have ih := storeCells_U P g o t fz rest (i + 1) (cur.setIfInBounds (o + i) v) (w.setRow g (cur.setIfInBounds (o + i) v)) (setRow_heap w g cur _ t _ hg) (by simpa using hfz) (by simp at hl ⊢; omega) (fun x hx => h1 x (by simp [hx]))
    simp only [storeCells, Sem.run_bind, hst, Result.andThen_ok, ih, setRow_setRow]
    congr 3
    have e := list_seg_step cur.toList (o + i) v rest (by simp at hl ⊢; omega)
    simpa [Array.toList_setIfInBounds, Nat.add_assoc] using e
/-- 'append' to such a row. -/
theorem OwnU.append {P : Program} {w : World} {base : Nat} (t ty e : TypeId) (i : TypeInfo) (ht : P.underlying t = some (.slice e)) (hi : P.info? e = some i) (hz : i.zero = some (.int .u8 0)) (hsize : i.size = 1) (hby : i.bytes = 1)
    {v : Value} {xs : List Int} (h : OwnU w base e v xs) (a : Addr) (m c : Nat) (ys : List Int) (hl : ys.length = m) (hnews : ∀ j u, (nums .u8 ys)[j]? = some u → w.cell? (a.add j) = some u) (h48 : xs.length + m ≤ 140737488355328) (hbase : base ≤ w.heap.size) :
    ∃ v' w', (Builtin.append_ #[t, t] ty #[v, .slice (some a) m c]).run P w = .ok v' w' ∧ OwnU w' base e v' (xs ++ ys) ∧ w.grownBy w' v.ownBlock ∧ (v'.ownBlock = v.ownBlock ∨ ∃ b, v'.ownBlock = some b ∧ w.heap.size ≤ b) := by
  have hce := h.cell
  obtain ⟨g, cap, cur, fz, rfl, hbg, hg, hfz, hnc, hcm, hcs, htake⟩ := h
  obtain ⟨g2, cap2, e2, _, _, holds⟩ := hce
  obtain ⟨rfl, rfl⟩ : g2 = g ∧ cap2 = cap := by simpa [eq_comm] using e2
  have hnl : (nums .u8 ys).length = m := by simp [nums, hl]
  have hxl : (nums .u8 xs).length = xs.length := by simp [nums]
  have h1 : ∀ u ∈ nums .u8 ys, u.oneCell' = true := by
    intro u hu
    obtain ⟨x, _, rfl⟩ := List.mem_map.1 hu
    rfl
  have hn : nums .u8 (xs ++ ys) = nums .u8 xs ++ nums .u8 ys := by simp [nums]
  have hm : xs.length + m ≤ maxLen := by unfold maxLen; omega
  by_cases hroom : xs.length + m ≤ cap2
  · have hf := run_firstCells_some (P := P) w i.size m a m c (nums .u8 ys) (by rw [hsize, hnl, Nat.mul_one]) hnews
    have hst := storeCells_U P g2 (xs.length * i.size) e fz (nums .u8 ys) 0 cur w hg hfz (by rw [hsize, hnl]; omega) h1
    simp only [Nat.add_zero] at hst
    refine ⟨.slice (some ⟨g2, 0, none⟩) (xs.length + m) cap2, w.setRow g2 (cur.toList.take (xs.length * i.size) ++ nums .u8 ys ++ cur.toList.drop (xs.length * i.size + (nums .u8 ys).length)).toArray, by simp [Builtin.append_, run_underlying ht, sizeOf, typeInfo, hi, Builtin.lenOf, hroom, hf, Addr.add_lit, hst], ⟨g2, cap2, _, fz, by rw [List.length_append, hl], hbg, setRow_heap w g2 cur _ e _ hg, ?_, by rw [List.length_append, hl]; exact hroom, hcm, ?_, ?_⟩, ⟨rfl, rfl, rfl, by simp, fun k _ hk => setRow_other w g2 k _ (fun e => hk (by simp [Value.ownBlock, e]))⟩, .inl rfl⟩
    · intro j hj
      refine hfz j ?_
      simp [hsize, hnl] at hj
      omega
    · simp [hsize, hnl]
      omega
    · rw [hsize, Nat.mul_one, htake, hn, List.length_append, hl]
      have : xs.length + m = (nums .u8 xs ++ nums .u8 ys).length := by rw [List.length_append, hxl, hnl]
      rw [this]
      exact List.take_left
  · have hr := run_append_grow (P := P) w t ty e i (.int .u8 0) ht hi hz ⟨g2, 0, none⟩ xs.length cap2 (nums .u8 xs) (by rw [hsize, hxl, Nat.mul_one]) holds a m c (nums .u8 ys) (by rw [hsize, hnl, Nat.mul_one]) hnews (by omega) (by unfold maxLen at hm; omega) (by rw [hby]; exact growslice_fits (by omega) (by omega))
    have hge := grownCap_ge w (xs.length + m) cap2 e
    have hcm2 : grownCap w (xs.length + m) cap2 e ≤ maxLen := grownCap_le_maxLen w (xs.length + m) cap2 e hm
    refine ⟨_, _, hr, ⟨w.heap.size, _, _, (0, 0), by rw [List.length_append, hl], hbase, heap_alloc_new w.drew _, fun j _ => by simp, by rw [List.length_append, hl]; exact hge, hcm2, ?_, ?_⟩, ⟨rfl, rfl, rfl, by simp, fun k hk _ => heap_alloc_old w.drew _ hk⟩, .inr ⟨_, rfl, Nat.le_refl _⟩⟩
    · have hz1 : (Value.int IntKind.u8 0).cells.size = 1 := rfl
      simp only [Array.size_append, List.size_toArray, size_zeroCells, hz1, hxl, hnl]
      omega
    · simp only [Array.toList_append, List.append_assoc]
      have : (xs ++ ys).length = (nums .u8 xs ++ nums .u8 ys).length := by rw [List.length_append, List.length_append, hxl, hnl, hl]
      rw [← List.append_assoc, hn, this]
      exact List.take_left
/-- The operation, for the walk: the literal that is appended has just been laid. -/
theorem OwnU.append_wp {P : Program} {ops : Array Oper} {rest : List Oper} {o : Oper} {a : Act} {Q : Exit → Act → World → Prop} {w0 W : World} (base : Nat) (hgd : o.guard = none) (sl x : Operand) (t e : TypeId)
    (ho : o.op = .call { callee := .builtin .append, args := #[sl, x], argTypes := #[t, t] }) (ht : P.underlying t = some (.slice e)) (hinfo : (P.info? e).map (fun i => (i.zero, i.size, i.bytes)) = some (some (.int .u8 0), 1, 1))
    (v : Value) (xs ys : List Int) (hs : a.eval sl = v) (hx : a.eval x = .slice (some ⟨W.heap.size, 0, none⟩) ys.length ys.length) (HO : OwnU W base e v xs) (HB : Below base w0 W) (hbase : base ≤ W.heap.size) (hl : xs.length + ys.length ≤ 140737488355328)
    (h : ∀ v1 w1, OwnU w1 base e v1 (xs ++ ys) → Below base w0 w1 → wpList P ops Q rest (a.put o.dst v1) w1) : wpList P ops Q (o :: rest) a (W.alloc (.cells (nums .u8 ys).toArray e)) := by
  obtain ⟨i, hi, hz⟩ := Option.map_eq_some_iff.1 hinfo
  simp only [Prod.mk.injEq] at hz
  obtain ⟨hz0, hz1, hz2⟩ := hz
  have hsz : (W.alloc (.cells (nums .u8 ys).toArray e)).heap.size = W.heap.size + 1 := by simp
  have hlt : ∀ k, v.ownBlock = some k → base ≤ k ∧ k < W.heap.size := by
    intro k hk
    obtain ⟨g, cap, rfl, hb, hg, _⟩ := HO.cell
    have : g = k := by simpa [Value.ownBlock] using hk
    subst this
    exact ⟨hb, hg⟩
  have HO2 : OwnU (W.alloc (.cells (nums .u8 ys).toArray e)) base e v xs := HO.keep (fun k hk => heap_alloc_old W _ (hlt k hk).2)
  obtain ⟨v', w', hr, h2, h3, h4⟩ := OwnU.append (P := P) t o.type e i ht hi hz0 hz1 hz2 HO2 ⟨W.heap.size, 0, none⟩ ys.length ys.length ys rfl (fun j u hu => by
    rw [add_plain, cell_of_row _ W.heap.size j _ e _ (heap_alloc_new W _)]
    simpa using hu) hl (by omega)
  refine wpList_plain hgd fun _ hK => ?_
  unfold Oper.wp execOp
  simp only [ho, resolve, invoke, builtin, Sem.run_bind, Sem.run_pure, Result.andThen_ok, List.map_toArray, List.map_cons, List.map_nil, hs, hx, hr]
  exact hK _ _ (h v' w' h2 ((HB.alloc hbase _).grown h3 (by omega) (fun k hk => (hlt k hk).1)))
/-- Such a row, as a string. -/
theorem OwnU.string {P : Program} {w : World} {base : Nat} {e e' src dst : TypeId} {v : Value} {xs : List Int} (hs : P.underlying src = some (.slice e)) (he : P.underlying e = some (.int .u8)) (hd : P.underlying dst = some .string) (h : OwnU w base e' v xs) : (convert src dst v).run P w = .ok (.string (strOfNums xs)) w := by
  obtain ⟨g, cap, rfl, _, _, hc⟩ := h.cell
  refine run_convert_bytes_arg w src e hs he g 0 xs.length cap xs rfl (fun i hi => ?_) dst hd
  have e := hc i (.int .u8 (xs.getD i 0)) (by simp [nums, List.getD_eq_getElem?_getD, List.getElem?_eq_getElem hi])
  rw [add_plain] at e
  rw [Nat.zero_add]
  exact e
theorem OwnU.lower {w : World} {base base' : Nat} {e : TypeId} {v : Value} {xs : List Int} (h : OwnU w base e v xs) (hb : base' ≤ base) : OwnU w base' e v xs := by
  obtain ⟨g, cap, cur, fz, e1, hg, r⟩ := h
  exact ⟨g, cap, cur, fz, e1, Nat.le_trans hb hg, r⟩
theorem OwnU.below {w w1 : World} {base : Nat} {e : TypeId} {v : Value} {xs : List Int} (h : OwnU w base e v xs) (hb : Below w.heap.size w w1) : OwnU w1 base e v xs := by
  obtain ⟨g, cap, e1, _, hlt, _⟩ := h.cell
  refine h.keep (fun k hk => hb.block k ?_)
  have : g = k := by rw [e1] at hk; simpa [Value.ownBlock] using hk
  omega
theorem OwnU.at {w : World} {base : Nat} {e : TypeId} {g cap : Nat} {xs : List Int} (h : OwnU w base e (.slice (some ⟨g, 0, none⟩) xs.length cap) xs) (i : Nat) (hi : i < xs.length) : w.cell? ⟨g, i, none⟩ = some (.int .u8 (xs.getD i 0)) := by
  obtain ⟨g2, cap2, e2, _, _, hc⟩ := h.cell
  obtain ⟨rfl, rfl⟩ : g2 = g ∧ cap2 = cap := by simpa [eq_comm] using e2
  have e := hc i (.int .u8 (xs.getD i 0)) (by simp [nums, List.getD_eq_getElem?_getD, List.getElem?_eq_getElem hi])
  rw [add_plain] at e
  exact e
/-- Block g holds n numbers of kind k that may be written. -/
structure RowG (k : IntKind) (w : World) (g n : Nat) (val : Nat → Int) : Prop where
  cell : ∀ j, j < n → w.cell? ⟨g, j, none⟩ = some (.int k (val j))
  free : ∀ j, j < n → w.frozen? ⟨g, j, none⟩ = false
theorem RowG.ofBlock {k : IntKind} {w : World} {g : Nat} {t : TypeId} (xs : List Int) (h : w.heap[g]? = some (.cells (nums k xs).toArray t (0, 0))) : RowG k w g xs.length (fun j => xs.getD j 0) := by
  refine ⟨fun j hj => ?_, fun j _ => blk_frozen h j⟩
  rw [blk_cell h j]
  simp [nums, List.getElem?_eq_getElem hj, List.getD_eq_getElem?_getD]
theorem RowG.set {k : IntKind} {w : World} {g n : Nat} {val : Nat → Int} (h : RowG k w g n val) (i : Nat) (hi : i < n) (x : Int) : RowG k (w.setCell ⟨g, i, none⟩ (.int k x)) g n (fun j => if j = i then x else val j) := by
  refine ⟨fun j hj => ?_, fun j hj => by rw [World.frozen?_setCell]; exact h.free j hj⟩
  by_cases e : j = i
  · subst e
    rw [if_pos rfl]
    exact World.cell?_setCell_same _ _ _ (h.cell j hj)
  · rw [if_neg e, World.cell?_setCell_other _ _ _ _ (fun he => e (by injection he with _ h2; exact h2.symm))]
    exact h.cell j hj
theorem RowG.far {k : IntKind} {w : World} {g n g' i' : Nat} {v : Value} {val : Nat → Int} (h : RowG k w g n val) (hg : g ≠ g') : RowG k (w.setCell ⟨g', i', none⟩ v) g n val := by
  refine ⟨fun j hj => ?_, fun j hj => by rw [World.frozen?_setCell]; exact h.free j hj⟩
  rw [World.cell?_setCell_other _ _ _ _ (fun he => hg (by injection he with h1 _; exact h1.symm))]
  exact h.cell j hj
theorem RowG.drewN {k : IntKind} {w : World} {g n : Nat} {val : Nat → Int} (h : RowG k w g n val) (m : Nat) : RowG k (w.drewN m) g n val := ⟨h.cell, h.free⟩
theorem RowG.drew {k : IntKind} {w : World} {g n : Nat} {val : Nat → Int} (h : RowG k w g n val) : RowG k w.drew g n val := ⟨h.cell, h.free⟩
theorem RowG.below {k : IntKind} {w w1 : World} {g n : Nat} {val : Nat → Int} (h : RowG k w g n val) (hg : g < w.heap.size) (hb : Below w.heap.size w w1) : RowG k w1 g n val :=
  ⟨fun j hj => (hb.cell (p := ⟨g, j, none⟩) hg).trans (h.cell j hj), fun j hj => (hb.frozen (p := ⟨g, j, none⟩) hg).trans (h.free j hj)⟩
theorem RowG.ext {k : IntKind} {w : World} {g n : Nat} {val val' : Nat → Int} (h : RowG k w g n val) (e : ∀ j, j < n → val j = val' j) : RowG k w g n val' := ⟨fun j hj => by rw [← e j hj]; exact h.cell j hj, h.free⟩
theorem RowG.other {k : IntKind} {w w1 : World} {g n : Nat} {val : Nat → Int} (h : RowG k w g n val) (e : w1.heap[g]? = w.heap[g]?) : RowG k w1 g n val :=
  ⟨fun j hj => by rw [← h.cell j hj]; simp only [World.cell?, e], fun j hj => by rw [← h.free j hj]; simp only [World.frozen?, e]⟩
/-- A whole array into a block that holds one. -/
theorem store_rowAll {P : Program} {ops : Array Oper} {rest : List Oper} {o : Oper} {a : Act} {Q : Exit → Act → World → Prop} {W : World} (hgd : o.guard = none) (t : TypeId) (x y : Operand) (ho : o.op = .store t x y) (hN : o.dst = none) (g : Nat)
    (hx : a.eval x = .pointer (some ⟨g, 0, none⟩)) (c c' : Array Value) (hy : a.eval y = .agg c') (t' : TypeId) (hg : W.heap[g]? = some (.cells c t' (0, 0))) (hi : (P.info? t).map (·.size) = some c'.size) (hs : c.size = c'.size) (h1 : c'.all (·.oneCell') = true)
    (h : ∀ w1, w1.heap[g]? = some (.cells c' t' (0, 0)) → (∀ q, q ≠ g → w1.heap[q]? = W.heap[q]?) → Below g W w1 → wpList P ops Q rest a w1) : wpList P ops Q (o :: rest) a W := by
  have hrun : (Instr.storeAt t (.pointer (some ⟨g, 0, none⟩)) (.agg c')).run P W = .ok () (W.setRow g c') := by
    simp only [Instr.storeAt, Instr.sureAddr, Sem.run_bind, Sem.run_pure, Result.andThen_ok]
    exact run_storeVar_row W g t' t c c' hg hi hs h1
  refine wpList_plain hgd fun K hK => ?_
  unfold Oper.wp execOp
  simp only [ho, hx, hy, Sem.run_bind, Sem.run_pure, Result.andThen_ok, hrun]
  show K (a.put o.dst undef) _
  rw [hN]
  exact hK a _ (h _ (setRow_heap W g c c' t' (0, 0) hg) (fun q hq => setRow_other W g q c' hq) ⟨rfl, rfl, rfl, by simp [size_setRow], fun k hk => setRow_other W g k c' (Nat.ne_of_lt hk)⟩)
def rotr (x : Int) (n : Int) : Int := Go.bits .or .u32 (shr .u32 x n) (shl .u32 x (32 - n))
def sg0 (x : Int) : Int := Go.bits .xor .u32 (Go.bits .xor .u32 (rotr x 7) (rotr x 18)) (x / 8)
def sg1 (x : Int) : Int := Go.bits .xor .u32 (Go.bits .xor .u32 (rotr x 17) (rotr x 19)) (x / 1024)
def ep0 (x : Int) : Int := Go.bits .xor .u32 (Go.bits .xor .u32 (rotr x 2) (rotr x 13)) (rotr x 22)
def ep1 (x : Int) : Int := Go.bits .xor .u32 (Go.bits .xor .u32 (rotr x 6) (rotr x 11)) (rotr x 25)
def chs (e f g : Int) : Int := Go.bits .xor .u32 (Go.bits .and .u32 e f) (Go.bits .and .u32 (Go.bits .xor .u32 e 4294967295) g)
def maj (a b c : Int) : Int := Go.bits .xor .u32 (Go.bits .xor .u32 (Go.bits .and .u32 a b) (Go.bits .and .u32 a c)) (Go.bits .and .u32 b c)
/-- The four bytes from 4 * i on, as one number. -/
def beW (s : ByteArray) (i : Nat) : Int := ((Lib.beNat [s.data.toList.getD (4 * i) 0, s.data.toList.getD (4 * i + 1) 0, s.data.toList.getD (4 * i + 2) 0, s.data.toList.getD (4 * i + 3) 0] : Nat) : Int)
def nextW (W : List Int) (i : Nat) : Int := IntKind.u32.wrap (IntKind.u32.wrap (IntKind.u32.wrap (W.getD (i - 16) 0 + sg0 (W.getD (i - 15) 0)) + W.getD (i - 7) 0) + sg1 (W.getD (i - 2) 0))
/-- The words of a block, the first i of them. -/
def sched (s : ByteArray) : Nat → List Int
  | 0 => List.replicate 64 0
  | i + 1 => (sched s i).set i (if i < 16 then beW s i else nextW (sched s i) i)
theorem sched_len (s : ByteArray) : ∀ i, (sched s i).length = 64
  | 0 => by simp [sched]
  | i + 1 => by unfold sched; rw [List.length_set]; exact sched_len s i
/-- One round. -/
def step8 (k wd : Int) (s : List Int) : List Int :=
  let t1 := IntKind.u32.wrap (IntKind.u32.wrap (IntKind.u32.wrap (IntKind.u32.wrap (s.getD 7 0 + ep1 (s.getD 4 0)) + chs (s.getD 4 0) (s.getD 5 0) (s.getD 6 0)) + k) + wd)
  let t2 := IntKind.u32.wrap (ep0 (s.getD 0 0) + maj (s.getD 0 0) (s.getD 1 0) (s.getD 2 0))
  [IntKind.u32.wrap (t1 + t2), s.getD 0 0, s.getD 1 0, s.getD 2 0, IntKind.u32.wrap (s.getD 3 0 + t1), s.getD 4 0, s.getD 5 0, s.getD 6 0]
def rounds8 (K W s : List Int) : Nat → List Int
  | 0 => s
  | i + 1 => step8 (K.getD i 0) (W.getD i 0) (rounds8 K W s i)
theorem rounds8_len (K W s : List Int) (h : s.length = 8) : ∀ i, (rounds8 K W s i).length = 8
  | 0 => h
  | _ + 1 => rfl
def shaK : List Int := [1116352408, 1899447441, 3049323471, 3921009573, 961987163, 1508970993, 2453635748, 2870763221, 3624381080, 310598401, 607225278, 1426881987, 1925078388, 2162078206, 2614888103, 3248222580, 3835390401, 4022224774, 264347078, 604807628, 770255983, 1249150122, 1555081692, 1996064986, 2554220882, 2821834349, 2952996808, 3210313671, 3336571891, 3584528711, 113926993, 338241895, 666307205, 773529912, 1294757372, 1396182291, 1695183700, 1986661051, 2177026350, 2456956037, 2730485921, 2820302411, 3259730800, 3345764771, 3516065817, 3600352804, 4094571909, 275423344, 430227734, 506948616, 659060556, 883997877, 958139571, 1322822218, 1537002063, 1747873779, 1955562222, 2024104815, 2227730452, 2361852424, 2428436474, 2756734187, 3204031479, 3329325298]
/-- The state behind a block. -/
def shaOut (l : List Int) (s : ByteArray) : List Int := (List.range 8).map fun i => IntKind.u32.wrap (IntKind.u32.wrap (l.getD i 0) + (rounds8 shaK (sched s 64) (l.map IntKind.u32.wrap) 64).getD i 0)
def shaF (l : List Int) (s : ByteArray) : List Int := if l.length = 8 ∧ s.size = 64 ∧ (∀ x ∈ l, 0 ≤ x ∧ x ≤ 4294967295) then shaOut l s else l
def isConst : Operand → Bool
  | .const _ => true
  | _ => false
def constOf : Operand → Value
  | .const v => v
  | _ => undef
/-- A literal of constants. -/
theorem build_wp {P : Program} {ops : Array Oper} {rest : List Oper} {o : Oper} {a : Act} {w : World} {Q : Exit → Act → World → Prop} (hg : o.guard = none) (t : TypeId) (parts : Array (Nat × Operand)) (ho : o.op = .build t parts)
    (cells : Array Value) (hc : parts.all (fun p => isConst p.2) = true) (hb : P.built t (parts.map fun p => (p.1, constOf p.2)).toList = some cells) (h : wpList P ops Q rest (a.put o.dst (.agg cells)) w) : wpList P ops Q (o :: rest) a w := by
  have e : (parts.map fun p => (p.1, a.eval p.2)) = parts.map fun p => (p.1, constOf p.2) := by
    apply Array.map_congr_left
    intro p hp
    have := Array.all_eq_true'.1 hc p hp
    obtain ⟨i, x⟩ := p
    cases x <;> first | rfl | (simp [isConst] at this)
  have hb2 : P.built t (parts.map fun (i, x) => (i, a.eval x)).toList = some cells := by rw [← hb, ← e]
  refine wpList_build hg t parts ho (by rw [hb2]; rfl) ?_
  rw [hb2]
  exact h
theorem mod_sum0 (h E C k w A M : Int) : (h + E + C + k + w + (A + M)) % 4294967296 = (((((h + E) % 4294967296 + C) % 4294967296 + k) % 4294967296 + w) % 4294967296 + (A + M) % 4294967296) % 4294967296 := by omega
theorem mod_sum4 (h E C k w d : Int) : (d + (h + E + C + k + w)) % 4294967296 = (d + ((((h + E) % 4294967296 + C) % 4294967296 + k) % 4294967296 + w) % 4294967296) % 4294967296 := by omega
theorem step8_cells (kx wx a b c d e f g h x0 x4 : Int)
    (h0 : x0 = IntKind.u32.wrap (IntKind.u32.wrap (IntKind.u32.wrap (IntKind.u32.wrap (IntKind.u32.wrap (h + ep1 e) + chs e f g) + kx) + wx) + IntKind.u32.wrap (ep0 a + maj a b c)))
    (h4 : x4 = IntKind.u32.wrap (d + IntKind.u32.wrap (IntKind.u32.wrap (IntKind.u32.wrap (IntKind.u32.wrap (h + ep1 e) + chs e f g) + kx) + wx))) :
    (#[.int .u32 x0, .int .u32 a, .int .u32 b, .int .u32 c, .int .u32 x4, .int .u32 e, .int .u32 f, .int .u32 g] : Array Value) = (nums .u32 (step8 kx wx [a, b, c, d, e, f, g, h])).toArray := by
  subst h0
  subst h4
  rfl
theorem st_set (H : List Int) (hH : H.length = 8) (i : Nat) (hi : i < 8) : (H.take i ++ List.replicate (8 - i) 0).set i (H.getD i 0) = H.take (i + 1) ++ List.replicate (8 - (i + 1)) 0 := by
  match H, hH with
  | [_, _, _, _, _, _, _, _], _ =>
    match i, hi with
    | 0, _ | 1, _ | 2, _ | 3, _ | 4, _ | 5, _ | 6, _ | 7, _ => rfl
theorem turn_rotr (x : Int) (n : Int) (h : n ∈ ([2, 6, 7, 11, 13, 17, 18, 19, 22, 25] : List Int)) : spec_l02Turn.f x n = some (rotr x n) := by
  have key : IntKind.u64.wrap (32 - n) = 32 - n ∧ 0 ≤ 32 - n ∧ 0 ≤ n := by
    simp only [List.mem_cons, List.not_mem_nil, or_false] at h
    rcases h with rfl | rfl | rfl | rfl | rfl | rfl | rfl | rfl | rfl | rfl <;> decide +kernel
  obtain ⟨k1, k2, k3⟩ := key
  unfold spec_l02Turn.f
  rw [if_pos k3, k1, if_pos k2]
  rfl
set_option maxHeartbeats 4000000 in
set_option maxRecDepth 100000 in
theorem keysK_calls (w : World) :
    Calls Try.prog 36 #[] w fun e w' => e = .returned (.agg (nums .u32 shaK).toArray) ∧ Below w.heap.size w w' := by
  obtain ⟨W, hW⟩ : ∃ W, W = shaK := ⟨_, rfl⟩
  have hl : W.length = 64 := by rw [hW]; rfl
  rw [← hW]
  have HW := Aside0.mk hW
  clear hW
  obtain ⟨hz58, hs58⟩ := zero_of_info (P := Try.prog) (t := 58) (v := .agg (List.replicate 64 (Value.int .u32 0)).toArray) (n := 64) (by kernel_rfl)
  generalize hZ5 : (List.replicate 64 (Value.int .u32 0)).toArray = Z5 at hz58
  have HZ5 := Aside0.mk hZ5
  have HS5 := Aside0.mk hs58
  have HL := Aside0.mk hl
  clear hZ5 hs58 hl
  go_enter Try.func36, Try.ntmps36
  have HB := Aside0.mk (Below.refl w.heap.size w)
  go_upto_region 1 with (first | ((with_reducible refine gate_dst (N := 0) rfl ?_); refine box_event ?hg (N := 0) ?hd (cs := Z5) (t := 58) ?hr ?_; (case hd => rfl); (case hg => rfl); (case hr => first | (go_simp; done) | (go_simp; rfl)); intro g2 hg w3 hbox hb; have G2 := Aside0.mk (show w.heap.size ≤ g2 by rw [hg]; exact below_size HB.out); have n0_ := Aside0.mk (below_step HB.out hb); clear HB; have HB := n0_; have B2 := Aside0.mk hbox; clear n0_ hb hbox hg))
  have hfin : (nums .u32 W).toArray.size = 64 := by simp [nums, HL.out]
  have HFN := Aside0.mk hfin
  clear hfin
  go_wp2_with (first | ((with_reducible refine gate_dst (N := 1) rfl ?_); refine build_wp rfl 58 _ rfl (nums .u32 W).toArray (by kernel_rfl) (by rw [HW.out]; kernel_rfl) ?_) | ((with_reducible refine gate_store (t := 58) (p := 0) rfl ?_); refine store_rowAll rfl 58 _ _ rfl rfl g2 rfl Z5 (nums .u32 W).toArray rfl 58 B2.out (by rw [HS5.out, HFN.out]) (by rw [← HZ5.out, HFN.out]; simp) (by simp [nums, Value.oneCell']) ?_; intro w9 hw ho hb; have n0_ := Aside0.mk (HB.out.trans (hb.mono G2.out)); clear HB B2; have HB := n0_; have B2 := Aside0.mk hw; clear n0_ hw ho hb))
  refine bodyPost_ret (results_cell_row rfl _ _ g2 58 _ (0, 0) _ rfl B2.out Try.underlying58 rfl (by rw [HS5.out, HFN.out])) rfl ?_
  exact ⟨rfl, HB.out⟩
theorem quiet_T {f : FuncId} {args : Array Value} {w : World} {n : Nat} {v : Value} (h : Calls Try.prog f args (w.drewN n) fun e w' => e = .returned v ∧ Drawn0 (w.drewN n) w') : Calls Try.prog f args (w.drewN n) fun e w'' => e = .returned v ∧ ∃ m, w'' = w.drewN m :=
  Calls.quiet_of (h.mono fun _ _ ⟨he, ⟨m, hm⟩⟩ => ⟨he, m, hm⟩)
theorem quiet_T2 {f : FuncId} {args : Array Value} {w : World} {a n : Nat} {v : Value} (h : Calls Try.prog f args (w.drewN (a + n)) fun e w' => e = .returned v ∧ Drawn0 (w.drewN (a + n)) w') : Calls Try.prog f args (w.drewN (a + n)) fun e w'' => e = .returned v ∧ ∃ m, w'' = w.drewN (a + m) :=
  h.mono fun e w' ⟨he, ⟨k, hk⟩⟩ => ⟨he, n + k, by rw [hk]; simp [World.drewN, Nat.add_assoc]⟩
theorem or_comm32 (x y : Int) : Go.bits .or .u32 x y = Go.bits .or .u32 y x := by
  unfold Go.bits
  simp only [BitVec.or_comm]
theorem be_or (b0 b1 b2 b3 : Nat) (h0 : b0 < 256) (h1 : b1 < 256) (h2 : b2 < 256) (h3 : b3 < 256) :
    Go.bits .or .u32 (Go.bits .or .u32 (Go.bits .or .u32 (IntKind.u32.wrap (IntKind.u32.wrap (b0 : Int) * 16777216)) (IntKind.u32.wrap (IntKind.u32.wrap (b1 : Int) * 65536))) (IntKind.u32.wrap (IntKind.u32.wrap (b2 : Int) * 256))) (IntKind.u32.wrap (b3 : Int)) = (b3 : Int) + (b2 : Int) * 256 + (b1 : Int) * 65536 + (b0 : Int) * 16777216 := by
  have w : ∀ z : Int, 0 ≤ z → z < 4294967296 → IntKind.u32.wrap z = z := fun z h1 h2 => by
    show z % 4294967296 = z
    omega
  rw [w (b0 : Int) (by omega) (by omega), w (b1 : Int) (by omega) (by omega), w (b2 : Int) (by omega) (by omega), w (b3 : Int) (by omega) (by omega), w ((b0 : Int) * 16777216) (by omega) (by omega), w ((b1 : Int) * 65536) (by omega) (by omega), w ((b2 : Int) * 256) (by omega) (by omega)]
  have e1 : Go.bits .or .u32 ((b1 : Int) * 65536) ((b0 : Int) * 16777216) = (b1 : Int) * 65536 + (b0 : Int) * 16777216 := u32_or24 _ _ (by omega) (by omega) (by omega) (by omega) (by omega)
  have e2 : Go.bits .or .u32 ((b2 : Int) * 256) ((b1 : Int) * 65536 + (b0 : Int) * 16777216) = (b2 : Int) * 256 + ((b1 : Int) * 65536 + (b0 : Int) * 16777216) := u32_or16 _ _ (by omega) (by omega) (by omega) (by omega) (by omega)
  have e3 : Go.bits .or .u32 (b3 : Int) ((b2 : Int) * 256 + ((b1 : Int) * 65536 + (b0 : Int) * 16777216)) = (b3 : Int) + ((b2 : Int) * 256 + ((b1 : Int) * 65536 + (b0 : Int) * 16777216)) := u32_or8 _ _ (by omega) (by omega) (by omega) (by omega) (by omega)
  rw [or_comm32 ((b0 : Int) * 16777216), e1, or_comm32 _ ((b2 : Int) * 256), e2, or_comm32 _ (b3 : Int), e3]
  omega
set_option maxRecDepth 100000 in
theorem beW_at (s : ByteArray) (i : Nat) (h0 : 4 * i < s.size) (h1 : 4 * i + 1 < s.size) (h2 : 4 * i + 2 < s.size) (h3 : 4 * i + 3 < s.size) :
    beW s i = ((s[4 * i + 3]'h3).toNat : Int) + ((s[4 * i + 2]'h2).toNat : Int) * 256 + ((s[4 * i + 1]'h1).toNat : Int) * 65536 + ((s[4 * i]'h0).toNat : Int) * 16777216 := by
  have e : ∀ j (h : j < s.size), s.data.toList.getD j 0 = s[j]'h := by
    intro j h
    have h_ : j < s.data.toList.length := by rw [data_length]; exact h
    rw [List.getD_eq_getElem?_getD, List.getElem?_eq_getElem h_]
    rfl
  unfold beW
  rw [e _ h0, e _ h1, e _ h2, e _ h3]
  generalize s[4 * i]'h0 = c0
  generalize s[4 * i + 1]'h1 = c1
  generalize s[4 * i + 2]'h2 = c2
  generalize s[4 * i + 3]'h3 = c3
  have l0 := c0.toNat_lt
  have l1 := c1.toNat_lt
  have l2 := c2.toNat_lt
  have l3 := c3.toNat_lt
  simp only [Lib.beNat, Lib.beFrom]
  push_cast
  omega
theorem step8_put (kx wx a b c d e f g h x0 x4 : Int)
    (h0 : x0 = IntKind.u32.wrap (IntKind.u32.wrap (IntKind.u32.wrap (IntKind.u32.wrap (IntKind.u32.wrap (h + ep1 e) + chs e f g) + kx) + wx) + IntKind.u32.wrap (ep0 a + maj a b c)))
    (h4 : x4 = IntKind.u32.wrap (d + IntKind.u32.wrap (IntKind.u32.wrap (IntKind.u32.wrap (IntKind.u32.wrap (h + ep1 e) + chs e f g) + kx) + wx))) :
    ((((((((nums .u32 [a, b, c, d, e, f, g, h]).toArray.setIfInBounds 7 (.int .u32 g)).setIfInBounds 6 (.int .u32 f)).setIfInBounds 5 (.int .u32 e)).setIfInBounds 4 (.int .u32 x4)).setIfInBounds 3 (.int .u32 c)).setIfInBounds 2 (.int .u32 b)).setIfInBounds 1 (.int .u32 a)).setIfInBounds 0 (.int .u32 x0) = (nums .u32 (step8 kx wx [a, b, c, d, e, f, g, h])).toArray := by
  rw [← step8_cells kx wx a b c d e f g h x0 x4 h0 h4]
  simp only [nums, List.map_cons, List.map_nil, List.setIfInBounds_toArray, List.set_cons_succ, List.set_cons_zero]
def sumUp (H R : List Int) (i : Nat) : List Int := (List.range 8).map fun j => if j < i then IntKind.u32.wrap (H.getD j 0 + R.getD j 0) else H.getD j 0
theorem sumUp_zero (H R : List Int) (h : H.length = 8) : sumUp H R 0 = H := by
  match H, h with
  | [_, _, _, _, _, _, _, _], _ => rfl
theorem sumUp_set (H R : List Int) (i : Nat) (hi : i < 8) : (sumUp H R i).set i (IntKind.u32.wrap (H.getD i 0 + R.getD i 0)) = sumUp H R (i + 1) := by
  match i, hi with
  | 0, _ | 1, _ | 2, _ | 3, _ | 4, _ | 5, _ | 6, _ | 7, _ => rfl
theorem sumUp_at (H R : List Int) (i : Nat) (hi : i < 8) : (nums .u32 (sumUp H R i)).toArray[i]? = some (.int .u32 (H.getD i 0)) := by
  match i, hi with
  | 0, _ | 1, _ | 2, _ | 3, _ | 4, _ | 5, _ | 6, _ | 7, _ => rfl
theorem sumUp_all (H R : List Int) : sumUp H R 8 = (List.range 8).map fun i => IntKind.u32.wrap (H.getD i 0 + R.getD i 0) := rfl
theorem sumUp_len (H R : List Int) (i : Nat) : (sumUp H R i).length = 8 := by simp [sumUp]
set_option maxHeartbeats 4000000 in
set_option maxRecDepth 100000 in
theorem block_calls (Hs : List Int) (s : ByteArray) (w : World) (h8 : Hs.length = 8) (h64 : s.size = 64) :
    Calls Try.prog 35 #[.agg (nums .u32 Hs).toArray, .string s, .agg (nums .u32 shaK).toArray] w fun e w' => e = .returned (.agg (nums .u32 ((List.range 8).map fun i => IntKind.u32.wrap (Hs.getD i 0 + (rounds8 shaK (sched s 64) Hs 64).getD i 0))).toArray) ∧ Below w.heap.size w w' := by
  obtain ⟨O, hO⟩ : ∃ O, O = ((List.range 8).map fun i => IntKind.u32.wrap (Hs.getD i 0 + (rounds8 shaK (sched s 64) Hs 64).getD i 0)) := ⟨_, rfl⟩
  rw [← hO]
  have hKl : shaK.length = 64 := rfl
  generalize shaK = Ks at hKl hO ⊢
  obtain ⟨Ws, hWs⟩ : ∃ Ws, Ws = sched s 64 := ⟨_, rfl⟩
  rw [← hWs] at hO
  have HW := Aside0.mk hWs
  have HO := Aside0.mk hO
  have HKL := Aside0.mk hKl
  have HHL := Aside0.mk h8
  have H64 := Aside0.mk h64
  have HWL : Aside0 (Ws.length = 64) := ⟨by rw [hWs]; exact sched_len s 64⟩
  obtain ⟨H, hH⟩ : ∃ H, H = (nums .u32 Hs).toArray := ⟨_, rfl⟩
  obtain ⟨K, hK⟩ : ∃ K, K = (nums .u32 Ks).toArray := ⟨_, rfl⟩
  rw [← hH, ← hK]
  have HH := Aside0.mk hH
  have HK := Aside0.mk hK
  obtain ⟨hz55, hs55⟩ := zero_of_info (P := Try.prog) (t := 55) (v := .agg (List.replicate 8 (Value.int .u32 0)).toArray) (n := 8) (by kernel_rfl)
  obtain ⟨hz58, hs58⟩ := zero_of_info (P := Try.prog) (t := 58) (v := .agg (List.replicate 64 (Value.int .u32 0)).toArray) (n := 64) (by kernel_rfl)
  generalize hZ5 : (List.replicate 64 (Value.int .u32 0)).toArray = Z5 at hz58
  generalize hZ8 : (List.replicate 8 (Value.int .u32 0)).toArray = Z8 at hz55
  have HZ5 := Aside0.mk hZ5
  have HZ8 := Aside0.mk hZ8
  have HS5 := Aside0.mk hs58
  have HS8 := Aside0.mk hs55
  have HB := Aside0.mk (Below.refl w.heap.size w)
  clear hO hWs hKl h8 h64 hZ5 hZ8 hs58 hs55 hH hK
  go_enter Try.func35, Try.ntmps35
  go_upto_region 2 with (first | ((with_reducible refine gate_dst (N := 3) rfl ?_); refine box_event ?hg (N := 3) ?hd (cs := H) (t := 55) ?hr ?_; (case hd => rfl); (case hg => rfl); (case hr => first | (go_simp; done) | (go_simp; rfl)); intro g3 hg w1 hbox hb; have G3 := Aside0.mk (show w.heap.size ≤ g3 by rw [hg]; exact below_size HB.out); have n0_ := Aside0.mk (below_step HB.out hb); clear HB; have HB := n0_; clear n0_; have B3 := Aside0.mk hbox; clear hb hbox hg) | ((with_reducible refine gate_dst (N := 5) rfl ?_); refine box_event ?hg (N := 5) ?hd (cs := K) (t := 58) ?hr ?_; (case hd => rfl); (case hg => rfl); (case hr => first | (go_simp; done) | (go_simp; rfl)); intro g5 hg w1 hbox hb; have G5 := Aside0.mk (show w.heap.size ≤ g5 by rw [hg]; exact below_size HB.out); have N3_5 := Aside0.mk (show g3 ≠ g5 by rw [hg]; exact Nat.ne_of_lt (blk_lt B3.out)); have n0_ := Aside0.mk (below_step HB.out hb); have n1_ := Aside0.mk (blk_below B3.out hb); clear HB B3; have HB := n0_; have B3 := n1_; clear n0_ n1_; have B5 := Aside0.mk hbox; clear hb hbox hg) | ((with_reducible refine gate_dst (N := 6) rfl ?_); refine box_event ?hg (N := 6) ?hd (cs := Z8) (t := 55) ?hr ?_; (case hd => rfl); (case hg => rfl); (case hr => first | (go_simp; done) | (go_simp; rfl)); intro g6 hg w1 hbox hb; have G6 := Aside0.mk (show w.heap.size ≤ g6 by rw [hg]; exact below_size HB.out); have N3_6 := Aside0.mk (show g3 ≠ g6 by rw [hg]; exact Nat.ne_of_lt (blk_lt B3.out)); have N5_6 := Aside0.mk (show g5 ≠ g6 by rw [hg]; exact Nat.ne_of_lt (blk_lt B5.out)); have n0_ := Aside0.mk (below_step HB.out hb); have n1_ := Aside0.mk (blk_below B3.out hb); have n2_ := Aside0.mk (blk_below B5.out hb); clear HB B3 B5; have HB := n0_; have B3 := n1_; have B5 := n2_; clear n0_ n1_ n2_; have B6 := Aside0.mk hbox; clear hb hbox hg) | ((with_reducible refine gate_dst (N := 7) rfl ?_); refine box_event ?hg (N := 7) ?hd (cs := Z5) (t := 58) ?hr ?_; (case hd => rfl); (case hg => rfl); (case hr => first | (go_simp; done) | (go_simp; rfl)); intro g7 hg w1 hbox hb; have G7 := Aside0.mk (show w.heap.size ≤ g7 by rw [hg]; exact below_size HB.out); have N3_7 := Aside0.mk (show g3 ≠ g7 by rw [hg]; exact Nat.ne_of_lt (blk_lt B3.out)); have N5_7 := Aside0.mk (show g5 ≠ g7 by rw [hg]; exact Nat.ne_of_lt (blk_lt B5.out)); have N6_7 := Aside0.mk (show g6 ≠ g7 by rw [hg]; exact Nat.ne_of_lt (blk_lt B6.out)); have n0_ := Aside0.mk (below_step HB.out hb); have n1_ := Aside0.mk (blk_below B3.out hb); have n2_ := Aside0.mk (blk_below B5.out hb); have n3_ := Aside0.mk (blk_below B6.out hb); clear HB B3 B5 B6; have HB := n0_; have B3 := n1_; have B5 := n2_; have B6 := n3_; clear n0_ n1_ n2_ n3_; have B7 := Aside0.mk hbox; clear hb hbox hg) | ((with_reducible refine gate_store (t := 58) (p := 7) rfl ?_); refine store_rowAll rfl 58 _ _ rfl rfl g7 rfl Z5 Z5 rfl 58 B7.out (by rw [HS5.out, ← HZ5.out]; simp) rfl (by rw [← HZ5.out]; decide +kernel) ?_; intro w1 hw ho hb; have m_ := Aside0.mk hw; have n0_ := Aside0.mk (HB.out.trans (hb.mono G7.out)); have n1_ := Aside0.mk ((ho g3 N3_7.out).trans B3.out); have n2_ := Aside0.mk ((ho g5 N5_7.out).trans B5.out); have n3_ := Aside0.mk ((ho g6 N6_7.out).trans B6.out); clear HB B3 B5 B6; have HB := n0_; have B3 := n1_; have B5 := n2_; have B6 := n3_; clear n0_ n1_ n2_ n3_; clear B7; have B7 := m_; clear m_ hw ho hb))
  have n0_ : Aside0 (w1.heap[g3]? = some (.cells (nums .u32 Hs).toArray 55 (0, 0))) := ⟨by rw [B3.out, HH.out]⟩
  have n1_ : Aside0 (w1.heap[g5]? = some (.cells (nums .u32 Ks).toArray 58 (0, 0))) := ⟨by rw [B5.out, HK.out]⟩
  have n2_ : Aside0 (w1.heap[g7]? = some (.cells (nums .u32 (sched s 0)).toArray 58 (0, 0))) := ⟨by rw [B7.out, ← HZ5.out]; simp [sched, nums]⟩
  clear B3 B5 B7
  have B3 := n0_
  have B5 := n1_
  have B7 := n2_
  clear n0_ n1_ n2_
  go_wp2
  go_loopw [8] (fun v8 wr => ∃ i : Nat, i ≤ 16 ∧ v8 = .int .i64 (i : Int) ∧ Aside0 (wr.heap[g3]? = some (.cells (nums .u32 Hs).toArray 55 (0, 0))) ∧ Aside0 (wr.heap[g5]? = some (.cells (nums .u32 Ks).toArray 58 (0, 0))) ∧ Aside0 (wr.heap[g6]? = some (.cells Z8 55 (0, 0))) ∧ Aside0 (wr.heap[g7]? = some (.cells (nums .u32 (sched s i)).toArray 58 (0, 0))) ∧ Aside0 (Below w.heap.size w wr)) (fun v8 _ => 16 - (intOf v8).toNat)
  case atStart => exact ⟨0, by omega, rfl, B3, B5, B6, B7, HB⟩
  case round =>
    clear B3 B5 B6 B7 HB
    obtain ⟨i, hi, rfl, B3, B5, B6, B7, HB⟩ := hrel
    by_cases hlt : i < 16
    · have hl := sched_len s i
      have h64 := H64.out
      have HI := Aside0.mk hlt
      have hsu : sched s (i + 1) = (sched s i).set i (beW s i) := by rw [sched, if_pos hlt]
      have HSU := Aside0.mk hsu
      have ci : wr.cell? ⟨g7, i, none⟩ = some (.int .u32 ((sched s i).getD i 0)) := by
        have h_ : i < (sched s i).length := by omega
        rw [blk_cell B7.out i]
        simp [nums, List.getD_eq_getElem?_getD, List.getElem?_eq_getElem h_]
      have fi := blk_frozen B7.out i
      generalize (sched s i).getD i 0 = y at ci
      have f0 : IntKind.i64.wrap (4 * (i : Int)) = ((4 * i : Nat) : Int) := by rw [IntWalk.i64_in _ (by omega)]; omega
      obtain ⟨p0, hp0⟩ : ∃ p0 : Nat, p0 = 4 * i := ⟨_, rfl⟩
      obtain ⟨p1, hp1⟩ : ∃ p1 : Nat, p1 = 4 * i + 1 := ⟨_, rfl⟩
      obtain ⟨p2, hp2⟩ : ∃ p2 : Nat, p2 = 4 * i + 2 := ⟨_, rfl⟩
      obtain ⟨p3, hp3⟩ : ∃ p3 : Nat, p3 = 4 * i + 3 := ⟨_, rfl⟩
      have k0 : IntKind.i64.wrap (4 * (i : Int)) = (p0 : Int) := by rw [IntWalk.i64_in _ (by omega)]; omega
      have k1 : IntKind.i64.wrap ((p0 : Int) + 1) = (p1 : Int) := by rw [IntWalk.i64_in _ (by omega)]; omega
      have k2 : IntKind.i64.wrap ((p0 : Int) + 2) = (p2 : Int) := by rw [IntWalk.i64_in _ (by omega)]; omega
      have k3 : IntKind.i64.wrap ((p0 : Int) + 3) = (p3 : Int) := by rw [IntWalk.i64_in _ (by omega)]; omega
      have l0 : p0 < s.size := by omega
      have l1 : p1 < s.size := by omega
      have l2 : p2 < s.size := by omega
      have l3 : p3 < s.size := by omega
      have m0 : (p0 : Int) < (s.size : Int) := by omega
      have m1 : (p1 : Int) < (s.size : Int) := by omega
      have m2 : (p2 : Int) < (s.size : Int) := by omega
      have m3 : (p3 : Int) < (s.size : Int) := by omega
      have b16 : ((i : Int) < 16) = True := eq_true (by omega)
      have n64 : i < 64 := by omega
      have b64 : (i : Int) < 64 := by omega
      have HP := Aside0.mk (And.intro hp0 (And.intro hp1 (And.intro hp2 hp3)))
      have B3' := Aside0.mk (fun (v : Value) => (Below.heap_setCell wr ⟨g7, i, none⟩ v g3 N3_7.out).trans B3.out)
      have B5' := Aside0.mk (fun (v : Value) => (Below.heap_setCell wr ⟨g7, i, none⟩ v g5 N5_7.out).trans B5.out)
      have B6' := Aside0.mk (fun (v : Value) => (Below.heap_setCell wr ⟨g7, i, none⟩ v g6 N6_7.out).trans B6.out)
      clear hsu hl h64 hlt hi f0 hp0 hp1 hp2 hp3
      go_upto_region 5 with fail
      go_still_tail 31, (by kernel_rfl)
      change wpList _ _ _ _ _ wr.drew
      go_wp2
      refine ⟨⟨i + 1, HI.out, by go_num, ⟨B3'.out _⟩, ⟨B5'.out _⟩, ⟨B6'.out _⟩, ⟨?_⟩, ⟨below_drew1 (below_set HB.out G7.out)⟩⟩, by simp [intOf]; have := HI.out; omega⟩
      obtain ⟨rfl, rfl, rfl, rfl⟩ := HP.out
      rw [HSU.out, beW_at s i l0 l1 l2 l3, ← be_or _ _ _ _ (s[4 * i]'l0).toNat_lt (s[4 * i + 1]'l1).toNat_lt (s[4 * i + 2]'l2).toNat_lt (s[4 * i + 3]'l3).toNat_lt]
      exact blk_put B7.out i _ (by rw [List.setIfInBounds_toArray, nums, nums, List.map_set]; rfl)
    · obtain rfl : i = 16 := by omega
      clear hlt hi
      rw [show (((16 : Nat) : Int)) = (16 : Int) from rfl]
      go_wp2
      go_loopw [9] (fun v9 wr => ∃ i : Nat, 16 ≤ i ∧ i ≤ 64 ∧ v9 = .int .i64 (i : Int) ∧ Aside0 (wr.heap[g3]? = some (.cells (nums .u32 Hs).toArray 55 (0, 0))) ∧ Aside0 (wr.heap[g5]? = some (.cells (nums .u32 Ks).toArray 58 (0, 0))) ∧ Aside0 (wr.heap[g6]? = some (.cells Z8 55 (0, 0))) ∧ Aside0 (wr.heap[g7]? = some (.cells (nums .u32 (sched s i)).toArray 58 (0, 0))) ∧ Aside0 (Below w.heap.size w wr)) (fun v9 _ => 64 - (intOf v9).toNat)
      case atStart => exact ⟨16, by omega, by omega, rfl, B3, B5, B6, B7, HB⟩
      case round =>
        clear B3 B5 B6 B7 HB
        obtain ⟨i, hi0, hi, rfl, B3, B5, B6, B7, HB⟩ := hrel
        by_cases hlt : i < 64
        · have hl := sched_len s i
          have HI := Aside0.mk hlt
          have HI0 := Aside0.mk hi0
          have hat : ∀ j, j < 64 → wr.cell? ⟨g7, j, none⟩ = some (.int .u32 ((sched s i).getD j 0)) := by
            intro j hj
            rw [blk_cell B7.out j]
            simp [nums, List.getD_eq_getElem?_getD, hl, hj]
          have hsu : sched s (i + 1) = (sched s i).set i (nextW (sched s i) i) := by rw [sched, if_neg (by omega)]
          have HSU := Aside0.mk hsu
          obtain ⟨p15, hp15⟩ : ∃ p : Nat, p = i - 15 := ⟨_, rfl⟩
          obtain ⟨p2, hp2⟩ : ∃ p : Nat, p = i - 2 := ⟨_, rfl⟩
          obtain ⟨p16, hp16⟩ : ∃ p : Nat, p = i - 16 := ⟨_, rfl⟩
          obtain ⟨p7, hp7⟩ : ∃ p : Nat, p = i - 7 := ⟨_, rfl⟩
          have c15 := hat p15 (by omega)
          have c2 := hat p2 (by omega)
          have c16 := hat p16 (by omega)
          have c7 := hat p7 (by omega)
          have ci := hat i hlt
          have fi := blk_frozen B7.out i
          obtain ⟨x15, hx15⟩ : ∃ x, x = (sched s i).getD p15 0 := ⟨_, rfl⟩
          obtain ⟨x2, hx2⟩ : ∃ x, x = (sched s i).getD p2 0 := ⟨_, rfl⟩
          obtain ⟨x16, hx16⟩ : ∃ x, x = (sched s i).getD p16 0 := ⟨_, rfl⟩
          obtain ⟨x7, hx7⟩ : ∃ x, x = (sched s i).getD p7 0 := ⟨_, rfl⟩
          have hnw : nextW (sched s i) i = IntKind.u32.wrap (IntKind.u32.wrap (IntKind.u32.wrap (x16 + sg0 x15) + x7) + sg1 x2) := by
            unfold nextW
            rw [← hp15, ← hp2, ← hp16, ← hp7, ← hx15, ← hx2, ← hx16, ← hx7]
          have HNW := Aside0.mk hnw
          rw [← hx15] at c15
          rw [← hx2] at c2
          rw [← hx16] at c16
          rw [← hx7] at c7
          generalize (sched s i).getD i 0 = y at ci
          have m15 : IntKind.i64.wrap ((i : Int) - 15) = (p15 : Int) := by rw [IntWalk.i64_in _ (by omega)]; omega
          have m2 : IntKind.i64.wrap ((i : Int) - 2) = (p2 : Int) := by rw [IntWalk.i64_in _ (by omega)]; omega
          have m16 : IntKind.i64.wrap ((i : Int) - 16) = (p16 : Int) := by rw [IntWalk.i64_in _ (by omega)]; omega
          have m7 : IntKind.i64.wrap ((i : Int) - 7) = (p7 : Int) := by rw [IntWalk.i64_in _ (by omega)]; omega
          have n15 : p15 < 64 := by omega
          have n2 : p2 < 64 := by omega
          have n16 : p16 < 64 := by omega
          have n7 : p7 < 64 := by omega
          have ni : i < 64 := hlt
          have o15 : (p15 : Int) < 64 := by omega
          have o2 : (p2 : Int) < 64 := by omega
          have o16 : (p16 : Int) < 64 := by omega
          have o7 : (p7 : Int) < 64 := by omega
          have oi : (i : Int) < 64 := by omega
          have b64 : ((i : Int) < 64) = True := eq_true (by omega)
          clear hsu hp15 hp2 hp16 hp7 hx15 hx2 hx16 hx7 hnw hat hl hlt hi hi0
          go_upto_region 9 with fail
          go_quiet ((first | (go_at_call 45; with_reducible exact quiet_T (spec_l02Turn.calls x15 7 (rotr x15 7) _ (turn_rotr x15 7 (by decide)))) | (go_at_call 45; with_reducible exact quiet_T (spec_l02Turn.calls x15 18 (rotr x15 18) _ (turn_rotr x15 18 (by decide))))))
          go_upto_region 10 with fail
          go_quiet ((first | (go_at_call 45; with_reducible exact quiet_T2 (spec_l02Turn.calls x2 17 (rotr x2 17) _ (turn_rotr x2 17 (by decide)))) | (go_at_call 45; with_reducible exact quiet_T2 (spec_l02Turn.calls x2 19 (rotr x2 19) _ (turn_rotr x2 19 (by decide))))))
          go_upto_region 11 with fail
          go_region_law (fail)
          all_goals go_wp2
          all_goals (
            refine ⟨⟨i + 1, by have := HI0.out; omega, HI.out, by go_num, ⟨(Below.heap_setCell _ ⟨g7, i, none⟩ _ g3 N3_7.out).trans (blk_drewN B3.out _)⟩, ⟨(Below.heap_setCell _ ⟨g7, i, none⟩ _ g5 N5_7.out).trans (blk_drewN B5.out _)⟩, ⟨(Below.heap_setCell _ ⟨g7, i, none⟩ _ g6 N6_7.out).trans (blk_drewN B6.out _)⟩, ⟨?_⟩, ⟨below_set (pw_below_drewN HB.out _) G7.out⟩⟩, by simp [intOf]; have := HI.out; omega⟩
            rw [HSU.out, HNW.out]
            exact blk_put (blk_drewN B7.out _) i _ (by rw [List.setIfInBounds_toArray, nums, nums, List.map_set]; rfl))
        · obtain rfl : i = 64 := by omega
          have n0_ : Aside0 (wr.heap[g7]? = some (.cells (nums .u32 Ws).toArray 58 (0, 0))) := ⟨by rw [HW.out]; exact B7.out⟩
          clear B7 hlt hi hi0
          have B7 := n0_
          clear n0_
          rw [show (((64 : Nat) : Int)) = (64 : Int) from rfl]
          go_upto_region 13 with (first | ((with_reducible refine gate_dst (N := 110) rfl ?_); refine wpList_load_row rfl 55 _ rfl g3 rfl 55 _ (0, 0) _ B3.out Try.underlying55 rfl (by rw [HS8.out]; simp [nums, HHL.out]) ?_) | ((with_reducible refine gate_dst (N := 12) rfl ?_); refine box_event ?hg (N := 12) ?hd (cs := Z8) (t := 55) ?hr ?_; (case hd => rfl); (case hg => rfl); (case hr => first | (go_simp; done) | (go_simp; rfl)); intro g12 hg w1 hbox hb; have G12 := Aside0.mk (show w.heap.size ≤ g12 by rw [hg]; exact below_size HB.out); have N3_12 := Aside0.mk (show g3 ≠ g12 by rw [hg]; exact Nat.ne_of_lt (blk_lt B3.out)); have N5_12 := Aside0.mk (show g5 ≠ g12 by rw [hg]; exact Nat.ne_of_lt (blk_lt B5.out)); have N6_12 := Aside0.mk (show g6 ≠ g12 by rw [hg]; exact Nat.ne_of_lt (blk_lt B6.out)); have N7_12 := Aside0.mk (show g7 ≠ g12 by rw [hg]; exact Nat.ne_of_lt (blk_lt B7.out)); have n0_ := Aside0.mk (below_step HB.out hb); have n1_ := Aside0.mk (blk_below B3.out hb); have n2_ := Aside0.mk (blk_below B5.out hb); have n3_ := Aside0.mk (blk_below B6.out hb); have n4_ := Aside0.mk (blk_below B7.out hb); clear HB B3 B5 B6 B7; have HB := n0_; have B3 := n1_; have B5 := n2_; have B6 := n3_; have B7 := n4_; clear n0_ n1_ n2_ n3_ n4_; have B12 := Aside0.mk hbox; clear hb hbox hg) | ((with_reducible refine gate_store (t := 55) (p := 12) rfl ?_); refine store_rowAll rfl 55 _ _ rfl rfl g12 rfl Z8 (nums .u32 Hs).toArray rfl 55 B12.out (by rw [HS8.out]; simp [nums, HHL.out]) (by rw [← HZ8.out]; simp [nums, HHL.out]) (by simp [nums, Value.oneCell']) ?_; intro w1 hw ho hb; have m_ := Aside0.mk hw; have n0_ := Aside0.mk (HB.out.trans (hb.mono G12.out)); have n1_ := Aside0.mk ((ho g3 N3_12.out).trans B3.out); have n2_ := Aside0.mk ((ho g5 N5_12.out).trans B5.out); have n3_ := Aside0.mk ((ho g6 N6_12.out).trans B6.out); have n4_ := Aside0.mk ((ho g7 N7_12.out).trans B7.out); clear HB B3 B5 B6 B7; have HB := n0_; have B3 := n1_; have B5 := n2_; have B6 := n3_; have B7 := n4_; clear n0_ n1_ n2_ n3_ n4_; clear B12; have B12 := m_; clear m_ hw ho hb))
          go_wp2
          go_loopw [13] (fun v13 wr => ∃ i : Nat, i ≤ 64 ∧ v13 = .int .i64 (i : Int) ∧ Aside0 (wr.heap[g3]? = some (.cells (nums .u32 Hs).toArray 55 (0, 0))) ∧ Aside0 (wr.heap[g5]? = some (.cells (nums .u32 Ks).toArray 58 (0, 0))) ∧ Aside0 (wr.heap[g6]? = some (.cells Z8 55 (0, 0))) ∧ Aside0 (wr.heap[g7]? = some (.cells (nums .u32 Ws).toArray 58 (0, 0))) ∧ Aside0 (wr.heap[g12]? = some (.cells (nums .u32 (rounds8 Ks Ws Hs i)).toArray 55 (0, 0))) ∧ Aside0 (Below w.heap.size w wr)) (fun v13 _ => 64 - (intOf v13).toNat)
          case atStart => exact ⟨0, by omega, rfl, B3, B5, B6, B7, B12, HB⟩
          case round =>
            clear B3 B5 B6 B7 B12 HB hz55
            obtain ⟨i, hi, rfl, B3, B5, B6, B7, B12, HB⟩ := hrel
            by_cases hlt : i < 64
            · have hsl := rounds8_len Ks Ws Hs HHL.out i
              have hsu : rounds8 Ks Ws Hs (i + 1) = step8 (Ks.getD i 0) (Ws.getD i 0) (rounds8 Ks Ws Hs i) := rfl
              generalize rounds8 Ks Ws Hs i = S at hsl hsu B12
              obtain ⟨a, b, c, d, e, f, g, h, rfl⟩ : ∃ a b c d e f g h, S = [a, b, c, d, e, f, g, h] := by
                match S, hsl with
                | [a, b, c, d, e, f, g, h], _ => exact ⟨a, b, c, d, e, f, g, h, rfl⟩
              have s0 : wr.cell? ⟨g12, 0, none⟩ = some (.int .u32 a) := (blk_cell B12.out 0).trans rfl
              have z0 := blk_frozen B12.out 0
              have s1 : wr.cell? ⟨g12, 1, none⟩ = some (.int .u32 b) := (blk_cell B12.out 1).trans rfl
              have z1 := blk_frozen B12.out 1
              have s2 : wr.cell? ⟨g12, 2, none⟩ = some (.int .u32 c) := (blk_cell B12.out 2).trans rfl
              have z2 := blk_frozen B12.out 2
              have s3 : wr.cell? ⟨g12, 3, none⟩ = some (.int .u32 d) := (blk_cell B12.out 3).trans rfl
              have z3 := blk_frozen B12.out 3
              have s4 : wr.cell? ⟨g12, 4, none⟩ = some (.int .u32 e) := (blk_cell B12.out 4).trans rfl
              have z4 := blk_frozen B12.out 4
              have s5 : wr.cell? ⟨g12, 5, none⟩ = some (.int .u32 f) := (blk_cell B12.out 5).trans rfl
              have z5 := blk_frozen B12.out 5
              have s6 : wr.cell? ⟨g12, 6, none⟩ = some (.int .u32 g) := (blk_cell B12.out 6).trans rfl
              have z6 := blk_frozen B12.out 6
              have s7 : wr.cell? ⟨g12, 7, none⟩ = some (.int .u32 h) := (blk_cell B12.out 7).trans rfl
              have z7 := blk_frozen B12.out 7
              have ck : wr.cell? ⟨g5, i, none⟩ = some (.int .u32 (Ks.getD i 0)) := by
                have h_ : i < Ks.length := by rw [HKL.out]; exact hlt
                rw [blk_cell B5.out i]
                simp [nums, List.getD_eq_getElem?_getD, List.getElem?_eq_getElem h_]
              have cw : wr.cell? ⟨g7, i, none⟩ = some (.int .u32 (Ws.getD i 0)) := by
                have h_ : i < Ws.length := by rw [HWL.out]; exact hlt
                rw [blk_cell B7.out i]
                simp [nums, List.getD_eq_getElem?_getD, List.getElem?_eq_getElem h_]
              generalize Ks.getD i 0 = kx at ck hsu
              generalize Ws.getD i 0 = wx at cw hsu
              have HSU := Aside0.mk hsu
              have HI := Aside0.mk hlt
              have b64 : ((i : Int) < 64) = True := eq_true (by omega)
              have n64 : i < 64 := hlt
              have o64 : (i : Int) < 64 := by omega
              clear hsl hsu hlt hi
              go_upto_region 16 with fail
              go_quiet ((first | (go_at_call 45; with_reducible exact quiet_T (spec_l02Turn.calls e 6 (rotr e 6) _ (turn_rotr e 6 (by decide)))) | (go_at_call 45; with_reducible exact quiet_T (spec_l02Turn.calls e 11 (rotr e 11) _ (turn_rotr e 11 (by decide)))) | (go_at_call 45; with_reducible exact quiet_T (spec_l02Turn.calls e 25 (rotr e 25) _ (turn_rotr e 25 (by decide))))))
              go_upto_region 18 with fail
              go_quiet (fail)
              go_upto_region 19 with fail
              go_quiet ((first | (go_at_call 45; with_reducible exact quiet_T2 (spec_l02Turn.calls a 2 (rotr a 2) _ (turn_rotr a 2 (by decide)))) | (go_at_call 45; with_reducible exact quiet_T2 (spec_l02Turn.calls a 13 (rotr a 13) _ (turn_rotr a 13 (by decide)))) | (go_at_call 45; with_reducible exact quiet_T2 (spec_l02Turn.calls a 22 (rotr a 22) _ (turn_rotr a 22 (by decide))))))
              go_upto_region 22 with fail
              go_upto_region 15 with fail
              clear s0 s1 s2 s3 s4 s5 s6 s7 z0 z1 z2 z3 z4 z5 z6 z7 ck cw b64 o64
              go_wp2
              refine ⟨⟨i + 1, HI.out, by go_num, ⟨?_⟩, ⟨?_⟩, ⟨?_⟩, ⟨?_⟩, ⟨?_⟩, ⟨?_⟩⟩, by simp [intOf]; have := HI.out; omega⟩
              · repeat (refine (Below.heap_setCell _ _ _ _ ?_).trans ?_; exact N3_12.out)
                exact blk_drewN B3.out _
              · repeat (refine (Below.heap_setCell _ _ _ _ ?_).trans ?_; exact N5_12.out)
                exact blk_drewN B5.out _
              · repeat (refine (Below.heap_setCell _ _ _ _ ?_).trans ?_; exact N6_12.out)
                exact blk_drewN B6.out _
              · repeat (refine (Below.heap_setCell _ _ _ _ ?_).trans ?_; exact N7_12.out)
                exact blk_drewN B7.out _
              · refine (blk_put (blk_put (blk_put (blk_put (blk_put (blk_put (blk_put (blk_put (blk_drewN B12.out _) 7 _ rfl) 6 _ rfl) 5 _ rfl) 4 _ rfl) 3 _ rfl) 2 _ rfl) 1 _ rfl) 0 _ rfl).trans ?_
                rw [HSU.out]
                have hx : ∀ z, IntKind.u32.wrap z = z % 4294967296 := fun z => rfl
                refine congrArg (fun z => some (Obj.cells z 55 (0, 0))) (step8_put kx wx a b c d e f g h _ _ ?_ ?_)
                · simp only [hx, ep0, ep1, chs, maj]
                  exact mod_sum0 _ _ _ _ _ _ _
                · simp only [hx, ep0, ep1, chs, maj]
                  exact mod_sum4 _ _ _ _ _ _
              · repeat (refine below_set ?_ G12.out)
                exact pw_below_drewN HB.out _
            · obtain rfl : i = 64 := by omega
              clear hlt hi
              have hRl := rounds8_len Ks Ws Hs HHL.out 64
              obtain ⟨R, hR⟩ : ∃ R, R = rounds8 Ks Ws Hs 64 := ⟨_, rfl⟩
              rw [← hR] at B12 hRl
              have HRL := Aside0.mk hRl
              have HO2 : Aside0 (O = sumUp Hs R 8) := ⟨by rw [HO.out, sumUp_all, hR]⟩
              have n0_ : Aside0 (wr.heap[g3]? = some (.cells (nums .u32 (sumUp Hs R 0)).toArray 55 (0, 0))) := ⟨by rw [sumUp_zero Hs R HHL.out]; exact B3.out⟩
              clear B3 B5 B7 hRl hR
              have B3 := n0_
              clear n0_
              rw [show (((64 : Nat) : Int)) = (64 : Int) from rfl]
              go_wp2
              go_loopw [20] (fun v20 wr => ∃ i : Nat, i ≤ 8 ∧ v20 = .int .i64 (i : Int) ∧ Aside0 (wr.heap[g3]? = some (.cells (nums .u32 (sumUp Hs R i)).toArray 55 (0, 0))) ∧ Aside0 (wr.heap[g6]? = some (.cells Z8 55 (0, 0))) ∧ Aside0 (wr.heap[g12]? = some (.cells (nums .u32 R).toArray 55 (0, 0))) ∧ Aside0 (Below w.heap.size w wr)) (fun v20 _ => 8 - (intOf v20).toNat)
              case atStart => exact ⟨0, by omega, rfl, B3, B6, B12, HB⟩
              case round =>
                clear B3 B6 B12 HB
                obtain ⟨i, hi, rfl, B3, B6, B12, HB⟩ := hrel
                by_cases hlt : i < 8
                · have ch : wr.cell? ⟨g3, i, none⟩ = some (.int .u32 (Hs.getD i 0)) := (blk_cell B3.out i).trans (sumUp_at Hs R i hlt)
                  have zh := blk_frozen B3.out i
                  have cr : wr.cell? ⟨g12, i, none⟩ = some (.int .u32 (R.getD i 0)) := by
                    have h_ : i < R.length := by rw [HRL.out]; exact hlt
                    rw [blk_cell B12.out i]
                    simp [nums, List.getD_eq_getElem?_getD, List.getElem?_eq_getElem h_]
                  have HSU := Aside0.mk (sumUp_set Hs R i hlt)
                  have HI := Aside0.mk hlt
                  obtain ⟨x, hx⟩ : ∃ x, x = Hs.getD i 0 := ⟨_, rfl⟩
                  obtain ⟨y, hy⟩ : ∃ y, y = R.getD i 0 := ⟨_, rfl⟩
                  rw [← hx] at ch
                  rw [← hy] at cr
                  have HXY := Aside0.mk (And.intro hx hy)
                  have b8 : ((i : Int) < 8) = True := eq_true (by omega)
                  have n8 : i < 8 := hlt
                  have o8 : (i : Int) < 8 := by omega
                  clear hlt hi hx hy
                  go_upto_region 33 with fail
                  go_still_tail 9, (by kernel_rfl)
                  change wpList _ _ _ _ _ wr.drew
                  go_wp2
                  refine ⟨⟨i + 1, HI.out, by go_num, ⟨?_⟩, ⟨(Below.heap_setCell _ ⟨g3, i, none⟩ _ g6 N3_6.out.symm).trans B6.out⟩, ⟨(Below.heap_setCell _ ⟨g3, i, none⟩ _ g12 N3_12.out.symm).trans B12.out⟩, ⟨below_drew1 (below_set HB.out G3.out)⟩⟩, by simp [intOf]; have := HI.out; omega⟩
                  rw [← HSU.out, ← HXY.out.1, ← HXY.out.2]
                  exact blk_put B3.out i _ (by rw [List.setIfInBounds_toArray, nums, nums, List.map_set]; rfl)
                · obtain rfl : i = 8 := by omega
                  clear hlt hi
                  rw [show (((8 : Nat) : Int)) = (8 : Int) from rfl]
                  have n0_ : Aside0 (wr.heap[g3]? = some (.cells (nums .u32 O).toArray 55 (0, 0))) := ⟨by rw [HO2.out]; exact B3.out⟩
                  have HOL : Aside0 (O.length = 8) := ⟨by rw [HO2.out]; exact sumUp_len Hs R 8⟩
                  clear B3
                  have B3 := n0_
                  clear n0_
                  go_wp2_with (first | ((with_reducible refine gate_dst (N := 223) rfl ?_); refine wpList_load_row rfl 55 _ rfl g3 rfl 55 _ (0, 0) _ B3.out Try.underlying55 rfl (by rw [HS8.out]; simp [nums, HOL.out]) ?_) | ((with_reducible refine gate_store (t := 55) (p := 6) rfl ?_); refine store_rowAll rfl 55 _ _ rfl rfl g6 rfl Z8 (nums .u32 O).toArray rfl 55 B6.out (by rw [HS8.out]; simp [nums, HOL.out]) (by rw [← HZ8.out]; simp [nums, HOL.out]) (by simp [nums, Value.oneCell']) ?_; intro w9 hw ho hb; have n0_ := Aside0.mk (HB.out.trans (hb.mono G6.out)); clear HB B6; have HB := n0_; have B6 := Aside0.mk hw; clear n0_ hw ho hb))
                  refine bodyPost_ret (results_cell_row rfl _ _ g6 55 _ (0, 0) _ rfl B6.out Try.underlying55 rfl (by rw [HS8.out]; simp [nums, HOL.out])) rfl ?_
                  exact ⟨rfl, HB.out⟩
theorem step_plain {P : Program} {ops : Array Oper} {o : Oper} {a : Act} {w : World} {K : Act → World → Prop} {Q : Exit → Act → World → Prop} {E : Prop} (hg : o.guard = none) (h : Oper.wp P o a w K Q) :
    if Region.wanted o (yielded ops a.tmps) = true then Oper.wp P o a w K Q else E := by
  rw [if_pos (by simp [Region.wanted, hg])]
  exact h
theorem wp_store_rowAll {P : Program} {o : Oper} {a : Act} {K : Act → World → Prop} {Q : Exit → Act → World → Prop} {W : World} (t : TypeId) (x y : Operand) (ho : o.op = .store t x y) (hN : o.dst = none) (g : Nat)
    (hx : a.eval x = .pointer (some ⟨g, 0, none⟩)) (c c' : Array Value) (hy : a.eval y = .agg c') (t' : TypeId) (hg : W.heap[g]? = some (.cells c t' (0, 0))) (hi : (P.info? t).map (·.size) = some c'.size) (hs : c.size = c'.size) (h1 : c'.all (·.oneCell') = true)
    (h : ∀ w1, w1.heap[g]? = some (.cells c' t' (0, 0)) → (∀ q, q ≠ g → w1.heap[q]? = W.heap[q]?) → Below g W w1 → K a w1) : Oper.wp P o a W K Q := by
  have hrun : (Instr.storeAt t (.pointer (some ⟨g, 0, none⟩)) (.agg c')).run P W = .ok () (W.setRow g c') := by
    simp only [Instr.storeAt, Instr.sureAddr, Sem.run_bind, Sem.run_pure, Result.andThen_ok]
    exact run_storeVar_row W g t' t c c' hg hi hs h1
  unfold Oper.wp execOp
  simp only [ho, hx, hy, Sem.run_bind, Sem.run_pure, Result.andThen_ok, hrun]
  show K (a.put o.dst undef) _
  rw [hN]
  exact h _ (setRow_heap W g c c' t' (0, 0) hg) (fun q hq => setRow_other W g q c' hq) ⟨rfl, rfl, rfl, by simp [size_setRow], fun k hk => setRow_other W g k c' (Nat.ne_of_lt hk)⟩
theorem td_set (r l : List Int) (hr : r.length = 8) (hl : l.length = 8) (i : Nat) (hi : i < 8) : (r.take i ++ l.drop i).set i (r.getD i 0) = r.take (i + 1) ++ l.drop (i + 1) := by
  match r, hr, l, hl with
  | [_, _, _, _, _, _, _, _], _, [_, _, _, _, _, _, _, _], _ =>
    match i, hi with
    | 0, _ | 1, _ | 2, _ | 3, _ | 4, _ | 5, _ | 6, _ | 7, _ => rfl
def spec_ShaBlock.f (l0 : List Int) (a1 : ByteArray) : Option (List Int) := if l0.length ≤ 17592186044415 then some (shaF l0 a1) else none
set_option maxHeartbeats 4000000 in
set_option maxRecDepth 100000 in
theorem spec_ShaBlock.calls (A0 : Option Addr) (c0 : Nat) (l0 : List Int) (a1 : ByteArray) (r : List Int) (w : World) (hr0 : Kd.C (Kd.int .i64) w A0 l0.length l0) (hc0 : l0.length ≤ c0) (h : spec_ShaBlock.f l0 a1 = some r) :
    Calls Try.prog 21 #[.slice A0 l0.length c0, .string a1] w fun e w' => ∃ v0_ : Value, e = .returned (v0_) ∧ Kd.R (Kd.int .i64) 3 w' w.heap.size (fun _ => True) v0_ r ∧ Below w.heap.size w w' := by
  unfold spec_ShaBlock.f at h
  by_cases cl : l0.length ≤ 17592186044415
  · rw [if_pos cl] at h
    obtain ⟨r', hr'⟩ : ∃ r', r' = shaF l0 a1 := ⟨_, rfl⟩
    rw [← hr'] at h
    cases h
    have HR := Aside0.mk hr0
    have HL := Aside0.mk cl
    have HB := Aside0.mk (Below.refl w.heap.size w)
    have i3 : Aside0 ((Try.prog.info? 3).map (fun i => (i.zero, i.size, i.bytes)) = some (some (.int .i64 0), 1, 8)) := ⟨by kernel_rfl⟩
    unfold shaF at hr'
    by_cases c8 : l0.length = 8
    · by_cases h64 : a1.size = 64
      · have hat : ∀ i : Nat, i < 8 → ∃ ad, A0 = some ad ∧ w.cell? (ad.add i) = some (.int .i64 (l0.getD i 0)) := by
          intro i hi
          obtain ⟨ad', e, hx⟩ := Kd.at_int hr0 (i : Int) (by omega) (by omega)
          exact ⟨ad', e, hx⟩
        obtain ⟨ad, eA, _⟩ := hat 0 (by omega)
        subst eA
        have hat0 := hat
        clear hat
        have hat : ∀ i : Nat, i < 8 → w.cell? (ad.add i) = some (.int .i64 (l0.getD i 0)) := by
          intro i hi
          obtain ⟨ad', e, hx⟩ := hat0 i hi
          cases e
          exact hx
        clear hat0
        have HAT := Aside0.mk hat
        have H64 := Aside0.mk h64
        have H8 := Aside0.mk c8
        have HRX := Aside0.mk hr'
        have HC := Aside0.mk hc0
        obtain ⟨hz55, hs55⟩ := zero_of_info (P := Try.prog) (t := 55) (v := .agg (List.replicate 8 (Value.int .u32 0)).toArray) (n := 8) (by kernel_rfl)
        generalize hZ8 : (List.replicate 8 (Value.int .u32 0)).toArray = Z8 at hz55
        have HZ8 := Aside0.mk hZ8
        have HS8 := Aside0.mk hs55
        have c1 : ((a1.size : Int) != 64) = false := bne_eq_false_iff_eq.mpr (by omega)
        have c2 : ((l0.length : Int) != 8) = false := bne_eq_false_iff_eq.mpr (by omega)
        clear cl hr0 hc0 h64 c8 hr' hat hZ8 hs55
        go_enter Try.func21, Try.ntmps21
        go_upto_region 2 with (first | ((with_reducible refine gate_dst (N := 9) rfl ?_); refine Kd.R_lit (Kd.int .i64) _ 3 ?hg (N := 9) ?hd (xs := ([] : List Int)) (inner := []) (ok := fun _ => True) (okp := fun _ => True) ?hr ?hp (fun _ hk => hk) trivial (Below.refl _ _) (Nat.le_refl _) (by simp) ?_; (case hd => rfl); (case hg => rfl); (case hr => first | (go_simp; done) | (go_simp; rfl)); (case hp => exact (Reps.none _ _)); intro v0 w4 ho hb hg_ hnew_; clear hg_ hnew_; have n0_ := Aside0.mk (Kd.R_lower ho (below_size HB.out)); have n1_ := Aside0.mk (below_step HB.out hb); clear HB; have HO := n0_; have HB := n1_; clear n0_ n1_ hb ho) | (at_builtin; refine Kd.R_append_rows (Kd.int .i64) (w0 := w) w.heap.size rfl (.tmp 9) (.tmp 10) 39 3 (.int .i64 0) 8 rfl Try.underlying39 i3.out rfl (by decide) (by omega) v0 [] l0 _ _ _ (fun _ => True) (fun _ => False) rfl rfl ?aO ?aR (fun _ _ h => h) (fun _ h => h.elim) ?aF ?aB ?aS ?aL ?_; (case aR => exact (Kd.C_below HR.out HB.out)); (case aB => exact HB.out); (case aF => exact (fun _ _ => trivial)); (case aO => exact HO.out); (case aS => exact below_size HB.out); (case aL => have := HL.out; simp only [List.length_nil]; omega); intro v7 w8 ho hb hg hat; rw [List.nil_append] at ho; have n1_ := Aside0.mk hb; have n2_ := Aside0.mk ho; clear HB HO ho hb hg hat; have HB := n1_; have HO := n2_; clear n1_ n2_))
        obtain ⟨gV, cV, rfl, gb, gl, _⟩ := Kd.R_form HO.out (by have := H8.out; omega)
        have GV := Aside0.mk gb
        clear gb gl
        go_upto_region 5 with (first | ((with_reducible refine gate_dst (N := 6) rfl ?_); refine box_event ?hg (N := 6) ?hd (cs := Z8) (t := 55) ?hr ?_; (case hd => rfl); (case hg => rfl); (case hr => first | (go_simp; done) | (go_simp; rfl)); intro g6 hg w3 hbox hb; have G6 := Aside0.mk (show w.heap.size ≤ g6 by rw [hg]; exact below_size HB.out); have n0_ := Aside0.mk (below_step HB.out hb); have n1_ := Aside0.mk (Kd.R_below HO.out hb); clear HB HO; have HB := n0_; have HO := n1_; have B6 := Aside0.mk hbox; clear n0_ n1_ hb hbox hg) | ((with_reducible refine gate_store (t := 55) (p := 6) rfl ?_); refine store_rowAll rfl 55 _ _ rfl rfl g6 rfl Z8 Z8 rfl 55 B6.out (by rw [HS8.out, ← HZ8.out]; simp) rfl (by rw [← HZ8.out]; decide +kernel) ?_; intro w5 hw ho hb; have n0_ := Aside0.mk (HB.out.trans (hb.mono G6.out)); have n1_ := Aside0.mk (Kd.R_move (Kd.R_types HO.out B6.out (by simp [Kd.int, Kd.scalar])) (fun k hk => ho k hk.2)); clear HB B6 HO; have HB := n0_; have B6 := Aside0.mk hw; have HO := Aside0.mk (Kd.R_drop n1_.out); clear n0_ n1_ hw ho hb))
        obtain ⟨Hs, hHs⟩ : ∃ Hs, Hs = l0.map IntKind.u32.wrap := ⟨_, rfl⟩
        have hHl : Hs.length = 8 := by rw [hHs, List.length_map]; exact H8.out
        have hHa : ∀ i, i < 8 → Hs.getD i 0 = IntKind.u32.wrap (l0.getD i 0) := by
          intro i hi
          have h_ : i < l0.length := by rw [H8.out]; exact hi
          rw [hHs, List.getD_eq_getElem?_getD, List.getElem?_map, List.getElem?_eq_getElem h_, List.getD_eq_getElem?_getD, List.getElem?_eq_getElem h_]
          rfl
        have HHA := Aside0.mk hHa
        have HHL := Aside0.mk hHl
        have HHS := Aside0.mk hHs
        have n0_ : Aside0 (w5.heap[g6]? = some (.cells (nums .u32 (Hs.take 0 ++ List.replicate (8 - 0) 0)).toArray 55 (0, 0))) := ⟨by rw [B6.out, ← HZ8.out]; simp [nums]⟩
        clear B6 hHl hHa hHs
        have B6 := n0_
        clear n0_
        go_wp2
        go_loopw [7] (fun v7 wr => ∃ i : Nat, i ≤ 8 ∧ v7 = .int .i64 (i : Int) ∧ Aside0 (∀ j, j < i → 0 ≤ l0.getD j 0 ∧ l0.getD j 0 ≤ 4294967295) ∧ Aside0 (wr.heap[g6]? = some (.cells (nums .u32 (Hs.take i ++ List.replicate (8 - i) 0)).toArray 55 (0, 0))) ∧ Aside0 (Kd.R (Kd.int .i64) 3 wr w.heap.size (fun _ => True) (.slice (some ⟨gV, 0, none⟩) l0.length cV) l0) ∧ Aside0 (Below w.heap.size w wr)) (fun v7 _ => 8 - (intOf v7).toNat)
        case atStart => exact ⟨0, by omega, rfl, ⟨fun j hj => absurd hj (by omega)⟩, B6, HO, HB⟩
        case round =>
          clear B6 HO HB
          obtain ⟨i, hi, rfl, HALL, B6, HO, HB⟩ := hrel
          by_cases hlt : i < 8
          · have hx := (HB.out.cell (World.block_lt_of_cell? w _ (HAT.out i hlt))).trans (HAT.out i hlt)
            have hst := st_set Hs HHL.out i hlt
            rw [HHA.out i hlt] at hst
            obtain ⟨x, hxx⟩ : ∃ x, x = l0.getD i 0 := ⟨_, rfl⟩
            rw [← hxx] at hst hx
            have HXX := Aside0.mk hxx
            have b1 : ((i : Int) < (l0.length : Int)) = True := eq_true (by rw [H8.out]; omega)
            have b2 : i < l0.length := by rw [H8.out]; exact hlt
            have b8 : ((i : Int) < 8) = True := eq_true (by omega)
            have HI := Aside0.mk hlt
            by_cases hin : 0 ≤ x ∧ x ≤ 4294967295
            · have HIN : Aside0 (spec_l01In.f x 0 4294967295 = some true) := ⟨by unfold spec_l01In.f; rw [if_pos hin.1, decide_eq_true hin.2]⟩
              have HIX := Aside0.mk hin
              have HST := Aside0.mk hst
              have hl : (Hs.take i ++ List.replicate (8 - i) 0).length = 8 := by rw [List.length_append, List.length_take, List.length_replicate, HHL.out]; omega
              have hc : wr.cell? ⟨g6, i, none⟩ = some (.int .u32 ((Hs.take i ++ List.replicate (8 - i) 0).getD i 0)) := by
                rw [blk_cell B6.out i]
                simp only [nums, List.getElem?_toArray, List.getElem?_map, List.getD_eq_getElem?_getD]
                rw [List.getElem?_eq_getElem (by rw [hl]; exact hlt)]
                rfl
              have hf := blk_frozen B6.out i
              generalize (Hs.take i ++ List.replicate (8 - i) 0).getD i 0 = y at hc
              have c8_ : (i : Int) < 8 := by omega
              clear hst hxx hl hi hin hlt
              go_wp2_with (first | (go_at_call 34; (with_reducible refine (spec_l01In.calls x 0 4294967295 true _ HIN.out).mono ?_); rintro e w1 ⟨rfl, ⟨nd, rfl⟩⟩))
              refine ⟨⟨i + 1, HI.out, by go_num, ⟨?_⟩, ⟨?_⟩, ⟨?_⟩, ⟨?_⟩⟩, by simp [intOf]; have := HI.out; omega⟩
              · intro j hj
                by_cases hji : j < i
                · exact HALL.out j hji
                · obtain rfl : j = i := by omega
                  rw [← HXX.out]
                  exact HIX.out
              · rw [← HST.out]
                exact blk_put (show (wr.drewN nd).heap[g6]? = _ from B6.out) i _ (by rw [List.setIfInBounds_toArray, nums, nums, List.map_set]; rfl)
              · exact Kd.R_set (Kd.R_drewN HO.out nd) (show (wr.drewN nd).heap[g6]? = _ from B6.out) (by simp [Kd.int, Kd.scalar]) i _
              · exact below_set (pw_below_drewN HB.out nd) G6.out
            · have HIN : Aside0 (spec_l01In.f x 0 4294967295 = some false) := ⟨by
                unfold spec_l01In.f
                by_cases h0 : x ≥ 0
                · rw [if_pos h0, decide_eq_false (fun h1 => hin ⟨h0, h1⟩)]
                · rw [if_neg h0]⟩
              have hrr := HRX.out
              rw [if_neg (fun e => hin (by
                have h_ : i < l0.length := by rw [H8.out]; exact hlt
                have h2 := e.2.2 (l0[i]'h_) (List.getElem_mem h_)
                rw [hxx, List.getD_eq_getElem?_getD, List.getElem?_eq_getElem h_]
                exact h2))] at hrr
              have HRR := Aside0.mk hrr
              clear hrr hst hxx hi hin hlt
              go_wp2_with (first | (go_at_call 34; (with_reducible refine (spec_l01In.calls x 0 4294967295 false _ HIN.out).mono ?_); rintro e w1 ⟨rfl, ⟨nd, rfl⟩⟩))
              go_ret
              exact ⟨_, rfl, by rw [HRR.out]; exact Kd.R_drewN HO.out nd, pw_below_drewN HB.out nd⟩
          · obtain rfl : i = 8 := by omega
            have hrr := HRX.out
            rw [if_pos ⟨H8.out, H64.out, fun x hx => by
              obtain ⟨j, hj, rfl⟩ := List.getElem_of_mem hx
              have h_ := HALL.out j (by have := H8.out; omega)
              rw [List.getD_eq_getElem?_getD, List.getElem?_eq_getElem hj] at h_
              exact h_⟩] at hrr
            have n0_ : Aside0 (wr.heap[g6]? = some (.cells (nums .u32 Hs).toArray 55 (0, 0))) := ⟨by
              have e := B6.out
              rw [List.take_of_length_le (by rw [HHL.out]; omega)] at e
              simpa using e⟩
            clear B6 hlt hi
            have B6 := n0_
            clear n0_
            have c1a := fun V => keysK_calls V
            have c2a := fun V => block_calls Hs a1 V HHL.out H64.out
            have hOr : r = (List.range 8).map fun i => IntKind.u32.wrap (Hs.getD i 0 + (rounds8 shaK (sched a1 64) Hs 64).getD i 0) := by
              rw [hrr]
              unfold shaOut
              rw [← HHS.out]
              apply List.map_congr_left
              intro i hi
              rw [HHA.out i (List.mem_range.1 hi)]
            rw [← hOr] at c2a
            have hOl : r.length = 8 := by rw [hOr]; simp
            have hOa : ∀ j, j < 8 → 0 ≤ r.getD j 0 ∧ r.getD j 0 < 4294967296 := by
              intro j hj
              rw [hOr, List.getD_eq_getElem?_getD, List.getElem?_map, List.getElem?_range hj]
              show 0 ≤ _ % 4294967296 ∧ _ % 4294967296 < 4294967296
              omega
            generalize shaK = Ks at c1a c2a
            have HOL := Aside0.mk hOl
            have HOA := Aside0.mk hOa
            have C1 := Aside0.mk c1a
            have C2 := Aside0.mk c2a
            clear c1a c2a hOl hOa hOr hrr
            obtain ⟨H, hH⟩ : ∃ H, H = (nums .u32 Hs).toArray := ⟨_, rfl⟩
            obtain ⟨O, hO⟩ : ∃ O, O = (nums .u32 r).toArray := ⟨_, rfl⟩
            obtain ⟨K, hK⟩ : ∃ K, K = (nums .u32 Ks).toArray := ⟨_, rfl⟩
            rw [← hH, ← hO, ← hK] at C2
            rw [← hK] at C1
            rw [← hH] at B6
            have HH := Aside0.mk hH
            have HO_ := Aside0.mk hO
            have HZ := Aside0.mk (show H.size = 8 by rw [hH]; simp [nums, HHL.out])
            have OZ := Aside0.mk (show O.size = 8 by rw [hO]; simp [nums, HOL.out])
            have OO := Aside0.mk (show O.all (·.oneCell') = true by rw [hO]; simp [nums, Value.oneCell'])
            clear hH hO hK
            rw [show (((8 : Nat) : Int)) = (8 : Int) from rfl]
            go_upto_region 11 with fail
            refine wp_region_any (by kernel_rfl) ?_
            change wpAny _ _ _ _ _ _ _ (World.drew _)
            have n0_ : Aside0 (wr.drew.heap[g6]? = some (.cells H 55 (0, 0))) := ⟨B6.out⟩
            have n1_ := Aside0.mk (Kd.R_drew HO.out)
            have n2_ := Aside0.mk (below_drew1 HB.out)
            clear B6 HO HB
            have B6 := n0_
            have HO := n1_
            have HB := n2_
            clear n0_ n1_ n2_
            generalize wr.drew = wd at B6 HO HB ⊢
            refine wpAny_take (i := 1) (v := .string a1) rfl (by kernel_rfl) (by kernel_rfl) (by kernel_rfl) (fun _ _ _ h => h) (Or.inl ⟨by rfl, ?_⟩) ?_
            · intro w
              go_simp
            refine wpAny_ready (rs := [0, 2]) (by kernel_rfl) (by simp) ?_
            refine AllReady.cons rfl (fun K_ hK => step_plain rfl ?_) (AllReady.cons rfl (fun K_ hK => step_plain rfl ?_) AllReady.nil)
            all_goals simp only [List.getElem_toArray, List.getElem_cons_succ, List.getElem_cons_zero]
            · refine wp_load_row 55 _ rfl g6 rfl 55 _ (0, 0) _ B6.out Try.underlying55 rfl (by rw [HS8.out, HZ.out]) ?_
              refine hK _ _ ?_
              clear hK K_
              refine wpAny_ready (rs := [2]) (by kernel_rfl) (by simp) ?_
              refine AllReady.cons rfl (fun K_ hK => step_plain rfl ?_) AllReady.nil
              simp only [List.getElem_toArray, List.getElem_cons_succ, List.getElem_cons_zero]
              go_simp
              go_at_call 36
              refine (C1.out _).mono ?_
              rintro e w1 ⟨rfl, hb⟩
              have n0_ := Aside0.mk (blk_below B6.out hb)
              have n1_ := Aside0.mk (Kd.R_below HO.out hb)
              have n2_ := Aside0.mk (below_step HB.out hb)
              clear B6 HO HB hb
              have B6 := n0_
              have HO := n1_
              have HB := n2_
              clear n0_ n1_ n2_
              try go_simp
              try (refine hK _ _ ?_)
              clear hK K_
              refine wpAny_ready (rs := [3]) (by kernel_rfl) (by simp) ?_
              refine AllReady.cons rfl (fun K_ hK => step_plain rfl ?_) AllReady.nil
              simp only [List.getElem_toArray, List.getElem_cons_succ, List.getElem_cons_zero]
              go_simp
              go_at_call 35
              refine (C2.out _).mono ?_
              rintro e w1 ⟨rfl, hb⟩
              have n0_ := Aside0.mk (blk_below B6.out hb)
              have n1_ := Aside0.mk (Kd.R_below HO.out hb)
              have n2_ := Aside0.mk (below_step HB.out hb)
              clear B6 HO HB hb
              have B6 := n0_
              have HO := n1_
              have HB := n2_
              clear n0_ n1_ n2_
              try go_simp
              try (refine hK _ _ ?_)
              clear hK K_
              refine wpAny_ready (rs := [4]) (by kernel_rfl) (by simp) ?_
              refine AllReady.cons rfl (fun K_ hK => step_plain rfl ?_) AllReady.nil
              simp only [List.getElem_toArray, List.getElem_cons_succ, List.getElem_cons_zero]
              refine wp_store_rowAll 55 _ _ rfl rfl g6 rfl H O rfl 55 B6.out (by rw [HS8.out, OZ.out]) (by rw [HZ.out, OZ.out]) OO.out ?_
              intro w9 hw ho hb
              refine hK _ _ ?_
              clear hK K_
              have n0_ := Aside0.mk (HB.out.trans (hb.mono G6.out))
              have n1_ := Aside0.mk (Kd.R_move (Kd.R_types HO.out B6.out (by simp [Kd.int, Kd.scalar])) (fun k hk => ho k hk.2))
              have n2_ := Aside0.mk (Kd.R_ne HO.out B6.out (by decide))
              clear HB B6 HO
              have HB := n0_
              have B6 := Aside0.mk hw
              have HO := Aside0.mk (Kd.R_drop n1_.out)
              have NV6 : g6 ≠ gV := fun e => n2_.out (by rw [e]; rfl)
              clear n0_ n1_ n2_ hw ho hb
              refine wpAny_done (by kernel_rfl) ?_ _
              go_simp
              have n0_ : Aside0 (Kd.R (Kd.int .i64) 3 w9 w.heap.size (fun _ => True) (.slice (some ⟨gV, 0, none⟩) l0.length cV) (r.take 0 ++ l0.drop 0)) := ⟨by simpa using HO.out⟩
              clear HO
              have HO := n0_
              clear n0_
              have NV := Aside0.mk NV6
              clear NV6
              go_wp2
              go_loopw [8] (fun v8 wr => ∃ i : Nat, i ≤ 8 ∧ v8 = .int .i64 (i : Int) ∧ Aside0 (wr.heap[g6]? = some (.cells O 55 (0, 0))) ∧ Aside0 (Kd.R (Kd.int .i64) 3 wr w.heap.size (fun _ => True) (.slice (some ⟨gV, 0, none⟩) l0.length cV) (r.take i ++ l0.drop i)) ∧ Aside0 (Below w.heap.size w wr)) (fun v8 _ => 8 - (intOf v8).toNat)
              case atStart => exact ⟨0, by omega, rfl, B6, HO, HB⟩
              case round =>
                clear B6 HO HB
                obtain ⟨i, hi, rfl, B6, HO, HB⟩ := hrel
                by_cases hlt : i < 8
                · have ch : wr.cell? ⟨g6, i, none⟩ = some (.int .u32 (r.getD i 0)) := by
                    have h_ : i < r.length := by rw [HOL.out]; exact hlt
                    rw [blk_cell B6.out i, HO_.out]
                    simp [nums, List.getD_eq_getElem?_getD, List.getElem?_eq_getElem h_]
                  obtain ⟨cv, fv⟩ := Kd.R_celln 0 HO.out (i : Int) (by omega) (by rw [H8.out]; omega)
                  rw [Int.toNat_natCast] at cv fv
                  generalize rdOf 0 (r.take i ++ l0.drop i) (i : Int) = y at cv
                  have hput := Kd.R_putn HO.out (i : Int) (r.getD i 0)
                  rw [Int.toNat_natCast, td_set r l0 HOL.out H8.out i hlt] at hput
                  have hrng := HOA.out i hlt
                  generalize r.getD i 0 = x at ch hput hrng
                  have HP := Aside0.mk hput
                  have hw : IntKind.i64.wrap x = x := IntWalk.i64_in _ (by omega)
                  have b1 : ((i : Int) < (l0.length : Int)) = True := eq_true (by rw [H8.out]; omega)
                  have b2 : i < l0.length := by rw [H8.out]; exact hlt
                  have b8 : ((i : Int) < 8) = True := eq_true (by omega)
                  have n8_ : i < 8 := hlt
                  have HI := Aside0.mk hlt
                  clear hput hlt hi hrng
                  go_wp2
                  have hw2 : wrap64 x = x := by first | exact hw | (unfold wrap64; exact hw) | (unfold wrap64; rw [IntKind.wrap_i64] at hw; exact hw)
                  try rw [hw2]
                  refine ⟨⟨i + 1, HI.out, by go_num, ⟨(Below.heap_setCell wr ⟨gV, i, none⟩ _ g6 NV.out).trans B6.out⟩, ⟨HP.out⟩, ⟨below_set HB.out GV.out⟩⟩, by simp [intOf]; have := HI.out; omega⟩
                · obtain rfl : i = 8 := by omega
                  have n0_ : Aside0 (Kd.R (Kd.int .i64) 3 wr w.heap.size (fun _ => True) (.slice (some ⟨gV, 0, none⟩) l0.length cV) r) := ⟨by
                    have e := HO.out
                    rw [List.take_of_length_le (by rw [HOL.out]; omega), List.drop_of_length_le (by rw [H8.out]; omega)] at e
                    simpa using e⟩
                  clear HO hlt hi
                  rw [show (((8 : Nat) : Int)) = (8 : Int) from rfl]
                  go_wp2
                  go_ret
                  exact ⟨_, rfl, n0_.out, HB.out⟩
            · go_simp
              go_at_call 36
              refine (C1.out _).mono ?_
              rintro e w1 ⟨rfl, hb⟩
              have n0_ := Aside0.mk (blk_below B6.out hb)
              have n1_ := Aside0.mk (Kd.R_below HO.out hb)
              have n2_ := Aside0.mk (below_step HB.out hb)
              clear B6 HO HB hb
              have B6 := n0_
              have HO := n1_
              have HB := n2_
              clear n0_ n1_ n2_
              try go_simp
              try (refine hK _ _ ?_)
              clear hK K_
              refine wpAny_ready (rs := [0]) (by kernel_rfl) (by simp) ?_
              refine AllReady.cons rfl (fun K_ hK => step_plain rfl ?_) AllReady.nil
              simp only [List.getElem_toArray, List.getElem_cons_succ, List.getElem_cons_zero]
              refine wp_load_row 55 _ rfl g6 rfl 55 _ (0, 0) _ B6.out Try.underlying55 rfl (by rw [HS8.out, HZ.out]) ?_
              refine hK _ _ ?_
              clear hK K_
              refine wpAny_ready (rs := [3]) (by kernel_rfl) (by simp) ?_
              refine AllReady.cons rfl (fun K_ hK => step_plain rfl ?_) AllReady.nil
              simp only [List.getElem_toArray, List.getElem_cons_succ, List.getElem_cons_zero]
              go_simp
              go_at_call 35
              refine (C2.out _).mono ?_
              rintro e w1 ⟨rfl, hb⟩
              have n0_ := Aside0.mk (blk_below B6.out hb)
              have n1_ := Aside0.mk (Kd.R_below HO.out hb)
              have n2_ := Aside0.mk (below_step HB.out hb)
              clear B6 HO HB hb
              have B6 := n0_
              have HO := n1_
              have HB := n2_
              clear n0_ n1_ n2_
              try go_simp
              try (refine hK _ _ ?_)
              clear hK K_
              refine wpAny_ready (rs := [4]) (by kernel_rfl) (by simp) ?_
              refine AllReady.cons rfl (fun K_ hK => step_plain rfl ?_) AllReady.nil
              simp only [List.getElem_toArray, List.getElem_cons_succ, List.getElem_cons_zero]
              refine wp_store_rowAll 55 _ _ rfl rfl g6 rfl H O rfl 55 B6.out (by rw [HS8.out, OZ.out]) (by rw [HZ.out, OZ.out]) OO.out ?_
              intro w9 hw ho hb
              refine hK _ _ ?_
              clear hK K_
              have n0_ := Aside0.mk (HB.out.trans (hb.mono G6.out))
              have n1_ := Aside0.mk (Kd.R_move (Kd.R_types HO.out B6.out (by simp [Kd.int, Kd.scalar])) (fun k hk => ho k hk.2))
              have n2_ := Aside0.mk (Kd.R_ne HO.out B6.out (by decide))
              clear HB B6 HO
              have HB := n0_
              have B6 := Aside0.mk hw
              have HO := Aside0.mk (Kd.R_drop n1_.out)
              have NV6 : g6 ≠ gV := fun e => n2_.out (by rw [e]; rfl)
              clear n0_ n1_ n2_ hw ho hb
              refine wpAny_done (by kernel_rfl) ?_ _
              go_simp
              have n0_ : Aside0 (Kd.R (Kd.int .i64) 3 w9 w.heap.size (fun _ => True) (.slice (some ⟨gV, 0, none⟩) l0.length cV) (r.take 0 ++ l0.drop 0)) := ⟨by simpa using HO.out⟩
              clear HO
              have HO := n0_
              clear n0_
              have NV := Aside0.mk NV6
              clear NV6
              go_wp2
              go_loopw [8] (fun v8 wr => ∃ i : Nat, i ≤ 8 ∧ v8 = .int .i64 (i : Int) ∧ Aside0 (wr.heap[g6]? = some (.cells O 55 (0, 0))) ∧ Aside0 (Kd.R (Kd.int .i64) 3 wr w.heap.size (fun _ => True) (.slice (some ⟨gV, 0, none⟩) l0.length cV) (r.take i ++ l0.drop i)) ∧ Aside0 (Below w.heap.size w wr)) (fun v8 _ => 8 - (intOf v8).toNat)
              case atStart => exact ⟨0, by omega, rfl, B6, HO, HB⟩
              case round =>
                clear B6 HO HB
                obtain ⟨i, hi, rfl, B6, HO, HB⟩ := hrel
                by_cases hlt : i < 8
                · have ch : wr.cell? ⟨g6, i, none⟩ = some (.int .u32 (r.getD i 0)) := by
                    have h_ : i < r.length := by rw [HOL.out]; exact hlt
                    rw [blk_cell B6.out i, HO_.out]
                    simp [nums, List.getD_eq_getElem?_getD, List.getElem?_eq_getElem h_]
                  obtain ⟨cv, fv⟩ := Kd.R_celln 0 HO.out (i : Int) (by omega) (by rw [H8.out]; omega)
                  rw [Int.toNat_natCast] at cv fv
                  generalize rdOf 0 (r.take i ++ l0.drop i) (i : Int) = y at cv
                  have hput := Kd.R_putn HO.out (i : Int) (r.getD i 0)
                  rw [Int.toNat_natCast, td_set r l0 HOL.out H8.out i hlt] at hput
                  have hrng := HOA.out i hlt
                  generalize r.getD i 0 = x at ch hput hrng
                  have HP := Aside0.mk hput
                  have hw : IntKind.i64.wrap x = x := IntWalk.i64_in _ (by omega)
                  have b1 : ((i : Int) < (l0.length : Int)) = True := eq_true (by rw [H8.out]; omega)
                  have b2 : i < l0.length := by rw [H8.out]; exact hlt
                  have b8 : ((i : Int) < 8) = True := eq_true (by omega)
                  have n8_ : i < 8 := hlt
                  have HI := Aside0.mk hlt
                  clear hput hlt hi hrng
                  go_wp2
                  have hw2 : wrap64 x = x := by first | exact hw | (unfold wrap64; exact hw) | (unfold wrap64; rw [IntKind.wrap_i64] at hw; exact hw)
                  try rw [hw2]
                  refine ⟨⟨i + 1, HI.out, by go_num, ⟨(Below.heap_setCell wr ⟨gV, i, none⟩ _ g6 NV.out).trans B6.out⟩, ⟨HP.out⟩, ⟨below_set HB.out GV.out⟩⟩, by simp [intOf]; have := HI.out; omega⟩
                · obtain rfl : i = 8 := by omega
                  have n0_ : Aside0 (Kd.R (Kd.int .i64) 3 wr w.heap.size (fun _ => True) (.slice (some ⟨gV, 0, none⟩) l0.length cV) r) := ⟨by
                    have e := HO.out
                    rw [List.take_of_length_le (by rw [HOL.out]; omega), List.drop_of_length_le (by rw [H8.out]; omega)] at e
                    simpa using e⟩
                  clear HO hlt hi
                  rw [show (((8 : Nat) : Int)) = (8 : Int) from rfl]
                  go_wp2
                  go_ret
                  exact ⟨_, rfl, n0_.out, HB.out⟩
      · rw [if_neg (fun e => h64 e.2.1)] at hr'
        rw [hr']
        clear hr'
        have c1 : ((a1.size : Int) != 64) = true := bne_iff_ne.mpr (by omega)
        have c2 : ((l0.length : Int) != 8) = false := bne_eq_false_iff_eq.mpr (by omega)
        clear cl hr0 hc0 h64 c8
        go_enter Try.func21, Try.ntmps21
        go_upto_region 2 with (first | ((with_reducible refine gate_dst (N := 9) rfl ?_); refine Kd.R_lit (Kd.int .i64) _ 3 ?hg (N := 9) ?hd (xs := ([] : List Int)) (inner := []) (ok := fun _ => True) (okp := fun _ => True) ?hr ?hp (fun _ hk => hk) trivial (Below.refl _ _) (Nat.le_refl _) (by simp) ?_; (case hd => rfl); (case hg => rfl); (case hr => first | (go_simp; done) | (go_simp; rfl)); (case hp => exact (Reps.none _ _)); intro v0 w4 ho hb hg_ hnew_; clear hg_ hnew_; have n0_ := Aside0.mk (Kd.R_lower ho (below_size HB.out)); have n1_ := Aside0.mk (below_step HB.out hb); clear HB; have HO := n0_; have HB := n1_; clear n0_ n1_ hb ho) | (at_builtin; refine Kd.R_append_rows (Kd.int .i64) (w0 := w) w.heap.size rfl (.tmp 9) (.tmp 10) 39 3 (.int .i64 0) 8 rfl Try.underlying39 i3.out rfl (by decide) (by omega) v0 [] l0 _ _ _ (fun _ => True) (fun _ => False) rfl rfl ?aO ?aR (fun _ _ h => h) (fun _ h => h.elim) ?aF ?aB ?aS ?aL ?_; (case aR => exact (Kd.C_below HR.out HB.out)); (case aB => exact HB.out); (case aF => exact (fun _ _ => trivial)); (case aO => exact HO.out); (case aS => exact below_size HB.out); (case aL => have := HL.out; simp only [List.length_nil]; omega); intro v7 w8 ho hb hg hat; rw [List.nil_append] at ho; have n1_ := Aside0.mk hb; have n2_ := Aside0.mk ho; clear HB HO ho hb hg hat; have HB := n1_; have HO := n2_; clear n1_ n2_))
        go_wp2
        go_ret
        exact ⟨_, rfl, HO.out, HB.out⟩
    · rw [if_neg (fun e => c8 e.1)] at hr'
      rw [hr']
      clear hr'
      have c2 : ((l0.length : Int) != 8) = true := bne_iff_ne.mpr (by omega)
      clear cl hr0 hc0 c8
      go_enter Try.func21, Try.ntmps21
      go_upto_region 2 with (first | ((with_reducible refine gate_dst (N := 9) rfl ?_); refine Kd.R_lit (Kd.int .i64) _ 3 ?hg (N := 9) ?hd (xs := ([] : List Int)) (inner := []) (ok := fun _ => True) (okp := fun _ => True) ?hr ?hp (fun _ hk => hk) trivial (Below.refl _ _) (Nat.le_refl _) (by simp) ?_; (case hd => rfl); (case hg => rfl); (case hr => first | (go_simp; done) | (go_simp; rfl)); (case hp => exact (Reps.none _ _)); intro v0 w4 ho hb hg_ hnew_; clear hg_ hnew_; have n0_ := Aside0.mk (Kd.R_lower ho (below_size HB.out)); have n1_ := Aside0.mk (below_step HB.out hb); clear HB; have HO := n0_; have HB := n1_; clear n0_ n1_ hb ho) | (at_builtin; refine Kd.R_append_rows (Kd.int .i64) (w0 := w) w.heap.size rfl (.tmp 9) (.tmp 10) 39 3 (.int .i64 0) 8 rfl Try.underlying39 i3.out rfl (by decide) (by omega) v0 [] l0 _ _ _ (fun _ => True) (fun _ => False) rfl rfl ?aO ?aR (fun _ _ h => h) (fun _ h => h.elim) ?aF ?aB ?aS ?aL ?_; (case aR => exact (Kd.C_below HR.out HB.out)); (case aB => exact HB.out); (case aF => exact (fun _ _ => trivial)); (case aO => exact HO.out); (case aS => exact below_size HB.out); (case aL => have := HL.out; simp only [List.length_nil]; omega); intro v7 w8 ho hb hg hat; rw [List.nil_append] at ho; have n1_ := Aside0.mk hb; have n2_ := Aside0.mk ho; clear HB HO ho hb hg hat; have HB := n1_; have HO := n2_; clear n1_ n2_))
      go_wp2
      go_ret
      exact ⟨_, rfl, HO.out, HB.out⟩
  · rw [if_neg cl] at h
    cases h

end Go.Proofs.Ytcmemppkllgkmaa.PFnExactShaBlock
