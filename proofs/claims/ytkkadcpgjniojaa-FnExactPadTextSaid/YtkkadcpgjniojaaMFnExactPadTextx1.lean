-- Written by a program of this session for this claim; Lean checks it.
import Derived.Test.YtkkadcpgjniojaaMFnExactPadTextx0
namespace Go.Proofs.Ytkkadcpgjniojaa.PFnExactPadText
open Go.RowKit Go.Proofs.YtkkadcpgjniojaaW.PrintWords Go.Proofs.YtkkadcpgjniojaaW.PrintLast Go.Proofs.YtkkadcpgjniojaaW.PrintMore
attribute [local go_sem] max2_int min2_int max_two min_two max_three min_three max_four min_four   -- for this text's walks alone
set_option linter.unusedVariables false
set_option linter.unusedSimpArgs false

/-! ### spec_PadText: function 15 -/
/-- A row of bytes that may be appended to: no cell of its block is frozen (the frozen range may lie behind its end, as a conversion of a string lays it). -/
def OwnU (w : World) (base : Nat) (e : TypeId) (v : Value) (xs : List Int) : Prop :=
  ∃ g cap cur fz, v = .slice (some ⟨g, 0, none⟩) xs.length cap ∧ base ≤ g ∧ w.heap[g]? = some (.cells cur e fz) ∧ (∀ j, j < cur.size → ¬ (fz.1 ≤ j ∧ j < fz.2)) ∧ xs.length ≤ cap ∧ cap ≤ maxLen ∧ cur.size = cap ∧ cur.toList.take xs.length = nums .u8 xs
theorem OwnU.conv (w : World) (e : TypeId) (s : ByteArray) (hs : s.size ≤ maxLen) : OwnU (Lib.bytesWorld w e s) w.heap.size e (.slice (some ⟨w.heap.size, 0, none⟩) s.size (grownCap w s.size 0 e)) (bytesOf s) := by
  have hge := grownCap_ge w s.size 0 e
  have hle := grownCap_le_maxLen w s.size 0 e hs
  have hl : (bytesOf s).length = s.size := bytesOf_length s
  have hsz : (Lib.bytesCells w e s).size = grownCap w s.size 0 e := by
    unfold Lib.bytesCells
    rw [Array.size_append, Array.size_map, Array.size_replicate]
    have : s.data.size = s.size := rfl
    omega
  refine ⟨w.heap.size, grownCap w s.size 0 e, _, _, by rw [hl], Nat.le_refl _, Lib.bytesWorld_at_new w e s, fun j hj => by simp only; omega, by omega, hle, hsz, ?_⟩
  have hml : (s.data.map fun b => Value.int .u8 (b.toNat : Int)).toList.length = (bytesOf s).length := by
    rw [hl]
    simp
  unfold Lib.bytesCells
  rw [Array.toList_append, List.take_append_of_le_length (Nat.le_of_eq hml.symm), List.take_of_length_le (Nat.le_of_eq hml)]
  simp [bytesOf, nums]
theorem OwnU.cell {w : World} {base : Nat} {e : TypeId} {v : Value} {xs : List Int} (h : OwnU w base e v xs) : ∃ g cap, v = .slice (some ⟨g, 0, none⟩) xs.length cap ∧ base ≤ g ∧ g < w.heap.size ∧ ∀ j u, (nums .u8 xs)[j]? = some u → w.cell? ((⟨g, 0, none⟩ : Addr).add j) = some u := by
  obtain ⟨g, cap, cur, fz, rfl, hb, hg, hf, hn, hm, hc, ht⟩ := h
  refine ⟨g, cap, rfl, hb, (Array.getElem?_eq_some_iff.1 hg).1, fun j u hu => ?_⟩
  rw [add_plain, cell_of_row w g j cur e fz hg]
  rw [← ht, List.getElem?_take] at hu
  split at hu
  · simpa using hu
  · cases hu
theorem OwnU.keep {w w1 : World} {base : Nat} {e : TypeId} {v : Value} {xs : List Int} (h : OwnU w base e v xs) (hm : ∀ k, v.ownBlock = some k → w1.heap[k]? = w.heap[k]?) : OwnU w1 base e v xs := by
  obtain ⟨g, cap, cur, fz, rfl, hb, hg, r⟩ := h
  exact ⟨g, cap, cur, fz, rfl, hb, (hm g (by simp [Value.ownBlock])).trans hg, r⟩
/-- 'run_storeCells_at', where no cell of the row is frozen. -/
theorem storeCells_U (P : Program) (g o : Nat) (t : TypeId) (fz : Nat × Nat) : ∀ (vs : List Value) (i : Nat) (cur : Array Value) (w : World), w.heap[g]? = some (.cells cur t fz) → (∀ j, j < cur.size → ¬ (fz.1 ≤ j ∧ j < fz.2)) → o + i + vs.length ≤ cur.size → (∀ v ∈ vs, v.oneCell' = true) →
    (storeCells ⟨g, o, none⟩ vs i).run P w = .ok () (w.setRow g (cur.toList.take (o + i) ++ vs ++ cur.toList.drop (o + i + vs.length)).toArray)
  | [], i, cur, w, hg, _, _, _ => by
    simp only [storeCells, List.append_nil, List.length_nil, Nat.add_zero, List.take_append_drop, Array.toArray_toList]
    rw [setRow_self w g cur t fz hg]
    rfl
  | v :: rest, i, cur, w, hg, hfz, hl, h1 => by
    have hi : o + i < cur.size := by simp at hl; omega
    have hadd : (⟨g, o, none⟩ : Addr).add i = ⟨g, o + i, none⟩ := by unfold Addr.add; split <;> simp_all
    have hcell : w.cell? ⟨g, o + i, none⟩ = some cur[o + i] := by simp [World.cell?, hg, hi]
    have hfro : w.frozen? ⟨g, o + i, none⟩ = false := by
      have h_ := hfz (o + i) hi
      obtain ⟨lo, hi'⟩ := fz
      simp only [World.frozen?, hg, Bool.and_eq_false_iff, decide_eq_false_iff_not]
      simp only at h_
      omega
    have hst : (store ((⟨g, o, none⟩ : Addr).add i) v).run P w = .ok () (w.setRow g (cur.setIfInBounds (o + i) v)) := by
      rw [hadd, run_store P w _ v _ (h1 v (by simp)), hcell]
      simp [hfro, setCell_eq_setRow w g (o + i) cur t fz v hg]
    have ih := storeCells_U P g o t fz rest (i + 1) (cur.setIfInBounds (o + i) v) (w.setRow g (cur.setIfInBounds (o + i) v)) (setRow_heap w g cur _ t _ hg) (by simpa using hfz) (by simp at hl ⊢; omega) (fun x hx => h1 x (by simp [hx]))
    simp only [storeCells, Sem.run_bind, hst, Result.andThen_ok, ih, setRow_setRow]
    congr 3
    have e := list_seg_step cur.toList (o + i) v rest (by simp at hl ⊢; omega)
    simpa [Array.toList_setIfInBounds, Nat.add_assoc] using e
/-- 'append' to such a row. -/
theorem OwnU.append {P : Program} {w : World} {base : Nat} (t ty e : TypeId) (i : TypeInfo) (ht : P.underlying t = some (.slice e)) (hi : P.info? e = some i) (hz : i.zero = some (.int .u8 0)) (hsize : i.size = 1) (hby : i.bytes = 1)
    {v : Value} {xs : List Int} (h : OwnU w base e v xs) (a : Addr) (m c : Nat) (ys : List Int) (hl : ys.length = m) (hnews : ∀ j u, (nums .u8 ys)[j]? = some u → w.cell? (a.add j) = some u) (h48 : xs.length + m ≤ 140737488355328) (hbase : base ≤ w.heap.size) :
    ∃ v' w', (Builtin.append_ #[t, t] ty #[v, .slice (some a) m c]).run P w = .ok v' w' ∧ OwnU w' base e v' (xs ++ ys) ∧ w.grownBy w' v.ownBlock ∧ (v'.ownBlock = v.ownBlock ∨ ∃ b, v'.ownBlock = some b ∧ w.heap.size ≤ b) := by
  have hce := h.cell
  obtain ⟨g, cap, cur, fz, rfl, hbg, hg, hfz, hnc, hcm, hcs, htake⟩ := h
  obtain ⟨g2, cap2, e2, _, _, holds⟩ := hce
  obtain ⟨rfl, rfl⟩ : g2 = g ∧ cap2 = cap := by simpa [eq_comm] using e2
  have hnl : (nums .u8 ys).length = m := by simp [nums, hl]
  have hxl : (nums .u8 xs).length = xs.length := by simp [nums]
  have h1 : ∀ u ∈ nums .u8 ys, u.oneCell' = true := by
    intro u hu
    obtain ⟨x, _, rfl⟩ := List.mem_map.1 hu
    rfl
  have hn : nums .u8 (xs ++ ys) = nums .u8 xs ++ nums .u8 ys := by simp [nums]
  have hm : xs.length + m ≤ maxLen := by unfold maxLen; omega
  by_cases hroom : xs.length + m ≤ cap2
  · have hf := run_firstCells_some (P := P) w i.size m a m c (nums .u8 ys) (by rw [hsize, hnl, Nat.mul_one]) hnews
    have hst := storeCells_U P g2 (xs.length * i.size) e fz (nums .u8 ys) 0 cur w hg hfz (by rw [hsize, hnl]; omega) h1
    simp only [Nat.add_zero] at hst
    refine ⟨.slice (some ⟨g2, 0, none⟩) (xs.length + m) cap2, w.setRow g2 (cur.toList.take (xs.length * i.size) ++ nums .u8 ys ++ cur.toList.drop (xs.length * i.size + (nums .u8 ys).length)).toArray, by simp [Builtin.append_, run_underlying ht, sizeOf, typeInfo, hi, Builtin.lenOf, hroom, hf, Addr.add_lit, hst], ⟨g2, cap2, _, fz, by rw [List.length_append, hl], hbg, setRow_heap w g2 cur _ e _ hg, ?_, by rw [List.length_append, hl]; exact hroom, hcm, ?_, ?_⟩, ⟨rfl, rfl, rfl, by simp, fun k _ hk => setRow_other w g2 k _ (fun e => hk (by simp [Value.ownBlock, e]))⟩, .inl rfl⟩
    · intro j hj
      refine hfz j ?_
      simp [hsize, hnl] at hj
      omega
    · simp [hsize, hnl]
      omega
    · rw [hsize, Nat.mul_one, htake, hn, List.length_append, hl]
      have : xs.length + m = (nums .u8 xs ++ nums .u8 ys).length := by rw [List.length_append, hxl, hnl]
      rw [this]
      exact List.take_left
  · have hr := run_append_grow (P := P) w t ty e i (.int .u8 0) ht hi hz ⟨g2, 0, none⟩ xs.length cap2 (nums .u8 xs) (by rw [hsize, hxl, Nat.mul_one]) holds a m c (nums .u8 ys) (by rw [hsize, hnl, Nat.mul_one]) hnews (by omega) (by unfold maxLen at hm; omega) (by rw [hby]; exact growslice_fits (by omega) (by omega))
    have hge := grownCap_ge w (xs.length + m) cap2 e
    have hcm2 : grownCap w (xs.length + m) cap2 e ≤ maxLen := grownCap_le_maxLen w (xs.length + m) cap2 e hm
    refine ⟨_, _, hr, ⟨w.heap.size, _, _, (0, 0), by rw [List.length_append, hl], hbase, heap_alloc_new w.drew _, fun j _ => by simp, by rw [List.length_append, hl]; exact hge, hcm2, ?_, ?_⟩, ⟨rfl, rfl, rfl, by simp, fun k hk _ => heap_alloc_old w.drew _ hk⟩, .inr ⟨_, rfl, Nat.le_refl _⟩⟩
    · have hz1 : (Value.int IntKind.u8 0).cells.size = 1 := rfl
      simp only [Array.size_append, List.size_toArray, size_zeroCells, hz1, hxl, hnl]
      omega
    · simp only [Array.toList_append, List.append_assoc]
      have : (xs ++ ys).length = (nums .u8 xs ++ nums .u8 ys).length := by rw [List.length_append, List.length_append, hxl, hnl, hl]
      rw [← List.append_assoc, hn, this]
      exact List.take_left
/-- The operation, for the walk: the literal that is appended has just been laid. -/
theorem OwnU.append_wp {P : Program} {ops : Array Oper} {rest : List Oper} {o : Oper} {a : Act} {Q : Exit → Act → World → Prop} {w0 W : World} (base : Nat) (hgd : o.guard = none) (sl x : Operand) (t e : TypeId)
    (ho : o.op = .call { callee := .builtin .append, args := #[sl, x], argTypes := #[t, t] }) (ht : P.underlying t = some (.slice e)) (hinfo : (P.info? e).map (fun i => (i.zero, i.size, i.bytes)) = some (some (.int .u8 0), 1, 1))
    (v : Value) (xs ys : List Int) (hs : a.eval sl = v) (hx : a.eval x = .slice (some ⟨W.heap.size, 0, none⟩) ys.length ys.length) (HO : OwnU W base e v xs) (HB : Below base w0 W) (hbase : base ≤ W.heap.size) (hl : xs.length + ys.length ≤ 140737488355328)
    (h : ∀ v1 w1, OwnU w1 base e v1 (xs ++ ys) → Below base w0 w1 → wpList P ops Q rest (a.put o.dst v1) w1) : wpList P ops Q (o :: rest) a (W.alloc (.cells (nums .u8 ys).toArray e)) := by
  obtain ⟨i, hi, hz⟩ := Option.map_eq_some_iff.1 hinfo
  simp only [Prod.mk.injEq] at hz
  obtain ⟨hz0, hz1, hz2⟩ := hz
  have hsz : (W.alloc (.cells (nums .u8 ys).toArray e)).heap.size = W.heap.size + 1 := by simp
  have hlt : ∀ k, v.ownBlock = some k → base ≤ k ∧ k < W.heap.size := by
    intro k hk
    obtain ⟨g, cap, rfl, hb, hg, _⟩ := HO.cell
    have : g = k := by simpa [Value.ownBlock] using hk
    subst this
    exact ⟨hb, hg⟩
  have HO2 : OwnU (W.alloc (.cells (nums .u8 ys).toArray e)) base e v xs := HO.keep (fun k hk => heap_alloc_old W _ (hlt k hk).2)
  obtain ⟨v', w', hr, h2, h3, h4⟩ := OwnU.append (P := P) t o.type e i ht hi hz0 hz1 hz2 HO2 ⟨W.heap.size, 0, none⟩ ys.length ys.length ys rfl (fun j u hu => by
    rw [add_plain, cell_of_row _ W.heap.size j _ e _ (heap_alloc_new W _)]
    simpa using hu) hl (by omega)
  refine wpList_plain hgd fun _ hK => ?_
  unfold Oper.wp execOp
  simp only [ho, resolve, invoke, builtin, Sem.run_bind, Sem.run_pure, Result.andThen_ok, List.map_toArray, List.map_cons, List.map_nil, hs, hx, hr]
  exact hK _ _ (h v' w' h2 ((HB.alloc hbase _).grown h3 (by omega) (fun k hk => (hlt k hk).1)))
/-- Such a row, as a string. -/
theorem OwnU.string {P : Program} {w : World} {base : Nat} {e e' src dst : TypeId} {v : Value} {xs : List Int} (hs : P.underlying src = some (.slice e)) (he : P.underlying e = some (.int .u8)) (hd : P.underlying dst = some .string) (h : OwnU w base e' v xs) : (convert src dst v).run P w = .ok (.string (strOfNums xs)) w := by
  obtain ⟨g, cap, rfl, _, _, hc⟩ := h.cell
  refine run_convert_bytes_arg w src e hs he g 0 xs.length cap xs rfl (fun i hi => ?_) dst hd
  have e := hc i (.int .u8 (xs.getD i 0)) (by simp [nums, List.getD_eq_getElem?_getD, List.getElem?_eq_getElem hi])
  rw [add_plain] at e
  rw [Nat.zero_add]
  exact e
def slLen : Value → Nat
  | .slice _ n _ => n
  | _ => 0
/-- How many zeros. -/
def padZ (n : Nat) : Nat := (119 - n % 64) % 64
def padB (n j : Nat) : Int := ((8 * n / 2 ^ (8 * (7 - j)) % 256 : Nat) : Int)
def padL (l : List Int) : List Int := (l ++ [128] ++ List.replicate (padZ l.length) 0) ++ (List.range 8).map (padB l.length)
def spec_PadText.f (a0 : ByteArray) : Option (ByteArray) := if a0.size ≤ 1048576 then some (strOfNums (padL (bytesOf a0))) else none
set_option maxHeartbeats 4000000 in
set_option maxRecDepth 100000 in
theorem spec_PadText.calls (a0 : ByteArray) (r : ByteArray) (w : World) (h : spec_PadText.f a0 = some r) :
    Calls Try.prog 15 #[.string a0] w fun e w' => e = .returned (.string r) ∧ Below w.heap.size w w' := by
  unfold spec_PadText.f at h
  by_cases c : a0.size ≤ 1048576
  · rw [if_pos c] at h
    cases h
    have C := Aside0.mk c
    have kb := fun W => print_bytes (P := Try.prog) 9 43 5 Try.underlying9 Try.underlying43 Try.underlying5 a0 W
    obtain ⟨l, hl⟩ : ∃ l, l = bytesOf a0 := ⟨_, rfl⟩
    have hll : l.length = a0.size := by rw [hl]; exact bytesOf_length a0
    have HL := Aside0.mk hll
    have HO := Aside0.mk (OwnU.conv w 5 a0 (by unfold maxLen; omega))
    rw [← hl] at HO ⊢
    have HB := Aside0.mk (bytes_below (Below.refl w.heap.size w) (Nat.le_refl _) 5 a0)
    have HS := Aside0.mk (show w.heap.size ≤ (Lib.bytesWorld w 5 a0).heap.size from below_size HB.out)
    obtain ⟨st, hst⟩ : ∃ st, st = strOfNums (padL l) := ⟨_, rfl⟩
    rw [← hst]
    have HST := Aside0.mk hst
    clear hl hll c hst
    go_enter Try.func15, Try.ntmps15
    go_wp2_with (at_builtin; refine OwnU.append_wp (w0 := w) w.heap.size rfl (.tmp 8) (.tmp 9) 43 5 rfl Try.underlying43 (by kernel_rfl) _ l [128] rfl (by first | (go_simp; done) | (go_simp; rfl)) HO.out HB.out HS.out (by have := HL.out; have := C.out; simp; omega) ?_; intro v1 w1 ho hb; have HO1 := Aside0.mk ho; have HB1 := Aside0.mk hb; clear ho hb)
    go_loopw [3] (fun v3 wr => ∃ z : Nat, z ≤ padZ a0.size ∧ Aside0 (OwnU wr w.heap.size 5 v3 (l ++ [128] ++ List.replicate z 0)) ∧ Aside0 (Below w.heap.size w wr)) (fun v3 _ => a0.size + 200 - slLen v3)
    case atStart => exact ⟨0, Nat.zero_le _, by simpa using HO1, HB1⟩
    case round =>
      clear HO HB HS HO1 HB1
      obtain ⟨z, hz, HO, HB⟩ := hrel
      have hL : (l ++ [128] ++ List.replicate z 0).length = a0.size + 1 + z := by have := HL.out; simp; omega
      obtain ⟨g, cap, hv, _, _, _⟩ := HO.out.cell
      rw [hL] at hv
      subst hv
      have hz2 : padZ a0.size < 64 := Nat.mod_lt _ (by decide)
      by_cases hlt : z < padZ a0.size
      · have hm : (((a0.size + 1 + z : Nat) : Int) % 64 != 56) = true := by
          rw [bne_iff_ne]; unfold padZ at hlt hz; omega
        have hm2 : (Int.tmod ((a0.size + 1 + z : Nat) : Int) 64 != 56) = true := by
          rw [Int.tmod_eq_emod_of_nonneg (by omega)]; exact hm
        have HLL := Aside0.mk hL
        have HS := Aside0.mk (below_size HB.out)
        have HZ := Aside0.mk (And.intro hlt hz2)
        clear hL hlt hz hz2
        go_wp2_with (at_builtin; refine OwnU.append_wp (w0 := w) w.heap.size rfl (.tmp 15) (.tmp 16) 43 5 rfl Try.underlying43 (by kernel_rfl) _ (l ++ [128] ++ List.replicate z 0) [0] rfl (by first | (go_simp; done) | (go_simp; rfl)) HO.out HB.out HS.out (by have := HLL.out; have := C.out; have := HZ.out; simp only [List.length_cons, List.length_nil]; omega) ?_; intro v1 w1 ho hb; have HO1 := Aside0.mk ho; have HB1 := Aside0.mk hb; clear ho hb)
        refine ⟨⟨z + 1, HZ.out.1, ⟨?_⟩, HB1⟩, ?_⟩
        · have e := HO1.out
          rw [List.append_assoc (l ++ [128]), ← List.replicate_succ'] at e
          exact e
        · obtain ⟨g1, cap1, hv1, _, _, _⟩ := HO1.out.cell
          rw [hv1]
          have := HLL.out
          have := HZ.out
          simp only [slLen, List.length_append, List.length_cons, List.length_nil, List.length_replicate] at *
          omega
      · obtain rfl : z = padZ a0.size := by omega
        have hm : (((a0.size + 1 + padZ a0.size : Nat) : Int) % 64 != 56) = false := by
          rw [bne_eq_false_iff_eq]; unfold padZ; omega
        have hm2 : (Int.tmod ((a0.size + 1 + padZ a0.size : Nat) : Int) 64 != 56) = false := by
          rw [Int.tmod_eq_emod_of_nonneg (by omega)]; exact hm
        clear hlt hz
        have hw8 : wrap64 (8 * (a0.size : Int)) = 8 * (a0.size : Int) := by
          have := C.out
          unfold wrap64; omega
        have hmn : (((a0.size : Int) + 1 + (padZ a0.size : Int)) % 64 != 56) = false := by
          rw [bne_eq_false_iff_eq]; unfold padZ; omega
        have HZ2 := Aside0.mk hz2
        have HLL := Aside0.mk hL
        obtain ⟨xs, hxs⟩ : ∃ xs, xs = l ++ [128] ++ List.replicate (padZ a0.size) 0 := ⟨_, rfl⟩
        rw [← hxs] at HO HLL
        have HXS := Aside0.mk hxs
        clear hxs hL hz2
        go_wp2
        (try rw [hw8]); (try rw [hmn])
        go_loopw [3, 5] (fun v3 v5 wr => ∃ j : Nat, j ≤ 8 ∧ v5 = .int .i64 (7 - (j : Int)) ∧ Aside0 (OwnU wr w.heap.size 5 v3 (xs ++ (List.range j).map (padB a0.size))) ∧ Aside0 (Below w.heap.size w wr)) (fun _ v5 _ => (intOf v5 + 1).toNat)
        case atStart => exact ⟨0, by omega, rfl, by simpa using HO, HB⟩
        case round =>
          clear HO HB
          obtain ⟨j, hj, rfl, HO, HB⟩ := hrel
          by_cases hlt : j < 8
          · have HS := Aside0.mk (below_size HB.out)
            have HLEN := Aside0.mk (show (xs ++ (List.range j).map (padB a0.size)).length + 1 ≤ 140737488355328 by
              have := HLL.out; have := HZ2.out; have := C.out
              rw [List.length_append, List.length_map, List.length_range]; omega)
            have HPB := Aside0.mk (show 8 * (a0.size : Int) / 2 ^ (8 * (7 - j)) % 256 = padB a0.size j by simp [padB])
            go_wp2_with (at_builtin; refine OwnU.append_wp (w0 := w) w.heap.size rfl (.tmp 25) (.tmp 32) 43 5 rfl Try.underlying43 (by kernel_rfl) _ (xs ++ (List.range j).map (padB a0.size)) [8 * (a0.size : Int) / 2 ^ (8 * (7 - j)) % 256] rfl (by first | (go_simp; done) | (go_simp; rfl)) HO.out HB.out HS.out (by have := HLEN.out; simpa using this) ?_; intro v9 w9 ho hb; have HO1 := Aside0.mk ho; have HB1 := Aside0.mk hb; clear ho hb)
            refine ⟨⟨j + 1, by omega, by first | (go_num; done) | (congr 1; omega), ⟨?_⟩, HB1⟩, ?_⟩
            · have e := HO1.out
              rw [HPB.out, List.append_assoc] at e
              rw [List.range_succ, List.map_append]
              exact e
            · first | (simp only [intOf]; omega) | (simp [intOf]; omega)
          · obtain rfl : j = 8 := by omega
            have hcv := OwnU.string (P := Try.prog) (src := 43) (dst := 9) Try.underlying43 Try.underlying5 Try.underlying9 HO.out
            have hpl : padL l = xs ++ (List.range 8).map (padB a0.size) := by
              unfold padL; rw [HL.out, HXS.out]
            rw [← hpl, ← HST.out] at hcv
            clear hpl
            go_wp2
            go_ret
            exact ⟨rfl, HB.out⟩
  · rw [if_neg c] at h
    cases h

/-! ### bits_Mul32: function 85 -/
def bits_Mul32.f (a0 : Int) (a1 : Int) : Option (Int × Int) := some (((IntKind.u64.wrap ((IntKind.u64.wrap (a0)) * (IntKind.u64.wrap (a1)))) / 4294967296) % 4294967296, (IntKind.u64.wrap ((IntKind.u64.wrap (a0)) * (IntKind.u64.wrap (a1)))) % 4294967296)
set_option maxHeartbeats 8000000 in
set_option maxRecDepth 100000 in
theorem bits_Mul32.calls (a0 : Int) (a1 : Int) (r1 : Int) (r2 : Int) (w : World) (h : bits_Mul32.f a0 a1 = some (r1, r2)) :
    Calls Try.prog 85 #[.int .u32 a0, .int .u32 a1] w fun e w' => e = .returned (.tuple #[.int .u32 r1, .int .u32 r2]) ∧ Drawn0 w w' := by
  have H : (some (((IntKind.u64.wrap ((IntKind.u64.wrap (a0)) * (IntKind.u64.wrap (a1)))) / 4294967296) % 4294967296, (IntKind.u64.wrap ((IntKind.u64.wrap (a0)) * (IntKind.u64.wrap (a1)))) % 4294967296)) = some (r1, r2) := h
  clear h
  simp only [Option.some.injEq, Prod.mk.injEq] at H
  obtain ⟨rfl, rfl⟩ := H
  go_enter Try.func85, Try.ntmps85
  go_wp2
  go_ret2
  exact ⟨by first | rfl | (simp; done) | (simp [*]; done), by repeat (first | exact Drawn0.refl _ | apply Drawn0.step)⟩

/-! ### bits_Mul64: function 86 -/
def bits_Mul64.f (a0 : Int) (a1 : Int) : Option (Int × Int) := some (IntKind.u64.wrap ((IntKind.u64.wrap ((IntKind.u64.wrap ((a0 / 4294967296) * (a1 / 4294967296))) + ((IntKind.u64.wrap ((IntKind.u64.wrap ((a0 / 4294967296) * (Go.bits .and .u64 a1 4294967295))) + ((IntKind.u64.wrap ((Go.bits .and .u64 a0 4294967295) * (Go.bits .and .u64 a1 4294967295))) / 4294967296))) / 4294967296))) + ((IntKind.u64.wrap ((Go.bits .and .u64 (IntKind.u64.wrap ((IntKind.u64.wrap ((a0 / 4294967296) * (Go.bits .and .u64 a1 4294967295))) + ((IntKind.u64.wrap ((Go.bits .and .u64 a0 4294967295) * (Go.bits .and .u64 a1 4294967295))) / 4294967296))) 4294967295) + (IntKind.u64.wrap ((Go.bits .and .u64 a0 4294967295) * (a1 / 4294967296))))) / 4294967296)), IntKind.u64.wrap (a0 * a1))
set_option maxHeartbeats 8000000 in
set_option maxRecDepth 100000 in
theorem bits_Mul64.calls (a0 : Int) (a1 : Int) (r1 : Int) (r2 : Int) (w : World) (h : bits_Mul64.f a0 a1 = some (r1, r2)) :
    Calls Try.prog 86 #[.int .u64 a0, .int .u64 a1] w fun e w' => e = .returned (.tuple #[.int .u64 r1, .int .u64 r2]) ∧ Drawn0 w w' := by
  have H : (some (IntKind.u64.wrap ((IntKind.u64.wrap ((IntKind.u64.wrap ((a0 / 4294967296) * (a1 / 4294967296))) + ((IntKind.u64.wrap ((IntKind.u64.wrap ((a0 / 4294967296) * (Go.bits .and .u64 a1 4294967295))) + ((IntKind.u64.wrap ((Go.bits .and .u64 a0 4294967295) * (Go.bits .and .u64 a1 4294967295))) / 4294967296))) / 4294967296))) + ((IntKind.u64.wrap ((Go.bits .and .u64 (IntKind.u64.wrap ((IntKind.u64.wrap ((a0 / 4294967296) * (Go.bits .and .u64 a1 4294967295))) + ((IntKind.u64.wrap ((Go.bits .and .u64 a0 4294967295) * (Go.bits .and .u64 a1 4294967295))) / 4294967296))) 4294967295) + (IntKind.u64.wrap ((Go.bits .and .u64 a0 4294967295) * (a1 / 4294967296))))) / 4294967296)), IntKind.u64.wrap (a0 * a1))) = some (r1, r2) := h
  clear h
  simp only [Option.some.injEq, Prod.mk.injEq] at H
  obtain ⟨rfl, rfl⟩ := H
  go_enter Try.func86, Try.ntmps86
  go_wp2
  go_ret2
  exact ⟨by first | rfl | (simp; done) | (simp [*]; done), by repeat (first | exact Drawn0.refl _ | apply Drawn0.step)⟩

/-! ### bits_Mul: function 69 -/
def bits_Mul.f (a0 : Int) (a1 : Int) : Option (Int × Int) := (bits_Mul64.f a0 a1).bind fun bt101 => (some (bt101.1, bt101.2))
set_option maxHeartbeats 8000000 in
set_option maxRecDepth 100000 in
theorem bits_Mul.calls (a0 : Int) (a1 : Int) (r1 : Int) (r2 : Int) (w : World) (h : bits_Mul.f a0 a1 = some (r1, r2)) :
    Calls Try.prog 69 #[.int .u64 a0, .int .u64 a1] w fun e w' => e = .returned (.tuple #[.int .u64 r1, .int .u64 r2]) ∧ Drawn0 w w' := by
  have H : ((bits_Mul64.f a0 a1).bind fun bt101 => (some (bt101.1, bt101.2))) = some (r1, r2) := h
  clear h
  replace H := Option.bind_eq_some_iff.mp H
  obtain ⟨⟨t101, t102⟩, A30, H⟩ := H
  replace H : (some (t101, t102)) = some (r1, r2) := H
  have A3 := Aside0.mk A30
  clear A30
  simp only [Option.some.injEq, Prod.mk.injEq] at H
  obtain ⟨rfl, rfl⟩ := H
  go_enter Try.func69, Try.ntmps69
  go_wp2_with (first | ((with_reducible refine gate_callee (f := 86) rfl ?_); refine goesL_ (some 25) rfl rfl Try.func86 (by kernel_rfl) rfl #[.int .u64 a0, .int .u64 a1] rfl (by (try simp only [List.map_toArray, List.map_cons, List.map_nil]); first | done | rfl | (simp only [List.length_drop, List.length_take]; rfl)) ?_; (with_reducible refine (bits_Mul64.calls a0 a1 t101 t102 _ A3.out).mono ?_); rintro e w' ⟨rfl, ⟨nd, rfl⟩⟩; refine ⟨_, rfl, ?_⟩))
  go_ret2
  exact ⟨by first | rfl | (simp; done) | (simp [*]; done), by repeat (first | exact Drawn0.refl _ | apply Drawn0.step)⟩

/-! ### stringslite_HasPrefix: function 87 -/
def stringslite_HasPrefix.f (a0 : ByteArray) (a1 : ByteArray) : Option (Bool) := if (a0.size : Int) ≥ (a1.size : Int) then (if 0 ≤ (a1.size : Int) then (if (a1.size : Int) ≤ (a0.size : Int) then (some ((a0.extract 0 ((a1.size : Int) : Int).toNat).toList == a1.toList)) else (none)) else (none)) else (some false)
set_option maxHeartbeats 8000000 in
set_option maxRecDepth 100000 in
theorem stringslite_HasPrefix.calls (a0 : ByteArray) (a1 : ByteArray) (r : Bool) (w : World) (h : stringslite_HasPrefix.f a0 a1 = some r) :
    Calls Try.prog 87 #[.string a0, .string a1] w fun e w' => e = .returned (.bool r) ∧ Drawn0 w w' := by
  have H : (if (a0.size : Int) ≥ (a1.size : Int) then (if 0 ≤ (a1.size : Int) then (if (a1.size : Int) ≤ (a0.size : Int) then (some ((a0.extract 0 ((a1.size : Int) : Int).toNat).toList == a1.toList)) else (none)) else (none)) else (some false)) = some r := h
  clear h
  by_cases c3 : (a0.size : Int) ≥ (a1.size : Int)
  · rw [if_pos c3] at H
    have c3b0 : decide ((a1.size : Int) ≤ (a0.size : Int)) = true := decide_eq_true c3
    have c3b1 : decide (a1.size ≤ a0.size) = true := decide_eq_true (Int.ofNat_le.mp c3)
    clear c3
    by_cases c4 : 0 ≤ (a1.size : Int)
    · rw [if_pos c4] at H
      have c4b0 := eq_true c4
      have c4b1 : decide (0 ≤ (a1.size : Int)) = true := decide_eq_true c4
      clear c4
      by_cases c5 : (a1.size : Int) ≤ (a0.size : Int)
      · rw [if_pos c5] at H
        have c5b0 := eq_true c5
        have c5b1 : decide ((a1.size : Int) ≤ (a0.size : Int)) = true := decide_eq_true c5
        clear c5
        obtain rfl := Option.some.inj H
        go_enter Try.func87, Try.ntmps87
        go_wp2
        go_ret
        exact ⟨by first | rfl | (simp; done) | (simp [*]; done), by repeat (first | exact Drawn0.refl _ | apply Drawn0.step)⟩
      · rw [if_neg c5] at H
        exact absurd H (by simp)
    · rw [if_neg c4] at H
      exact absurd H (by simp)
  · rw [if_neg c3] at H
    have c3b0 : decide ((a1.size : Int) ≤ (a0.size : Int)) = false := decide_eq_false c3
    have c3b1 : decide (a1.size ≤ a0.size) = false := decide_eq_false (fun h => c3 (Int.ofNat_le.mpr h))
    clear c3
    obtain rfl := Option.some.inj H
    go_enter Try.func87, Try.ntmps87
    go_wp2
    go_ret
    exact ⟨by first | rfl | (simp; done) | (simp [*]; done), by repeat (first | exact Drawn0.refl _ | apply Drawn0.step)⟩

/-! ### strings_HasPrefix: function 70 -/
def strings_HasPrefix.f (a0 : ByteArray) (a1 : ByteArray) : Option (Bool) := (stringslite_HasPrefix.f a0 a1).bind fun t103 => (some t103)
set_option maxHeartbeats 8000000 in
set_option maxRecDepth 100000 in
theorem strings_HasPrefix.calls (a0 : ByteArray) (a1 : ByteArray) (r : Bool) (w : World) (h : strings_HasPrefix.f a0 a1 = some r) :
    Calls Try.prog 70 #[.string a0, .string a1] w fun e w' => e = .returned (.bool r) ∧ Drawn0 w w' := by
  have H : ((stringslite_HasPrefix.f a0 a1).bind fun t103 => (some t103)) = some r := h
  clear h
  replace H := Option.bind_eq_some_iff.mp H
  obtain ⟨t103, A30, H⟩ := H
  replace H : (some t103) = some r := H
  have A3 := Aside0.mk A30
  clear A30
  obtain rfl := Option.some.inj H
  go_enter Try.func70, Try.ntmps70
  go_wp2_with (first | ((with_reducible refine gate_callee (f := 87) rfl ?_); refine goesL_ (some 7) rfl rfl Try.func87 (by kernel_rfl) rfl #[.string a0, .string a1] rfl (by (try simp only [List.map_toArray, List.map_cons, List.map_nil]); first | done | rfl | (simp only [List.length_drop, List.length_take]; rfl)) ?_; (with_reducible refine (stringslite_HasPrefix.calls a0 a1 t103 _ A3.out).mono ?_); rintro e w' ⟨rfl, ⟨nd, rfl⟩⟩; refine ⟨_, rfl, ?_⟩))
  go_ret
  exact ⟨by first | rfl | (simp; done) | (simp [*]; done), by repeat (first | exact Drawn0.refl _ | apply Drawn0.step)⟩

-- NOT PRINTED: function 91 (abi_NoEscape)

-- NOT PRINTED: function 88 (strings_Builder_copyCheck)

-- NOT PRINTED: function 92 (bytealg_MakeNoZero)

-- NOT PRINTED: function 89 (strings_Builder_grow)

-- NOT PRINTED: function 71 (strings_Builder_Grow)

-- NOT PRINTED: function 72 (strings_Builder_WriteString)

-- NOT PRINTED: function 73 (strings_Builder_Len)

-- NOT PRINTED: function 74 (strings_Builder_String)

/-! ### strings_Repeat: function 43 -/
def rep_.f (s : ByteArray) (c : Int) : Option ByteArray := if 0 ≤ c ∧ s.size * c.toNat ≤ 140737488355328 ∧ c ≤ 9223372036854775807 then some ⟨(Lib.repeatL s.data.toList c.toNat).toArray⟩ else none
def strings_Repeat.f (a0 : ByteArray) (a1 : Int) : Option (ByteArray) := rep_.f a0 a1
theorem strings_Repeat.calls (a0 : ByteArray) (a1 : Int) (r : ByteArray) (w : World) (h : strings_Repeat.f a0 a1 = some r) :
    Calls Try.prog 43 #[.string a0, .int .i64 a1] w fun e w' => e = .returned (.string r) ∧ Below w.heap.size w w' := by
  unfold strings_Repeat.f rep_.f at h
  split at h
  · rename_i hc
    obtain ⟨c, rfl⟩ := Int.eq_ofNat_of_zero_le hc.1
    cases h
    exact Go.Proofs.Try.strings_Repeat a0 c w (by omega) hc.2.1
  · cases h

-- NOT PRINTED: function 44 (binary_bigEndian_AppendUint64)

/-! ### impl_PadText: function 16 -/
def impP (a : ByteArray) : ByteArray := ((a ++ (⟨#[128]⟩ : ByteArray)) ++ (⟨(Lib.repeatL [0] (padZ a.size)).toArray⟩ : ByteArray)) ++ strOfNums ((Lib.beBytes 8 (a.size * 8)).map fun b => (b.toNat : Int))
def impl_PadText.f (a0 : ByteArray) : Option (ByteArray) := if a0.size ≤ 1048576 then some (impP a0) else none
theorem byteCells_nums (D : List UInt8) : Lib.byteCells D = nums .u8 (D.map fun b => (b.toNat : Int)) := by
  simp [Lib.byteCells, nums, List.map_map, Function.comp_def]
theorem strAdd_run {P : Program} {t : TypeId} (a b : ByteArray) (h : a.size + b.size ≤ 9223372036854775807) (W : World) : (binOp .add t (.string a) (.string b)).run P W = .ok (.string (a ++ b)) W := by
  unfold binOp Op.stringOp
  simp
  omega
/-- What the contract of the eight bytes says, with their text as a letter. -/
def Eight (W : World) (bs : ByteArray) (e : Ending) (w' : World) : Prop := ∃ v', e = .returned v' ∧ (∀ n, (convert 43 9 v').run Try.prog (w'.drewN n) = .ok (.string bs) (w'.drewN n)) ∧ (convert 43 9 v').run Try.prog w' = .ok (.string bs) w' ∧ Below W.heap.size W w'
theorem eight_calls (n : Nat) (hn : n ≤ 1048576) (bs : ByteArray) (hbs : bs = strOfNums ((Lib.beBytes 8 (n * 8)).map fun b => (b.toNat : Int))) (W : World) : Calls Try.prog 44 #[.agg #[], .slice none 0 0, .int .u64 ((n * 8 : Nat) : Int)] W (Eight W bs) := by
  refine (Try.binary_BE_AppendUint64 W.heap.size 0 (n * 8) (by omega) (.slice none 0 0) [] W (World.ownsRow_nil W _ _ _) (Nat.le_refl _) (by omega)).mono ?_
  rintro e w' ⟨v', rfl, ho, hb⟩
  rw [List.nil_append, byteCells_nums] at ho
  have hl : ((Lib.beBytes 8 (n * 8)).map fun b => (b.toNat : Int)).length = 8 := by rw [List.length_map, Lib.beBytes_length]
  generalize ((Lib.beBytes 8 (n * 8)).map fun b => (b.toNat : Int)) = xs at ho hl hbs
  subst hbs
  rw [← hl] at ho
  exact ⟨v', rfl, fun k => own_string (P := Try.prog) (src := 43) (dst := 9) Try.underlying43 Try.underlying5 Try.underlying9 (w := w'.drewN k) ho, own_string (P := Try.prog) (src := 43) (dst := 9) Try.underlying43 Try.underlying5 Try.underlying9 ho, hb⟩
set_option maxHeartbeats 4000000 in
set_option maxRecDepth 100000 in
theorem impl_PadText.calls (a0 : ByteArray) (r : ByteArray) (w : World) (h : impl_PadText.f a0 = some r) :
    Calls Try.prog 16 #[.string a0] w fun e w' => e = .returned (.string r) ∧ Below w.heap.size w w' := by
  unfold impl_PadText.f at h
  by_cases c : a0.size ≤ 1048576
  · rw [if_pos c] at h
    cases h
    obtain ⟨bs, hbs⟩ : ∃ bs : ByteArray, bs = strOfNums ((Lib.beBytes 8 (a0.size * 8)).map fun b => (b.toNat : Int)) := ⟨_, rfl⟩
    obtain ⟨rp, hrp⟩ : ∃ rp : ByteArray, rp = ⟨(Lib.repeatL [0] (padZ a0.size)).toArray⟩ := ⟨_, rfl⟩
    have C1 : Aside0 (∀ W : World, Calls Try.prog 43 #[.string ⟨#[0]⟩, .int .i64 (padZ a0.size : Int)] W fun e w' => e = .returned (.string rp) ∧ Below W.heap.size W w') := ⟨fun W => by
      have hz2 : padZ a0.size < 64 := Nat.mod_lt _ (by decide)
      rw [hrp]
      exact Try.strings_Repeat ⟨#[0]⟩ (padZ a0.size) W (by omega) (by show 1 * padZ a0.size ≤ _; omega)⟩
    have hq : IntKind.u64.wrap (IntKind.u64.wrap (a0.size : Int) * 8) = ((a0.size * 8 : Nat) : Int) := by simp [IntKind.wrap, IntKind.bits, IntKind.signed]; omega
    have C2 : Aside0 (∀ W : World, Calls Try.prog 44 #[.agg #[], .slice none 0 0, .int .u64 (IntKind.u64.wrap (IntKind.u64.wrap (a0.size : Int) * 8))] W (Eight W bs)) := ⟨fun W => by rw [hq]; exact eight_calls a0.size c bs hbs W⟩
    clear hq
    have hI : impP a0 = ((a0 ++ (⟨#[128]⟩ : ByteArray)) ++ rp) ++ bs := by rw [hrp, hbs]; rfl
    have hrs : rp.size ≤ 63 := by
      have hz2 : padZ a0.size < 64 := Nat.mod_lt _ (by decide)
      have h_ : rp.size = (Lib.repeatL [(0 : UInt8)] (padZ a0.size)).length := by rw [hrp]; rfl
      rw [h_, Lib.repeatL_length, List.length_singleton, Nat.mul_one]; omega
    have hbz : bs.size = 8 := by rw [hbs, strOfNums_size, List.length_map, Lib.beBytes_length]
    have hbz2 : bs.size ≤ 8 := Nat.le_of_eq hbz
    rw [hI]
    have e1 : (9223372036854775807 < a0.size + 1) = False := eq_false (by omega)
    have e2 : (9223372036854775807 < a0.size + 1 + rp.size) = False := eq_false (by omega)
    have e3 : (9223372036854775807 < a0.size + 1 + rp.size + bs.size) = False := eq_false (by omega)
    have HC_ := Aside0.mk c
    clear hrs hbz2
    clear hrp hbs hI hbz
    have hz1 : (64 - ((a0.size : Int) + 9) % 64) % 64 = (padZ a0.size : Int) := by unfold padZ; omega
    have HB := Aside0.mk (Below.refl w.heap.size w)
    go_enter Try.func16, Try.ntmps16
    go_wp2
    (try rw [hz1])
    go_region_with (first | (go_at_call 43; refine (C1.out _).mono ?_; rintro e w1 ⟨rfl, hb⟩; have HB1 := Aside0.mk hb; clear hb) | (go_at_call 44; (with_reducible refine (C2.out _).mono ?_); rintro e w2 ⟨v2, rfl, hcv, hcv0, hb⟩; have HB2 := Aside0.mk hb; have HCV := Aside0.mk hcv; clear hb hcv))
    all_goals (try go_wp2)
    all_goals go_ret
    all_goals exact ⟨rfl, below_step (below_step (below_drew1 HB.out) HB1.out) HB2.out⟩
  · rw [if_neg c] at h
    cases h

/-! ### laws_FnExactPadText: function 5 -/
def laws_FnExactPadText.f (a0 : ByteArray) : Option (Bool) := if (a0.size : Int) > 1048576 then (some true) else ((spec_PadText.f a0).bind fun t104 => ((impl_PadText.f a0).bind fun t105 => (if t105.toList = t104.toList then (some true) else (some false))))
set_option maxHeartbeats 8000000 in
set_option maxRecDepth 100000 in
theorem laws_FnExactPadText.calls (a0 : ByteArray) (r : Bool) (w : World) (h : laws_FnExactPadText.f a0 = some r) :
    Calls Try.prog 5 #[.string a0] w fun e w' => e = .returned (.bool r) ∧ Below w.heap.size w w' := by
  have HB := Aside0.mk (Below.refl w.heap.size w)
  have H : (if (a0.size : Int) > 1048576 then (some true) else ((spec_PadText.f a0).bind fun t104 => ((impl_PadText.f a0).bind fun t105 => (if t105.toList = t104.toList then (some true) else (some false))))) = some r := h
  clear h
  by_cases c2 : (a0.size : Int) > 1048576
  · rw [if_pos c2] at H
    have c2b0 : decide (1048576 < (a0.size : Int)) = true := decide_eq_true c2
    have c2b1 : decide (1048576 < a0.size) = true := decide_eq_true (by omega)
    clear c2
    obtain rfl := Option.some.inj H
    go_enter Try.func5, Try.ntmps5
    go_wp2
    go_ret
    exact ⟨by first | rfl | (simp [errW_none, errW_some] <;> rfl) | (simp [*, errW_none, errW_some] <;> rfl), by repeat (first | (with_reducible first | exact HB.out | apply below_alloc | apply pw_below_drewN | apply below_drew1) | exact HB.out)⟩
  · rw [if_neg c2] at H
    have c2b0 : decide (1048576 < (a0.size : Int)) = false := decide_eq_false c2
    have c2b1 : decide (1048576 < a0.size) = false := decide_eq_false (by omega)
    clear c2
    replace H := Option.bind_eq_some_iff.mp H
    obtain ⟨t104, A30, H⟩ := H
    replace H : ((impl_PadText.f a0).bind fun t105 => (if t105.toList = t104.toList then (some true) else (some false))) = some r := H
    have A3 := Aside0.mk A30
    clear A30
    replace H := Option.bind_eq_some_iff.mp H
    obtain ⟨t105, A40, H⟩ := H
    replace H : (if t105.toList = t104.toList then (some true) else (some false)) = some r := H
    have A4 := Aside0.mk A40
    clear A40
    by_cases c5 : t105.toList = t104.toList
    · rw [if_pos c5] at H
      have c5b0 : (t105.toList == t104.toList) = true := beq_iff_eq.mpr c5
      have c5b1 : (t105.toList != t104.toList) = false := bne_eq_false_iff_eq.mpr c5
      clear c5
      obtain rfl := Option.some.inj H
      go_enter Try.func5, Try.ntmps5
      go_wp2_with (first | ((with_reducible refine gate_callee (f := 15) rfl ?_); refine goesL_ (some 9) rfl rfl Try.func15 (by kernel_rfl) rfl #[.string a0] rfl (by (try simp only [List.map_toArray, List.map_cons, List.map_nil]); first | done | rfl | (simp only [List.length_drop, List.length_take]; rfl)) ?_; (with_reducible refine (spec_PadText.calls a0 t104 _ A3.out).mono ?_); rintro e w6 ⟨rfl, hb⟩; refine ⟨_, rfl, ?_⟩; have n0_ := Aside0.mk (below_step (by repeat (first | (with_reducible first | exact HB.out | apply below_alloc | apply pw_below_drewN | apply below_drew1) | exact HB.out)) hb); clear HB; have HB := n0_; clear n0_; (try clear hb); (try clear hb2); (try clear hk); (try clear hi)) | ((with_reducible refine gate_callee (f := 16) rfl ?_); refine goesL_ (some 11) rfl rfl Try.func16 (by kernel_rfl) rfl #[.string a0] rfl (by (try simp only [List.map_toArray, List.map_cons, List.map_nil]); first | done | rfl | (simp only [List.length_drop, List.length_take]; rfl)) ?_; (with_reducible refine (impl_PadText.calls a0 t105 _ A4.out).mono ?_); rintro e w7 ⟨rfl, hb⟩; refine ⟨_, rfl, ?_⟩; have n0_ := Aside0.mk (below_step (by repeat (first | (with_reducible first | exact HB.out | apply below_alloc | apply pw_below_drewN | apply below_drew1) | exact HB.out)) hb); clear HB; have HB := n0_; clear n0_; (try clear hb); (try clear hb2); (try clear hk); (try clear hi)))
      go_ret
      exact ⟨by first | rfl | (simp [errW_none, errW_some] <;> rfl) | (simp [*, errW_none, errW_some] <;> rfl), by repeat (first | (with_reducible first | exact HB.out | apply below_alloc | apply pw_below_drewN | apply below_drew1) | exact HB.out)⟩
    · rw [if_neg c5] at H
      have c5b0 : (t105.toList == t104.toList) = false := beq_eq_false_iff_ne.mpr c5
      have c5b1 : (t105.toList != t104.toList) = true := bne_iff_ne.mpr c5
      obtain rfl := Option.some.inj H
      go_enter Try.func5, Try.ntmps5
      go_wp2_with (first | ((with_reducible refine gate_callee (f := 15) rfl ?_); refine goesL_ (some 9) rfl rfl Try.func15 (by kernel_rfl) rfl #[.string a0] rfl (by (try simp only [List.map_toArray, List.map_cons, List.map_nil]); first | done | rfl | (simp only [List.length_drop, List.length_take]; rfl)) ?_; (with_reducible refine (spec_PadText.calls a0 t104 _ A3.out).mono ?_); rintro e w8 ⟨rfl, hb⟩; refine ⟨_, rfl, ?_⟩; have n0_ := Aside0.mk (below_step (by repeat (first | (with_reducible first | exact HB.out | apply below_alloc | apply pw_below_drewN | apply below_drew1) | exact HB.out)) hb); clear HB; have HB := n0_; clear n0_; (try clear hb); (try clear hb2); (try clear hk); (try clear hi)) | ((with_reducible refine gate_callee (f := 16) rfl ?_); refine goesL_ (some 11) rfl rfl Try.func16 (by kernel_rfl) rfl #[.string a0] rfl (by (try simp only [List.map_toArray, List.map_cons, List.map_nil]); first | done | rfl | (simp only [List.length_drop, List.length_take]; rfl)) ?_; (with_reducible refine (impl_PadText.calls a0 t105 _ A4.out).mono ?_); rintro e w9 ⟨rfl, hb⟩; refine ⟨_, rfl, ?_⟩; have n0_ := Aside0.mk (below_step (by repeat (first | (with_reducible first | exact HB.out | apply below_alloc | apply pw_below_drewN | apply below_drew1) | exact HB.out)) hb); clear HB; have HB := n0_; clear n0_; (try clear hb); (try clear hb2); (try clear hk); (try clear hi)))
      go_ret
      exact ⟨by first | rfl | (simp [errW_none, errW_some] <;> rfl) | (simp [*, errW_none, errW_some] <;> rfl), by repeat (first | (with_reducible first | exact HB.out | apply below_alloc | apply pw_below_drewN | apply below_drew1) | exact HB.out)⟩

/-- THE ONE PURE STATEMENT of laws_FnExactPadText: yours. -/
def laws_FnExactPadText.Pure : Prop := ∀ (a0 : ByteArray), a0.size ≤ 140737488351232 → laws_FnExactPadText.f a0 = some true
theorem laws_FnExactPadText.walk (P : laws_FnExactPadText.Pure) (a0 : ByteArray) (w : World) (w0 : a0.size ≤ 140737488351232) :
    Calls Try.prog 5 #[.string a0] w fun e w' => e = .returned (.bool true) ∧ Below w.heap.size w w' := by
  have h := P a0 w0
  refine (laws_FnExactPadText.calls a0 true w h).mono ?_
  rintro e w' ⟨rfl, hd⟩
  exact ⟨rfl, hd⟩

end Go.Proofs.Ytkkadcpgjniojaa.PFnExactPadText
