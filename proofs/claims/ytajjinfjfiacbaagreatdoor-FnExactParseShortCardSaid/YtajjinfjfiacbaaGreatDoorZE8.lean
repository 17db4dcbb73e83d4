/- Operations: slices are made and grow. -/
import Derived.Test.YtajjinfjfiacbaaGreatDoorZE7
set_option linter.unusedSectionVars false
set_option linter.unusedVariables false
set_option linter.unusedSimpArgs false
set_option linter.unnecessarySimpa false
namespace Go
namespace Evp
variable [Globs]

section
variable {P : Program} {T : Types} {nm : Nat} {I : Nat → Prop} {w : World} {β : Nat → Conc} {N : Nat → Prop} {a : Act} {st : St}

/-- Only the count of draws has moved. -/
theorem StOK.heap (h : StOK I w β N a.tmps st) {w' : World} (hw : w'.heap = w.heap) : StOK I w' β N a.tmps st := by
  have := h.upd (I' := I) (w' := w') (β' := β) (N' := N) (objs := st.objs) (fun _ x => x) (fun b _ => by rw [hw]) (fun b hb => by rw [hw]; exact h.lt b hb) (fun _ _ => rfl) (fun _ x => x) h.objN
    (fun n o hn => (h.obj n o hn).mono (fun _ x => x) (fun b _ => by rw [hw]) (by rw [hw]; exact Nat.le_refl _) (fun b hb => ⟨by rw [hw], ((h.obj n o hn).owned_lt hb).2⟩)) h.apart
  exact this

theorem Moves.heap {Own : Nat → Prop} {w' : World} (hw : w'.heap = w.heap) (h1 : w'.os = w.os) (h2 : w'.tape = w.tape) (h3 : w'.output = w.output) : Moves I w Own I w' Own :=
  ⟨h1, h2, h3, by rw [hw]; exact Nat.le_refl _, fun b _ _ => by rw [hw], fun _ x => x, fun _ x => .inl x, fun _ x => .inl x⟩

theorem OpSim.after {I1 : Nat → Prop} {w1 : World} {slot : Slot} {ups u1 : Ups} {run run1 : Result Next} (hm : Moves I w (Owns β st.objs) I1 w1 (Owns β (u1 ++ st.objs)))
    (h : OpSim nm I1 w1 β N a.tmps { st with objs := u1 ++ st.objs } slot ups run1) (hr : run = run1) : OpSim nm I w β N a.tmps st slot (ups ++ u1) run := by
  obtain ⟨nx, v, w', I', β', N', h1, h2, h3, h4, h5, h6⟩ := h
  refine ⟨nx, v, w', I', β', N', hr.trans h1, h2, by simpa using h3, h4, h5, ⟨hm.trans ?_, h6.n1, h6.n2, h6.beta⟩⟩
  simpa using h6.moves

/-! Cells of elements, one behind the other. -/

/-- The cells c hold the elements xs from element k on, of sz cells each. -/
structure Elems (I : Nat → Prop) (w : World) (c : Array Value) (sz k : Nat) (xs : List PV) : Prop where
  szs : ∀ i (h : i < xs.length), xs[i].cells.length = sz
  rep : ∀ i j (h1 : i < xs.length) (h2 : j < xs[i].cells.length), ∃ v, c[(k + i) * sz + j]? = some v ∧ Rep I w v (xs[i].cells[j])
  one : ∀ i (h : i < xs.length) j (h2 : j < xs[i].cells.length), (xs[i].cells[j]).single = true

theorem Elems.new {c : Array Value} {e : TypeId} {fr : Nat × Nat} {sz cap : Nat} {xs : List PV} (hI : ∀ b, I b → b < w.heap.size) (h : Elems I w c sz 0 xs) (hc : xs.length ≤ cap) (hs : cap * sz ≤ c.size) (hfr : noFrozen fr c.size) :
    ObjOK I (w.alloc (.cells c e fr)) (.arr sz xs) (.arr w.heap.size xs.length cap sz) :=
  .new_arr hI hc hs hfr h.szs (fun i j h1 h2 => by simpa using h.rep i j h1 h2) h.one

theorem fold_lay (off : Nat) : ∀ (l : List Value) (k : Nat) (c : Array Value), (l.zipIdx k).foldl (fun cs (p : Value × Nat) => cs.setIfInBounds (off + p.2) p.1) c = lay c (off + k) l
  | [], _, _ => rfl
  | v :: r, k, c => by
    simp only [List.zipIdx_cons, List.foldl_cons, lay]
    rw [fold_lay off r (k + 1)]
    rfl

theorem fill_lay (off : Nat) (cells : Array Value) (v : Value) : v.cells.zipIdx.foldl (fun cs (p : Value × Nat) => cs.setIfInBounds (off + p.2) p.1) cells = lay cells off v.cells.toList := by
  rw [← Array.foldl_toList, Array.toList_zipIdx, fold_lay]
  rfl

theorem fill_seq {size : Nat} : ∀ (vs : List Value) (k : Nat) (cells : Array Value), (∀ v ∈ vs, v.cells.size = size) → (k + vs.length) * size ≤ cells.size →
    ∃ cells', Instr.fill (fun i => some (i * size, size)) cells ((List.range' k vs.length).zip vs) = some cells' ∧ cells'.size = cells.size ∧
      (∀ i j, (h : i < vs.length) → j < size → cells'[(k + i) * size + j]? = vs[i].cells[j]?) ∧ (∀ m, m < k * size → cells'[m]? = cells[m]?)
  | [], k, cells, _, _ => ⟨cells, rfl, rfl, fun i j h => by simp at h, fun _ _ => rfl⟩
  | v :: r, k, cells, hv, hl => by
    have h0 : v.cells.size = size := hv v (by simp)
    simp only [List.length_cons] at hl
    have hle : (k + 1) * size ≤ cells.size := Nat.le_trans (Nat.mul_le_mul_right _ (by omega)) hl
    rw [Nat.succ_mul] at hle
    have hl' : (k + 1 + r.length) * size ≤ cells.size := by rw [show k + 1 + r.length = k + (r.length + 1) by omega]; exact hl
    obtain ⟨c', h1, h2, h3, h4⟩ := fill_seq r (k + 1) (lay cells (k * size) v.cells.toList) (fun x hx => hv x (by simp [hx])) (by rw [lay_size]; exact hl')
    refine ⟨c', ?_, by rw [h2, lay_size], ?_, ?_⟩
    · simp only [List.length_cons, List.range'_succ, List.zip_cons_cons, Instr.fill, h0, ne_eq, not_true, decide_false, Bool.false_or, decide_eq_true_eq]
      rw [if_neg (by omega), fill_lay]
      exact h1
    · intro i j hi hj
      cases i with
      | zero =>
        rw [h4 _ (by rw [Nat.succ_mul, Nat.add_zero]; omega), lay_get _ _ _ _ (by simp [h0]; exact hle)]
        rw [if_pos (by simp [h0]; exact hj)]
        simp
      | succ i =>
        have := h3 i j (by simpa using hi) hj
        rw [show k + (i + 1) = k + 1 + i by omega]
        simpa using this
    · intro m hm
      rw [h4 m (by rw [Nat.succ_mul]; omega), lay_get _ _ _ _ (by simp [h0]; exact hle), if_neg (by omega)]

theorem zip_fst_snd {α β : Type} : ∀ (l : List (α × β)), (l.map (·.1)).zip (l.map (·.2)) = l
  | [] => rfl
  | (x, y) :: r => by simp [zip_fst_snd r]

theorem elems_of_fill {size : Nat} {vs : List Value} {ps : List PV} {c : Array Value} (hr : All2 (Rep I w) vs ps) (hz : ∀ i (h : i < ps.length), ps[i].cells.length = size)
    (hc : ∀ i j, (h : i < vs.length) → j < size → c[i * size + j]? = vs[i].cells[j]?) : Elems I w c size 0 ps := by
  have hlen := hr.length
  refine ⟨hz, fun i j h1 h2 => ?_, fun i h1 j h2 => ?_⟩
  · have h3 : i < vs.length := by omega
    have hrow := (hr.get i h3 h1).row
    have h4 : j < size := by rw [← hz i h1]; exact h2
    have h5 : j < vs[i].cells.size := by rw [hrow.size]; exact h2
    refine ⟨vs[i].cells[j], ?_, hrow.rep j h5 h2⟩
    rw [Nat.zero_add, hc i j h3 h4, Array.getElem?_eq_getElem h5]
  · exact (hr.get i (by omega) h1).row.one j h2

theorem All2.map {α β γ : Type} {R : β → γ → Prop} {f : α → β} {g : α → γ} : ∀ {l : List α}, (∀ x ∈ l, R (f x) (g x)) → All2 R (l.map f) (l.map g)
  | [], _ => .nil
  | x :: r, h => .cons (h x (by simp)) (All2.map (fun y hy => h y (by simp [hy])))

theorem sim_buildSlice (h : StOK I w β N a.tmps st) (hf : Fresh N nm) {t e : TypeId} {ti ei : TI} {len : Nat} {parts : Array (Nat × Operand)} (ht : TypeOK P t ti) (hk : ti.kind = .slice e) (he : TypeOK P e ei)
    {ss : List Slot} (hs : All2 (SlotOK I w β) (parts.toList.map fun p => a.eval p.2) ss) {vs : List PV} {ups : Ups} (hv : keepAll st.obj ss = some (vs, ups))
    (hi : parts.toList.map (·.1) = List.range len) (hl : vs.length = len) (hz : ∀ p ∈ vs, p.cells.length = ei.size) (hm : len * ei.size ≤ 65536) {o : Oper} (ho : o.op = .buildSlice t len parts) :
    OpSim nm I w β N a.tmps st (.slc nm) ((nm, .arr ei.size vs) :: ups) ((execOp a.eval o).run P w) := by
  obtain ⟨I1, h1, m1, r1, _⟩ := keepAll_sim hs h (Near.refl st) hv
  have hz' : ∀ i (h : i < vs.length), vs[i].cells.length = ei.size := fun i h => hz _ (List.getElem_mem h)
  have hvl : (parts.toList.map fun p => a.eval p.2).length = len := by rw [r1.length, hl]
  have hsz : ∀ v ∈ (parts.toList.map fun p => a.eval p.2), v.cells.size = ei.size := by
    intro v hv'
    obtain ⟨i, hi', rfl⟩ := List.getElem_of_mem hv'
    have hi2 : i < vs.length := by rw [← r1.length]; exact hi'
    rw [((r1.get i hi' hi2).row).size, hz' i hi2]
  let c0 : Array Value → Array Value := fun zero => (Array.range (len * ei.size)).map (zero[· % zero.size]!)
  obtain ⟨z, hzr, _⟩ := zero_row he I w
  obtain ⟨zero, hzero⟩ : ∃ zero : Array Value, (len * ei.size = 0 → zero = #[]) ∧ (¬ len * ei.size = 0 → zero = z.cells) := by
    by_cases h0 : len * ei.size = 0
    · exact ⟨#[], fun _ => rfl, fun x => absurd h0 x⟩
    · exact ⟨z.cells, fun x => absurd x h0, fun _ => rfl⟩
  obtain ⟨c', hc1, hc2, hc3, _⟩ := fill_seq (size := ei.size) (parts.toList.map fun p => a.eval p.2) 0 (c0 zero) hsz (by simp [c0, hvl])
  have hparts : (parts.map fun (p : Nat × Operand) => (p.1, a.eval p.2)).toList = (List.range' 0 (parts.toList.map fun p => a.eval p.2).length).zip (parts.toList.map fun p => a.eval p.2) := by
    rw [hvl, ← List.range_eq_range', ← hi]
    simp only [Array.toList_map]
    have := zip_fst_snd (parts.toList.map fun (p : Nat × Operand) => (p.1, a.eval p.2))
    rw [← this]
    simp [List.map_map, Function.comp_def]
  have hel : Elems I1 w c' ei.size 0 vs := elems_of_fill r1 hz' (fun i j h2 h3 => by simpa using hc3 i j h2 h3)
  have hcs : c'.size = len * ei.size := by rw [hc2]; simp [c0]
  have hrun : (execOp a.eval o).run P w = .ok (.value (.slice (some ⟨w.heap.size, 0, none⟩) len len)) (w.alloc (.cells c' e)) := by
    have hfill : Instr.fill (fun i => some (i * ei.size, ei.size)) (c0 zero) (parts.map fun (p : Nat × Operand) => (p.1, a.eval p.2)).toList = some c' := by rw [hparts]; exact hc1
    simp only [execOp, ho, Instr.buildSlice, Sem.run_bind, ht.run_slice hk, Result.andThen_ok, he.run_size]
    rw [if_neg (by omega)]
    have hfill' : Instr.fill (fun i => some (i * ei.size, ei.size)) ((Array.range (len * ei.size)).map fun x => zero[x % zero.size]!) (parts.map fun (p : Nat × Operand) => (p.1, a.eval p.2)).toList = some c' := hfill
    by_cases h0 : len * ei.size = 0
    · rw [if_pos h0]
      obtain rfl := hzero.1 h0
      simp only [Sem.run_bind, Sem.run_pure, Result.andThen_ok, hfill', newRow_run]
    · rw [if_neg h0]
      obtain rfl := hzero.2 h0
      simp only [Sem.run_bind, Sem.run_pure, Result.andThen_ok, hzr, hfill', newRow_run]
  refine sim_make m1 h1 hf (c := .arr w.heap.size vs.length len ei.size) (x := .cells c' e) (by simp [owned]) (hel.new h1.lt (by omega) (by rw [hcs]; exact Nat.le_refl _) (noFrozen_zero _)) (.inl rfl) ?_
  rw [hrun, hl]
  rfl

end
end Evp
end Go
