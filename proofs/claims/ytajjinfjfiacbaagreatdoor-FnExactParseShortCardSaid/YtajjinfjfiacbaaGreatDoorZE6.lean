/- Operations, one by one, as the model runs them. -/
import Derived.Test.YtajjinfjfiacbaaGreatDoorZE5
set_option linter.unusedSectionVars false
set_option linter.unusedVariables false
set_option linter.unusedSimpArgs false
set_option linter.unnecessarySimpa false
namespace Go
namespace Evp
variable [Globs]

theorem look_append {u r : List (Nat × Obj)} {n : Nat} (h : ∀ x ∈ u, x.1 ≠ n) : look (u ++ r) n = look r n := by
  induction u with
  | nil => rfl
  | cons x u ih =>
    obtain ⟨m, o⟩ := x
    rw [List.cons_append, look_cons, if_neg (h (m, o) (by simp)), ih (fun y hy => h y (by simp [hy]))]

theorem keep_names {L : Look} {s : Slot} {p : PV} {ups : Ups} (h : keepPV L s = some (p, ups)) : ∀ x ∈ ups, ∃ sz xs, L x.1 = some (.arr sz xs) := by
  unfold keepPV at h
  split at h
  · cases h; intro x hx; cases hx
  · split at h
    · rename_i ho
      cases h
      intro x hx
      simp only [List.mem_singleton] at hx
      subst hx
      exact ⟨_, _, ho⟩
    · cases h; intro x hx; cases hx
    · cases h
  · cases h

section
variable {P : Program} {T : Types} {nm : Nat} {I : Nat → Prop} {w : World} {β : Nat → Conc} {N : Nat → Prop} {a : Act} {st : St}

/-- The names of an operation are new. -/
abbrev Fresh (N : Nat → Prop) (nm : Nat) : Prop := ∀ n, nm ≤ n → n < nm + 16 → ¬ N n

theorem sim_slot (h : StOK I w β N a.tmps st) {v : Value} {s : Slot} (hs : SlotOK I w β v s) (hn : ∀ n ∈ s.names, N n) {run : Result Next} (hr : run = .ok (.value v) w) :
    OpSim nm I w β N a.tmps st s [] run := .still h hr hs hn

theorem SlotOK.slc' {n : Nat} {v : Value} (h : v = (β n).val) : SlotOK I w β v (.slc n) := h ▸ .slc

/-- A new slice without a block. -/
theorem sim_nil (h : StOK I w β N a.tmps st) (hf : Fresh N nm) {sz : Nat} {ad : Option Addr} {run : Result Next} (hr : run = .ok (.value (.slice ad 0 0)) w) :
    OpSim nm I w β N a.tmps st (.slc nm) [(nm, .arr sz [])] run := by
  obtain ⟨h1, h2⟩ := h.name (hf nm (Nat.le_refl _) (by omega)) (o := .arr sz []) (c := .emp ad) (by simp [owned]) .emp
  refine ⟨_, _, w, I, _, _, hr, .inl rfl, h1, ?_, ?_, ⟨h2, fun _ x => .inl x, ?_, ?_⟩⟩
  · exact .slc' (by simp [Conc.val])
  · intro n hn
    simp only [Slot.names, List.mem_singleton] at hn
    exact .inr hn
  · rintro n (h | rfl)
    · exact .inl h
    · exact .inr ⟨Nat.le_refl _, by omega⟩
  · intro n hn
    show (if n = nm then _ else β n) = β n
    rw [if_neg]
    rintro rfl
    exact hf _ (Nat.le_refl _) (by omega) hn

/-- A new block that holds a slice or a variable, behind what was given up. -/
theorem sim_make {I1 : Nat → Prop} {ups : Ups} (hm : Moves I w (Owns β st.objs) I1 w (Owns β (ups ++ st.objs))) (h : StOK I1 w β N a.tmps { st with objs := ups ++ st.objs }) (hf : Fresh N nm) {o : Obj} {c : Conc} {x : Go.Obj}
    (hown : owned o c = some w.heap.size) (hok : ObjOK I1 (w.alloc x) o c) {slot : Slot} (hs : slot = .slc nm ∨ (slot = .ptr nm 0 ∧ c = .blk w.heap.size))
    {run : Result Next} (hr : run = .ok (.value c.val) (w.alloc x)) : OpSim nm I w β N a.tmps st slot ((nm, o) :: ups) run := by
  obtain ⟨h1, h2⟩ := h.make (hf nm (Nat.le_refl _) (by omega)) hown hok
  refine ⟨_, _, w.alloc x, I1, _, _, hr, .inl rfl, h1, ?_, ?_, ⟨hm.trans h2, fun _ x => .inl x, ?_, ?_⟩⟩
  · rcases hs with rfl | ⟨rfl, hc⟩
    · exact .slc' (by simp)
    · rw [hc]
      exact .ptr (by simp)
  · intro n hn
    rcases hs with rfl | ⟨rfl, _⟩ <;> simp only [Slot.names, List.mem_singleton] at hn <;> exact .inr hn
  · rintro n (h | rfl)
    · exact .inl h
    · exact .inr ⟨Nat.le_refl _, by omega⟩
  · intro n hn
    show (if n = nm then _ else β n) = β n
    rw [if_neg]
    rintro rfl
    exact hf _ (Nat.le_refl _) (by omega) hn

theorem alloc_get (w : World) (x : Go.Obj) : (w.alloc x).heap[w.heap.size]? = some x := by
  show (w.heap.push x)[w.heap.size]? = some x
  simp
theorem alloc_keep (w : World) (x : Go.Obj) {b : Nat} (hb : b < w.heap.size) : (w.alloc x).heap[b]? = w.heap[b]? := by
  show (w.heap.push x)[b]? = w.heap[b]?
  rw [Array.getElem?_push, if_neg (by omega)]

theorem noFrozen_zero (n : Nat) : noFrozen (0, 0) n := fun o _ => by simp

/-- A new variable. -/
theorem ObjOK.new_var {I : Nat → Prop} {w : World} {c : Array Value} {e : TypeId} {cs : List PV} (hI : ∀ b, I b → b < w.heap.size) (h : RowRep I w c cs) :
    ObjOK I (w.alloc (.cells c e)) (.var cs) (.blk w.heap.size) := by
  refine .var ⟨fun hb => Nat.lt_irrefl _ (hI _ hb), by simp, ⟨c, e, (0, 0), alloc_get _ _, h.size, noFrozen_zero _, fun i h1 h2 => ?_⟩, h.one⟩
  exact (h.rep i h1 h2).mono (fun _ x => x) (fun b hb => alloc_keep w _ (hI b hb))

/-- Elements laid one behind the other. -/
theorem ObjOK.new_arr {I : Nat → Prop} {w : World} {c : Array Value} {e : TypeId} {fr : Nat × Nat} {sz cap : Nat} {xs : List PV} (hI : ∀ b, I b → b < w.heap.size) (hc : xs.length ≤ cap) (hs : cap * sz ≤ c.size) (hfr : noFrozen fr c.size)
    (hz : ∀ i (h : i < xs.length), xs[i].cells.length = sz)
    (hr : ∀ i j (h1 : i < xs.length) (h2 : j < xs[i].cells.length), ∃ v, c[i * sz + j]? = some v ∧ Rep I w v (xs[i].cells[j]))
    (ho : ∀ i (h : i < xs.length) j (h2 : j < xs[i].cells.length), (xs[i].cells[j]).single = true) :
    ObjOK I (w.alloc (.cells c e fr)) (.arr sz xs) (.arr w.heap.size xs.length cap sz) := by
  refine .arr ⟨fun hb => Nat.lt_irrefl _ (hI _ hb), by simp, hc, hz, ⟨c, e, fr, alloc_get _ _, hs, hfr, fun i j h1 h2 => ?_⟩, ho⟩
  obtain ⟨v, hv, hrep⟩ := hr i j h1 h2
  exact ⟨v, hv, hrep.mono (fun _ x => x) (fun b hb => alloc_keep w _ (hI b hb))⟩

theorem run_newObj' (x : Go.Obj) : (newObj x).run P w = .ok w.heap.size (w.alloc x) := rfl

theorem newVar_run (e : TypeId) (v : Value) : (newVar e v).run P w = .ok ⟨w.heap.size, 0, none⟩ (w.alloc (.cells v.cells e)) := by
  simp only [newVar, newRow, Sem.run_bind, run_newObj', Result.andThen_ok, Sem.run_pure]

theorem newRow_run (e : TypeId) (c : Array Value) : (newRow e c).run P w = .ok ⟨w.heap.size, 0, none⟩ (w.alloc (.cells c e)) := by
  simp only [newRow, Sem.run_bind, run_newObj', Result.andThen_ok, Sem.run_pure]

theorem sim_alloc (h : StOK I w β N a.tmps st) (hf : Fresh N nm) {e : TypeId} {i : TI} (ht : TypeOK P e i) {o : Oper} (ho : o.op = .alloc e) :
    OpSim nm I w β N a.tmps st (.ptr nm 0) [(nm, .var (zerosPV i))] ((execOp a.eval o).run P w) := by
  obtain ⟨z, hz1, hz2⟩ := zero_row ht I w
  refine sim_make (I1 := I) (ups := []) (.refl _ _ _) h hf (c := .blk w.heap.size) (x := .cells z.cells e) (by simp [owned]) (.new_var h.lt (hz2 w)) (.inr ⟨rfl, rfl⟩) ?_
  simp only [execOp, ho, Instr.alloc, Sem.run_bind, hz1, Result.andThen_ok, newVar_run, Sem.run_pure, Conc.val]

theorem sim_box (h : StOK I w β N a.tmps st) (hf : Fresh N nm) {e : TypeId} {x : Operand} {s : Slot} (hs : SlotOK I w β (a.eval x) s) {p : PV} {ups : Ups} (hk : keepPV st.obj s = some (p, ups)) {o : Oper} (ho : o.op = .box e x) :
    OpSim nm I w β N a.tmps st (.ptr nm 0) ((nm, .var p.cells) :: ups) ((execOp a.eval o).run P w) := by
  obtain ⟨I1, h1, m1, r1, _⟩ := keep_sim h (Near.refl st) hs hk
  refine sim_make m1 h1 hf (c := .blk w.heap.size) (x := .cells (a.eval x).cells e) (by simp [owned]) (.new_var h1.lt r1.row) (.inr ⟨rfl, rfl⟩) ?_
  simp only [execOp, ho, Instr.box, Sem.run_bind, Result.andThen_ok, newVar_run, Sem.run_pure, Conc.val]

theorem sim_load (h : StOK I w β N a.tmps st) {t : TypeId} {x : Operand} {i : TI} (ht : TypeOK P t i) {s : Slot} (hs : SlotOK I w β (a.eval x) s) {slot : Slot} {ups : Ups}
    (hl : loadC st.obj i s = some (slot, ups)) {o : Oper} (ho : o.op = .load t x) : OpSim nm I w β N a.tmps st slot ups ((execOp a.eval o).run P w) := by
  have fin : ∀ (b off : Nat) (cs : List PV) (k : Nat), CellsAt I w b k cs → a.eval x = .pointer (some ⟨b, k + off, none⟩) → optRes (partPV cs off i) = some (slot, ups) →
      OpSim nm I w β N a.tmps st slot ups ((execOp a.eval o).run P w) := by
    intro b off cs k hc he hp
    cases hq : partPV cs off i with
    | none => rw [hq] at hp; simp [optRes] at hp
    | some p =>
      rw [hq] at hp
      simp only [optRes, Option.some.injEq, Prod.mk.injEq] at hp
      obtain ⟨rfl, rfl⟩ := hp
      obtain ⟨v, hv, hr⟩ := loadPart (P := P) ht hc hq
      refine .val h ?_ hr
      simp only [execOp, ho, Instr.loadAt, Sem.run_bind, he, Instr.sureAddr, Sem.run_pure, Result.andThen_ok, hv]
  generalize hev : a.eval x = v at *
  cases hs with
  | ptr hb =>
    rename_i n off b
    simp only [loadC] at hl
    split at hl
    · rename_i cs hobj
      exact fin b off cs 0 (cellsAt_var h (.inl hobj) hb) (by simp) hl
    · rename_i cs hobj
      exact fin b off cs 0 (cellsAt_var h (.inr hobj) hb) (by simp) hl
    · cases hl
  | elt hb =>
    rename_i n j off b len cap sz
    simp only [loadC] at hl
    split at hl
    · rename_i sz' xs hobj
      split at hl
      · rename_i y hy
        exact fin b off y.cells (j * sz) (cellsAt_elt h (.inl hobj) hb hy).1 rfl hl
      · cases hl
    · rename_i sz' xs hobj
      split at hl
      · rename_i y hy
        exact fin b off y.cells (j * sz) (cellsAt_elt h (.inr hobj) hb hy).1 rfl hl
      · cases hl
    · cases hl
  | val hr =>
    cases hr with
    | box vs hI hn hv hr =>
      rename_i b off o' cs
      simp only [loadC] at hl
      exact fin b o' cs off ⟨fun j hj => ⟨vs j, hv j hj, hr j hj⟩, hn⟩ rfl hl
    | _ => simp [loadC] at hl
  | _ => simp [loadC] at hl

theorem OwnRow.rowRep {b : Nat} {cs : List PV} (h : OwnRow I w b cs) : ∃ c e fr, w.heap[b]? = some (.cells c e fr) ∧ noFrozen fr c.size ∧ RowRep I w c cs := by
  obtain ⟨c, e, fr, h1, h2, h3, h4⟩ := h.row
  exact ⟨c, e, fr, h1, h3, h2, h4, h.one⟩

/-- A store into a variable. -/
theorem write_var {t : TypeId} {i : TI} (ht : TypeOK P t i) (h : StOK I w β N a.tmps st) {n b off : Nat} {cs ds : List PV} {v : Value} {p : PV} (hobj : st.obj n = some (.var cs)) (hb : β n = .blk b)
    (hr : Rep I w v p) (hp : putPart cs off i.size p = some ds) :
    ∃ w', (storeVar t ⟨b, off, none⟩ v).run P w = .ok () w' ∧ StOK I w' β N a.tmps { st with objs := (n, .var ds) :: st.objs } ∧ Moves I w (Owns β st.objs) I w' (Owns β ((n, .var ds) :: st.objs)) := by
  have hk := h.obj n _ hobj
  rw [hb] at hk
  cases hk with
  | var hv =>
    obtain ⟨c, e, fr, h1, h2, h3⟩ := OwnRow.rowRep hv
    obtain ⟨h4, h5, h6⟩ := h3.put hr hp
    have hrun := run_storeVar_lay (P := P) ht (b := b) (o := off) (v := v) h1 h2 h5 h6 hr.row.plain
    have hI : ∀ x, I x → (setBlock w b (.cells (lay c off v.cells.toList) e fr)).heap[x]? = w.heap[x]? := fun x hx => setBlock_other (by rintro rfl; exact hv.out hx)
    refine ⟨_, hrun, h.write hobj (by rw [hb]; rfl) (by rw [hb]; rfl) ?_⟩
    rw [hb]
    refine .var ⟨hv.out, by rw [setBlock_size]; exact hv.lt, ⟨_, e, fr, setBlock_get hv.lt, h4.size, by rw [lay_size]; exact h2, fun j h7 h8 => (h4.rep j h7 h8).mono (fun _ x => x) hI⟩, h4.one⟩

end
end Evp
end Go
