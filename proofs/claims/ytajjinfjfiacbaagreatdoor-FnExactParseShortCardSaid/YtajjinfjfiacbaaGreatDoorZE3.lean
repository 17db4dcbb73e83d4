/- Runs of the model's memory operations at the evaluator's states. -/
import Derived.Test.YtajjinfjfiacbaaGreatDoorZE2
import Derived.Lib.FrozenHead
import Derived.Laws.Cells
import Derived.Laws.Entries
set_option linter.unusedSectionVars false
set_option linter.unusedVariables false
set_option linter.unusedSimpArgs false
set_option linter.unnecessarySimpa false
namespace Go
namespace Evp
variable [Globs]

theorem plainV_one (v : Value) : plainV v = v.oneCell' := by cases v <;> rfl

def descFits : TypeDesc → TK → Bool
  | .int k, .int k' => decide (k = k')
  | .bool, .bool => true
  | .string, .str => true
  | .struct fields, .struct fs => decide (fields.toList.map (fun f => (f.offset, f.type)) = fs)
  | .array n e, .array n' e' => decide (n = n' ∧ e = e')
  | .slice e, .slice e' => decide (e = e')
  | d, .other => match d with | .struct _ => false | .array _ _ => false | _ => true
  | _, _ => false

/-- The table of types tells the program's own. -/
structure TypeOK (P : Program) (t : TypeId) (i : TI) : Prop where
  info : ∃ ti z, P.info? t = some ti ∧ ti.size = i.size ∧ ti.bytes = i.bytes ∧ ti.zero = some z ∧ z.cells.toList = i.zero.map ZK.val
  len : i.zero.length = i.size
  desc : ∃ d, P.underlying t = some d ∧ descFits d i.kind = true
  flds : ∀ fields, P.underlying t = some (.struct fields) →
    fields.toList.mapM (fun f => (P.info? f.type).map fun i => (f.offset, i.size)) = some (fields.toList.map fun f => (f.offset, P.cellsOf f.type))

def TOK (P : Program) (T : Types) : Prop := ∀ t i, T t = some i → TypeOK P t i

section
variable {P : Program} {t : TypeId} {i : TI}

theorem TypeOK.run_size (h : TypeOK P t i) (w : World) : (sizeOf t).run P w = .ok i.size w := by
  obtain ⟨ti, z, h1, h2, _⟩ := h.info
  simp [sizeOf, typeInfo, program, Sem.run, h1, h2, Pure.pure, Bind.bind, Sem.bind]

theorem TypeOK.run_bytes (h : TypeOK P t i) (w : World) : ∃ ti, (typeInfo t).run P w = .ok ti w ∧ ti.bytes = i.bytes ∧ ti.size = i.size := by
  obtain ⟨ti, z, h1, h2, h3, _⟩ := h.info
  exact ⟨ti, by simp [typeInfo, program, Sem.run, h1, Pure.pure, Bind.bind, Sem.bind], h3, h2⟩

theorem TypeOK.run_zero (h : TypeOK P t i) (w : World) : ∃ z, (zeroValue t).run P w = .ok z w ∧ z.cells.toList = i.zero.map ZK.val := by
  obtain ⟨ti, z, h1, h2, h3, h4, h5⟩ := h.info
  exact ⟨z, by simp [zeroValue, typeInfo, program, Sem.run, h1, h4, Pure.pure, Bind.bind, Sem.bind], h5⟩

theorem TypeOK.run_desc (h : TypeOK P t i) (w : World) : ∃ d, (underlying t).run P w = .ok d w ∧ descFits d i.kind = true := by
  obtain ⟨d, h1, h2⟩ := h.desc
  exact ⟨d, run_underlying h1 w, h2⟩

theorem TypeOK.run_agg (h : TypeOK P t i) (w : World) : (isAgg t).run P w = .ok i.isAgg w := by
  obtain ⟨d, h1, h2⟩ := h.run_desc w
  simp only [isAgg, Sem.run_bind, h1, Result.andThen_ok]
  unfold TI.isAgg
  cases hk : i.kind <;> rw [hk] at h2 <;> cases d <;> simp_all [descFits]

theorem TypeOK.run_slice (h : TypeOK P t i) {e : TypeId} (hk : i.kind = .slice e) (w : World) : (underlying t).run P w = .ok (.slice e) w := by
  obtain ⟨d, h1, h2⟩ := h.run_desc w
  rw [hk] at h2
  cases d <;> simp_all [descFits]

theorem TypeOK.run_array (h : TypeOK P t i) {n : Nat} {e : TypeId} (hk : i.kind = .array n e) (w : World) : (underlying t).run P w = .ok (.array n e) w := by
  obtain ⟨d, h1, h2⟩ := h.run_desc w
  rw [hk] at h2
  cases d <;> simp_all [descFits]

theorem TypeOK.run_str (h : TypeOK P t i) (hk : i.kind = .str) (w : World) : (underlying t).run P w = .ok .string w := by
  obtain ⟨d, h1, h2⟩ := h.run_desc w
  rw [hk] at h2
  cases d <;> simp_all [descFits]

theorem TypeOK.run_int (h : TypeOK P t i) {k : IntKind} (hk : i.kind = .int k) (w : World) : (underlying t).run P w = .ok (.int k) w := by
  obtain ⟨d, h1, h2⟩ := h.run_desc w
  rw [hk] at h2
  cases d <;> simp_all [descFits]

theorem TypeOK.run_struct (h : TypeOK P t i) {fs : List (Nat × TypeId)} (hk : i.kind = .struct fs) (w : World) :
    ∃ fields : Array Field, (underlying t).run P w = .ok (.struct fields) w ∧ fields.toList.map (fun f => (f.offset, f.type)) = fs := by
  obtain ⟨d, h1, h2⟩ := h.run_desc w
  rw [hk] at h2
  cases d <;> simp_all [descFits]
end

/-- Cells from offset o of block b read as cs. -/
structure CellsAt (I : Nat → Prop) (w : World) (b o : Nat) (cs : List PV) : Prop where
  at_ : ∀ j (h : j < cs.length), ∃ v, w.cell? ⟨b, o + j, none⟩ = some v ∧ Rep I w v cs[j]
  one : ∀ j (h : j < cs.length), cs[j].single = true

theorem addr_add (b o j : Nat) : (⟨b, o, none⟩ : Addr).add j = ⟨b, o + j, none⟩ := by
  unfold Addr.add; split <;> simp_all

theorem loadPart {P : Program} {I : Nat → Prop} {w : World} {b o off : Nat} {cs : List PV} {t : TypeId} {i : TI} {p : PV} (ht : TypeOK P t i)
    (h : CellsAt I w b o cs) (hp : partPV cs off i = some p) : ∃ v, (loadVar t ⟨b, o + off, none⟩).run P w = .ok v w ∧ Rep I w v p := by
  unfold partPV at hp
  cases ha : i.isAgg with
  | true =>
    simp only [ha] at hp
    cases hc : (off + i.size).ble cs.length with
    | false => simp [hc] at hp
    | true =>
      have hle : off + i.size ≤ cs.length := by simpa using hc
      simp only [hc, cond_true, Option.some.injEq] at hp
      subst hp
      let f : Nat → Value := fun j => (w.cell? ⟨b, o + (off + j), none⟩).getD undef
      have hf : ∀ j, j < i.size → w.cell? ⟨b, o + (off + j), none⟩ = some (f j) ∧ ∃ h2 : off + j < cs.length, Rep I w (f j) cs[off + j] := by
        intro j hj
        have h2 : off + j < cs.length := by omega
        obtain ⟨v, hv, hr⟩ := h.at_ (off + j) h2
        refine ⟨by simp only [f, hv, Option.getD_some], h2, ?_⟩
        simp only [f, hv, Option.getD_some]
        exact hr
      refine ⟨.agg ((List.range i.size).map f).toArray, ?_, ?_⟩
      · have hload := run_loadCells (P := P) w ⟨b, o + off, none⟩ i.size f (fun j hj => by rw [addr_add, Nat.add_assoc]; exact (hf j hj).1)
        simp only [loadVar, Sem.run_bind, ht.run_agg w, Result.andThen_ok, ha, if_true, ht.run_size w, hload, Sem.run_pure]
      · refine .agg (by simp; omega) ?_ ?_
        · intro j hj
          have hj' : j < i.size := by simp at hj; omega
          simp only [List.getElem_take, List.getElem_drop]
          exact h.one _ _
        · intro j h1 h2
          have hj' : j < i.size := by simpa using h1
          obtain ⟨_, h3, hr⟩ := hf j hj'
          simp only [List.getElem_toArray, List.getElem_map, List.getElem_range, List.getElem_take, List.getElem_drop]
          exact hr
  | false =>
    simp only [ha] at hp
    obtain ⟨hlt, he⟩ := List.getElem?_eq_some_iff.1 hp
    subst he
    obtain ⟨v, hv, hr⟩ := h.at_ off hlt
    refine ⟨v, ?_, hr⟩
    simp only [loadVar, Sem.run_bind, ht.run_agg w, Result.andThen_ok, ha, Bool.false_eq_true, if_false, run_load, hv]

/-- The world in which block b is o. -/
def setBlock (w : World) (b : Nat) (o : Go.Obj) : World := { w with heap := w.heap.setIfInBounds b o }

theorem setBlock_self {w : World} {b : Nat} {o : Go.Obj} (h : w.heap[b]? = some o) : setBlock w b o = w := by
  obtain ⟨hb, he⟩ := Array.getElem?_eq_some_iff.1 h
  unfold setBlock
  congr 1
  subst he
  apply Array.ext_getElem?
  intro j
  simp only [Array.getElem?_setIfInBounds]
  split
  · rename_i e; subst e; simp [hb]
  · rfl

theorem setBlock_get {w : World} {b : Nat} {o : Go.Obj} (h : b < w.heap.size) : (setBlock w b o).heap[b]? = some o := by
  simp [setBlock, h]
theorem setBlock_other {w : World} {b c : Nat} {o : Go.Obj} (h : c ≠ b) : (setBlock w b o).heap[c]? = w.heap[c]? := by
  simp only [setBlock, Array.getElem?_setIfInBounds]
  rw [if_neg (fun e => h e.symm)]
theorem setBlock_size {w : World} {b : Nat} {o : Go.Obj} : (setBlock w b o).heap.size = w.heap.size := by simp [setBlock]
theorem setBlock_twice {w : World} {b : Nat} {o o' : Go.Obj} : setBlock (setBlock w b o) b o' = setBlock w b o' := by
  simp only [setBlock, Array.setIfInBounds_setIfInBounds]

/-- Cells laid over others from place k on. -/
def lay (c : Array Value) (k : Nat) : List Value → Array Value
  | [] => c
  | v :: r => lay (c.setIfInBounds k v) (k + 1) r

theorem lay_size : ∀ (vs : List Value) (c : Array Value) (k : Nat), (lay c k vs).size = c.size
  | [], _, _ => rfl
  | v :: r, c, k => by rw [lay, lay_size r]; simp

theorem lay_get : ∀ (vs : List Value) (c : Array Value) (k j : Nat), k + vs.length ≤ c.size →
    (lay c k vs)[j]? = if k ≤ j ∧ j < k + vs.length then vs[j - k]? else c[j]?
  | [], c, k, j, _ => by simp [lay]; omega
  | v :: r, c, k, j, h => by
    simp only [List.length_cons] at h
    rw [lay, lay_get r _ _ _ (by simp; omega)]
    by_cases h1 : j = k
    · subst h1
      rw [if_neg (by omega), if_pos (by simp only [List.length_cons]; omega)]
      have hlt : j < c.size := by omega
      simp [hlt]
    · by_cases h2 : k ≤ j ∧ j < k + (v :: r).length
      · have h3 : k + 1 ≤ j ∧ j < k + 1 + r.length := by simp at h2; omega
        rw [if_pos h2, if_pos h3]
        obtain ⟨m, rfl⟩ : ∃ m, j = k + 1 + m := ⟨j - (k + 1), by omega⟩
        rw [show k + 1 + m - (k + 1) = m by omega, show k + 1 + m - k = m + 1 by omega]
        simp
      · have h3 : ¬(k + 1 ≤ j ∧ j < k + 1 + r.length) := by simp at h2; omega
        rw [if_neg h2, if_neg h3]
        rw [Array.getElem?_setIfInBounds, if_neg (fun e => h1 e.symm)]

theorem run_storeCells_lay {P : Program} {b o : Nat} {e : TypeId} {fr : Nat × Nat} : ∀ (vs : List Value) (k : Nat) (c : Array Value) (w : World),
    w.heap[b]? = some (.cells c e fr) → noFrozen fr c.size → o + k + vs.length ≤ c.size → (∀ v ∈ vs, plainV v = true) →
    (storeCells ⟨b, o, none⟩ vs k).run P w = .ok () (setBlock w b (.cells (lay c (o + k) vs) e fr))
  | [], k, c, w, hg, _, _, _ => by
    simp only [storeCells, lay, setBlock_self hg, Sem.run_pure]
  | v :: r, k, c, w, hg, hf, hl, h1 => by
    simp only [List.length_cons] at hl
    have hi : o + k < c.size := by omega
    have hcell : w.cell? ⟨b, o + k, none⟩ = some c[o + k] := by simp [World.cell?, hg, hi]
    have hfro : w.frozen? ⟨b, o + k, none⟩ = false := by
      have := hf (o + k) hi
      simp only [World.frozen?, hg, Bool.and_eq_false_iff, decide_eq_false_iff_not]
      omega
    have hset : w.setCell ⟨b, o + k, none⟩ v = setBlock w b (.cells (c.setIfInBounds (o + k) v) e fr) := by
      obtain ⟨hb, he⟩ := Array.getElem?_eq_some_iff.1 hg
      simp only [World.setCell, setBlock]
      congr 1
      apply Array.ext_getElem?
      intro j
      simp only [Array.getElem?_modify, Array.getElem?_setIfInBounds]
      by_cases hj : b = j
      · subst hj; simp [hb, he]
      · simp [hj]
    have hst : (store ((⟨b, o, none⟩ : Addr).add k) v).run P w = .ok () (setBlock w b (.cells (c.setIfInBounds (o + k) v) e fr)) := by
      rw [addr_add, run_store P w _ v _ (by rw [← plainV_one]; exact h1 v (by simp)), hcell]
      simp [hfro, hset]
    have hb : b < w.heap.size := (Array.getElem?_eq_some_iff.1 hg).1
    have ih := run_storeCells_lay (P := P) (b := b) (o := o) (e := e) (fr := fr) r (k + 1) (c.setIfInBounds (o + k) v) (setBlock w b (.cells (c.setIfInBounds (o + k) v) e fr)) (setBlock_get hb)
      (by simpa using hf) (by simp; omega) (fun x hx => h1 x (by simp [hx]))
    simp only [storeCells, Sem.run_bind, hst, Result.andThen_ok, ih, setBlock_twice]
    rfl

theorem run_storeVar_lay {P : Program} {t : TypeId} {i : TI} (ht : TypeOK P t i) {b o : Nat} {e : TypeId} {fr : Nat × Nat} {v : Value} {c : Array Value} {w : World}
    (hg : w.heap[b]? = some (.cells c e fr)) (hf : noFrozen fr c.size) (hs : v.cells.size = i.size) (hl : o + i.size ≤ c.size) (h1 : ∀ x ∈ v.cells.toList, plainV x = true) :
    (storeVar t ⟨b, o, none⟩ v).run P w = .ok () (setBlock w b (.cells (lay c o v.cells.toList) e fr)) := by
  have := run_storeCells_lay (P := P) (o := o) v.cells.toList 0 c w hg hf (by simp [hs]; exact hl) h1
  simp only [Nat.add_zero] at this
  simp only [storeVar, Sem.run_bind, ht.run_size w, Result.andThen_ok, hs, ne_eq, not_true, if_false, this]

end Evp
end Go
