/- Operations, one by one: reads, writes, what is made. -/
import Derived.Test.YtajjinfjfiacbaaGreatDoorZE4
set_option linter.unusedSectionVars false
set_option linter.unusedVariables false
set_option linter.unusedSimpArgs false
set_option linter.unnecessarySimpa false
namespace Go
namespace Evp
variable [Globs]

structure RowRep (I : Nat → Prop) (w : World) (c : Array Value) (cs : List PV) : Prop where
  size : c.size = cs.length
  rep : ∀ i (h1 : i < c.size) (h2 : i < cs.length), Rep I w c[i] cs[i]
  one : ∀ i (h : i < cs.length), cs[i].single = true

theorem Rep.row {I : Nat → Prop} {w : World} {v : Value} {p : PV} (h : Rep I w v p) : RowRep I w v.cells p.cells :=
  ⟨h.cells.1, h.cells.2.1, h.cells.2.2⟩

theorem RowRep.plain {I : Nat → Prop} {w : World} {c : Array Value} {cs : List PV} (h : RowRep I w c cs) : ∀ x ∈ c.toList, plainV x = true := by
  intro x hx
  obtain ⟨i, hi, rfl⟩ := List.getElem_of_mem hx
  have hi' : i < c.size := by simpa using hi
  have h2 : i < cs.length := by rw [← h.size]; exact hi'
  have := (h.rep i hi' h2).plain (h.one i h2)
  simpa using this

theorem RowRep.mono {I I' : Nat → Prop} {w w' : World} {c : Array Value} {cs : List PV} (h : RowRep I w c cs) (hI : ∀ b, I b → I' b)
    (hw : ∀ b, I b → w'.heap[b]? = w.heap[b]?) : RowRep I' w' c cs := ⟨h.size, fun i a b => (h.rep i a b).mono hI hw, h.one⟩

theorem RowRep.put {I : Nat → Prop} {w : World} {c : Array Value} {cs cs' : List PV} {v : Value} {p : PV} {off size : Nat} (h : RowRep I w c cs) (hr : Rep I w v p)
    (hp : putPart cs off size p = some cs') : RowRep I w (lay c off v.cells.toList) cs' ∧ v.cells.size = size ∧ off + size ≤ c.size := by
  unfold putPart at hp
  cases hb : (p.cells.length == size) && (off + size).ble cs.length with
  | false => simp [hb] at hp
  | true =>
    simp only [hb, cond_true, Option.some.injEq] at hp
    simp only [Bool.and_eq_true, beq_iff_eq, Nat.ble_eq] at hb
    obtain ⟨h1, h2⟩ := hb
    have hv := hr.row
    have hs := h.size
    have hvs := hv.size
    subst hp
    have hlen : (cs.take off ++ p.cells ++ cs.drop (off + size)).length = cs.length := by simp; omega
    refine ⟨⟨by rw [lay_size, hlen]; exact hs, ?_, ?_⟩, by omega, by omega⟩
    · intro i a b
      rw [lay_size] at a
      have hg := lay_get v.cells.toList c off i (by simp; omega)
      have hi : i < (lay c off v.cells.toList).size := by rw [lay_size]; exact a
      rw [Array.getElem?_eq_getElem hi] at hg
      by_cases hin : off ≤ i ∧ i < off + v.cells.size
      · rw [if_pos (by simpa using hin)] at hg
        have hk : i - off < v.cells.size := by omega
        rw [show v.cells.toList[i - off]? = some v.cells[i - off] by simp [hk]] at hg
        simp only [Option.some.injEq] at hg
        rw [hg]
        have he : (cs.take off ++ p.cells ++ cs.drop (off + size))[i] = p.cells[i - off]'(by omega) := by
          rw [List.getElem_append_left (by simp; omega), List.getElem_append_right (by simp; omega)]
          congr 1
          simp; omega
        rw [he]
        exact hv.rep _ hk (by omega)
      · rw [if_neg (by simpa using hin)] at hg
        rw [Array.getElem?_eq_getElem a] at hg
        simp only [Option.some.injEq] at hg
        rw [hg]
        have he : (cs.take off ++ p.cells ++ cs.drop (off + size))[i] = cs[i]'(by omega) := by
          by_cases hlt : i < off
          · rw [List.getElem_append_left (by simp; omega), List.getElem_append_left (by simp; omega)]
            simp
          · rw [List.getElem_append_right (by simp; omega)]
            simp only [List.getElem_drop]
            congr 1
            simp; omega
        rw [he]
        exact h.rep _ a (by omega)
    · intro i b
      by_cases hin : off ≤ i ∧ i < off + size
      · have he : (cs.take off ++ p.cells ++ cs.drop (off + size))[i] = p.cells[i - off]'(by omega) := by
          rw [List.getElem_append_left (by simp; omega), List.getElem_append_right (by simp; omega)]
          congr 1
          simp; omega
        rw [he]
        exact hv.one _ _
      · have he : (cs.take off ++ p.cells ++ cs.drop (off + size))[i] = cs[i]'(by omega) := by
          by_cases hlt : i < off
          · rw [List.getElem_append_left (by simp; omega), List.getElem_append_left (by simp; omega)]
            simp
          · rw [List.getElem_append_right (by simp; omega)]
            simp only [List.getElem_drop]
            congr 1
            simp; omega
        rw [he]
        exact h.one _ _

theorem ZK.rep (I : Nat → Prop) (w : World) (z : ZK) : Rep I w z.val z.pv ∧ z.pv.single = true := by
  cases z <;> first | exact ⟨.nil, rfl⟩ | exact ⟨.v rfl, rfl⟩

theorem zero_row {P : Program} {t : TypeId} {i : TI} (ht : TypeOK P t i) (I : Nat → Prop) (w : World) :
    ∃ z, (zeroValue t).run P w = .ok z w ∧ ∀ w', RowRep I w' z.cells (zerosPV i) := by
  obtain ⟨z, h1, h2⟩ := ht.run_zero w
  refine ⟨z, h1, fun w' => ⟨?_, ?_, ?_⟩⟩
  · rw [← Array.length_toList, h2]; simp [zerosPV]
  · intro j a b
    have e : z.cells[j] = (i.zero.map ZK.val)[j]'(by rw [← h2]; simpa using a) := by
      simp only [← h2]; simp
    rw [e]
    simp only [List.getElem_map, zerosPV]
    exact (ZK.rep I w' _).1
  · intro j a
    simp only [zerosPV, List.getElem_map]
    exact (ZK.rep I w _).2

/-- How what is known goes on. -/
structure Grows (nm : Nat) (I : Nat → Prop) (w : World) (β : Nat → Conc) (N : Nat → Prop) (objs : List (Nat × Obj))
    (I' : Nat → Prop) (w' : World) (β' : Nat → Conc) (N' : Nat → Prop) (objs' : List (Nat × Obj)) : Prop where
  moves : Moves I w (Owns β objs) I' w' (Owns β' objs')
  n1 : ∀ n, N n → N' n
  n2 : ∀ n, N' n → N n ∨ (nm ≤ n ∧ n < nm + 16)
  beta : ∀ n, N n → β' n = β n

theorem Grows.refl (nm : Nat) (I : Nat → Prop) (w : World) (β : Nat → Conc) (N : Nat → Prop) (objs : List (Nat × Obj)) : Grows nm I w β N objs I w β N objs :=
  ⟨.refl _ _ _, fun _ h => h, fun _ h => .inl h, fun _ _ => rfl⟩

theorem Grows.trans {nm : Nat} {I w β N objs I1 w1 β1 N1 objs1 I2 w2 β2 N2 objs2} (h : Grows nm I w β N objs I1 w1 β1 N1 objs1) (k : Grows nm I1 w1 β1 N1 objs1 I2 w2 β2 N2 objs2) :
    Grows nm I w β N objs I2 w2 β2 N2 objs2 :=
  ⟨h.moves.trans k.moves, fun n x => k.n1 n (h.n1 n x), fun n x => (k.n2 n x).elim (h.n2 n) .inr, fun n x => (k.beta n (h.n1 n x)).trans (h.beta n x)⟩

theorem Grows.of {nm : Nat} {I w β N objs I' w' objs'} (h : Moves I w (Owns β objs) I' w' (Owns β objs')) : Grows nm I w β N objs I' w' β N objs' :=
  ⟨h, fun _ h => h, fun _ h => .inl h, fun _ _ => rfl⟩

/-- An operation's run, as the evaluator tells it. -/
def OpSim (nm : Nat) (I : Nat → Prop) (w : World) (β : Nat → Conc) (N : Nat → Prop) (tmps : Array Value) (st : St) (slot : Slot) (ups : Ups) (run : Result Next) : Prop :=
  ∃ nx v w' I' β' N', run = .ok nx w' ∧ (nx = .value v ∨ (nx = .skip ∧ v = undef)) ∧ StOK I' w' β' N' tmps { st with objs := ups ++ st.objs } ∧
    SlotOK I' w' β' v slot ∧ (∀ n ∈ slot.names, N' n) ∧ Grows nm I w β N st.objs I' w' β' N' (ups ++ st.objs)

section
variable {P : Program} {T : Types} {nm : Nat} {I : Nat → Prop} {w : World} {β : Nat → Conc} {N : Nat → Prop} {a : Act} {st : St}

/-- Nothing moves. -/
theorem OpSim.still {slot : Slot} {v : Value} {run : Result Next} (h : StOK I w β N a.tmps st) (hr : run = .ok (.value v) w) (hs : SlotOK I w β v slot) (hn : ∀ n ∈ slot.names, N n) :
    OpSim nm I w β N a.tmps st slot [] run :=
  ⟨_, v, w, I, β, N, hr, .inl rfl, h, hs, hn, .refl _ _ _ _ _ _⟩

theorem OpSim.val {p : PV} {v : Value} {run : Result Next} (h : StOK I w β N a.tmps st) (hr : run = .ok (.value v) w) (hs : Rep I w v p) :
    OpSim nm I w β N a.tmps st (.val p) [] run := .still h hr (.val hs) (by simp [Slot.names])

theorem const_ok (t : TypeId) (x : Value) : SlotOK I w β x (constSlot T t x) := by
  unfold constSlot
  split
  · split
    · exact .val .nil
    · exact .no
  · exact .no
  · exact .no
  · exact .no
  · exact .no
  · exact .no
  · rename_i h1 h2 h3 h4 h5 h6
    refine .val (.v ?_)
    cases x <;> first | rfl | exact absurd rfl (h3 _) | exact absurd rfl (h4 _)

theorem const_names (t : TypeId) (x : Value) : (constSlot T t x).names = [] := by
  unfold constSlot
  repeat' split
  all_goals rfl

theorem opnd_ok (h : StOK I w β N a.tmps st) (t : TypeId) (x : Operand) : SlotOK I w β (a.eval x) (st.opnd T t x) := by
  cases x with
  | tmp n => exact h.slot n
  | const x => exact const_ok t x
  | global g => exact .no
  | func f => exact .val (.fn rfl rfl (fun i h1 => by simp at h1) (fun i h1 => by simp at h1))

theorem opnd_names (h : StOK I w β N a.tmps st) (t : TypeId) (x : Operand) : ∀ n ∈ (st.opnd T t x).names, N n := by
  cases x with
  | tmp n => exact h.slotN n
  | const x => intro n hn; simp only [St.opnd, const_names] at hn; cases hn
  | global g => intro n hn; cases hn
  | func f => intro n hn; cases hn

/-- A slot that is read: nothing is given up. -/
theorem rd_ok (h : StOK I w β N a.tmps st) {v : Value} {s : Slot} {p : PV} (hs : SlotOK I w β v s) (hp : rdPV st.obj s = some p) :
    ∃ Ib : Nat → Prop, (∀ b, I b → Ib b) ∧ Rep Ib w v p := by
  have hk : ∃ ups, keepPV st.obj s = some (p, ups) := by
    revert hp
    unfold rdPV keepPV
    cases s with
    | val q => intro hp; cases hp; exact ⟨_, rfl⟩
    | slc n =>
      intro hp
      simp only at hp ⊢
      split at hp <;> simp_all
    | _ => intro hp; simp at hp
  obtain ⟨ups, hk⟩ := hk
  obtain ⟨I', h1, h2, h3, _⟩ := keep_sim h (Near.refl st) hs hk
  exact ⟨I', h2.more, h3⟩

theorem cellsAt_var (h : StOK I w β N a.tmps st) {n b : Nat} {cs : List PV} (ho : st.obj n = some (.var cs) ∨ st.obj n = some (.bx cs)) (hb : β n = .blk b) :
    CellsAt I w b 0 cs := by
  rcases ho with ho | ho
  · have hk := h.obj n _ ho
    rw [hb] at hk
    cases hk with
    | var hv =>
      obtain ⟨c, e, fr, h1, h2, h3, h4⟩ := hv.row
      refine ⟨fun j hj => ⟨c[j]'(by omega), ?_, h4 j (by omega) hj⟩, hv.one⟩
      have hj' : j < c.size := by omega
      simp [World.cell?, h1, hj']
  · have hk := h.obj n _ ho
    rw [hb] at hk
    cases hk with
    | bx hr =>
      generalize hv : Value.pointer (some ⟨b, 0, none⟩) = v at hr
      cases hr with
      | box vs hI hn hv' hr' =>
        simp only [Value.pointer.injEq, Option.some.injEq, Addr.mk.injEq, Nat.add_zero, and_true] at hv
        obtain ⟨rfl, rfl⟩ := hv
        exact ⟨fun j hj => ⟨vs j, by simpa using hv' j hj, hr' j hj⟩, hn⟩

theorem cellsAt_elt (h : StOK I w β N a.tmps st) {n b len cap sz sz' j : Nat} {xs : List PV} {x : PV} (ho : st.obj n = some (.arr sz' xs) ∨ st.obj n = some (.frz sz' xs))
    (hb : β n = .arr b len cap sz) (hx : xs[j]? = some x) : CellsAt I w b (j * sz) x.cells ∧ sz = sz' := by
  obtain ⟨hj, rfl⟩ := List.getElem?_eq_some_iff.1 hx
  rcases ho with ho | ho
  · have hk := h.obj n _ ho
    rw [hb] at hk
    cases hk with
    | arr hv =>
      obtain ⟨c, e, fr, h1, h2, h3, h4⟩ := hv.row
      refine ⟨⟨fun k hk => ?_, fun k hk => hv.one j hj k hk⟩, rfl⟩
      obtain ⟨v, hv', hr⟩ := h4 j k hj hk
      exact ⟨v, by simp [World.cell?, h1, hv'], hr⟩
  · have hk := h.obj n _ ho
    rw [hb] at hk
    cases hk with
    | frz hr hs =>
      have hs := hs _ _ _ _ rfl
      subst hs
      simp only [Conc.val] at hr
      generalize hv : Value.slice (some ⟨b, 0, none⟩) len cap = v at hr
      cases hr with
      | nil => simp at hj
      | sl vs hl hc hI hz hn hv' hr' =>
        simp only [Value.slice.injEq, Option.some.injEq, Addr.mk.injEq, and_true] at hv
        obtain ⟨⟨rfl, rfl⟩, rfl, rfl⟩ := hv
        exact ⟨⟨fun k hk => ⟨vs j k, by simpa using hv' j k hj (by rw [← hz j hj]; exact hk), hr' j k hj hk⟩, fun k hk => hn j hj k hk⟩, rfl⟩
end
end Evp
end Go
