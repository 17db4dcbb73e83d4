/- Operations: stores, addresses, parts, numbers. -/
import Derived.Test.YtajjinfjfiacbaaGreatDoorZE6
set_option linter.unusedSectionVars false
set_option linter.unusedVariables false
set_option linter.unusedSimpArgs false
set_option linter.unnecessarySimpa false
namespace Go
namespace Evp
variable [Globs]

section
variable {P : Program} {T : Types} {nm : Nat} {I : Nat → Prop} {w : World} {β : Nat → Conc} {N : Nat → Prop} {a : Act} {st : St}

theorem sim_move (h : StOK I w β N a.tmps st) (hf : Fresh N nm) {x : Operand} {o : Oper} (ho : o.op = .move x ∨ o.op = .assign x) {slot : Slot} {ups : Ups} {t : TypeId}
    (hc : moveC T nm t x [st.opnd T t x] = some (slot, ups)) : OpSim nm I w β N a.tmps st slot ups ((execOp a.eval o).run P w) := by
  have hrun : (execOp a.eval o).run P w = .ok (.value (a.eval x)) w := by rcases ho with ho | ho <;> simp only [execOp, ho, Sem.run_pure]
  have hs := opnd_ok (T := T) h t x
  have hn := opnd_names (T := T) h t x
  unfold moveC at hc
  split at hc
  · split at hc
    · simp only [Option.some.injEq, Prod.mk.injEq] at hc
      obtain ⟨rfl, rfl⟩ := hc
      exact sim_nil h hf hrun
    · cases hc
  · generalize st.opnd T t _ = s at *
    split at hc <;> first
      | (rename_i e
         simp only [List.cons.injEq, and_true] at e
         subst e
         simp only [Option.some.injEq, Prod.mk.injEq] at hc
         obtain ⟨rfl, rfl⟩ := hc
         exact sim_slot h hs hn hrun)
      | cases hc

/-- A store through an element's address. -/
theorem write_elt {t : TypeId} {i : TI} (ht : TypeOK P t i) (h : StOK I w β N a.tmps st) {n b j off len cap sz sz' : Nat} {xs : List PV} {x y : PV} {v : Value} {p : PV} (hobj : st.obj n = some (.arr sz' xs)) (hb : β n = .arr b len cap sz)
    (hx : xs[j]? = some x) (hr : Rep I w v p) {ds : List PV} (hp : putPart x.cells off i.size p = some ds) (hy : y.cells = ds) :
    ∃ w', (storeVar t ⟨b, j * sz + off, none⟩ v).run P w = .ok () w' ∧ StOK I w' β N a.tmps { st with objs := (n, .arr sz' (xs.set j y)) :: st.objs } ∧
      Moves I w (Owns β st.objs) I w' (Owns β ((n, .arr sz' (xs.set j y)) :: st.objs)) := by
  obtain ⟨hj, rfl⟩ := List.getElem?_eq_some_iff.1 hx
  have hk := h.obj n _ hobj
  rw [hb] at hk
  cases hk with
  | arr hv =>
    obtain ⟨c, e, fr, h1, h2, h3, h4⟩ := hv.row
    have hle : (j + 1) * sz ≤ cap * sz := Nat.mul_le_mul_right _ (by have := hv.room; omega)
    rw [Nat.succ_mul] at hle
    -- the element's own row
    let c0 : Array Value := c.extract (j * sz) (j * sz + sz)
    have hc0 : c0.size = sz := by simp [c0]; omega
    have hrow : RowRep I w c0 xs[j].cells := by
      refine ⟨by rw [hc0, hv.szs j hj], fun k ha hb' => ?_, fun k hb' => hv.one j hj k hb'⟩
      obtain ⟨u, hu, hru⟩ := h4 j k hj hb'
      have : c0[k] = u := by
        have h5 : j * sz + k < c.size := by omega
        rw [Array.getElem?_eq_getElem h5] at hu
        simp only [Option.some.injEq] at hu
        simp only [c0, Array.getElem_extract]
        exact hu
      rw [this]
      exact hru
    obtain ⟨h5, h6, h7⟩ := hrow.put hr hp
    rw [hc0] at h7
    have hrun := run_storeVar_lay (P := P) ht (b := b) (o := j * sz + off) (v := v) h1 h3 h6 (by omega) hr.row.plain
    have hI : ∀ z, I z → (setBlock w b (.cells (lay c (j * sz + off) v.cells.toList) e fr)).heap[z]? = w.heap[z]? := fun z hz => setBlock_other (by rintro rfl; exact hv.out hz)
    have hdl : ds.length = sz := by rw [← h5.size, lay_size, hc0]
    refine ⟨_, hrun, h.write hobj (by rw [hb]; rfl) (by rw [hb]; rfl) ?_⟩
    rw [hb]
    have hlen : (xs.set j y).length = xs.length := by simp
    have hget : ∀ k (hk : k < (xs.set j y).length), (xs.set j y)[k].cells = if k = j then ds else (xs[k]'(by omega)).cells := by
      intro k hk
      rw [List.getElem_set]
      by_cases e : j = k
      · subst e; simp [hy]
      · rw [if_neg e, if_neg (fun e' => e e'.symm)]
    have hgl : ∀ k (hk : k < (xs.set j y).length), (xs.set j y)[k].cells.length = sz := by
      intro k hk
      rw [hget k hk]
      split
      · exact hdl
      · exact hv.szs k (by omega)
    rw [← hlen]
    refine .arr ⟨hv.out, by rw [setBlock_size]; exact hv.lt, by rw [hlen]; exact hv.room, hgl, ⟨_, e, fr, setBlock_get hv.lt, by rw [lay_size]; exact h2, by rw [lay_size]; exact h3, ?_⟩, ?_⟩
    · intro k m hk hm
      have hm' : m < sz := by rw [← hgl k hk]; exact hm
      have hkl : k < xs.length := by omega
      have hg := lay_get v.cells.toList c (j * sz + off) (k * sz + m) (by simp; omega)
      by_cases e : k = j
      · subst e
        have hm2 : m < ds.length := by omega
        have hgc : (xs.set k y)[k].cells[m] = ds[m] := by simp [hy]
        rw [hgc]
        have h8 := h5.rep m (by rw [lay_size, hc0]; exact hm') hm2
        have hg0 := lay_get v.cells.toList c0 off m (by simp; omega)
        rw [Array.getElem?_eq_getElem (by rw [lay_size, hc0]; exact hm')] at hg0
        refine ⟨_, ?_, h8.mono (fun _ z => z) hI⟩
        rw [hg, hg0]
        simp only [Array.length_toList]
        by_cases hin : off ≤ m ∧ m < off + v.cells.size
        · rw [if_pos (by omega), if_pos hin]
          congr 1
          omega
        · rw [if_neg (by omega), if_neg hin]
          have h9 : k * sz + m < c.size := by omega
          simp only [c0, Array.getElem?_extract]
          rw [if_pos (by omega)]
      · have hgc : (xs.set j y)[k].cells = (xs[k]'hkl).cells := by rw [hget k hk, if_neg e]
        have hm3 : m < (xs[k]'hkl).cells.length := by rw [hv.szs k hkl]; exact hm'
        obtain ⟨u, hu, hru⟩ := h4 k m hkl hm3
        refine ⟨u, ?_, ?_⟩
        · rw [hg, if_neg]
          · exact hu
          · intro hin
            simp only [Array.length_toList] at hin
            rcases Nat.lt_or_gt_of_ne e with hlt | hlt
            · have : (k + 1) * sz ≤ j * sz := Nat.mul_le_mul_right _ hlt
              rw [Nat.succ_mul] at this
              omega
            · have : (j + 1) * sz ≤ k * sz := Nat.mul_le_mul_right _ hlt
              rw [Nat.succ_mul] at this
              omega
        · have : (xs.set j y)[k].cells[m] = (xs[k]'hkl).cells[m] := by simp only [hgc]
          rw [this]
          exact hru.mono (fun _ z => z) hI
    · intro k hk m hm
      have hm' : m < sz := by rw [← hgl k hk]; exact hm
      by_cases e : k = j
      · subst e
        have hgc : (xs.set k y)[k].cells[m] = ds[m]'(by omega) := by simp [hy]
        rw [hgc]
        exact h5.one m (by omega)
      · have hgc : (xs.set j y)[k].cells = (xs[k]'(by omega)).cells := by rw [hget k hk, if_neg e]
        have : (xs.set j y)[k].cells[m] = (xs[k]'(by omega)).cells[m]'(by rw [hv.szs k (by omega)]; exact hm') := by simp only [hgc]
        rw [this]
        exact hv.one k (by omega) m _

theorem sim_store (h : StOK I w β N a.tmps st) {t : TypeId} {ax xx : Operand} {i : TI} (ht : TypeOK P t i) {s x : Slot} (hs : SlotOK I w β (a.eval ax) s) (hx : SlotOK I w β (a.eval xx) x)
    {p : PV} {ups u : Ups} (hk : keepPV st.obj x = some (p, ups)) (hst : storeC st.obj i s p = some u) (hap : ups.all (fun x => u.all (fun y => !(x.1 == y.1))) = true) {o : Oper} (ho : o.op = .store t ax xx) :
    OpSim nm I w β N a.tmps st .undef (u ++ ups) ((execOp a.eval o).run P w) := by
  obtain ⟨I1, h1, m1, r1, _⟩ := keep_sim h (Near.refl st) hx hk
  have fin : ∀ (b off : Nat) (u1 : Nat × Obj), a.eval ax = .pointer (some ⟨b, off, none⟩) → u = [u1] →
      (∃ w', (storeVar t ⟨b, off, none⟩ (a.eval xx)).run P w = .ok () w' ∧ StOK I1 w' β N a.tmps { st with objs := u1 :: (ups ++ st.objs) } ∧ Moves I1 w (Owns β (ups ++ st.objs)) I1 w' (Owns β (u1 :: (ups ++ st.objs)))) →
      OpSim nm I w β N a.tmps st .undef (u ++ ups) ((execOp a.eval o).run P w) := by
    rintro b off u1 he rfl ⟨w', hw, hst', hmv⟩
    refine ⟨.skip, undef, w', I1, β, N, ?_, .inr ⟨rfl, rfl⟩, hst', .undef, by simp [Slot.names], .of (m1.trans hmv)⟩
    simp only [execOp, ho, Instr.storeAt, Sem.run_bind, he, Instr.sureAddr, Sem.run_pure, Result.andThen_ok, hw]
  have hun : ∀ n o, u = [(n, o)] → look (ups ++ st.objs) n = st.obj n := by
    rintro n o rfl
    refine look_append (fun y hy => ?_)
    rw [List.all_eq_true] at hap
    simpa using hap y hy
  generalize hev : a.eval ax = v at *
  cases hs with
  | ptr hb =>
    rename_i n off b
    simp only [storeC] at hst
    split at hst
    · rename_i cs hobj
      split at hst
      · rename_i ds hds
        simp only [Option.some.injEq] at hst
        subst hst
        exact fin b off _ rfl rfl (write_var ht h1 (by rw [← hobj]; exact hun _ _ rfl) hb r1 hds)
      · cases hst
    · cases hst
  | elt hb =>
    rename_i n j off b len cap sz
    simp only [storeC] at hst
    split at hst
    · rename_i sz' xs hobj
      have hsz : sz = sz' := by
        have hk := h.obj n _ hobj
        rw [hb] at hk
        cases hk with
        | arr hv => rfl
      subst hsz
      split at hst
      · rename_i y hy
        cases hsize : i.size == sz with
        | true =>
          simp only [hsize, cond_true] at hst
          cases hg : (p.cells.length == sz) && (off == 0) with
          | false => rw [hg] at hst; simp at hst
          | true =>
            simp only [hg, cond_true, Option.some.injEq] at hst
            subst hst
            simp only [Bool.and_eq_true, beq_iff_eq] at hg hsize
            obtain ⟨hp1, rfl⟩ := hg
            have hyl : y.cells.length = sz := by
              obtain ⟨hj, rfl⟩ := List.getElem?_eq_some_iff.1 hy
              have hk := h.obj n _ hobj
              rw [hb] at hk
              cases hk with
              | arr hv => exact hv.szs j hj
            have hput : putPart y.cells 0 i.size p = some p.cells := by
              unfold putPart
              rw [show (p.cells.length == i.size) = true by simp [hp1, hsize], show (0 + i.size).ble y.cells.length = true by simp [hyl, hsize]]
              simp [hyl, hsize]
            exact fin b (j * sz + 0) _ rfl rfl (write_elt ht h1 (by rw [← hobj]; exact hun _ _ rfl) hb hy r1 hput rfl)
        | false =>
          simp only [hsize, cond_false] at hst
          split at hst
          · rename_i ds hds
            simp only [Option.some.injEq] at hst
            subst hst
            exact fin b (j * sz + off) _ rfl rfl (write_elt ht h1 (by rw [← hobj]; exact hun _ _ rfl) hb hy r1 hds rfl)
          · cases hst
      · cases hst
    · cases hst
  | _ => simp [storeC] at hst

end
end Evp
end Go
