/- Every operation that is no call, as the model runs it. -/
import Derived.Test.YtajjinfjfiacbaaGreatDoorZE14
set_option linter.unusedSectionVars false
set_option linter.unusedVariables false
set_option linter.unusedSimpArgs false
set_option linter.unnecessarySimpa false
namespace Go
namespace Evp
variable [Globs]

section
variable {P : Program} {T : Types} {EQ : TypeId → Option (List ZK)} {nm : Nat} {I : Nat → Prop} {w : World} {β : Nat → Conc} {N : Nat → Prop} {a : Act} {st : St} {o : Oper} {slot : Slot} {ups : Ups}

theorem kindT {t : TypeId} {i : TI} {k : TK} (h : T t = some { size := i.size, bytes := i.bytes, zero := i.zero, kind := k }) : ∃ j, T t = some j ∧ j.kind = k := ⟨_, h, rfl⟩

theorem elem_desc (tok : TOK P T) {t : TypeId} {i : TI} {e : TypeId} (h : T t = some i) (hk : i.kind = .slice e ∨ i.kind = .str) :
    ∃ d, (∀ w', (underlying t).run P w' = .ok d w') ∧ ((∃ e2, d = .slice e2) ∨ d = .string) := by
  rcases hk with hk | hk
  · exact ⟨_, fun w' => (tok _ _ h).run_slice hk w', .inl ⟨_, rfl⟩⟩
  · exact ⟨_, fun w' => (tok _ _ h).run_str hk w', .inr rfl⟩

theorem arr_src (h : StOK I w β N a.tmps st) {n sz : Nat} {xs : List PV} (hobj : st.obj n = some (.arr sz xs) ∨ st.obj n = some (.frz sz xs)) (w' : World) (hw : w'.heap = w.heap) : Source P I w' sz (β n).val xs := by
  rcases hobj with ho | ho
  · exact Source.arr ((h.heap hw).obj n _ ho)
  · have hk := (h.heap hw).obj n _ ho
    generalize β n = c at *
    cases hk with
    | frz hr _ => exact .sl hr

theorem sim_appendC (tok : TOK P T) (h : StOK I w β N a.tmps st) (hf : Fresh N nm) {t t2 ty : TypeId} {sv xv : Value} {s x : Slot} (hs : SlotOK I w β sv s) (hx : SlotOK I w β xv x)
    (hc : appendC T st.obj nm t t2 s x = some (slot, ups)) {run : Result Next} (hr : run = ((Builtin.append_ #[t, t2] ty #[sv, xv]).run P w).andThen fun v w' => .ok (.value v) w') :
    OpSim nm I w β N a.tmps st slot ups run := by
  unfold appendC at hc
  split at hc
  · rename_i z1 z2 z3 e ht
    split at hc
    · rename_i ei xi het hxt
      have tke := tok _ _ het
      split at hc
      · rename_i n
        have hsv := hs.inv_slc
        subst hsv
        split at hc
        · rename_i sz xs hobj
          have fin : ∀ (ys : List PV) (e' : TypeId), (xi.kind = .slice e' ∨ xi.kind = .str) → (∀ w' : World, w'.heap = w.heap → Source P I w' ei.size xv ys) → sz = ei.size → roomy (xs.length + ys.length) ei.bytes = true → ei.bytes ≠ 0 →
              some (Slot.slc nm, [(n, Obj.gone), (nm, Obj.arr sz (xs ++ ys))]) = some (slot, ups) → OpSim nm I w β N a.tmps st slot ups run := by
            rintro ys e' hk hsrc rfl hroom hb0 he
            cases he
            obtain ⟨d, hd1, hd2⟩ := elem_desc tok hxt hk
            exact sim_append h hf (tok _ _ ht) rfl tke hd1 hd2 hobj hsrc (by simpa [roomy] using hroom) hb0 hr
          split at hc
          · rename_i e2 sz2 ys hk
            cases hb : (sz == ei.size) && (sz2 == ei.size) && roomy (xs.length + ys.length) ei.bytes && !(ei.bytes == 0) with
            | false => rw [hb] at hc; simp at hc
            | true =>
              rw [hb] at hc
              simp only [Bool.and_eq_true, beq_iff_eq, Bool.not_eq_true', beq_eq_false_iff_ne] at hb
              obtain ⟨⟨⟨h1, h2⟩, h3⟩, h4⟩ := hb
              subst h2
              exact fin ys e2 (.inl hk) (fun w' hw => Source.sl (hx.inv_val.mono (fun _ z => z) (fun b _ => by rw [hw]))) h1 h3 h4 hc
          · rename_i e2 m hk
            have hxv := hx.inv_slc
            subst hxv
            split at hc
            · rename_i sz2 ys ho
              cases hb : (sz == ei.size) && (sz2 == ei.size) && !(m == n) && roomy (xs.length + ys.length) ei.bytes && !(ei.bytes == 0) with
              | false => rw [hb] at hc; simp at hc
              | true =>
                rw [hb] at hc
                simp only [Bool.and_eq_true, beq_iff_eq, Bool.not_eq_true', beq_eq_false_iff_ne] at hb
                obtain ⟨⟨⟨⟨h1, h2⟩, _⟩, h3⟩, h4⟩ := hb
                subst h2
                exact fin ys e2 (.inl hk) (arr_src h (.inl ho)) h1 h3 h4 hc
            · rename_i sz2 ys ho
              cases hb : (sz == ei.size) && (sz2 == ei.size) && !(m == n) && roomy (xs.length + ys.length) ei.bytes && !(ei.bytes == 0) with
              | false => rw [hb] at hc; simp at hc
              | true =>
                rw [hb] at hc
                simp only [Bool.and_eq_true, beq_iff_eq, Bool.not_eq_true', beq_eq_false_iff_ne] at hb
                obtain ⟨⟨⟨⟨h1, h2⟩, _⟩, h3⟩, h4⟩ := hb
                subst h2
                exact fin ys e2 (.inl hk) (arr_src h (.inr ho)) h1 h3 h4 hc
            · cases hc
          · rename_i b hk
            cases hb : (sz == 1) && (ei.size == 1) && roomy (xs.length + b.size) ei.bytes && !(ei.bytes == 0) with
            | false => rw [hb] at hc; simp at hc
            | true =>
              rw [hb] at hc
              simp only [Bool.and_eq_true, beq_iff_eq, Bool.not_eq_true', beq_eq_false_iff_ne] at hb
              obtain ⟨⟨⟨h1, h2⟩, h3⟩, h4⟩ := hb
              have hxv := hx.inv_val.isv
              subst hxv
              refine fin (ofBytes b.data.toList) 0 (.inr hk) (fun w' _ => by rw [h2]; exact Source.str I b) (by rw [h1, h2]) ?_ h4 hc
              have : (ofBytes b.data.toList).length = b.size := by simp [ofBytes]
              rw [this]
              exact h3
          · cases hc
        · cases hc
      · cases hc
    · cases hc
  · cases hc

theorem two_two {as : List Operand} {ts : List TypeId} (h : as.length = ts.length) {f : Operand × TypeId → Slot} {u v : Slot} (hm : (as.zip ts).map f = [u, v]) :
    ∃ x y t1 t2, as = [x, y] ∧ ts = [t1, t2] := by
  have hl := congrArg List.length hm
  simp only [List.length_map, List.length_zip, List.length_cons, List.length_nil] at hl
  match as, ts, h, hl with
  | [x, y], [t1, t2], _, _ => exact ⟨x, y, t1, t2, rfl, rfl⟩
  | [], [], _, hl => simp at hl
  | [_], [_], _, hl => simp at hl
  | _ :: _ :: _ :: _, _ :: _ :: _ :: _, _, hl => simp at hl

theorem sim_builtin (tok : TOK P T) (h : StOK I w β N a.tmps st) (hf : Fresh N nm) {c : Call} {b : Builtin} (ho : o.op = .call c) (hb : c.callee = .builtin b) (hc : opC T EQ nm st.obj o (opIns T st o) = some (slot, ups)) :
    OpSim nm I w β N a.tmps st slot ups ((execOp a.eval o).run P w) := by
  simp only [opC, ho, opIns, hb, List.nil_append] at hc
  cases hsz : c.args.size == c.argTypes.size with
  | false => rw [hsz] at hc; simp at hc
  | true =>
    rw [hsz] at hc
    simp only [cond_true] at hc
    have hsz' : c.args.toList.length = c.argTypes.toList.length := by
      rw [beq_iff_eq] at hsz
      rw [Array.length_toList, Array.length_toList]
      exact hsz
    obtain ⟨consts, hrun⟩ : ∃ consts, (execOp a.eval o).run P w = (builtin b c.argTypes o.type consts (c.args.map a.eval)).run P w :=
      ⟨_, by simp only [execOp, ho, resolve, hb, Sem.run_bind, Sem.run_pure, Result.andThen_ok, invoke]; rfl⟩
    have hargs : c.args.map a.eval = (c.args.toList.map a.eval).toArray := by rw [← Array.toList_map]
    have hts : c.argTypes = c.argTypes.toList.toArray := rfl
    rw [hargs, hts] at hrun
    generalize c.args.toList = as at *
    generalize c.argTypes.toList = ts at *
    unfold builtinC at hc
    split at hc
    · -- len
      rename_i t s hins
      match as, hsz' with
      | [x], _ =>
        simp only [List.zip_cons_cons, List.zip_nil_right, List.map_cons, List.map_nil, List.cons.injEq, and_true] at hins
        have h1 := opnd_ok (T := T) h t x
        rw [hins] at h1
        split at hc
        · rename_i z1 z2 z3 z ht hrd
          obtain ⟨rfl, rfl⟩ := valRes_eq hc
          obtain ⟨Ib, _, r⟩ := rd_ok h h1 hrd
          refine .val h ?_ (.v rfl)
          rw [hrun]
          simp [builtin, Builtin.len_, (tok _ _ ht).run_str rfl, r.isv, goInt]
        · rename_i z1 z2 z3 e sz xs ht hrd
          obtain ⟨rfl, rfl⟩ := valRes_eq hc
          obtain ⟨Ib, _, r⟩ := rd_ok h h1 hrd
          obtain ⟨ad, cap, e1, _, _⟩ := r.inv_sl
          refine .val h ?_ (.v rfl)
          rw [hrun]
          simp [builtin, Builtin.len_, (tok _ _ ht).run_slice rfl, e1, goInt]
        · cases hc
    · -- append
      rename_i t t2 s y hins
      match as, hsz' with
      | [x, x2], _ =>
        simp only [List.zip_cons_cons, List.zip_nil_right, List.map_cons, List.map_nil, List.cons.injEq, and_true] at hins
        have h1 := opnd_ok (T := T) h t x
        have h2 := opnd_ok (T := T) h t2 x2
        rw [hins.1] at h1
        rw [hins.2] at h2
        refine sim_appendC tok h hf (ty := o.type) h1 h2 hc ?_
        rw [hrun]
        simp only [builtin, Sem.run_bind, List.map_cons, List.map_nil]
        rfl
    · rename_i k i k' j hins
      obtain ⟨x, y, t1, t2, rfl, rfl⟩ := two_two hsz' hins
      · simp only [List.zip_cons_cons, List.zip_nil_right, List.map_cons, List.map_nil, List.cons.injEq, and_true] at hins
        have h1 := opnd_ok (T := T) h t1 x
        have h2 := opnd_ok (T := T) h t2 y
        rw [hins.1] at h1
        rw [hins.2] at h2
        obtain ⟨rfl, rfl⟩ := valRes_eq hc
        refine .val h ?_ (.v rfl)
        rw [hrun]
        simp [builtin, Builtin.min_, Builtin.min2, h1.inv_val.isv, h2.inv_val.isv, minInt]
    · rename_i k i k' j hins
      obtain ⟨x, y, t1, t2, rfl, rfl⟩ := two_two hsz' hins
      · simp only [List.zip_cons_cons, List.zip_nil_right, List.map_cons, List.map_nil, List.cons.injEq, and_true] at hins
        have h1 := opnd_ok (T := T) h t1 x
        have h2 := opnd_ok (T := T) h t2 y
        rw [hins.1] at h1
        rw [hins.2] at h2
        obtain ⟨rfl, rfl⟩ := valRes_eq hc
        refine .val h ?_ (.v rfl)
        rw [hrun]
        simp [builtin, Builtin.max_, Builtin.max2, h1.inv_val.isv, h2.inv_val.isv, maxInt]
    · cases hc

/-- THE OPERATIONS: what the evaluator says of one that is no call is what the model does. -/
theorem opC_sim (tok : TOK P T) (eqok : EQOK P EQ) (h : StOK I w β N a.tmps st) (hf : Fresh N nm) (hc : opC T EQ nm st.obj o (opIns T st o) = some (slot, ups)) :
    OpSim nm I w β N a.tmps st slot ups ((execOp a.eval o).run P w) := by
  cases ho : o.op with
  | move x => exact sim_move h hf (.inl ho) (t := o.type) (by simpa only [opC, ho, opIns] using hc)
  | assign x => exact sim_move h hf (.inr ho) (t := o.type) (by simpa only [opC, ho, opIns] using hc)
  | pick c x y => exact sim_pick h ho hc
  | alloc e =>
    simp only [opC, ho] at hc
    split at hc
    · rename_i i hi
      cases hc
      exact sim_alloc h hf (tok _ _ hi) ho
    · cases hc
  | box e x =>
    simp only [opC, ho, opIns] at hc
    split at hc
    · rename_i p u hk
      cases hc
      exact sim_box h hf (opnd_ok h e x) hk ho
    · cases hc
  | build t ps => exact sim_build tok h ho hc
  | buildSlice t len ps =>
    simp only [opC, ho, opIns] at hc
    split at hc
    · rename_i z1 z2 z3 e ht
      split at hc
      · cases hc
      · rename_i ei het
        split at hc
        · cases hc
        · rename_i vs u hk
          cases hb : (ps.toList.map (·.1) == List.range len) && (vs.length == len) && vs.all (fun p => p.cells.length == ei.size) && (len * ei.size).ble 65536 with
          | false => rw [hb] at hc; simp at hc
          | true =>
            rw [hb] at hc
            simp only [Bool.and_eq_true, beq_iff_eq, List.all_eq_true, Nat.ble_eq] at hb
            obtain ⟨⟨⟨h1, h2⟩, h3⟩, h4⟩ := hb
            cases hc
            have hs : All2 (SlotOK I w β) (ps.toList.map fun p => a.eval p.2) (ps.toList.map fun (x : Nat × Operand) => st.opnd T (partType T t x.1) x.2) := All2.map (fun x _ => opnd_ok h _ x.2)
            exact sim_buildSlice h hf (tok _ _ ht) rfl (tok _ _ het) hs hk h1 h2 h3 h4 ho
    · cases hc
  | load t x =>
    simp only [opC, ho, opIns] at hc
    split at hc
    · rename_i i s hi heq
      simp only [List.cons.injEq, and_true] at heq
      subst heq
      exact sim_load h (tok _ _ hi) (opnd_ok h 0 x) hc ho
    · cases hc
  | store t x y =>
    simp only [opC, ho, opIns] at hc
    split at hc
    · rename_i i s s2 hi heq
      simp only [List.cons.injEq, and_true] at heq
      obtain ⟨rfl, rfl⟩ := heq
      split at hc
      · rename_i p u hk
        split at hc
        · rename_i u2 hst
          cases hb : u.all (fun x => u2.all (fun y => !(x.1 == y.1))) with
          | false => rw [hb] at hc; simp at hc
          | true =>
            rw [hb] at hc
            cases hc
            exact sim_store h (tok _ _ hi) (opnd_ok h 0 x) (opnd_ok h t y) hk hst hb ho
        · cases hc
      · cases hc
    · cases hc
  | nilCheck x => exact sim_nilCheck h ho hc
  | binOp op t x y t2 => exact sim_binOp tok eqok h ho hc
  | unOp op t x => exact sim_unOp h ho hc
  | convert s d x => exact sim_convert tok h hf ho hc
  | makeFunc fn first caps =>
    cases fn with
    | func f => exact sim_makeFunc h ho hc
    | _ => simp [opC, ho] at hc
  | makeSlice t l c => exact sim_makeSlice tok h hf ho hc
  | slice t x lo hi mx => exact sim_slice tok h hf ho hc
  | fieldAddr t x f => exact sim_fieldAddr tok h ho hc
  | field t x f => exact sim_field tok h ho hc
  | indexAddr t x i => exact sim_indexAddr tok h ho hc
  | index t x i => exact sim_index tok h ho hc
  | extract x i => exact sim_extract h ho hc
  | call c =>
    cases hb : c.callee with
    | builtin b => exact sim_builtin tok h hf ho hb hc
    | value f => simp [opC, ho, hb] at hc
    | invoke r m => simp [opC, ho, hb] at hc
  | _ => simp [opC, ho] at hc

end
end Evp
end Go
