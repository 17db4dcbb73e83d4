/- Operations: the rest. -/
import Derived.Test.YtajjinfjfiacbaaGreatDoorZE10
set_option linter.unusedSectionVars false
set_option linter.unusedVariables false
set_option linter.unusedSimpArgs false
set_option linter.unnecessarySimpa false
namespace Go
namespace Evp
variable [Globs]

section
variable {P : Program} {T : Types} {EQ : TypeId → Option (List ZK)} {nm : Nat} {I : Nat → Prop} {w : World} {β : Nat → Conc} {N : Nat → Prop} {a : Act} {st : St} {o : Oper} {slot : Slot} {ups : Ups}

theorem valRes_eq {p : PV} (h : valRes p = some (slot, ups)) : slot = .val p ∧ ups = [] := by
  simp only [valRes, Option.some.injEq, Prod.mk.injEq] at h
  exact ⟨h.1.symm, h.2.symm⟩

theorem optRes_eq {q : Option PV} (h : optRes q = some (slot, ups)) : ∃ p, q = some p ∧ slot = .val p ∧ ups = [] := by
  cases q with
  | none => simp [optRes] at h
  | some p =>
    simp only [optRes, Option.some.injEq, Prod.mk.injEq] at h
    exact ⟨p, rfl, h.1.symm, h.2.symm⟩

theorem Rep.up {I Ib : Nat → Prop} {v : Value} {p : PV} (h : Rep Ib w v p) (hp : ∃ x, p = .v x) : Rep I w v p := by
  obtain ⟨x, rfl⟩ := hp
  cases h with
  | v h => exact .v h

theorem sim_pick (h : StOK I w β N a.tmps st) {c x y : Operand} (ho : o.op = .pick c x y) (hc : opC T EQ nm st.obj o (opIns T st o) = some (slot, ups)) :
    OpSim nm I w β N a.tmps st slot ups ((execOp a.eval o).run P w) := by
  simp only [opC, ho, opIns] at hc
  have h1 := opnd_ok (T := T) h 0 c
  have h2 := opnd_ok (T := T) h o.type x
  have h3 := opnd_ok (T := T) h o.type y
  generalize st.opnd T 0 c = s1 at *
  generalize st.opnd T o.type x = s2 at *
  generalize st.opnd T o.type y = s3 at *
  split at hc
  · rename_i b x' y' e
    simp only [List.cons.injEq, and_true] at e
    obtain ⟨rfl, rfl, rfl⟩ := e
    have hv := h1.inv_val.isv
    cases b with
    | true =>
      simp only at hc
      split at hc
      · cases hc
        exact .val h (by simp only [execOp, ho, hv, asBool, Sem.run_bind, Sem.run_pure, Result.andThen_ok, if_true]) h2.inv_val
      · cases hc
    | false =>
      simp only at hc
      split at hc
      · cases hc
        exact .val h (by simp only [execOp, ho, hv, asBool, Sem.run_bind, Sem.run_pure, Result.andThen_ok, Bool.false_eq_true, if_false]) h3.inv_val
      · cases hc
  · cases hc

theorem sim_nilCheck (h : StOK I w β N a.tmps st) {x : Operand} (ho : o.op = .nilCheck x) (hc : opC T EQ nm st.obj o (opIns T st o) = some (slot, ups)) :
    OpSim nm I w β N a.tmps st slot ups ((execOp a.eval o).run P w) := by
  simp only [opC, ho, opIns] at hc
  have h1 := opnd_ok (T := T) h 0 x
  have h2 := opnd_names (T := T) h 0 x
  generalize st.opnd T 0 x = s1 at *
  have hp : ∀ ad, a.eval x = .pointer (some ad) → (execOp a.eval o).run P w = .ok (.value (a.eval x)) w := by
    intro ad e
    simp only [execOp, ho, e, Sem.run_pure]
  split at hc
  · rename_i e
    simp only [List.cons.injEq, and_true] at e
    subst e
    cases hc
    obtain ⟨b, _, e⟩ := h1.inv_ptr
    exact sim_slot h h1 h2 (hp _ e)
  · rename_i e
    simp only [List.cons.injEq, and_true] at e
    subst e
    cases hc
    obtain ⟨b, _, _, _, _, e⟩ := h1.inv_elt
    exact sim_slot h h1 h2 (hp _ e)
  · rename_i e
    simp only [List.cons.injEq, and_true] at e
    subst e
    cases hc
    obtain ⟨b, _, e, _⟩ := h1.inv_val.inv_box
    exact sim_slot h h1 h2 (hp _ e)
  · rename_i e
    simp only [List.cons.injEq, and_true] at e
    subst e
    cases hc
    obtain ⟨_, _, e, _⟩ := h1.inv_val.inv_fn
    exact sim_slot h h1 h2 (by simp only [execOp, ho, e, Sem.run_pure])
  · cases hc

theorem sim_binOp (tok : TOK P T) (eqok : EQOK P EQ) (h : StOK I w β N a.tmps st) {op : BinOp} {t t' : TypeId} {x y : Operand} (ho : o.op = .binOp op t x y t') (hc : opC T EQ nm st.obj o (opIns T st o) = some (slot, ups)) :
    OpSim nm I w β N a.tmps st slot ups ((execOp a.eval o).run P w) := by
  simp only [opC, ho, opIns] at hc
  have h1 := opnd_ok (T := T) h t x
  have h2 := opnd_ok (T := T) h t y
  generalize st.opnd T t x = s1 at *
  generalize st.opnd T t y = s2 at *
  split at hc
  · rename_i p q hp hq
    obtain ⟨I1, hI1, r1⟩ := rd_ok h h1 hp
    obtain ⟨I2, hI2, r2⟩ := rd_ok h h2 hq
    obtain ⟨r, hr, rfl, rfl⟩ := optRes_eq hc
    have fin : ∀ z : Value, plainV z = true → r = .v z → (eqGuard op t x y (a.eval x) (a.eval y)).run P w = .ok () w → (binOp op t (a.eval x) (a.eval y)).run P w = .ok z w →
        OpSim nm I w β N a.tmps st (.val r) [] ((execOp a.eval o).run P w) := by
      rintro z hz rfl hg hb
      exact .val h (by simp only [execOp, ho, Sem.run_bind, hg, Result.andThen_ok, hb, Sem.run_pure]) (.v hz)
    unfold binPV at hr
    split at hr
    · rename_i k i k' j
      have e1 := r1.isv
      have e2 := r2.isv
      have hg : (eqGuard op t x y (a.eval x) (a.eval y)).run P w = .ok () w := by
        rw [e1, e2]
        unfold eqGuard
        split <;> simp
      cases hs : isShift op with
      | true =>
        rw [hs] at hr
        simp only [cond_true] at hr
        cases hv : shiftV op k i j with
        | none => rw [hv] at hr; cases hr
        | some z =>
          rw [hv] at hr
          cases hr
          refine fin z ?_ rfl hg (by rw [e1, e2]; exact shift_run hv hs t)
          unfold shiftV at hv
          cases hz : decide (j < 0) <;> rw [hz] at hv <;> simp only [cond_true, cond_false] at hv
          · cases op <;> simp at hv <;> subst hv <;> rfl
          · cases hv
      | false =>
        rw [hs] at hr
        simp only [cond_false] at hr
        cases hk : k == k' with
        | false => rw [hk] at hr; cases hr
        | true =>
          rw [hk] at hr
          have hk' : k = k' := by cases k <;> cases k' <;> first | rfl | exact absurd hk (by decide)
          subst hk'
          simp only [cond_true] at hr
          cases hv : intBin op k i j with
          | none => rw [hv] at hr; cases hr
          | some z =>
            rw [hv] at hr
            cases hr
            refine fin z ?_ rfl hg (by rw [e1, e2]; exact intBin_run hv hs t)
            unfold intBin at hv
            cases op <;> simp only [] at hv <;> first
              | (cases hv; rfl)
              | (obtain ⟨_, rfl⟩ := bif_some hv; rfl)
              | simp at hv
    · rename_i i j
      have e1 := r1.isv
      have e2 := r2.isv
      have hg : (eqGuard op t x y (a.eval x) (a.eval y)).run P w = .ok () w := by
        rw [e1, e2]
        unfold eqGuard
        split <;> simp
      cases hv : strBin op i j with
      | none => rw [hv] at hr; cases hr
      | some z =>
        rw [hv] at hr
        cases hr
        refine fin z ?_ rfl hg (by rw [e1, e2]; exact str_run hv t)
        unfold strBin at hv
        cases op <;> simp only [] at hv <;> first
          | (cases hv; rfl)
          | (obtain ⟨_, rfl⟩ := bif_some' hv; rfl)
          | simp at hv
    · rename_i i j
      have e1 := r1.isv
      have e2 := r2.isv
      have hg : (eqGuard op t x y (a.eval x) (a.eval y)).run P w = .ok () w := by
        rw [e1, e2]
        unfold eqGuard
        split <;> simp
      cases hb : isBoolT T t with
      | false => rw [hb] at hr; simp at hr
      | true =>
        have htk : ∃ ti, T t = some ti ∧ ti.kind = .bool := by
          unfold isBoolT at hb
          split at hb
          · rename_i ht; exact ⟨_, ht, rfl⟩
          · cases hb
        obtain ⟨ti, ht, hk⟩ := htk
        have hr' : binPV (EQ t) true op (.v (.bool i)) (.v (.bool j)) = some r := by
          unfold binPV
          rw [hb] at hr
          exact hr
        obtain ⟨z, rfl, hrun⟩ := bool_run (w := w) hr' (tok _ _ ht) hk
        exact fin _ rfl rfl hg (by rw [e1, e2]; exact hrun)
    · rename_i cs ds
      have hr' : binPV (EQ t) (isBoolT T t) op (.agg cs) (.agg ds) = some r := by
        unfold binPV
        exact hr
      obtain ⟨z, rfl, hg, hrun⟩ := agg_run (I := fun b => I1 b ∨ I2 b) hr' (eqok t) (r1.mono (fun _ x => .inl x) (fun _ _ => rfl)) (r2.mono (fun _ x => .inr x) (fun _ _ => rfl)) x y
      exact fin _ rfl rfl hg hrun
    · cases hr
  · cases hc

theorem sim_unOp (h : StOK I w β N a.tmps st) {op : UnOp} {t : TypeId} {x : Operand} (ho : o.op = .unOp op t x) (hc : opC T EQ nm st.obj o (opIns T st o) = some (slot, ups)) :
    OpSim nm I w β N a.tmps st slot ups ((execOp a.eval o).run P w) := by
  simp only [opC, ho, opIns] at hc
  have h1 := opnd_ok (T := T) h t x
  generalize st.opnd T t x = s1 at *
  split at hc
  · rename_i p e
    simp only [List.cons.injEq, and_true] at e
    subst e
    obtain ⟨r, hr, rfl, rfl⟩ := optRes_eq hc
    have hp := h1.inv_val
    unfold unPV at hr
    split at hr
    · have e1 := hp.isv
      cases op <;> simp only [] at hr <;> first
        | (cases hr; exact .val h (by simp only [execOp, ho, e1, Op.unary, Sem.run_bind, Sem.run_pure, Result.andThen_ok]) (.v rfl))
        | simp at hr
    · have e1 := hp.isv
      cases op <;> simp only [] at hr <;> first
        | (cases hr; exact .val h (by simp only [execOp, ho, e1, Op.unary, Op.intArith, Sem.run_bind, Sem.run_pure, Result.andThen_ok]) (.v rfl))
        | simp at hr
    · cases hr
  · cases hc

theorem sim_fieldAddr (tok : TOK P T) (h : StOK I w β N a.tmps st) {t : TypeId} {x : Operand} {f : Nat} (ho : o.op = .fieldAddr t x f) (hc : opC T EQ nm st.obj o (opIns T st o) = some (slot, ups)) :
    OpSim nm I w β N a.tmps st slot ups ((execOp a.eval o).run P w) := by
  simp only [opC, ho, opIns] at hc
  have h1 := opnd_ok (T := T) h 0 x
  have h2 := opnd_names (T := T) h 0 x
  generalize st.opnd T 0 x = s1 at *
  unfold fieldAddrC at hc
  split at hc
  · rename_i sz by_ zs fs ht
    split at hc
    · cases hc
    · rename_i off ft hfs
      split at hc
      · cases hc
      · rename_i fi hft
        obtain ⟨fields, hu, hmap⟩ := (tok _ _ ht).run_struct rfl w
        have hfl : ∃ fl : Field, fields[f]? = some fl ∧ fl.offset = off ∧ fl.type = ft := by
          have : (fields.toList.map fun f => (f.offset, f.type))[f]? = some (off, ft) := by rw [hmap]; exact hfs
          rw [List.getElem?_map] at this
          cases hq : fields.toList[f]? with
          | none => rw [hq] at this; cases this
          | some fl =>
            rw [hq] at this
            simp only [Option.map_some, Option.some.injEq, Prod.mk.injEq] at this
            exact ⟨fl, by simpa using hq, this.1, this.2⟩
        obtain ⟨fl, hfl, rfl, rfl⟩ := hfl
        cases hz : fi.size == 0 with
        | true => rw [hz] at hc; simp at hc
        | false =>
          rw [hz] at hc
          simp only [cond_false] at hc
          have hz' : ¬ fi.size = 0 := by simpa using hz
          have hrun : ∀ (b k : Nat), a.eval x = .pointer (some ⟨b, k, none⟩) → (execOp a.eval o).run P w = .ok (.value (.pointer (some ⟨b, k + fl.offset, none⟩))) w := by
            intro b k he
            simp only [execOp, ho, Instr.fieldAt, Sem.run_bind, hu, Result.andThen_ok, hfl, he, Instr.sureAddr, Sem.run_pure, fieldPlace, (tok _ _ hft).run_size, addr_add]
            rw [if_neg hz']
            simp
          split at hc
          · cases hc
            obtain ⟨b, hb, e⟩ := h1.inv_ptr
            exact sim_slot h (.ptr hb) (by simpa [Slot.names] using h2) (hrun _ _ e)
          · cases hc
            obtain ⟨b, len, cap, sz, hb, e⟩ := h1.inv_elt
            exact sim_slot h (by rw [Nat.add_assoc]; exact .elt hb) (by simpa [Slot.names] using h2) (hrun _ _ e)
          · cases hc
            obtain ⟨b, k, e, hI, hn, vs, hvv, hr⟩ := h1.inv_val.inv_box
            exact .val h (hrun _ _ e) (by rw [Nat.add_assoc]; exact .box vs hI hn hvv hr)
          · cases hc
  · cases hc

theorem cellsAt_agg_part {cs : List PV} {off : Nat} {i : TI} {t : TypeId} (ht : TypeOK P t i) {vs : Array Value} (hr : RowRep I w vs cs) {p : PV} (hp : partPV cs off i = some p) :
    ∃ v, (part t vs off).run P w = .ok v w ∧ Rep I w v p := by
  have hs := hr.size
  unfold partPV at hp
  cases ha : i.isAgg with
  | true =>
    simp only [ha] at hp
    cases hc : (off + i.size).ble cs.length with
    | false => simp [hc] at hp
    | true =>
      have hle : off + i.size ≤ cs.length := by simpa using hc
      simp only [hc, cond_true, Option.some.injEq] at hp
      subst hp
      refine ⟨.agg (vs.extract off (off + i.size)), by simp only [part, Sem.run_bind, ht.run_agg, Result.andThen_ok, ha, if_true, ht.run_size, Sem.run_pure], ?_⟩
      refine .agg (by simp; omega) (fun j hj => ?_) (fun j h1 h2 => ?_)
      · simp only [List.getElem_take, List.getElem_drop]
        exact hr.one _ _
      · simp only [List.getElem_take, List.getElem_drop, Array.getElem_extract]
        exact hr.rep _ _ _
  | false =>
    simp only [ha] at hp
    obtain ⟨hlt, he⟩ := List.getElem?_eq_some_iff.1 hp
    subst he
    have h1 : off < vs.size := by omega
    refine ⟨vs[off], ?_, hr.rep off h1 hlt⟩
    simp only [part, Sem.run_bind, ht.run_agg, Result.andThen_ok, ha, Bool.false_eq_true, if_false, Array.getElem?_eq_getElem h1, Sem.run_pure]

theorem sim_field (tok : TOK P T) (h : StOK I w β N a.tmps st) {t : TypeId} {x : Operand} {f : Nat} (ho : o.op = .field t x f) (hc : opC T EQ nm st.obj o (opIns T st o) = some (slot, ups)) :
    OpSim nm I w β N a.tmps st slot ups ((execOp a.eval o).run P w) := by
  simp only [opC, ho, opIns] at hc
  have h1 := opnd_ok (T := T) h t x
  generalize st.opnd T t x = s1 at *
  split at hc
  · rename_i p e
    simp only [List.cons.injEq, and_true] at e
    subst e
    unfold fieldC at hc
    split at hc
    · rename_i sz by_ zs fs ht
      split at hc
      · cases hc
      · rename_i off ft hfs
        split at hc
        · cases hc
        · rename_i fi hft
          obtain ⟨fields, hu, hmap⟩ := (tok _ _ ht).run_struct rfl w
          have hfl : ∃ fl : Field, fields[f]? = some fl ∧ fl.offset = off ∧ fl.type = ft := by
            have : (fields.toList.map fun f => (f.offset, f.type))[f]? = some (off, ft) := by rw [hmap]; exact hfs
            rw [List.getElem?_map] at this
            cases hq : fields.toList[f]? with
            | none => rw [hq] at this; cases this
            | some fl =>
              rw [hq] at this
              simp only [Option.map_some, Option.some.injEq, Prod.mk.injEq] at this
              exact ⟨fl, by simpa using hq, this.1, this.2⟩
          obtain ⟨fl, hfl, rfl, rfl⟩ := hfl
          split at hc
          · rename_i cs
            obtain ⟨q, hq, rfl, rfl⟩ := optRes_eq hc
            obtain ⟨vs, e, hs, hn, hr⟩ := h1.inv_val.inv_agg
            obtain ⟨v, hv, hrep⟩ := cellsAt_agg_part (P := P) (tok _ _ hft) ⟨hs, hr, hn⟩ hq
            refine .val h ?_ hrep
            simp only [execOp, ho, e, Instr.field, Sem.run_bind, hu, Result.andThen_ok, hfl, asAgg, Sem.run_pure, hv]
          · cases hc
    · cases hc
  · cases hc

theorem sim_index (tok : TOK P T) (h : StOK I w β N a.tmps st) {t : TypeId} {x y : Operand} (ho : o.op = .index t x y)
    (hc : opC T EQ nm st.obj o (opIns T st o) = some (slot, ups)) :
    OpSim nm I w β N a.tmps st slot ups ((execOp a.eval o).run P w) := by
  simp only [opC, ho, opIns] at hc
  have h1 := opnd_ok (T := T) h t x
  have h2 := opnd_ok (T := T) h 0 y
  generalize st.opnd T t x = s1 at *
  generalize st.opnd T 0 y = s2 at *
  split at hc
  · rename_i p k i e
    simp only [List.cons.injEq, and_true] at e
    obtain ⟨rfl, rfl⟩ := e
    have e2 := h2.inv_val.isv
    unfold indexC at hc
    split at hc
    · rename_i s
      have e1 := h1.inv_val.isv
      split at hc
      · rename_i sz by_ zs ht
        cases hi : decide (0 ≤ i) with
        | false => rw [hi] at hc; simp at hc
        | true =>
          rw [hi] at hc
          simp only [cond_true] at hc
          have hi' : 0 ≤ i := by simpa using hi
          split at hc
          · rename_i b hb
            obtain ⟨rfl, rfl⟩ := valRes_eq hc
            have hb' : s[i.toNat]? = some b := by
              obtain ⟨h3, h4⟩ := List.getElem?_eq_some_iff.1 hb
              have h5 : i.toNat < s.size := by simpa using h3
              rw [getElem?_pos s i.toNat h5]
              congr 1
            refine .val h ?_ (.v rfl)
            simp only [execOp, ho, e1, e2, Instr.index, Sem.run_bind, asIntOf, Sem.run_pure, Result.andThen_ok, (tok _ _ ht).run_str rfl, hi', if_true, hb']
          · cases hc
      · cases hc
    · rename_i cs
      split at hc
      · rename_i sz by_ zs len el ht
        split at hc
        · cases hc
        · rename_i ei het
          cases hi : decide (0 ≤ i) && decide (i < len) with
          | false => rw [hi] at hc; simp at hc
          | true =>
            rw [hi] at hc
            simp only [cond_true] at hc
            have hi' : 0 ≤ i ∧ i < len := by simpa using hi
            obtain ⟨q, hq, rfl, rfl⟩ := optRes_eq hc
            obtain ⟨vs, e, hs, hn, hr⟩ := h1.inv_val.inv_agg
            obtain ⟨v, hv, hrep⟩ := cellsAt_agg_part (P := P) (tok _ _ het) ⟨hs, hr, hn⟩ hq
            refine .val h ?_ hrep
            simp only [execOp, ho, e, e2, Instr.index, Sem.run_bind, asIntOf, Sem.run_pure, Result.andThen_ok, (tok _ _ ht).run_array rfl, hi', and_self, if_true, (tok _ _ het).run_size, hv]
      · cases hc
    · cases hc
  · cases hc

theorem sim_indexAddr (tok : TOK P T) (h : StOK I w β N a.tmps st) {t : TypeId} {x y : Operand} (ho : o.op = .indexAddr t x y) (hc : opC T EQ nm st.obj o (opIns T st o) = some (slot, ups)) :
    OpSim nm I w β N a.tmps st slot ups ((execOp a.eval o).run P w) := by
  simp only [opC, ho, opIns] at hc
  have h1 := opnd_ok (T := T) h t x
  have h1n := opnd_names (T := T) h t x
  have h2 := opnd_ok (T := T) h 0 y
  generalize st.opnd T t x = s1 at *
  generalize st.opnd T 0 y = s2 at *
  split at hc
  · rename_i s k i e
    simp only [List.cons.injEq, and_true] at e
    obtain ⟨rfl, rfl⟩ := e
    have e2 := h2.inv_val.isv
    unfold indexAddrC at hc
    split at hc
    · -- a slice
      rename_i sz0 by_ zs el ht
      have hu := (tok _ _ ht).run_slice rfl
      split at hc
      · cases hc
      · rename_i ei het
        have hrun : ∀ (b k len cap : Nat), a.eval x = .slice (some ⟨b, k, none⟩) len cap → 0 ≤ i → i < len → (execOp a.eval o).run P w = .ok (.value (.pointer (some ⟨b, k + i.toNat * ei.size, none⟩))) w := by
          intro b k len cap e h3 h4
          simp [execOp, ho, e, e2, Instr.indexAt, asIntOf, hu, h3, h4, (tok _ _ het).run_size, addr_add]
        have hsnap : ∀ (sz : Nat) (xs : List PV) (I' : Nat → Prop) (hI : ∀ b, I b → I' b), Rep I' w (a.eval x) (.sl sz xs) → (I' = I) → sz = ei.size → 0 ≤ i → ∀ z, xs[i.toNat]? = some z →
            OpSim nm I w β N a.tmps st (.val (.box z.cells 0)) [] ((execOp a.eval o).run P w) := by
          rintro sz xs I' hI hr rfl rfl h3 z hz
          obtain ⟨hlt, rfl⟩ := List.getElem?_eq_some_iff.1 hz
          generalize hv : a.eval x = v at hr
          cases hr with
          | nil => simp at hlt
          | sl vs hl hcap hIb hzs hn hvv hr =>
            rename_i b off len cap
            refine .val h (hrun _ _ _ _ hv h3 (by omega)) ?_
            have := Rep.box (I := I') (w := w) (b := b) (off := off + i.toNat * ei.size) (o := 0) (cs := xs[i.toNat].cells) (fun j => vs i.toNat j) (fun _ => hIb (by intro e; rw [e] at hlt; simp at hlt)) (hn _ hlt)
              (fun j hj => hvv _ _ hlt (by rw [← hzs _ hlt]; exact hj)) (fun j hj => hr _ _ hlt hj)
            simpa using this
        split at hc
        · rename_i n
          split at hc
          · rename_i sz xs hobj
            cases hsz : sz == ei.size with
            | false => rw [hsz] at hc; simp at hc
            | true =>
              rw [hsz] at hc
              have hsz' : sz = ei.size := by simpa using hsz
              subst hsz'
              cases hi : decide (0 ≤ i) && decide (i < xs.length) with
              | false => rw [hi] at hc; simp at hc
              | true =>
                rw [hi] at hc
                simp only [cond_true, Option.some.injEq, Prod.mk.injEq] at hc
                obtain ⟨rfl, rfl⟩ := hc
                have hi' : 0 ≤ i ∧ i < xs.length := by simpa using hi
                have hok := h.obj n _ hobj
                have e1 := h1.inv_slc
                generalize hb : β n = c at *
                cases hok with
                | emp => simp at hi'; omega
                | arr hv =>
                  rename_i b cap
                  refine sim_slot h (v := .pointer (some ⟨b, i.toNat * ei.size + 0, none⟩)) (.elt hb) (by simpa [Slot.names] using h1n) ?_
                  rw [hrun b 0 _ _ e1 hi'.1 (by simpa using hi'.2)]
                  simp
          · rename_i sz xs hobj
            cases hsz : sz == ei.size with
            | false => rw [hsz] at hc; simp at hc
            | true =>
              rw [hsz] at hc
              cases hi : decide (0 ≤ i) with
              | false => rw [hi] at hc; simp at hc
              | true =>
                rw [hi] at hc
                simp only [cond_true] at hc
                split at hc
                · rename_i z hz
                  cases hc
                  have hok := h.obj n _ hobj
                  have e1 := h1.inv_slc
                  have hr : Rep I w (a.eval x) (.sl sz xs) := by
                    rw [e1]
                    generalize β n = c at *
                    cases hok with
                    | frz hr _ => exact hr
                  exact hsnap sz xs I (fun _ x => x) hr rfl (by simpa using hsz) (by simpa using hi) z hz
                · cases hc
          · cases hc
        · rename_i sz xs
          cases hsz : sz == ei.size with
          | false => rw [hsz] at hc; simp at hc
          | true =>
            rw [hsz] at hc
            cases hi : decide (0 ≤ i) with
            | false => rw [hi] at hc; simp at hc
            | true =>
              rw [hi] at hc
              simp only [cond_true] at hc
              split at hc
              · rename_i z hz
                cases hc
                exact hsnap sz xs I (fun _ x => x) h1.inv_val rfl (by simpa using hsz) (by simpa using hi) z hz
              · cases hc
        · cases hc
    · -- an array
      rename_i sz0 by_ zs len el ht
      have hu := (tok _ _ ht).run_array rfl
      split at hc
      · cases hc
      · rename_i ei het
        have hrun : ∀ (b k : Nat), a.eval x = .pointer (some ⟨b, k, none⟩) → 0 ≤ i → i < len → (execOp a.eval o).run P w = .ok (.value (.pointer (some ⟨b, k + i.toNat * ei.size, none⟩))) w := by
          intro b k e h3 h4
          simp [execOp, ho, e, e2, Instr.indexAt, asIntOf, hu, h3, h4, (tok _ _ het).run_size, addr_add, Instr.sureAddr]
        split at hc
        · rename_i n off
          cases hi : decide (0 ≤ i) && decide (i < len) with
          | false => rw [hi] at hc; simp at hc
          | true =>
            rw [hi] at hc
            cases hc
            have hi' : 0 ≤ i ∧ i < len := by simpa using hi
            obtain ⟨b, hb, e⟩ := h1.inv_ptr
            exact sim_slot h (.ptr hb) (by simpa [Slot.names] using h1n) (hrun _ _ e hi'.1 hi'.2)
        · rename_i cs off
          cases hi : decide (0 ≤ i) && decide (i < len) with
          | false => rw [hi] at hc; simp at hc
          | true =>
            rw [hi] at hc
            cases hc
            have hi' : 0 ≤ i ∧ i < len := by simpa using hi
            obtain ⟨b, k, e, hI, hn, vs, hvv, hr⟩ := h1.inv_val.inv_box
            exact .val h (hrun _ _ e hi'.1 hi'.2) (by rw [Nat.add_assoc]; exact .box vs hI hn hvv hr)
        · cases hc
    · cases hc
  · cases hc

theorem sim_extract (h : StOK I w β N a.tmps st) {x : Operand} {i : Nat} (ho : o.op = .extract x i) (hc : opC T EQ nm st.obj o (opIns T st o) = some (slot, ups)) :
    OpSim nm I w β N a.tmps st slot ups ((execOp a.eval o).run P w) := by
  simp only [opC, ho, opIns] at hc
  have h1 := opnd_ok (T := T) h 0 x
  have h1n := opnd_names (T := T) h 0 x
  generalize st.opnd T 0 x = s1 at *
  split at hc
  · rename_i ss e
    simp only [List.cons.injEq, and_true] at e
    subst e
    obtain ⟨vs, e, hs, hp, hq⟩ := h1.inv_tup
    have hrun : ∀ (hi : i < vs.size), (execOp a.eval o).run P w = .ok (.value vs[i]) w := by
      intro hi
      simp only [execOp, ho, e, Instr.extract, Sem.run_bind, Array.getElem?_eq_getElem hi, Sem.run_pure, Result.andThen_ok]
    split at hc
    · rename_i p hp'
      cases hc
      have hi : i < vs.size := by rw [hs]; exact (List.getElem?_eq_some_iff.1 hp').1
      exact .val h (hrun hi) (hp i hi p hp')
    · rename_i n hq'
      cases hc
      have hi : i < vs.size := by rw [hs]; exact (List.getElem?_eq_some_iff.1 hq').1
      refine sim_slot h (.slc' (hq i hi n hq')) (fun m hm => ?_) (hrun hi)
      simp only [Slot.names, List.mem_singleton] at hm
      subst hm
      refine h1n m ?_
      simp only [Slot.names, List.mem_filterMap]
      exact ⟨.inr m, List.mem_of_getElem? hq', rfl⟩
    · cases hc
  · cases hc

end
end Evp
end Go
