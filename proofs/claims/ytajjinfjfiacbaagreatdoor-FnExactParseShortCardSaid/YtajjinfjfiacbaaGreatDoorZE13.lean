/- Operations: parts of slices, structs built, conversions, builtins; all of them. -/
import Derived.Test.YtajjinfjfiacbaaGreatDoorZE12
import Derived.Laws.Tables
set_option linter.unusedSectionVars false
set_option linter.unusedVariables false
set_option linter.unusedSimpArgs false
set_option linter.unnecessarySimpa false
namespace Go
namespace Evp
variable [Globs]

section
variable {P : Program} {T : Types} {EQ : TypeId → Option (List ZK)} {nm : Nat} {I : Nat → Prop} {w : World} {β : Nat → Conc} {N : Nat → Prop} {a : Act} {st : St} {o : Oper} {slot : Slot} {ups : Ups}

theorem intOf_ok {x : Operand} {s : Slot} {i : Int} (h : SlotOK I w β (a.eval x) s) (hi : intOf s = some i) : ∃ k, a.eval x = .int k i := by
  unfold intOf at hi
  split at hi
  · cases hi
    exact ⟨_, h.inv_val.isv⟩
  · cases hi

theorem within_iff {l h : Int} {n : Nat} : within l h n = true ↔ 0 ≤ l ∧ l ≤ h ∧ h ≤ n := by
  simp [within, and_assoc]

/-- The bounds of a slice expression, run. -/
theorem bounds_run {isSlice : Bool} {len cap : Nat} {lo hi : Option Value} {l h : Option Int} (hl : ∀ i, l = some i → ∃ k, lo = some (.int k i)) (hl0 : l = none → lo = none) (hh : ∀ i, h = some i → ∃ k, hi = some (.int k i))
    (hh0 : h = none → hi = none) (hlc : len ≤ cap) (hw : within (l.getD 0) (h.getD len) len = true) :
    (Instr.sliceBounds isSlice len cap lo hi none).run P w = .ok ((l.getD 0).toNat, (h.getD len).toNat, cap) w := by
  rw [within_iff] at hw
  obtain ⟨h1, h2, h3⟩ := hw
  have e1 : ∀ (i : Int) (k : IntKind) (y : Nat) (code : BoundsCode), 0 ≤ i → i ≤ y → (Instr.sliceBound (.int k i) y code).run P w = .ok i.toNat w := by
    intro i k y code h4 h5
    simp [Instr.sliceBound, asIntOf, h4, h5]
  cases h with
  | none =>
    cases hh0 rfl
    cases l with
    | none => cases hl0 rfl; simp [Instr.sliceBounds]
    | some i =>
      obtain ⟨k, rfl⟩ := hl i rfl
      simp only [Option.getD_none, Option.getD_some] at h1 h2 h3
      simp [Instr.sliceBounds, e1 i k len _ h1 h2]
  | some j =>
    obtain ⟨k', rfl⟩ := hh j rfl
    simp only [Option.getD_some] at h2 h3
    have hj : 0 ≤ j := by omega
    have hjc : j ≤ cap := by omega
    cases l with
    | none => cases hl0 rfl; simp [Instr.sliceBounds, e1 j k' cap _ hj hjc]
    | some i =>
      obtain ⟨k, rfl⟩ := hl i rfl
      simp only [Option.getD_some] at h1 h2
      simp [Instr.sliceBounds, e1 j k' cap _ hj hjc, e1 i k j.toNat _ h1 (by omega)]

theorem elemSize_inv {t : TypeId} {sz : Nat} (h : elemSize T t = some sz) : ∃ ti e ei, T t = some ti ∧ ti.kind = .slice e ∧ T e = some ei ∧ ei.size = sz := by
  unfold elemSize at h
  split at h
  · rename_i z1 z2 z3 e ht
    cases he : T e with
    | none => rw [he] at h; cases h
    | some ei => rw [he] at h; simp only [Option.map_some, Option.some.injEq] at h; exact ⟨_, _, ei, ht, rfl, he, h⟩
  · cases h

theorem sliceC_plain (tok : TOK P T) (h : StOK I w β N a.tmps st) (hf : Fresh N nm) {t : TypeId} {x : Slot} {xv : Value} (hx : SlotOK I w β xv x) {lo hi : Option Value} {l hh : Option Int}
    (hl : ∀ i, l = some i → ∃ k, lo = some (.int k i)) (hl0 : l = none → lo = none) (hh1 : ∀ i, hh = some i → ∃ k, hi = some (.int k i)) (hh0 : hh = none → hi = none)
    (hc : sliceC T st.obj nm t x l hh none = some (slot, ups)) {run : Result Next}
    (hr : run = ((Instr.sliceAt t xv lo hi none).run P w).andThen fun v w' => .ok (.value v) w') : OpSim nm I w β N a.tmps st slot ups run := by
  unfold sliceC at hc
  simp only at hc
  split at hc
  · rename_i s u hk
    split at hc
    · rename_i sz0 by_ zs ht
      cases hb : within (l.getD 0) (hh.getD s.size) s.size with
      | false => rw [hb] at hc; simp at hc
      | true =>
        rw [hb] at hc
        simp only [cond_true] at hc
        obtain ⟨rfl, rfl⟩ := valRes_eq hc
        have hxv : xv = .string s := by
          cases x with
          | val p =>
            simp only [keepPV, Option.some.injEq, Prod.mk.injEq] at hk
            obtain ⟨rfl, _⟩ := hk
            exact hx.inv_val.isv
          | slc n =>
            simp only [keepPV] at hk
            split at hk <;> simp at hk
          | _ => simp [keepPV] at hk
        refine .val h ?_ (.v rfl)
        have hbr := bounds_run (P := P) (w := w) (isSlice := false) (len := s.size) (cap := s.size) hl hl0 hh1 hh0 (Nat.le_refl _) hb
        rw [hr, hxv]
        simp [Instr.sliceAt, Instr.slice, (tok _ _ ht).run_str rfl, hbr]
    · cases hc
  · rename_i sz xs u hk
    cases hb : (elemSize T t == some sz) && within (l.getD 0) (hh.getD xs.length) xs.length with
    | false => rw [hb] at hc; simp at hc
    | true =>
      rw [hb] at hc
      simp only [cond_true, Option.some.injEq, Prod.mk.injEq] at hc
      obtain ⟨rfl, rfl⟩ := hc
      simp only [Bool.and_eq_true, beq_iff_eq] at hb
      obtain ⟨hsz, hw⟩ := hb
      obtain ⟨I1, h1, m1, r1, _⟩ := keep_sim h (Near.refl st) hx hk
      obtain ⟨ti, e, ei, ht, hkd, het, hes⟩ := elemSize_inv hsz
      subst hes
      have hw' := within_iff.1 hw
      generalize hlo : l.getD 0 = li at *
      generalize hhi : hh.getD xs.length = hi' at *
      cases r1 with
      | nil =>
        rename_i ad cap
        simp only [List.length_nil] at hw' hw hhi
        have h0 : li = 0 ∧ hi' = 0 := by omega
        obtain ⟨rfl, rfl⟩ := h0
        have hbr := bounds_run (P := P) (w := w) (isSlice := true) (len := 0) (cap := cap) hl hl0 hh1 hh0 (Nat.zero_le _) (by rw [hlo, show hh.getD ((0 : Nat) : Int) = 0 by simpa using hhi]; rfl)
        rw [hlo, show hh.getD ((0 : Nat) : Int) = 0 by simpa using hhi] at hbr
        refine .kept m1 h1 (v := .slice (if cap = 0 then ad else ad.map (·.add (0 * ei.size))) 0 cap) ?_ (by simpa using Rep.nil)
        rw [hr]
        simp [Instr.sliceAt, Instr.slice, (tok _ _ ht).run_slice hkd, hbr, (tok _ _ het).run_size]
      | sl vs hlen hcap hIb hzs hn hv hrr =>
        rename_i b off len cap
        subst hlen
        have hbr := bounds_run (P := P) (w := w) (isSlice := true) (len := xs.length) (cap := cap) hl hl0 hh1 hh0 hcap (by rw [hlo, hhi]; exact hw)
        rw [hlo, hhi] at hbr
        refine .kept m1 h1 (v := .slice (if cap = li.toNat then some ⟨b, off, none⟩ else some ⟨b, off + li.toNat * ei.size, none⟩) (hi'.toNat - li.toNat) (cap - li.toNat)) ?_ ?_
        · rw [hr]
          simp [Instr.sliceAt, Instr.slice, (tok _ _ ht).run_slice hkd, hbr, (tok _ _ het).run_size, addr_add]
        · by_cases hemp : hi'.toNat = li.toNat
          · have hnil : (xs.take hi'.toNat).drop li.toNat = [] := by
              apply List.drop_eq_nil_of_le
              simp
              omega
            rw [hnil, hemp, Nat.sub_self]
            exact .nil
          · have hlt : ¬ cap = li.toNat := by omega
            rw [if_neg hlt]
            have hln : ((xs.take hi'.toNat).drop li.toNat).length = hi'.toNat - li.toNat := by simp; omega
            have hget : ∀ i (hi2 : i < ((xs.take hi'.toNat).drop li.toNat).length), ((xs.take hi'.toNat).drop li.toNat)[i] = xs[li.toNat + i]'(by omega) := by
              intro i hi2
              simp
            refine .sl (fun i j => vs (li.toNat + i) j) hln (by omega) (fun _ => hIb (by intro e; subst e; simp at hln; omega)) (fun i hi2 => by rw [hget i hi2]; exact hzs _ _) (fun i hi2 j hj => ?_) (fun i j hi2 hj => ?_) (fun i j hi2 hj => ?_)
            · simp only [hget i hi2] at hj ⊢
              exact hn _ _ j hj
            · have := hv (li.toNat + i) j (by omega) hj
              rw [Nat.add_mul] at this
              rw [← this]
              congr 2
              omega
            · simp only [hget i hi2] at hj ⊢
              exact hrr _ j _ hj
  · cases hc

theorem sim_slice (tok : TOK P T) (h : StOK I w β N a.tmps st) (hf : Fresh N nm) {t : TypeId} {x : Operand} {lo hi mx : Option Operand} (ho : o.op = .slice t x lo hi mx)
    (hc : opC T EQ nm st.obj o (opIns T st o) = some (slot, ups)) : OpSim nm I w β N a.tmps st slot ups ((execOp a.eval o).run P w) := by
  simp only [opC, ho, opIns] at hc
  have hx := opnd_ok (T := T) h t x
  have hrun : (execOp a.eval o).run P w = ((Instr.sliceAt t (a.eval x) (lo.map a.eval) (hi.map a.eval) (mx.map a.eval)).run P w).andThen fun v w' => .ok (.value v) w' := by
    simp only [execOp, ho, Sem.run_bind]
    rfl
  cases mx with
  | none =>
    cases lo with
    | none =>
      cases hi with
      | none =>
        exact sliceC_plain tok h hf hx (l := none) (hh := none) (fun i e => by cases e) (fun _ => rfl) (fun i e => by cases e) (fun _ => rfl) hc hrun
      | some y =>
        simp only [Option.toList, List.nil_append, List.append_nil, List.map_cons, List.map_nil] at hc
        split at hc
        · rename_i j hj
          obtain ⟨k, e⟩ := intOf_ok (opnd_ok (T := T) h 0 y) hj
          exact sliceC_plain tok h hf hx (l := none) (hh := some j) (fun i e => by cases e) (fun _ => rfl) (fun i e' => by cases e'; exact ⟨k, by simp [e]⟩) (fun e => by cases e) hc hrun
        · cases hc
    | some z =>
      cases hi with
      | none =>
        simp only [Option.toList, List.append_nil, List.map_cons, List.map_nil] at hc
        split at hc
        · rename_i j hj
          obtain ⟨k, e⟩ := intOf_ok (opnd_ok (T := T) h 0 z) hj
          exact sliceC_plain tok h hf hx (l := some j) (hh := none) (fun i e' => by cases e'; exact ⟨k, by simp [e]⟩) (fun e => by cases e) (fun i e => by cases e) (fun _ => rfl) hc hrun
        · cases hc
      | some y =>
        simp only [Option.toList, List.append_nil, List.map_cons, List.map_nil, List.cons_append, List.nil_append] at hc
        split at hc
        · rename_i i j hi' hj
          obtain ⟨k, e⟩ := intOf_ok (opnd_ok (T := T) h 0 z) hi'
          obtain ⟨k', e'⟩ := intOf_ok (opnd_ok (T := T) h 0 y) hj
          exact sliceC_plain tok h hf hx (l := some i) (hh := some j) (fun i e' => by cases e'; exact ⟨k, by simp [e]⟩) (fun e => by cases e) (fun i e'' => by cases e''; exact ⟨k', by simp [e']⟩) (fun e => by cases e) hc hrun
        · cases hc
  | some m =>
    cases lo with
    | some z => simp only [Option.toList, List.append_nil, List.map_cons, List.map_nil, List.cons_append, List.nil_append] at hc; cases hi <;> simp at hc
    | none =>
      cases hi with
      | none => simp at hc
      | some y =>
        simp only [Option.toList, List.append_nil, List.map_cons, List.map_nil, List.cons_append, List.nil_append] at hc
        split at hc
        · rename_i i j hi' hj
          obtain ⟨k, e⟩ := intOf_ok (opnd_ok (T := T) h 0 y) hi'
          obtain ⟨k', e'⟩ := intOf_ok (opnd_ok (T := T) h 0 m) hj
          unfold sliceC at hc
          simp only at hc
          cases hb : (j == 0) && (i == 0) with
          | false => rw [hb] at hc; simp at hc
          | true =>
            rw [hb] at hc
            simp only [cond_true] at hc
            simp only [Bool.and_eq_true, beq_iff_eq] at hb
            obtain ⟨rfl, rfl⟩ := hb
            split at hc
            · rename_i sz sz' xs hes hrd
              cases hc
              obtain ⟨ti, el, ei, ht, hkd, het, hes⟩ := elemSize_inv hes
              obtain ⟨Ib, _, hr⟩ := rd_ok h hx hrd
              have hv : ∃ ad len cap, a.eval x = .slice ad len cap := by
                generalize a.eval x = v at hr
                cases hr <;> exact ⟨_, _, _, rfl⟩
              obtain ⟨ad, len, cap, hv⟩ := hv
              refine sim_nil h hf (ad := ad) ?_
              rw [hrun, hv]
              simp [Instr.sliceAt, Instr.slice, (tok _ _ ht).run_slice hkd, Instr.sliceBounds, Instr.sliceBound, asIntOf, e, e', (tok _ _ het).run_size]
            · cases hc
        · cases hc

theorem RowRep.fill {place : Nat → Option (Nat × Nat)} {c : Array Value} {cs cs' : List PV} {v : Value} {p : PV} {off size i : Nat} {rest : List (Nat × Value)} (h : RowRep I w c cs) (hr : Rep I w v p)
    (hp : putPart cs off size p = some cs') (hi : place i = some (off, size)) : Instr.fill place c ((i, v) :: rest) = Instr.fill place (lay c off v.cells.toList) rest ∧ RowRep I w (lay c off v.cells.toList) cs' := by
  obtain ⟨h1, h2, h3⟩ := h.put hr hp
  refine ⟨?_, h1⟩
  simp only [Instr.fill, hi]
  rw [if_neg (by simp [h2]; exact h3), fill_lay]

theorem fill_struct {T : Types} {fs : List (Nat × TypeId)} {place : Nat → Option (Nat × Nat)} (hpl : ∀ i off ft ti, fs[i]? = some (off, ft) → T ft = some ti → place i = some (off, ti.size)) :
    ∀ {is : List Nat} {vs : List Value} {ps : List PV} {c : Array Value} {cs cs' : List PV}, RowRep I w c cs → All2 (Rep I w) vs ps → is.length = vs.length → fillStruct T fs (is.zip ps) cs = some cs' →
      ∃ c', Instr.fill place c (is.zip vs) = some c' ∧ RowRep I w c' cs'
  | [], vs, ps, c, cs, cs', h, hr, hl, hf => by
    simp only [List.zip_nil_left, fillStruct, Option.some.injEq] at hf
    subst hf
    exact ⟨c, by simp [Instr.fill], h⟩
  | i :: is, _, _, c, cs, cs', h, .nil, hl, hf => by simp at hl
  | i :: is, _, _, c, cs, cs', h, .cons (a := v) (b := p) hv t, hl, hf => by
    simp only [List.zip_cons_cons, fillStruct] at hf
    split at hf
    · cases hf
    · rename_i off ft hfs
      split at hf
      · cases hf
      · rename_i ti hft
        split at hf
        · cases hf
        · rename_i cs1 hput
          obtain ⟨e, h1⟩ := h.fill (rest := is.zip _) hv hput (hpl _ _ _ _ hfs hft)
          obtain ⟨c', hc1, hc2⟩ := fill_struct hpl h1 t (by simpa using hl) hf
          exact ⟨c', by rw [List.zip_cons_cons, e]; exact hc1, hc2⟩

theorem fill_arr {size : Nat} : ∀ {is : List Nat} {vs : List Value} {ps : List PV} {c : Array Value} {cs cs' : List PV}, RowRep I w c cs → All2 (Rep I w) vs ps → is.length = vs.length → fillPV size (is.zip ps) cs = some cs' →
      ∃ c', Instr.fill (fun i => some (i * size, size)) c (is.zip vs) = some c' ∧ RowRep I w c' cs'
  | [], vs, ps, c, cs, cs', h, hr, hl, hf => by
    simp only [List.zip_nil_left, fillPV, Option.some.injEq] at hf
    subst hf
    exact ⟨c, by simp [Instr.fill], h⟩
  | i :: is, _, _, c, cs, cs', h, .nil, hl, hf => by simp at hl
  | i :: is, _, _, c, cs, cs', h, .cons (a := v) (b := p) hv t, hl, hf => by
    simp only [List.zip_cons_cons, fillPV] at hf
    split at hf
    · cases hf
    · rename_i cs1 hput
      obtain ⟨e, h1⟩ := h.fill (place := fun i => some (i * size, size)) (rest := is.zip _) hv hput rfl
      obtain ⟨c', hc1, hc2⟩ := fill_arr h1 t (by simpa using hl) hf
      exact ⟨c', by rw [List.zip_cons_cons, e]; exact hc1, hc2⟩

theorem sim_build (tok : TOK P T) (h : StOK I w β N a.tmps st) {t : TypeId} {parts : Array (Nat × Operand)} (ho : o.op = .build t parts) (hc : opC T EQ nm st.obj o (opIns T st o) = some (slot, ups)) :
    OpSim nm I w β N a.tmps st slot ups ((execOp a.eval o).run P w) := by
  simp only [opC, ho, opIns] at hc
  split at hc
  · cases hc
  · rename_i ti ht
    have tk := tok _ _ ht
    split at hc
    · cases hc
    · rename_i vs u hk
      have hs : All2 (SlotOK I w β) (parts.toList.map fun p => a.eval p.2) (parts.toList.map fun (x : Nat × Operand) => st.opnd T (partType T t x.1) x.2) := All2.map (fun x _ => opnd_ok h _ x.2)
      obtain ⟨I1, h1, m1, r1, _⟩ := keepAll_sim hs h (Near.refl st) hk
      obtain ⟨zi, z, hi1, hi2, hi3, hi4, hi5⟩ := tk.info
      have hz : RowRep I1 w z.cells (zerosPV ti) := by
        obtain ⟨z', h2, h3⟩ := zero_row tk I1 w
        have e : (zeroValue t).run P w = .ok z w := by simp [zeroValue, typeInfo, program, Sem.run, hi1, hi4, Pure.pure, Bind.bind, Sem.bind]
        rw [e] at h2
        cases h2
        exact h3 w
      have hzip : (parts.map fun (p : Nat × Operand) => (p.1, a.eval p.2)).toList = (parts.toList.map (·.1)).zip (parts.toList.map fun p => a.eval p.2) := by
        have := zip_fst_snd (parts.toList.map fun (p : Nat × Operand) => (p.1, a.eval p.2))
        rw [Array.toList_map, ← this]
        simp [List.map_map, Function.comp_def]
      have fin : ∀ cs' c', Program.built P t (parts.map fun (p : Nat × Operand) => (p.1, a.eval p.2)).toList = some c' → RowRep I1 w c' cs' → some (Slot.val (.agg cs'), u) = some (slot, ups) →
          OpSim nm I w β N a.tmps st slot ups ((execOp a.eval o).run P w) := by
        intro cs' c' hb hrow he
        cases he
        refine .kept m1 h1 (v := .agg c') ?_ (.agg hrow.size hrow.one hrow.rep)
        simp only [execOp, ho, Sem.run_bind]
        have := run_build (P := P) w t (parts.map fun (p : Nat × Operand) => (p.1, a.eval p.2)) c' hb
        rw [this]
        simp
      split at hc
      · rename_i fs hkd
        split at hc
        · rename_i cs' hf
          obtain ⟨fields, hu, hmap⟩ := tk.run_struct hkd w
          have hund : P.underlying t = some (.struct fields) := by
            obtain ⟨d, h2, h3⟩ := tk.desc
            rw [run_underlying h2] at hu
            cases hu
            exact h2
          have hplaces := tk.flds fields hund
          obtain ⟨c', hc1, hc2⟩ := fill_struct (T := T) (fs := fs) (place := fun i => (fields.toList.map fun f => (f.offset, P.cellsOf f.type)).toArray[i]?) (fun i off ft ti' h2 h3 => by
            rw [← hmap, List.getElem?_map] at h2
            cases hq : fields.toList[i]? with
            | none => rw [hq] at h2; cases h2
            | some fl =>
              rw [hq] at h2
              simp only [Option.map_some, Option.some.injEq, Prod.mk.injEq] at h2
              obtain ⟨rfl, rfl⟩ := h2
              obtain ⟨zi', _, hj1, hj2, _⟩ := (tok _ _ h3).info
              simp only [List.getElem?_toArray, List.getElem?_map, hq, Option.map_some, Program.cellsOf, hj1, Option.getD_some, hj2]) hz r1 (by simp) hf
          refine fin cs' c' ?_ hc2 hc
          unfold Program.built
          rw [hi1, hund]
          simp only [hi4, hplaces, hzip]
          exact hc1
        · cases hc
      · rename_i n e hkd
        split at hc
        · cases hc
        · rename_i ei het
          split at hc
          · rename_i cs' hf
            have hund : P.underlying t = some (.array n e) := by
              obtain ⟨d, h2, h3⟩ := tk.desc
              rw [hkd] at h3
              cases d <;> simp_all [descFits]
            obtain ⟨zi', _, hj1, hj2, _⟩ := (tok _ _ het).info
            obtain ⟨c', hc1, hc2⟩ := fill_arr hz r1 (by simp) hf
            refine fin cs' c' ?_ hc2 hc
            unfold Program.built
            rw [hi1, hund]
            simp only [hi4, hj1, hzip, hj2]
            exact hc1
          · cases hc
      · cases hc

end
end Evp
end Go
