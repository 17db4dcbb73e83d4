/- Operations: what is built; all of them. -/
import Derived.Test.YtajjinfjfiacbaaGreatDoorZE11
import Derived.IntWalk
set_option linter.unusedSectionVars false
set_option linter.unusedVariables false
set_option linter.unusedSimpArgs false
set_option linter.unnecessarySimpa false
namespace Go
namespace Evp
variable [Globs]

section
variable {P : Program} {T : Types} {EQ : TypeId → Option (List ZK)} {nm : Nat} {I : Nat → Prop} {w : World} {β : Nat → Conc} {N : Nat → Prop} {a : Act} {st : St} {o : Oper} {slot : Slot} {ups : Ups}

/-- A value without a change of the memory, behind what was given up. -/
theorem OpSim.kept {I1 : Nat → Prop} (hm : Moves I w (Owns β st.objs) I1 w (Owns β (ups ++ st.objs))) (h : StOK I1 w β N a.tmps { st with objs := ups ++ st.objs }) {run : Result Next} {v : Value} {p : PV}
    (hr : run = .ok (.value v) w) (hp : Rep I1 w v p) : OpSim nm I w β N a.tmps st (.val p) ups run :=
  ⟨_, v, w, I1, β, N, hr, .inl rfl, h, .val hp, by simp [Slot.names], .of hm⟩

theorem All2.append {α β : Type} {R : α → β → Prop} : ∀ {as as' : List α} {bs bs' : List β}, All2 R as bs → All2 R as' bs' → All2 R (as ++ as') (bs ++ bs')
  | _, _, _, _, .nil, h => h
  | _, _, _, _, .cons h t, k => .cons h (All2.append t k)

theorem All2.take {α β : Type} {R : α → β → Prop} : ∀ {as : List α} {bs : List β} (n : Nat), All2 R as bs → All2 R (as.take n) (bs.take n)
  | _, _, 0, _ => by simp; exact .nil
  | _, _, _ + 1, .nil => by simp; exact .nil
  | _, _, n + 1, .cons h t => by simp; exact .cons h (All2.take n t)

theorem All2.drop {α β : Type} {R : α → β → Prop} : ∀ {as : List α} {bs : List β} (n : Nat), All2 R as bs → All2 R (as.drop n) (bs.drop n)
  | _, _, 0, h => by simpa using h
  | _, _, _ + 1, .nil => by simp; exact .nil
  | _, _, n + 1, .cons h t => by simpa using All2.drop n t

theorem sim_makeFunc (h : StOK I w β N a.tmps st) {f : FuncId} {first caps : Array Operand} (ho : o.op = .makeFunc (.func f) first caps) (hc : opC T EQ nm st.obj o (opIns T st o) = some (slot, ups)) :
    OpSim nm I w β N a.tmps st slot ups ((execOp a.eval o).run P w) := by
  simp only [opC, ho, opIns] at hc
  split at hc
  · rename_i vs u hk
    cases hc
    have hs : All2 (SlotOK I w β) ((first.toList ++ caps.toList).map a.eval) ((first.toList ++ caps.toList).map (st.opnd T 0)) := All2.map (fun x _ => opnd_ok h 0 x)
    obtain ⟨I1, h1, m1, r1, _⟩ := capAll_sim hs h (Near.refl st) hk
    refine .kept m1 h1 (v := .func (.func f) (first.map a.eval) (caps.map a.eval)) (by simp only [execOp, ho, Instr.makeFunc, Sem.run_bind, Sem.run_pure, Result.andThen_ok]) ?_
    have e : (first.toList ++ caps.toList).map a.eval = (first.map a.eval).toList ++ (caps.map a.eval).toList := by simp
    rw [e] at r1
    have hlen := r1.length
    have r2 := r1.take first.size
    have r3 := r1.drop first.size
    rw [List.take_left' (by simp)] at r2
    rw [List.drop_left' (by simp)] at r3
    refine .fn (by simpa using r2.length) (by simpa using r3.length) (fun i h2 h3 => ?_) (fun i h2 h3 => ?_)
    · simpa using r2.get i (by simpa using h2) h3
    · simpa using r3.get i (by simpa using h2) h3
  · cases hc

theorem zeroElem_cells (i : TI) (hl : i.zero.length = i.size) (hn : i.isAgg = false → i.size = 1) : (zeroElem i).cells = zerosPV i := by
  unfold zeroElem
  cases ha : i.isAgg with
  | true => rfl
  | false =>
    have hz : i.zero.length = 1 := by rw [hl]; exact hn ha
    match hzz : i.zero, hz with
    | [z], _ => simp only [zerosPV, hzz, List.map_cons, List.map_nil, List.headD_cons]; cases z <;> rfl

theorem sim_makeSlice (tok : TOK P T) (h : StOK I w β N a.tmps st) (hf : Fresh N nm) {t : TypeId} {l c : Operand} (ho : o.op = .makeSlice t l c) (hc : opC T EQ nm st.obj o (opIns T st o) = some (slot, ups)) :
    OpSim nm I w β N a.tmps st slot ups ((execOp a.eval o).run P w) := by
  simp only [opC, ho, opIns] at hc
  have h1 := opnd_ok (T := T) h 0 l
  have h2 := opnd_ok (T := T) h 0 c
  generalize st.opnd T 0 l = s1 at *
  generalize st.opnd T 0 c = s2 at *
  split at hc
  · rename_i sz0 by_ zs e k1 i k2 j ht heq
    simp only [List.cons.injEq, and_true] at heq
    obtain ⟨rfl, rfl⟩ := heq
    have e1 := h1.inv_val.isv
    have e2 := h2.inv_val.isv
    split at hc
    · cases hc
    · rename_i ei het
      cases hg : decide (0 ≤ i) && (i == j) && roomy i.toNat ei.bytes && decide (i ≤ 9223372036854775807) && decide (ei.isAgg = true ∨ ei.size = 1) with
      | false => rw [hg] at hc; simp at hc
      | true =>
        rw [hg] at hc
        cases hc
        simp only [Bool.and_eq_true, decide_eq_true_eq, beq_iff_eq, roomy, Nat.ble_eq] at hg
        obtain ⟨⟨⟨⟨hi0, rfl⟩, hroom⟩, hmax⟩, hagg⟩ := hg
        have tke := tok _ _ het
        have hcells := zeroElem_cells ei tke.len (fun ha => by rcases hagg with h3 | h3; · rw [ha] at h3; cases h3
                                                               · exact h3)
        have hzl : (zerosPV ei).length = ei.size := by simp [zerosPV, tke.len]
        have hw1 : IntKind.i64.wrap i = i := IntWalk.i64_in _ ⟨by omega, hmax⟩
        obtain ⟨zi, hzi, hzb, hzs⟩ := tke.run_bytes w
        obtain ⟨z, hz1, hz2⟩ := zero_row tke I w
        have hbytes : ((zi.bytes : Int) * i) ≤ 2 ^ 48 := by
          rw [hzb]
          have h3 : ((i.toNat * ei.bytes : Nat) : Int) ≤ (70368744177664 : Nat) := Int.ofNat_le.2 hroom
          rw [Int.natCast_mul, Int.toNat_of_nonneg hi0, Int.mul_comm] at h3
          omega
        obtain ⟨zero, hzero⟩ : ∃ zero : Array Value, (i.toNat * ei.size = 0 → zero = #[]) ∧ (¬ i.toNat * ei.size = 0 → zero = z.cells) := by
          by_cases h0 : i.toNat * ei.size = 0
          · exact ⟨#[], fun _ => rfl, fun x => absurd h0 x⟩
          · exact ⟨z.cells, fun x => absurd x h0, fun _ => rfl⟩
        let cs : Array Value := (Array.range (i.toNat * ei.size)).map (zero[· % zero.size]!)
        have hcs : cs.size = i.toNat * ei.size := by simp [cs]
        have hzz := (hz2 w).size
        have hel : Elems I w cs ei.size 0 (List.replicate i.toNat (zeroElem ei)) := by
          refine ⟨fun k hk => ?_, fun k m hk hm => ?_, fun k hk m hm => ?_⟩
          · simp only [List.getElem_replicate, hcells, hzl]
          · simp only [List.getElem_replicate] at hm ⊢
            have hm' : m < (zerosPV ei).length := by rw [← hcells]; exact hm
            have hm2 : m < ei.size := by omega
            have hk' : k < i.toNat := by simpa using hk
            have hlt : k * ei.size + m < i.toNat * ei.size := by
              have : (k + 1) * ei.size ≤ i.toNat * ei.size := Nat.mul_le_mul_right _ hk'
              rw [Nat.succ_mul] at this
              omega
            have hne : ¬ i.toNat * ei.size = 0 := by omega
            obtain rfl := hzero.2 hne
            have hmz : m < z.cells.size := by omega
            refine ⟨z.cells[m], ?_, ?_⟩
            · have hlt' : k * ei.size + m < cs.size := by rw [hcs]; exact hlt
              have hmod : (k * ei.size + m) % z.cells.size = m := by
                rw [hzz, hzl, Nat.mul_comm, Nat.mul_add_mod, Nat.mod_eq_of_lt hm2]
              rw [Nat.zero_add, Array.getElem?_eq_getElem hlt']
              simp only [cs, Array.getElem_map, Array.getElem_range, hmod, Option.some.injEq]
              simp [hmz]
            · have := (hz2 w).rep m hmz hm'
              simp only [hcells]
              exact this
          · simp only [List.getElem_replicate] at hm ⊢
            simp only [hcells]
            exact (hz2 w).one m _
        have hrun : (execOp a.eval o).run P w = .ok (.value (.slice (some ⟨w.heap.size, 0, none⟩) i.toNat i.toNat)) (w.alloc (.cells cs e)) := by
          have hcond : ¬ ((decide (i < 0) || decide ((zi.bytes : Int) * i > 2 ^ 48)) = true ∨ i < 0 ∨ i > i) := by
            simp
            omega
          have hask : ∀ k, (askRoom k).run P w = .ok () w := by intro k; unfold askRoom; split <;> rfl
          simp only [execOp, ho, Instr.makeSlice, Sem.run_bind, e1, e2, asInt, asIntOf, Sem.run_pure, Result.andThen_ok, (tok _ _ ht).run_slice rfl, hzi, hw1]
          rw [if_neg (by simpa using hcond)]
          simp only [Sem.run_bind, hask, Result.andThen_ok, tke.run_size]
          by_cases h0 : i.toNat * ei.size = 0
          · rw [if_pos h0]
            have hz0 := hzero.1 h0
            simp only [Sem.run_bind, Sem.run_pure, Result.andThen_ok, newRow_run, cs, hz0]
          · rw [if_neg h0]
            have hz0 := hzero.2 h0
            simp only [Sem.run_bind, Sem.run_pure, Result.andThen_ok, hz1, newRow_run, cs, hz0]
        refine sim_make (ups := []) (.refl _ _ _) h hf (c := .arr w.heap.size (List.replicate i.toNat (zeroElem ei)).length i.toNat ei.size) (x := .cells cs e) (by simp [owned]) (hel.new h.lt (by simp) (by rw [hcs]; exact Nat.le_refl _) (noFrozen_zero _)) (.inl rfl) ?_
        rw [hrun]
        simp [Conc.val]
  · cases hc

end
end Evp
end Go
