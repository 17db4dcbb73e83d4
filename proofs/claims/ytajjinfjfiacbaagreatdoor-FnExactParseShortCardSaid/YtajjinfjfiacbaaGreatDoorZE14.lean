/- Operations: conversions, builtins; all of them together. -/
import Derived.Test.YtajjinfjfiacbaaGreatDoorZE13
import Derived.Laws.BytesString
set_option linter.unusedSectionVars false
set_option linter.unusedVariables false
set_option linter.unusedSimpArgs false
set_option linter.unnecessarySimpa false
namespace Go
namespace Evp
variable [Globs]

section
variable {P : Program} {T : Types} {EQ : TypeId → Option (List ZK)} {nm : Nat} {I : Nat → Prop} {w : World} {β : Nat → Conc} {N : Nat → Prop} {a : Act} {st : St} {o : Oper} {slot : Slot} {ups : Ups}

theorem asBytes_ints : ∀ {xs : List PV} {bs : List UInt8}, asBytes xs = some bs → ∃ ns : List Int, xs = ns.map (fun n => .v (.int .u8 n)) ∧ bs = ns.map (fun n => UInt8.ofNat n.toNat)
  | [], bs, h => by simp only [asBytes, Option.some.injEq] at h; subst h; exact ⟨[], rfl, rfl⟩
  | p :: r, bs, h => by
    simp only [asBytes] at h
    split at h
    · cases h
    · rename_i b hb
      split at h
      · cases h
      · rename_i bs' hbs
        simp only [Option.some.injEq] at h
        subst h
        obtain ⟨ns, rfl, rfl⟩ := asBytes_ints hbs
        unfold asByte at hb
        split at hb
        · rename_i n
          simp only [Option.some.injEq] at hb
          subst hb
          exact ⟨n :: ns, rfl, rfl⟩
        · cases hb

theorem foldl_push : ∀ (ns : List Int) (s : ByteArray), (ns.foldl (fun r n => r.push (UInt8.ofNat n.toNat)) s).data.toList = s.data.toList ++ ns.map (fun n => UInt8.ofNat n.toNat)
  | [], s => by simp
  | n :: ns, s => by
    simp only [List.foldl_cons, foldl_push ns, ByteArray.data_push, Array.toList_push, List.map_cons, List.append_assoc, List.cons_append, List.nil_append]

theorem alloc_freeze (w : World) (cs : Array Value) (e : TypeId) : (w.alloc (.cells cs e)).freeze ⟨w.heap.size, cs.size, none⟩ 1 = w.alloc (.cells cs e (cs.size, cs.size + 1)) := by
  unfold World.freeze
  rw [if_neg (by omega)]
  have : ((w.alloc (.cells cs e)).heap.modify w.heap.size fun
      | .cells c elem (lo, hi) => .cells c elem (if lo == hi then (cs.size, cs.size + 1) else (min lo cs.size, max hi (cs.size + 1)))
      | o => o) = (w.alloc (.cells cs e (cs.size, cs.size + 1))).heap := by
    apply Array.ext_getElem?
    intro i
    rw [Array.getElem?_modify]
    by_cases hi : w.heap.size = i
    · subst hi
      rw [if_pos rfl, alloc_get, alloc_get]
      rfl
    · rw [if_neg hi]
      show (w.heap.push _)[i]? = (w.heap.push _)[i]?
      simp only [Array.getElem?_push, if_neg (fun e => hi e.symm : ¬ i = w.heap.size)]
  exact congrArg (fun h => ({ w with heap := h } : World)) this

theorem sim_convert (tok : TOK P T) (h : StOK I w β N a.tmps st) (hf : Fresh N nm) {s d : TypeId} {x : Operand} (ho : o.op = .convert s d x) (hc : opC T EQ nm st.obj o (opIns T st o) = some (slot, ups)) :
    OpSim nm I w β N a.tmps st slot ups ((execOp a.eval o).run P w) := by
  simp only [opC, ho, opIns] at hc
  have h1 := opnd_ok (T := T) h s x
  generalize st.opnd T s x = s1 at *
  have hrun : (execOp a.eval o).run P w = ((convert s d (a.eval x)).run P w).andThen fun v w' => .ok (.value v) w' := by
    simp only [execOp, ho, Sem.run_bind]
    rfl
  split at hc
  · rename_i p hp
    obtain ⟨Ib, hIb, r1⟩ := rd_ok h h1 hp
    unfold convertC at hc
    split at hc
    · rename_i si di hsi hdi
      have tks := tok _ _ hsi
      have tkd := tok _ _ hdi
      split at hc
      · rename_i k1 k2 k3 n hk1 hk2
        obtain ⟨rfl, rfl⟩ := valRes_eq hc
        have e1 := r1.isv
        refine .val h ?_ (.v rfl)
        rw [hrun, e1]
        simp [convert, tks.run_int hk1, tkd.run_int hk2, Conv.intToInt]
      · rename_i z hk1 hk2
        obtain ⟨rfl, rfl⟩ := valRes_eq hc
        have e1 := r1.isv
        refine .val h ?_ (.v rfl)
        rw [hrun, e1]
        simp [convert, tks.run_str hk1, tkd.run_str hk2]
      · rename_i k1 k3 n hk1 hk2
        obtain ⟨rfl, rfl⟩ := valRes_eq hc
        have e1 := r1.isv
        refine .val h ?_ (.v rfl)
        rw [hrun, e1]
        simp [convert, tks.run_int hk1, tkd.run_str hk2, Conv.intToString]
      · rename_i e z hk1 hk2
        split at hc
        · rename_i ei het
          have tke := tok _ _ het
          cases hg : decide (ei.kind = .int .u8) && (ei.size == 1) with
          | false => rw [hg] at hc; simp at hc
          | true =>
            rw [hg] at hc
            cases hc
            simp only [Bool.and_eq_true, decide_eq_true_eq, beq_iff_eq] at hg
            have e1 := r1.isv
            let q : Question := .appendCap z.size 0 e
            let cap := q.cut (w.tape w.drawn q)
            have hcap : z.size ≤ cap := by simp only [cap, q, Question.cut]; omega
            let cs : Array Value := (z.data.map fun b => Value.int .u8 b.toNat) ++ Array.replicate (cap - z.size) (.int .u8 0)
            have hcs : cs.size = cap := by
              have : z.data.size = z.size := rfl
              simp [cs, this]
              omega
            have hsrc := (Source.str (P := P) (w := w.drew) I z)
            have hel : Elems I w.drew cs 1 0 (ofBytes z.data.toList) := by
              refine Elems.append_left ?_
              refine ⟨fun i hi => by simp [ofBytes, PV.cells], fun i j hi hj => ?_, fun i hi j hj => ?_⟩
              · have hj0 : j = 0 := by simpa [ofBytes, PV.cells] using hj
                subst hj0
                have hi' : i < z.data.size := by simpa [ofBytes] using hi
                refine ⟨.int .u8 (z.data[i]'hi').toNat, ?_, ?_⟩
                · simp [Array.getElem?_eq_getElem hi']
                · simp only [ofBytes, List.getElem_map, PV.cells, List.getElem_cons_zero]
                  exact .v rfl
              · have hj0 : j = 0 := by simpa [ofBytes, PV.cells] using hj
                subst hj0
                simp [ofBytes, PV.cells, PV.single]
            have hlen : (ofBytes z.data.toList).length = z.size := by simp [ofBytes]
            have hfz : noFrozen (cs.size, cs.size + 1) cs.size := fun o' ho' => by simp; omega
            have hst : StOK I w.drew β N a.tmps st := h.heap rfl
            have hfin : (execOp a.eval o).run P w = .ok (.value (.slice (some ⟨w.heap.size, 0, none⟩) z.size cap)) (w.drew.alloc (.cells cs e (cs.size, cs.size + 1))) := by
              rw [hrun, e1]
              have hch : (choose q).run P w = .ok cap w.drew := by
                simp [choose, Sem.run, q, Question.forced, cap]
              have hms : (markStringish ⟨w.heap.size, 0, none⟩).run P (w.drew.alloc (.cells cs e)) = .ok () (w.drew.alloc (.cells cs e (cs.size, cs.size + 1))) := by
                have hget : (w.drew.alloc (.cells cs e)).heap[w.heap.size]? = some (.cells cs e) := alloc_get w.drew _
                have hshape : (w.drew.alloc (.cells cs e)).shape? w.heap.size = some (e, cs.size) := by simp only [World.shape?, hget]
                have hfr : (w.drew.alloc (.cells cs e)).freeze ⟨w.heap.size, cs.size, none⟩ 1 = w.drew.alloc (.cells cs e (cs.size, cs.size + 1)) := by
                  exact alloc_freeze w.drew cs e
                simp only [markStringish, shape, freeze, Bind.bind, Sem.bind, Sem.run, hshape, hfr, Pure.pure]
              simp only [convert, Sem.run_bind, tks.run_str hk1, tkd.run_slice hk2, Result.andThen_ok, tke.run_int hg.1, Conv.stringToBytes]
              rw [show (choose (Question.appendCap z.size 0 e)).run P w = .ok cap w.drew from hch]
              have hsz : w.drew.heap.size = w.heap.size := rfl
              simp only [Result.andThen_ok, newRow_run, hsz, hms, Sem.run_pure, cs]
            have hsim := sim_make (nm := nm) (I := I) (w := w.drew) (I1 := I) (ups := []) (.refl _ _ _) hst hf (o := .arr 1 (ofBytes z.data.toList)) (c := .arr w.drew.heap.size (ofBytes z.data.toList).length cap 1) (x := .cells cs e (cs.size, cs.size + 1)) (by simp [owned])
              (hel.new hst.lt (by rw [hlen]; exact hcap) (by rw [hcs]; omega) hfz) (.inl rfl) (run := (execOp a.eval o).run P w) (by rw [hfin, hlen]; rfl)
            obtain ⟨nx, v, w', I', β', N', g1, g2, g3, g4, g5, g6⟩ := hsim
            exact ⟨nx, v, w', I', β', N', g1, g2, g3, g4, g5, ⟨(Moves.heap rfl rfl rfl rfl : Moves I w (Owns β st.objs) I w.drew (Owns β st.objs)).trans g6.moves, g6.n1, g6.n2, g6.beta⟩⟩
        · cases hc
      · rename_i e xs hk1 hk2
        split at hc
        · rename_i ei het
          have tke := tok _ _ het
          cases hg : decide (ei.kind = .int .u8) with
          | false => rw [hg] at hc; simp at hc
          | true =>
            rw [hg] at hc
            simp only [cond_true] at hc
            simp only [decide_eq_true_eq] at hg
            split at hc
            · rename_i bs hbs
              obtain ⟨rfl, rfl⟩ := valRes_eq hc
              obtain ⟨ns, rfl, rfl⟩ := asBytes_ints hbs
              have hsrc := Source.sl (P := P) r1
              obtain ⟨c, hc1, hc2, hc3⟩ := hsrc.cells
              have hcv : c = (ns.map (Value.int .u8)).toArray := by
                apply Array.ext_getElem?
                intro i
                by_cases hi : i < ns.length
                · obtain ⟨v, hv, hr⟩ := hc3.rep i 0 (by simpa using hi) (by simp [PV.cells])
                  rw [Nat.zero_add, Nat.mul_one, Nat.add_zero] at hv
                  rw [hv]
                  simp only [List.getElem_map, PV.cells, List.getElem_cons_zero] at hr
                  rw [hr.isv]
                  simp [hi]
                · have h3 : c.size = ns.length := by rw [hc2]; simp
                  rw [Array.getElem?_eq_none (by omega), Array.getElem?_eq_none (by simp; omega)]
              obtain ⟨ad, cap, hv, _, hnone⟩ := r1.inv_sl
              rw [List.length_map] at hv
              have hdata : (ns.foldl (fun r n => r.push (UInt8.ofNat n.toNat)) ByteArray.empty) = ⟨(ns.map fun n => UInt8.ofNat n.toNat).toArray⟩ := by
                have := foldl_push ns ByteArray.empty
                generalize ns.foldl (fun r n => r.push (UInt8.ofNat n.toNat)) ByteArray.empty = b at *
                cases b with
                | mk data =>
                  congr 1
                  apply Array.ext'
                  simpa using this
              refine .val h ?_ (.v rfl)
              rw [hrun, hv]
              have hcv2 : (convert s d (.slice ad ns.length cap)).run P w = (Conv.bytesToString (.slice ad ns.length cap)).run P w := by
                simp [convert, tks.run_slice hk1, tkd.run_str hk2, tke.run_int hg]
              rw [hcv2]
              cases ad with
              | none =>
                have h0 : ns = [] := by simpa using hnone rfl
                subst h0
                rfl
              | some ad =>
                rw [hv] at hc1
                simp only [Builtin.firstCells, List.length_map, Nat.mul_one] at hc1
                rw [run_bytesToString w ad ns.length cap ns (by rw [hc1, hcv]), hdata]
                simp
            · cases hc
        · cases hc
      · cases hc
    · cases hc
  · cases hc

end
end Evp
end Go
