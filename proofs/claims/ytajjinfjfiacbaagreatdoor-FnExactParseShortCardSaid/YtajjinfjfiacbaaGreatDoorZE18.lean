/- Calls, as the machine makes them. -/
import Derived.Test.YtajjinfjfiacbaaGreatDoorZE17
set_option linter.unusedSectionVars false
set_option linter.unusedVariables false
set_option linter.unusedSimpArgs false
set_option linter.unnecessarySimpa false
namespace Go
namespace Evp
variable [Globs]

theorem ResOK.len {I : Nat → Prop} {w : World} {B : Nat} {ks : List RK} {vs : List Value} {ps : List PV} {bs : List Nat} (h : ResOK I w B ks vs ps bs) : ps.length = ks.length ∧ vs.length = ks.length := by
  induction h with
  | nil => exact ⟨rfl, rfl⟩
  | flat _ _ _ ih => simp [ih]
  | val _ _ ih => simp [ih]
  | own _ _ _ _ ih => simp [ih]

theorem ResOK.new {I : Nat → Prop} {w : World} {B : Nat} {ks : List RK} {vs : List Value} {ps : List PV} {bs : List Nat} (h : ResOK I w B ks vs ps bs) : ∀ b ∈ bs, B ≤ b := by
  induction h with
  | nil => simp
  | flat _ _ _ ih => exact ih
  | val _ _ ih => exact ih
  | own _ _ hb _ ih =>
    intro b hb'
    simp only [List.mem_append, Option.mem_toList] at hb'
    rcases hb' with h1 | h1
    · exact (hb b h1).1
    · exact ih b h1

theorem resSlots_append (nm : Nat) : ∀ (ks : List RK) (rs1 rs2 : List PV) (j : Nat), rs1.length = ks.length → resSlots nm ks (rs1 ++ rs2) j = resSlots nm ks rs1 j
  | [], _, _, _, _ => rfl
  | k :: ks, [], _, _, h => by simp at h
  | k :: ks, p :: ps, rs2, j, h => by
    simp only [resSlots, List.cons_append, List.headD_cons, List.tail_cons]
    rw [resSlots_append nm ks ps rs2 (j + 1) (by simpa using h)]

theorem back_out {I : Nat → Prop} {w : World} {cs : List (PK × Conc × Nat)} {ps : List PV} (h : BackOK I w cs ps) : ∀ b, InOwn cs b → ¬ I b := by
  induction h with
  | nil => rintro b ⟨x, hx, _⟩; simp at hx
  | iptr h _ ih =>
    rintro b ⟨x, hx, e⟩
    simp only [List.mem_cons] at hx
    rcases hx with rfl | hx
    · simp only [ownedOf, Option.some.injEq] at e; subst e; exact h.out
    · exact ih b ⟨x, hx, e⟩
  | islc h _ ih =>
    rintro b ⟨x, hx, e⟩
    simp only [List.mem_cons] at hx
    rcases hx with rfl | hx
    · cases h with
      | emp => simp [ownedOf] at e
      | arr hv => simp only [ownedOf, Option.some.injEq] at e; subst e; exact hv.out
    · exact ih b ⟨x, hx, e⟩

theorem isV_iff {p : PV} (h : p.isV = true) : ∃ x, p = .v x := by
  cases p <;> first | exact ⟨_, rfl⟩ | simp [PV.isV] at h

theorem Rep.ofV {I J : Nat → Prop} {w : World} {v : Value} {p : PV} (h : Rep I w v p) (hp : p.isV = true) : Rep J w v p := by
  obtain ⟨x, rfl⟩ := isV_iff hp
  cases h with
  | v h => exact .v h

theorem Rep.flat {I J : Nat → Prop} {w : World} {v : Value} {p : PV} (h : Rep I w v p) (hp : p.flat = true) : Rep J w v p := by
  cases p with
  | v x => exact h.ofV rfl
  | agg cs =>
    obtain ⟨vs, rfl, h1, h2, h3⟩ := h.inv_agg
    simp only [PV.flat, List.all_eq_true] at hp
    exact .agg h1 h2 (fun i a b => (h3 i a b).ofV (hp _ (List.getElem_mem b)))
  | _ => simp [PV.flat] at hp

theorem flat_cells {p : PV} (hp : p.flat = true) : ∀ j (h : j < p.cells.length), (p.cells[j]).flat = true := by
  cases p with
  | v x => intro j h; have : j = 0 := by simpa [PV.cells] using h
           subst this; rfl
  | agg cs =>
    intro j h
    simp only [PV.flat, List.all_eq_true] at hp
    obtain ⟨x, hx⟩ := isV_iff (hp _ (List.getElem_mem h))
    rw [hx]; rfl
  | _ => simp [PV.flat] at hp

theorem ResOK.flatten {I J : Nat → Prop} {w : World} {B : Nat} {ks : List RK} {vs : List Value} {ps : List PV} {bs : List Nat} (h : ResOK I w B ks vs ps bs) (hk : ∀ k ∈ ks, k ≠ .val) (hJ : ∀ b, B ≤ b → J b → I b) : ResOK J w B ks vs ps bs := by
  induction h with
  | nil => exact .nil
  | flat h hf _ ih => exact .flat (h.flat hf) hf (ih (fun k hk' => hk k (List.mem_cons_of_mem _ hk')))
  | val _ _ _ => exact absurd rfl (hk _ List.mem_cons_self)
  | own h hf hb _ ih =>
    refine .own ?_ hf hb (ih (fun k hk' => hk k (List.mem_cons_of_mem _ hk')))
    cases h with
    | emp => exact .emp
    | arr hv =>
      obtain ⟨c, e, fr, h1, h2, h3, h4⟩ := hv.row
      refine .arr ⟨fun hb' => hv.out (hJ _ (hb _ rfl).1 hb'), hv.lt, hv.room, hv.szs, ⟨c, e, fr, h1, h2, h3, fun i j x y => ?_⟩, hv.one⟩
      obtain ⟨v, hv1, hv2⟩ := h4 i j x y
      exact ⟨v, hv1, hv2.flat (flat_cells (hf _ (List.getElem_mem x)) j y)⟩

section
variable {P : Program} {T : Types} {nm : Nat} {I : Nat → Prop} {w : World} {β : Nat → Conc} {N : Nat → Prop} {a : Act} {st : St} {C : Oracle} {S : Sigs}

theorem SlotsOK.get {vs : List Value} {ss : List (PV ⊕ Nat)} (h : SlotsOK I w β vs ss) : vs.length = ss.length ∧
    (∀ (i : Nat) (hi : i < vs.length) (p : PV), ss[i]? = some (Sum.inl p) → Rep I w vs[i] p) ∧ (∀ (i : Nat) (hi : i < vs.length) (n : Nat), ss[i]? = some (Sum.inr n) → vs[i] = (β n).val) := by
  induction h with
  | nil => exact ⟨rfl, fun i hi => by simp at hi, fun i hi => by simp at hi⟩
  | inl h _ ih =>
    refine ⟨by simp [ih.1], fun i hi p hp => ?_, fun i hi n hn => ?_⟩
    · cases i with
      | zero => simp only [List.getElem?_cons_zero, Option.some.injEq, Sum.inl.injEq] at hp; subst hp; exact h
      | succ i => exact ih.2.1 i (by simpa using hi) p (by simpa using hp)
    · cases i with
      | zero => simp at hn
      | succ i => exact ih.2.2 i (by simpa using hi) n (by simpa using hn)
  | inr h _ ih =>
    refine ⟨by simp [ih.1], fun i hi p hp => ?_, fun i hi n hn => ?_⟩
    · cases i with
      | zero => simp at hp
      | succ i => exact ih.2.1 i (by simpa using hi) p (by simpa using hp)
    · cases i with
      | zero => simp only [List.getElem?_cons_zero, Option.some.injEq, Sum.inr.injEq] at hn; subst hn; exact h
      | succ i => exact ih.2.2 i (by simpa using hi) n (by simpa using hn)

theorem SlotsOK.slot {vs : List Value} {ss : List (PV ⊕ Nat)} (h : SlotsOK I w β vs ss) : SlotOK I w β (tupleOf vs) (resSlot ss) := by
  have tup : ∀ (vs : List Value) (ss : List (PV ⊕ Nat)), SlotsOK I w β vs ss → SlotOK I w β (.tuple vs.toArray) (.tup ss) := by
    intro vs ss h
    obtain ⟨h1, h2, h3⟩ := h.get
    exact .tup (by simpa using h1) (fun i hi p hp => by simpa using h2 i (by simpa using hi) p hp) (fun i hi n hn => by simpa using h3 i (by simpa using hi) n hn)
  cases h with
  | nil => exact tup _ _ .nil
  | inl h t =>
    cases t with
    | nil => exact .val h
    | inl h2 t2 => exact tup _ _ (.inl h (.inl h2 t2))
    | inr h2 t2 => exact tup _ _ (.inl h (.inr h2 t2))
  | inr h t =>
    cases t with
    | nil => exact .slc' h
    | inl h2 t2 => exact tup _ _ (.inr h (.inl h2 t2))
    | inr h2 t2 => exact tup _ _ (.inr h (.inr h2 t2))

theorem resSlot_names {ss : List (PV ⊕ Nat)} : ∀ n ∈ (resSlot ss).names, Sum.inr n ∈ ss := by
  intro n hn
  unfold resSlot at hn
  split at hn
  · simp [Slot.names] at hn
  · simpa [Slot.names] using hn
  · simp only [Slot.names, List.mem_filterMap] at hn
    obtain ⟨x, hx, e⟩ := hn
    cases x with
    | inl p => simp at e
    | inr m => simp only [Option.some.injEq] at e; subst e; exact hx

theorem apart_io (h : StOK I w β N a.tmps st) : ∀ {io : List (PK × Nat × Nat)}, IoOK β st.objs io → nodupB (io.map (·.2.1)) = true → ApartIn (io.map fun x => (x.1, β x.2.1, x.2.2))
  | [], _, _ => trivial
  | x :: r, hio, hd => by
    simp only [List.map_cons, nodupB, Bool.and_eq_true, Bool.not_eq_true'] at hd
    refine ⟨?_, apart_io h (fun y hy => hio y (List.mem_cons_of_mem _ hy)) hd.2⟩
    rintro b hb ⟨y, hy, e⟩
    simp only [List.mem_map] at hy
    obtain ⟨z, hz, rfl⟩ := hy
    obtain ⟨o1, h1, h2⟩ := hio x List.mem_cons_self
    obtain ⟨o2, h3, h4⟩ := hio z (List.mem_cons_of_mem _ hz)
    have := h.apart _ _ _ _ b h1 h3 (by rw [h2]; exact hb) (by rw [h4]; exact e)
    have hmem : (r.map (·.2.1)).contains x.2.1 = true := by
      rw [List.contains_iff_mem]
      exact List.mem_map.2 ⟨z, hz, this.symm⟩
    rw [hd.1] at hmem
    cases hmem

/-- A CALL: what the evaluator says of it is what the machine does. -/
theorem call_wp (sound : SoundC P C S) (h : StOK I w β N a.tmps st) (hf : Fresh N nm) {o : Oper} {c : Call} {fx : Operand} (ho : o.op = .call c) (hcal : c.callee = .value fx) (hsz : c.args.size = c.argTypes.size) {slot : Slot} {ups : Ups}
    (hc : callD C S nm st.obj (opIns T st o) = some (slot, ups)) {next : Act → World → Prop} {Q : Exit → Act → World → Prop}
    (hnext : ∀ v w' I' β' N', StOK I' w' β' N' a.tmps { st with objs := ups ++ st.objs } → SlotOK I' w' β' v slot → (∀ n ∈ slot.names, N' n) → Grows nm I w β N st.objs I' w' β' N' (ups ++ st.objs) → next (a.put o.dst v) w') :
    o.wp P a w next Q := by
  have hins : opIns T st o = st.opnd T 0 fx :: (c.args.toList.zip c.argTypes.toList).map (fun x => st.opnd T x.2 x.1) := by
    simp only [opIns, ho, hcal, List.cons_append, List.nil_append]
  rw [hins] at hc
  have hfx := opnd_ok (T := T) h 0 fx
  generalize st.opnd T 0 fx = fs at *
  simp only [callD] at hc
  split at hc
  · cases hc
  · rename_i f first caps htg
    have hfs : fs = .val (.fn f first caps) := by
      unfold target at htg
      split at htg
      · simp only [Option.some.injEq, Prod.mk.injEq] at htg
        obtain ⟨rfl, rfl, rfl⟩ := htg
        rfl
      · cases htg
    subst hfs
    obtain ⟨fv, cv, hev, hf1, hf2, hf3, hf4⟩ := hfx.inv_val.inv_fn
    split at hc
    · cases hc
    · rename_i sg hS
      split at hc
      · cases hc
      · rename_i g hprep
        split at hc
        · cases hc
        · rename_i rs hC
          simp only [Option.some.injEq, callRes, Prod.mk.injEq] at hc
          obtain ⟨rfl, rfl⟩ := hc
          -- the arguments
          have hall : All2 (SlotOK I w β) (fv.toList ++ c.args.toList.map a.eval ++ cv.toList) (first.map .val ++ (c.args.toList.zip c.argTypes.toList).map (fun x => st.opnd T x.2 x.1) ++ caps.map .val) := by
            have vals : ∀ (xs : Array Value) (ps : List PV), xs.size = ps.length → (∀ i (h1 : i < xs.size) (h2 : i < ps.length), Rep I w xs[i] ps[i]) → All2 (SlotOK I w β) xs.toList (ps.map .val) := by
              intro xs ps h1 h2
              have h3 : ∀ (l : List Value) (ps : List PV), l.length = ps.length → (∀ i (h1 : i < l.length) (h2 : i < ps.length), Rep I w l[i] ps[i]) → All2 (SlotOK I w β) l (ps.map .val) := by
                intro l
                induction l with
                | nil => intro ps hl _; cases ps with | nil => exact .nil | cons _ _ => simp at hl
                | cons x l ih =>
                  intro ps hl hr
                  cases ps with
                  | nil => simp at hl
                  | cons p ps => exact .cons (.val (hr 0 (by simp) (by simp))) (ih ps (by simpa using hl) (fun i h1 h2 => hr (i + 1) (by simpa using h1) (by simpa using h2)))
              exact h3 _ _ (by simpa using h1) (fun i h4 h5 => by simpa using h2 i (by simpa using h4) h5)
            have mid : All2 (SlotOK I w β) (c.args.toList.map a.eval) ((c.args.toList.zip c.argTypes.toList).map (fun x => st.opnd T x.2 x.1)) := by
              have h3 : ∀ (as : List Operand) (ts : List TypeId), as.length = ts.length → All2 (SlotOK I w β) (as.map a.eval) ((as.zip ts).map (fun x => st.opnd T x.2 x.1)) := by
                intro as
                induction as with
                | nil => intro ts _; exact .nil
                | cons x as ih =>
                  intro ts hl
                  cases ts with
                  | nil => simp at hl
                  | cons t ts => exact .cons (opnd_ok h t x) (ih ts (by simpa using hl))
              exact h3 _ _ (by simpa using hsz)
            exact ((vals fv first hf1 hf3).append mid).append (vals cv caps hf2 hf4)
          -- what is lent, what is changed
          unfold callPrep at hprep
          split at hprep
          · cases hprep
          · rename_i g0 hg
            cases hcond : nodupB (g0.inouts.map (·.2.1)) && g0.borrowed.all (fun b => !(g0.inouts.map (·.2.1)).contains b.1) with
            | false => rw [hcond] at hprep; simp at hprep
            | true =>
              rw [hcond] at hprep
              simp only [cond_true, Option.some.injEq] at hprep
              subst hprep
              simp only [Bool.and_eq_true, List.all_eq_true, Bool.not_eq_true'] at hcond
              obtain ⟨hnd, hdisj⟩ := hcond
              obtain ⟨hb, hi, hargs⟩ := gather_sim h hg hall
              have hio : IoOK β st.objs g0.inouts := by
                intro x hx
                rcases hi x hx with ⟨_, ds, h1⟩ | ⟨_, xs, h1⟩
                · refine ⟨_, h1, ?_⟩
                  have := h.obj _ _ h1
                  generalize β x.2.1 = c at *
                  cases this; rfl
                · refine ⟨_, h1, ?_⟩
                  have := h.obj _ _ h1
                  generalize β x.2.1 = c at *
                  cases this <;> rfl
              let J : Nat → Prop := fun b => I b ∨ Lent β g0.borrowed b
              have hlent : ∀ b, Lent β g0.borrowed b → Owns β st.objs b := by
                rintro b ⟨n, sz, xs, hm, hown⟩
                obtain ⟨sz', xs', h1, h2⟩ := hb _ hm
                simp only [Obj.frz.injEq] at h1
                obtain ⟨rfl, rfl⟩ := h1
                exact ⟨n, _, h2, hown⟩
              have hJlt : ∀ b, J b → b < w.heap.size := by
                rintro b (h1 | h1)
                · exact h.lt b h1
                · obtain ⟨n, o', h2, h3⟩ := hlent b h1
                  exact ((h.obj _ _ h2).owned_lt h3).1
              have hJout : ∀ x ∈ g0.inouts, ∀ o' b, st.obj x.2.1 = some o' → owned o' (β x.2.1) = some b → ¬ J b := by
                rintro x hx o' b h1 h2 (h3 | ⟨n, sz, xs, hm, hown⟩)
                · exact ((h.obj _ _ h1).owned_lt h2).2 h3
                · obtain ⟨sz', xs', h4, h5⟩ := hb _ hm
                  simp only [Obj.frz.injEq] at h4
                  obtain ⟨rfl, rfl⟩ := h4
                  have := h.apart _ _ _ _ b h5 h1 hown h2
                  have h6 := hdisj _ hm
                  simp only at this h6
                  have hmem : (g0.inouts.map (·.2.1)).contains n = true := by
                    rw [List.contains_iff_mem]
                    exact List.mem_map.2 ⟨x, hx, this.symm⟩
                  rw [h6] at hmem
                  cases hmem
              have hA := hargs J (fun _ x => .inl x) (fun _ x => .inr x) hJout
              have hcall := sound.call f sg g0.args rs hS hC J w _ _ hJlt (h.gl.mono (fun _ x => .inl x) (fun _ _ => rfl)) hA (apart_io h hio hnd)
              obtain ⟨⟨fn, hfn, hname, hbody⟩, hfew⟩ := sound.sig f sg hS
              -- the machine's step
              have hrun : (execOp a.eval o).run P w = .ok (.enter f (fv ++ (c.args.map a.eval) ++ cv)) w := by
                simp only [execOp, ho, resolve, hcal, hev, Deferred.ofValue, Sem.run_bind, Sem.run_pure, Result.andThen_ok, invoke, callFunc, program, Sem.run, hfn, hname, hbody, Bool.false_eq_true, if_false, Bind.bind, Sem.bind, Pure.pure]
              unfold Oper.wp
              rw [hrun, Oper.upon_enter]
              have hvs : (fv.toList ++ c.args.toList.map a.eval ++ cv.toList).toArray = fv ++ (c.args.map a.eval) ++ cv := by
                apply Array.ext'
                simp
              rw [hvs] at hcall
              refine hcall.mono ?_
              rintro e w' ⟨I', rv, rfl, hm, hlt', rs1, rs2, bs, rfl, hres, hback⟩
              show next (a.put o.dst (tupleOf rv)) w'
              -- the state behind it
              have hrl := hres.len.1
              simp only [resSlots_append nm sg.results rs1 rs2 1 hrl, List.drop_left' hrl] at hnext
              have hIn : ∀ b, InOwn (g0.inouts.map fun x => (x.1, β x.2.1, x.2.2)) b → Owns β st.objs b := by
                rintro b ⟨y, hy, e⟩
                simp only [List.mem_map] at hy
                obtain ⟨x, hx, rfl⟩ := hy
                obtain ⟨o', ho', hown⟩ := hio x hx
                exact ⟨_, o', ho', by rw [hown]; exact e⟩
              have key : ∀ (I0 : Nat → Prop) (fz : Ups) (K : Nat → Prop), StOK I0 w β N a.tmps { st with objs := fz ++ st.objs } → Moves I w (Owns β st.objs) I0 w (Owns β (fz ++ st.objs)) → IoOK β (fz ++ st.objs) g0.inouts →
                  (∀ b, K b ↔ (I0 b ∨ (w.heap.size ≤ b ∧ I' b))) → ResOK K w' w.heap.size sg.results rv rs1 bs → BackOK K w' (g0.inouts.map fun x => (x.1, β x.2.1, x.2.2)) rs2 →
                  fz = callUps g0 sg.results → next (a.put o.dst (tupleOf rv)) w' := by
                rintro I0 fz K h0 m0 hio0 hK hresK hbackK rfl
                have hIn0 : ∀ b, InOwn (g0.inouts.map fun x => (x.1, β x.2.1, x.2.2)) b → Owns β (callUps g0 sg.results ++ st.objs) b := by
                  rintro b ⟨y, hy, e⟩
                  simp only [List.mem_map] at hy
                  obtain ⟨x, hx, rfl⟩ := hy
                  obtain ⟨o', ho', hown⟩ := hio0 x hx
                  exact ⟨_, o', ho', by rw [hown]; exact e⟩
                have s1 := h0.settle (J := K) (w' := w') (ps := rs2) hio0 (fun b hb' => (hK b).2 (.inl hb')) (fun b hb' => ((hK b).1 hb').imp id (·.1)) (fun b hb' => by
                  rcases (hK b).1 hb' with h1 | h1
                  · exact Nat.lt_of_lt_of_le (h0.lt b h1) hm.size
                  · exact hlt' b h1.2) hm.size hm.block hbackK
                have hown1 := settle_owns (st := { st with objs := callUps g0 sg.results ++ st.objs }) hio0 hbackK
                obtain ⟨β', N', g1, g2, g3, g4, g5, g6, g7⟩ := StOK.adoptAll (a := a) (nm := nm) hresK (j := 1) s1 (fun n hn hn2 => hf n (by omega) (by omega)) (fun b hb' => by
                  obtain ⟨m, o', h1, h2⟩ := hown1 b hb'
                  exact ((h0.obj m o' h1).owned_lt h2).1)
                refine hnext (tupleOf rv) w' K β' N' (by simpa using g1) g2.slot (fun n hn => g6 n (resSlot_names n hn)) ⟨?_, g3, fun n hn => ?_, g5⟩
                · refine ⟨hm.os, hm.tape, hm.output, hm.size, fun b hb1 hb2 => hm.block b hb1 (fun hb3 => hb2 (hIn b hb3)), fun b hb' => (hK b).2 (.inl (m0.more b hb')), fun b hb' => ?_, fun b hb' => ?_⟩
                  · rcases (hK b).1 hb' with h1 | h1
                    · exact m0.fresh b h1
                    · exact .inr (.inr h1.1)
                  · have hb'' : Owns β' ((resSlots nm sg.results rs1 1).2 ++ (backUps g0.inouts rs2 ++ (callUps g0 sg.results ++ st.objs))) b := by simpa using hb'
                    rcases g7 b hb'' with h1 | h1
                    · exact m0.own b (hown1 b h1)
                    · exact .inr (hresK.new b h1)
                · rcases g4 n hn with h1 | h1
                  · exact .inl h1
                  · exact .inr ⟨by omega, by omega⟩
              cases hfz : sg.results.all (fun k => !(decide (k = .val))) && g0.inouts.isEmpty with
              | true =>
                have hcu : callUps g0 sg.results = [] := by unfold callUps; rw [hfz]; rfl
                simp only [Bool.and_eq_true, List.all_eq_true, Bool.not_eq_true', decide_eq_false_iff_not, List.isEmpty_iff] at hfz
                obtain ⟨hnv, hemp⟩ := hfz
                rw [hemp] at hback
                cases hback
                refine key I [] (fun b => I b ∨ (w.heap.size ≤ b ∧ I' b)) h (.refl _ _ _) hio (fun b => Iff.rfl) (hres.flatten hnv (fun b hb1 hb2 => ?_)) (by rw [hemp]; exact .nil) hcu.symm
                rcases hb2 with h1 | h1
                · exact absurd (h.lt b h1) (by omega)
                · exact h1.2
              | false =>
                have hcu : callUps g0 sg.results = g0.borrowed := by unfold callUps; rw [hfz]; rfl
                obtain ⟨k1, k2, k3⟩ := h.freezeAll hb
                have hiff : ∀ b, I' b ↔ (J b ∨ (w.heap.size ≤ b ∧ I' b)) := by
                  intro b
                  constructor
                  · intro hb'
                    rcases hm.fresh b hb' with h1 | h1 | h1
                    · exact .inl h1
                    · exact absurd hb' (back_out hback b h1)
                    · exact .inr ⟨h1, hb'⟩
                  · rintro (h1 | h1)
                    · exact hm.more b h1
                    · exact h1.2
                refine key J g0.borrowed I' k1 k2 ?_ hiff hres hback hcu.symm
                intro x hx
                obtain ⟨o', ho', hown⟩ := hio x hx
                refine ⟨o', ?_, hown⟩
                rw [look_append]
                · exact ho'
                · intro y hy e
                  have h6 := hdisj _ hy
                  rw [e] at h6
                  have hmem : (g0.inouts.map (·.2.1)).contains x.2.1 = true := by
                    rw [List.contains_iff_mem]
                    exact List.mem_map.2 ⟨x, hx, rfl⟩
                  rw [h6] at hmem
                  cases hmem

end
end Evp
end Go
