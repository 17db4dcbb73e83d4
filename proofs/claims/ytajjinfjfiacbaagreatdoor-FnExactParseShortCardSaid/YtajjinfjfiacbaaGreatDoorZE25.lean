/- Results; functions that call each other. -/
import Derived.Test.YtajjinfjfiacbaaGreatDoorZE24
set_option linter.unusedSectionVars false
set_option linter.unusedVariables false
set_option linter.unusedSimpArgs false
set_option linter.unnecessarySimpa false
namespace Go
namespace Evp
variable [Globs]

section
variable {P : Program} {T : Types} {EQ : TypeId → Option (List ZK)} {C : Oracle} {S : Sigs} {FU : Nat} {I : Nat → Prop} {w : World} {β : Nat → Conc} {N : Nat → Prop} {a : Act} {st : St}

theorem fin_sound {io : List Nat} {β0 : Nat → Conc} (h : StOK I w β N a.tmps st) (hβ : ∀ n ∈ io, β n = β0 n) : ∀ {ks : List PK} {ps : List PV} {j : Nat} {cs : List (PK × Conc × Nat)} (_ : Placed β0 io ks ps j cs) {qs : List PV}, finE st ks ps j = some qs →
    BackOK I w cs qs ∧ ∀ x ∈ cs, ∃ n ∈ io, β n = x.2.1 ∧ ∃ o, st.obj n = some o ∧ owned o (β n) = ownedOf (β n) ∧ ((∃ cs, o = .var cs) ∨ ∃ sz xs, o = .arr sz xs)
  | _, _, _, _, .nil, qs, hq => by
    simp only [finE, Option.some.injEq] at hq
    subst hq
    exact ⟨.nil, by simp⟩
  | _, _, _, _, .val t, qs, hq => by
    simp only [finE] at hq
    split at hq
    · cases hq
    · rename_i qs1 h1
      cases hq
      exact fin_sound h hβ t h1
  | _, _, _, _, .iptr (j := j) (c := c) hc hj t, qs, hq => by
    simp only [finE] at hq
    split at hq
    · cases hq
    · rename_i qs1 h1
      obtain ⟨g1, g2⟩ := fin_sound h hβ t h1
      split at hq
      · rename_i ds ho
        cases hq
        have hok := h.obj j _ ho
        have hbj : β j = c := (hβ j hj).trans hc
        rw [hbj] at hok
        cases hok with
        | var hr =>
          refine ⟨.iptr hr g1, fun x hx => ?_⟩
          simp only [List.mem_cons] at hx
          rcases hx with rfl | hx
          · exact ⟨j, hj, hbj, _, ho, by rw [hbj]; rfl, .inl ⟨_, rfl⟩⟩
          · exact g2 x hx
      · cases hq
  | _, _, _, _, .islc (j := j) (c := c) (p := p) (sz := sz0) hc hj hs t, qs, hq => by
    simp only [finE] at hq
    split at hq
    · cases hq
    · rename_i qs1 h1
      obtain ⟨g1, g2⟩ := fin_sound h hβ t h1
      split at hq
      · rename_i sz xs ho
        cases hb : sz == p.slSz with
        | false => rw [hb] at hq; simp at hq
        | true =>
          rw [hb] at hq
          cases hq
          have hbj : β j = c := (hβ j hj).trans hc
          have hok := h.obj j _ ho
          rw [hbj] at hok
          have hsz : sz = sz0 := by rw [beq_iff_eq] at hb; rw [hb, hs]
          subst hsz
          refine ⟨.islc hok g1, fun x hx => ?_⟩
          simp only [List.mem_cons] at hx
          rcases hx with rfl | hx
          · refine ⟨j, hj, hbj, _, ho, ?_, .inr ⟨_, _, rfl⟩⟩
            rw [hbj]
            cases hok <;> rfl
          · exact g2 x hx
      · cases hq

theorem fin_live {io : List Nat} {β0 : Nat → Conc} : ∀ {ks : List PK} {ps : List PV} {j : Nat} {cs : List (PK × Conc × Nat)} (_ : Placed β0 io ks ps j cs) {qs : List PV}, finE st ks ps j = some qs →
    ∀ x ∈ cs, ∃ n ∈ io, β0 n = x.2.1 ∧ ∃ o, st.obj n = some o ∧ ((∃ cs, o = .var cs) ∨ ∃ sz xs, o = .arr sz xs)
  | _, _, _, _, .nil, qs, hq => by simp
  | _, _, _, _, .val t, qs, hq => by
    simp only [finE] at hq
    split at hq
    · cases hq
    · rename_i qs1 h1
      exact fin_live t h1
  | _, _, _, _, .iptr (j := j) hc hj t, qs, hq => by
    simp only [finE] at hq
    split at hq
    · cases hq
    · rename_i qs1 h1
      split at hq
      · rename_i ds ho
        intro x hx
        simp only [List.mem_cons] at hx
        rcases hx with rfl | hx
        · exact ⟨j, hj, hc, _, ho, .inl ⟨_, rfl⟩⟩
        · exact fin_live t h1 x hx
      · cases hq
  | _, _, _, _, .islc (j := j) hc hj hs t, qs, hq => by
    simp only [finE] at hq
    split at hq
    · cases hq
    · rename_i qs1 h1
      split at hq
      · rename_i sz xs ho
        intro x hx
        simp only [List.mem_cons] at hx
        rcases hx with rfl | hx
        · exact ⟨j, hj, hc, _, ho, .inr ⟨_, _, rfl⟩⟩
        · exact fin_live t h1 x hx
      · cases hq

/-- Variables and own slices that stand behind a result stood ahead of it. -/
theorem res_keeps {io : List Nat} {st st' : St} {k : RK} {r : ResultVar} {p : PV} (h : resE T io st k r = some (p, st')) {n : Nat} {o : Obj} (ho : st'.obj n = some o) (hk : (∃ cs, o = .var cs) ∨ ∃ sz xs, o = .arr sz xs) : st.obj n = some o := by
  have keep : ∀ (u : Ups) (s : Slot), keepPV st.obj s = some (p, u) → look (u ++ st.objs) n = some o → st.obj n = some o := by
    intro u s hkp hl
    rcases look_mem hl with h1 | h1
    · exfalso
      unfold keepPV at hkp
      split at hkp
      · cases hkp; simp at h1
      · split at hkp
        · cases hkp
          simp only [List.mem_singleton, Prod.mk.injEq] at h1
          obtain ⟨_, rfl⟩ := h1
          rcases hk with ⟨_, e⟩ | ⟨_, _, e⟩ <;> cases e
        · cases hkp; simp at h1
        · cases hkp
      · cases hkp
    · exact h1
  unfold resE at h
  split at h
  · split at h
    · split at h
      · split at h
        · rename_i m sz xs _
          cases hb : !io.contains _ && xs.all PV.flat with
          | false => rw [hb] at h; simp at h
          | true =>
            rw [hb] at h
            cases h
            simp only [St.obj] at ho
            rw [look_cons] at ho
            split at ho
            · cases ho
              rcases hk with ⟨_, e⟩ | ⟨_, _, e⟩ <;> cases e
            · exact ho
        · cases h
      · cases h
    · split at h
      · rename_i q _
        cases hb : q.flat with
        | false => rw [hb] at h; simp at h
        | true => rw [hb] at h; cases h; exact ho
      · cases h
    · split at h
      · rename_i q u hkp
        cases h
        exact keep u _ hkp ho
      · cases h
  · split at h
    · split at h
      · split at h
        · rename_i q _
          cases hb : q.flat with
          | false => rw [hb] at h; simp at h
          | true => rw [hb] at h; cases h; exact ho
        · cases h
      · cases h
    · cases h

theorem resAll_keeps {io : List Nat} : ∀ {ks : List RK} {rs : List ResultVar} {st st' : St} {ps : List PV}, resAll T io st ks rs = some (ps, st') → ∀ {n : Nat} {o : Obj}, st'.obj n = some o → ((∃ cs, o = .var cs) ∨ ∃ sz xs, o = .arr sz xs) → st.obj n = some o
  | [], [], st, st', ps, h, n, o, ho, hk => by simp only [resAll, Option.some.injEq, Prod.mk.injEq] at h; rw [h.2]; exact ho
  | [], _ :: _, _, _, _, h, _, _, _, _ => by simp [resAll] at h
  | _ :: _, [], _, _, _, h, _, _, _, _ => by simp [resAll] at h
  | k :: ks, r :: rs, st, st', ps, h, n, o, ho, hk => by
    simp only [resAll] at h
    split at h
    · cases h
    · rename_i p st1 h1
      split at h
      · cases h
      · rename_i qs st2 h2
        cases h
        exact res_keeps h1 (resAll_keeps h2 ho hk) hk

/-- How a result is read off the frame. -/
def readRes (tmps : Array Value) : ResultVar → Sem Value
  | .tmp t => pure (tmps.getD t undef)
  | .cell a t => do loadVar t (← asAddr (tmps.getD a undef))

theorem res_sound (tok : TOK P T) {io : List Nat} {B : Nat} (hB : ∀ st : St, True) : ∀ {ks : List RK} {rs : List ResultVar} {st st' : St} {ps : List PV} {I : Nat → Prop}, StOK I w β N a.tmps st → resAll T io st ks rs = some (ps, st') →
    (∀ b, Owns β st.objs b → B ≤ b ∨ ∃ n ∈ io, ∃ o, st'.obj n = some o ∧ owned o (β n) = some b ∧ ((∃ cs, o = .var cs) ∨ ∃ sz xs, o = .arr sz xs)) →
      ∃ I' vs bs, StOK I' w β N a.tmps st' ∧ Moves I w (Owns β st.objs) I' w (Owns β st'.objs) ∧ (rs.mapM (readRes a.tmps)).run P w = .ok vs w ∧ ResOK I' w B ks vs ps bs ∧ (∀ b ∈ bs, Owns β st.objs b)
  | [], [], st, st', ps, I, h, hr, _ => by
    simp only [resAll, Option.some.injEq, Prod.mk.injEq] at hr
    obtain ⟨rfl, rfl⟩ := hr
    exact ⟨I, [], [], h, .refl _ _ _, by simp, .nil, by simp⟩
  | [], _ :: _, _, _, _, _, _, hr, _ => by simp [resAll] at hr
  | _ :: _, [], _, _, _, _, _, hr, _ => by simp [resAll] at hr
  | k :: ks, r :: rs, st, st', ps, I, h, hr, hown => by
    simp only [resAll] at hr
    split at hr
    · cases hr
    · rename_i p st1 h1
      split at hr
      · cases hr
      · rename_i qs st2 h2
        cases hr
        -- the first one
        have rest : ∀ (I1 : Nat → Prop) (v : Value), StOK I1 w β N a.tmps st1 → Moves I w (Owns β st.objs) I1 w (Owns β st1.objs) → (∀ b, Owns β st1.objs b → Owns β st.objs b) → (readRes a.tmps r).run P w = .ok v w →
            (∀ (I' : Nat → Prop) (vs : List Value) (bs : List Nat), (∀ b, I1 b → I' b) → ResOK I' w B ks vs qs bs → (∀ b ∈ bs, Owns β st1.objs b) → (∀ b, I' b → I1 b ∨ Owns β st1.objs b ∨ w.heap.size ≤ b) → ∃ bs', ResOK I' w B (k :: ks) (v :: vs) (p :: qs) bs' ∧ ∀ b ∈ bs', Owns β st.objs b) →
            ∃ I' vs bs, StOK I' w β N a.tmps st' ∧ Moves I w (Owns β st.objs) I' w (Owns β st'.objs) ∧ ((r :: rs).mapM (readRes a.tmps)).run P w = .ok vs w ∧ ResOK I' w B (k :: ks) vs (p :: qs) bs ∧ (∀ b ∈ bs, Owns β st.objs b) := by
          intro I1 v g1 g2 g3 g4 g5
          obtain ⟨I', vs, bs, k1, k2, k3, k4, k5⟩ := res_sound tok hB g1 h2 (fun b hb => hown b (g3 b hb))
          obtain ⟨bs', m1, m2⟩ := g5 I' vs bs k2.more k4 k5 k2.fresh
          refine ⟨I', v :: vs, bs', k1, g2.trans k2, ?_, m1, m2⟩
          simp only [List.mapM_cons, Sem.run_bind, g4, Result.andThen_ok, k3, Sem.run_pure]
        unfold resE at h1
        split at h1
        · rename_i t
          have hsl := h.slot t
          split at h1
          · -- handed over
            split at h1
            · rename_i n hs
              rw [hs] at hsl
              split at h1
              · rename_i sz xs ho
                cases hb : !io.contains n && xs.all PV.flat with
                | false => rw [hb] at h1; simp at h1
                | true =>
                  rw [hb] at h1
                  cases h1
                  simp only [Bool.and_eq_true, Bool.not_eq_true', List.all_eq_true] at hb
                  obtain ⟨hnio, hfl⟩ := hb
                  have hnn : n ∉ io := fun x => by rw [← List.contains_iff_mem] at x; rw [x] at hnio; cases hnio
                  obtain ⟨g1, g2⟩ := h.drop (h.objN _ _ ho)
                  have hok := h.obj n _ ho
                  have hoc : owned (.arr sz xs) (β n) = ownedOf (β n) := by generalize β n = c at *; cases hok <;> rfl
                  have hsub : ∀ b, Owns β ((n, .gone) :: st.objs) b → Owns β st.objs b := by
                    rintro b ⟨m, o', h3, h4⟩
                    rw [look_cons] at h3
                    split at h3
                    · cases h3; simp [owned] at h4
                    · exact ⟨m, o', h3, h4⟩
                  refine rest I (a.tmps.getD t undef) g1 g2 hsub (by simp only [readRes, Sem.run_pure]) (fun I' vs bs hI' hres hbs hfr => ?_)
                  rw [hsl.inv_slc]
                  have hnotin : ∀ b, ownedOf (β n) = some b → ¬ Owns β ((n, .gone) :: st.objs) b := by
                    rintro b hb ⟨m, o', h3, h4⟩
                    rw [look_cons] at h3
                    split at h3
                    · cases h3; simp [owned] at h4
                    · rename_i hne
                      exact hne (h.apart _ _ _ _ b ho h3 (by rw [hoc]; exact hb) h4)
                  refine ⟨_, .own (hok.mono hI' (fun _ _ => rfl) (Nat.le_refl _) (fun b hb => ⟨rfl, fun hI2 => ?_⟩)) hfl (fun b hb => ⟨?_, fun hbb => hnotin b hb (hbs b hbb)⟩) hres, fun b hb => ?_⟩
                  · rw [hoc] at hb
                    have h5 := (h.obj n _ ho).owned_lt (by rw [hoc]; exact hb)
                    rcases hfr b hI2 with h6 | h6 | h6
                    · exact h5.2 h6
                    · exact hnotin b hb h6
                    · omega
                  · rcases hown b ⟨n, _, ho, by rw [hoc]; exact hb⟩ with h5 | ⟨m, hm, o', h5, h6, h7⟩
                    · exact h5
                    · exfalso
                      have h8 := resAll_keeps h2 h5 h7
                      simp only [St.obj] at h8
                      rw [look_cons] at h8
                      split at h8
                      · rename_i e; subst e; exact hnn hm
                      · have := h.apart _ _ _ _ b ho h8 (by rw [hoc]; exact hb) h6
                        subst this
                        exact hnn hm
                  · simp only [List.mem_append, Option.mem_toList] at hb
                    rcases hb with hb | hb
                    · exact ⟨n, _, ho, by rw [hoc]; exact hb⟩
                    · exact hsub b (hbs b hb)
              · cases h1
            · cases h1
          · split at h1
            · rename_i q hs
              rw [hs] at hsl
              cases hb : q.flat with
              | false => rw [hb] at h1; simp at h1
              | true =>
                rw [hb] at h1
                cases h1
                refine rest I (a.tmps.getD t undef) h (.refl _ _ _) (fun _ x => x) (by simp only [readRes, Sem.run_pure]) (fun I' vs bs hI' hres hbs _ => ⟨bs, .flat (hsl.inv_val.mono hI' (fun _ _ => rfl)) hb hres, hbs⟩)
            · cases h1
          · split at h1
            · rename_i q u hkp
              cases h1
              obtain ⟨I1, g1, g2, g3, _⟩ := keep_sim h (Near.refl st) hsl hkp
              refine rest I1 (a.tmps.getD t undef) g1 g2 (fun b hb => ?_) (by simp only [readRes, Sem.run_pure]) (fun I' vs bs hI' hres hbs _ => ⟨bs, .val (g3.mono hI' (fun _ _ => rfl)) hres, fun b hb => ?_⟩)
              · obtain ⟨m, o', h3, h4⟩ := hb
                rcases look_mem h3 with h5 | h5
                · unfold keepPV at hkp
                  split at hkp
                  · cases hkp; simp at h5
                  · split at hkp
                    · cases hkp
                      simp only [List.mem_singleton, Prod.mk.injEq] at h5
                      obtain ⟨_, rfl⟩ := h5
                      simp [owned] at h4
                    · cases hkp; simp at h5
                    · cases hkp
                  · cases hkp
                · exact ⟨m, o', h5, h4⟩
              · obtain ⟨m, o', h3, h4⟩ := hbs b hb
                rcases look_mem h3 with h5 | h5
                · unfold keepPV at hkp
                  split at hkp
                  · cases hkp; simp at h5
                  · split at hkp
                    · cases hkp
                      simp only [List.mem_singleton, Prod.mk.injEq] at h5
                      obtain ⟨_, rfl⟩ := h5
                      simp [owned] at h4
                    · cases hkp; simp at h5
                    · cases hkp
                  · cases hkp
                · exact ⟨m, o', h5, h4⟩
            · cases h1
        · rename_i t ty
          have hsl := h.slot t
          split at h1
          · rename_i n off i hs hT
            rw [hs] at hsl
            split at h1
            · rename_i ds ho
              split at h1
              · rename_i q hq
                cases hb : q.flat with
                | false => rw [hb] at h1; simp at h1
                | true =>
                  rw [hb] at h1
                  cases h1
                  obtain ⟨b, hb1, hb2⟩ := hsl.inv_ptr
                  obtain ⟨v, hv, hrep⟩ := loadPart (P := P) (tok _ _ hT) (cellsAt_var h (.inl ho) hb1) hq
                  refine rest I v h (.refl _ _ _) (fun _ x => x) ?_ (fun I' vs bs hI' hres hbs _ => ⟨bs, .flat (hrep.mono hI' (fun _ _ => rfl)) hb hres, hbs⟩)
                  rw [Nat.zero_add] at hv
                  simp only [readRes, hb2, asAddr, Sem.run_bind, Sem.run_pure, Result.andThen_ok, hv]
              · cases h1
            · cases h1
          · cases h1

theorem results_run {fn : Func} {vs : List Value} (h : (fn.results.toList.mapM (readRes a.tmps)).run P w = .ok vs w) : (results fn a.tmps).run P w = .ok (tupleOf vs) w := by
  have e : fn.results.mapM (fun r => match r with | .tmp t => pure (a.tmps.getD t undef) | .cell b t => do loadVar t (← asAddr (a.tmps.getD b undef)) : ResultVar → Sem Value) = List.toArray <$> fn.results.toList.mapM (readRes a.tmps) := by
    rw [Array.mapM_eq_mapM_toList]
    congr 2
  have h2 : (fn.results.mapM (fun r => match r with | .tmp t => pure (a.tmps.getD t undef) | .cell b t => do loadVar t (← asAddr (a.tmps.getD b undef)) : ResultVar → Sem Value)).run P w = .ok vs.toArray w := by
    rw [e, map_eq_pure_bind, Sem.run_bind, h]
    rfl
  unfold results
  rw [Sem.run_bind]
  refine (congrArg (fun r => Result.andThen r _) h2).trans ?_
  match vs with
  | [] => rfl
  | [v] => rfl
  | v :: u :: r => rfl

theorem fun_sound (X : Ctx P T EQ C S) {f : FuncId} {fn : Func} {sg : FSig} {ann : Ann} (hfn : P.funcs[f]? = some fn) {ps rs : List PV} (h : funE T EQ C S FU fn sg ann ps = some rs) (hlen : sg.params.length ≤ fn.ntmps) : CallOK P sg f ps rs := by
  intro I w vs cs hlt hgl hargs hap
  unfold funE at h
  split at h
  · rename_i c ss os io hbody hpar
    obtain ⟨g1, g2, β, g3, g4, g5, g6, g7, g8, g9⟩ := param_sound hargs hpar
    have hio : ∀ n ∈ io, ∃ o, look os n = some o := by
      have key : ∀ {ks : List PK} {ps : List PV} {j : Nat} {ss : List Slot} {os : List (Nat × Obj)} {io : List Nat}, paramE ks ps j = some (ss, os, io) → ∀ n ∈ io, ∃ o, look os n = some o := by
        intro ks
        induction ks with
        | nil =>
          intro ps j ss os io h n hn
          cases ps with
          | nil => simp only [paramE, Option.some.injEq, Prod.mk.injEq] at h; obtain ⟨_, _, rfl⟩ := h; cases hn
          | cons _ _ => simp [paramE] at h
        | cons k ks ih =>
          intro ps j ss os io h n hn
          cases ps with
          | nil => simp [paramE] at h
          | cons p ps =>
            simp only [paramE] at h
            split at h
            · cases h
            · rename_i ss1 os1 io1 h1
              cases k with
              | val => cases h; exact ih h1 n hn
              | iptr =>
                cases h
                rw [look_cons]
                split
                · exact ⟨_, rfl⟩
                · rename_i e
                  simp only [List.mem_cons] at hn
                  rcases hn with rfl | hn
                  · exact absurd rfl e
                  · exact ih h1 n hn
              | islc =>
                cases h
                rw [look_cons]
                split
                · exact ⟨_, rfl⟩
                · rename_i e
                  simp only [List.mem_cons] at hn
                  rcases hn with rfl | hn
                  · exact absurd rfl e
                  · exact ih h1 n hn
      exact key hpar
    have hvl : vs.toArray.size = ps.length := by simpa using g1
    let tmps : Array Value := vs.toArray ++ Array.replicate (fn.ntmps - vs.toArray.size) undef
    let st0 : St := { slots := ss ++ List.replicate (fn.ntmps - ps.length) .undef, objs := os, nxt := ps.length }
    have hst : StOK I w β (fun n => n < ps.length) tmps st0 := by
      have hslot : ∀ t, tmps.getD t undef = vs.getD t undef ∧ st0.slot t = (if t < fn.ntmps ∨ t < ps.length then ss.getD t .undef else .no) := by
        intro t
        constructor
        · simp only [tmps, Array.getD_eq_getD_getElem?, Array.getElem?_append, List.getD_eq_getElem?_getD]
          by_cases ht : t < vs.toArray.size
          · rw [if_pos ht]; simp
          · rw [if_neg ht]
            have h1 : vs[t]? = none := List.getElem?_eq_none (by simpa using ht)
            rw [h1]
            simp only [Array.getElem?_replicate]
            split <;> rfl
        · simp only [st0, St.slot, List.getD_eq_getElem?_getD, List.getElem?_append]
          by_cases ht : t < ss.length
          · rw [if_pos ht, if_pos (by omega), List.getElem?_eq_getElem ht]; rfl
          · rw [if_neg ht]
            have h1 : ss[t]? = none := List.getElem?_eq_none (by omega)
            rw [h1]
            simp only [List.getElem?_replicate]
            by_cases h2 : t - ss.length < fn.ntmps - ps.length
            · rw [if_pos h2, if_pos (by omega)]; rfl
            · rw [if_neg h2, if_neg (by omega)]; rfl
      refine ⟨?_, fun t => ?_, fun t n hn => ?_, fun n o hn => ?_, fun n o hn => (g5 n o hn).2.2.1, g8 hap, hlt, hgl⟩
      · simp only [st0, tmps, List.length_append, List.length_replicate, Array.size_append, Array.size_replicate, hvl, g2]
      · rw [(hslot t).1, (hslot t).2]
        split
        · exact g3 t
        · exact .no
      · rw [(hslot t).2] at hn
        split at hn
        · have := (g4 t n hn).2; omega
        · simp [Slot.names] at hn
      · have := (g5 n o hn).2.1; omega
    have hgood : Good io I w β (Owns β os) st0 { tmps, defers := [] } w :=
      ⟨rfl, I, β, fun n => n < ps.length, hst, fun n hn => hn, fun n hn => by have := (g6 n hn).2; omega, ⟨.refl _ _ _, fun _ _ => rfl⟩⟩
    have hownin : ∀ b, Owns β os b → InOwn cs b := fun b ⟨n, o, h1, h2⟩ => g7 n o b h1 h2
    -- the end
    have fin : ∀ (st : St) (a' : Act) (w' : World), endE T io fn sg ps st = some rs → Good io I w β (Owns β os) st a' w' →
        a'.defers = [] ∧ ∃ v, (results fn a'.tmps).run P w' = .ok v w' ∧ ∃ I' rv, Ending.returned v = .returned (tupleOf rv) ∧ After I w sg cs rs I' w' rv := by
      rintro st a' w' he ⟨hd, I', β', N', k1, k2, k3, k4⟩
      unfold endE at he
      split at he
      · cases he
      · rename_i rs1 st1 h1
        split at he
        · cases he
        · rename_i qs h2
          cases he
          have hown : ∀ b, Owns β' st.objs b → w.heap.size ≤ b ∨ ∃ n ∈ io, ∃ o, st1.obj n = some o ∧ owned o (β' n) = some b ∧ ((∃ cs, o = .var cs) ∨ ∃ sz xs, o = .arr sz xs) := by
            intro b hb
            rcases k4.moves.own b hb with h3 | h3
            · obtain ⟨x, hx, e⟩ := hownin b h3
              obtain ⟨n, hn, hβn, o, ho, hk⟩ := fin_live g9 h2 x hx
              have hst1 := resAll_keeps h1 ho hk
              have hbn : β' n = x.2.1 := (k4.io n hn).trans hβn
              have hoc : owned o (β' n) = ownedOf (β' n) := by
                have hok := k1.obj n o hst1
                generalize β' n = c at *
                rcases hk with ⟨_, rfl⟩ | ⟨_, _, rfl⟩ <;> cases hok <;> rfl
              exact .inr ⟨n, hn, o, ho, by rw [hoc, hbn]; exact e, hk⟩
            · exact .inl h3
          obtain ⟨I2, rv, bs, m1, m2, m3, m4, m5⟩ := res_sound (T := T) X.tok (fun _ => trivial) k1 h1 hown
          obtain ⟨f1, f2⟩ := fin_sound m1 k4.io g9 h2
          refine ⟨hd, tupleOf rv, results_run m3, I2, rv, rfl, ⟨?_, m1.lt, rs1, qs, bs, rfl, m4, f1⟩⟩
          have hm := k4.moves.trans m2
          refine ⟨hm.os, hm.tape, hm.output, hm.size, fun b hb hn => hm.block b hb (fun h3 => hn (hownin b h3)), hm.more, fun b hb => ?_, fun b hb => .inl hb⟩
          rcases hm.fresh b hb with h3 | h3 | h3
          · exact .inl h3
          · exact .inr (.inl (hownin b h3))
          · exact .inr (.inr h3)
    refine calls_of_wp (c := c) hfn hbody ?_
    split at h
    · rename_i st hev
      refine wp_mono (code_sound X c ann _ _ _ w hev hgood) (fun e a' w' hp => ?_)
      cases e with
      | normal =>
        obtain ⟨z, hz, hg⟩ := hp
        cases hz
        exact fin _ a' w' h hg
      | exit id => obtain ⟨z, hz, _⟩ := hp; cases hz
      | ret => obtain ⟨z, hz, _⟩ := hp; cases hz
      | _ => exact hp.elim
    · rename_i st hev
      refine wp_mono (code_sound X c ann _ _ _ w hev hgood) (fun e a' w' hp => ?_)
      cases e with
      | ret =>
        obtain ⟨z, hz, hg⟩ := hp
        cases hz
        exact fin _ a' w' h hg
      | exit id => obtain ⟨z, hz, _⟩ := hp; cases hz
      | normal => obtain ⟨z, hz, _⟩ := hp; cases hz
      | _ => exact hp.elim
    · cases h
  · cases h

/-! Functions that call each other -/

/-- What the evaluator knows of a program: its functions' texts, how they are called, what is kept at the heads of loops; functions that are taken by their own contracts. -/
structure Env where
  T : Types
  EQ : TypeId → Option (List ZK)
  S : Sigs
  fn : FuncId → Option (Func × Ann)
  ext : FuncId → Option (List PV → Option (List PV))
  FU : Nat

def callN (E : Env) : Nat → Oracle
  | 0, _, _ => none
  | m + 1, f, ps =>
    match E.ext f with
    | some e => e ps
    | none =>
      match E.fn f, E.S f with
      | some (fn, ann), some sg => funE E.T E.EQ (callN E m) E.S E.FU fn sg ann ps
      | _, _ => none

structure EnvOK (P : Program) (E : Env) : Prop where
  tok : TOK P E.T
  eqok : EQOK P E.EQ
  mixed : P.follows .mixedOrders = true
  sig : ∀ f sg, E.S f = some sg → SigOK P f sg
  fn : ∀ f fn ann, E.fn f = some (fn, ann) → P.funcs[f]? = some fn
  fits : ∀ f fn ann sg, E.fn f = some (fn, ann) → E.S f = some sg → sg.params.length ≤ fn.ntmps
  ext : ∀ f e sg ps rs, E.ext f = some e → E.S f = some sg → e ps = some rs → CallOK P sg f ps rs

/-- SOUND: what the evaluator says of a call is what the machine does. -/
theorem callN_sound {E : Env} (X : EnvOK P E) : ∀ m, SoundC P (callN E m) E.S
  | 0 => ⟨X.sig, fun f sg ps rs _ h => by simp [callN] at h⟩
  | m + 1 => by
    refine ⟨X.sig, fun f sg ps rs hS h => ?_⟩
    simp only [callN] at h
    split at h
    · rename_i e he
      exact X.ext f e sg ps rs he hS h
    · split at h
      · rename_i fn ann sg' hfn hS'
        rw [hS] at hS'
        cases hS'
        exact fun_sound ⟨X.tok, X.eqok, callN_sound X m, X.mixed⟩ (X.fn f fn ann hfn) h (X.fits f fn ann sg hfn hS)
      · cases h

end
end Evp
end Go
