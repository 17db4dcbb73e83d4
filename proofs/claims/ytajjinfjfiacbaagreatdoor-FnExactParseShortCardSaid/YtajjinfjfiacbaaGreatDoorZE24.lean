/- A function's whole body; functions that call each other. -/
import Derived.Test.YtajjinfjfiacbaaGreatDoorZE23
set_option linter.unusedSectionVars false
set_option linter.unusedVariables false
set_option linter.unusedSimpArgs false
set_option linter.unnecessarySimpa false
namespace Go
namespace Evp
variable [Globs]

section
variable (T : Types) (EQ : TypeId → Option (List ZK)) (C : Oracle) (S : Sigs) (FU : Nat)

/-- The parameters' slots and objects; j: the first one's place. -/
def paramE : List PK → List PV → Nat → Option (List Slot × List (Nat × Obj) × List Nat)
  | [], [], _ => some ([], [], [])
  | k :: ks, p :: ps, j =>
    match paramE ks ps (j + 1) with
    | none => none
    | some (ss, os, io) =>
      match k with
      | .val => some (.val p :: ss, os, io)
      | .iptr => some (.ptr j 0 :: ss, (j, .var p.cells) :: os, j :: io)
      | .islc => some (.slc j :: ss, (j, .arr p.slSz p.slXs) :: os, j :: io)
  | _, _, _ => none

/-- One result. -/
def resE (io : List Nat) (st : St) (k : RK) (r : ResultVar) : Option (PV × St) :=
  match r with
  | .tmp t =>
    match k with
    | .own =>
      match st.slot t with
      | .slc n =>
        match st.obj n with
        | some (.arr sz xs) => bif !io.contains n && xs.all PV.flat then some (.sl sz xs, { st with objs := (n, .gone) :: st.objs }) else none
        | _ => none
      | _ => none
    | .flat =>
      match st.slot t with
      | .val p => bif p.flat then some (p, st) else none
      | _ => none
    | .val =>
      match keepPV st.obj (st.slot t) with
      | some (p, u) => some (p, { st with objs := u ++ st.objs })
      | none => none
  | .cell a ty =>
    match st.slot a, T ty, k with
    | .ptr n off, some i, .flat =>
      match st.obj n with
      | some (.var cs) =>
        match partPV cs off i with
        | some p => bif p.flat then some (p, st) else none
        | none => none
      | _ => none
    | _, _, _ => none

def resAll (io : List Nat) : St → List RK → List ResultVar → Option (List PV × St)
  | st, [], [] => some ([], st)
  | st, k :: ks, r :: rs =>
    match resE T io st k r with
    | none => none
    | some (p, st1) =>
      match resAll io st1 ks rs with
      | none => none
      | some (ps, st2) => some (p :: ps, st2)
  | _, _, _ => none

/-- What the changed arguments hold. -/
def finE (st : St) : List PK → List PV → Nat → Option (List PV)
  | [], [], _ => some []
  | k :: ks, p :: ps, j =>
    match finE st ks ps (j + 1) with
    | none => none
    | some qs =>
      match k with
      | .val => some qs
      | .iptr => match st.obj j with | some (.var cs) => some (.agg cs :: qs) | _ => none
      | .islc => match st.obj j with | some (.arr sz xs) => bif sz == p.slSz then some (.sl sz xs :: qs) else none | _ => none
  | _, _, _ => none

def endE (io : List Nat) (fn : Func) (sg : FSig) (ps : List PV) (st : St) : Option (List PV) :=
  match resAll T io st sg.results fn.results.toList with
  | none => none
  | some (rs, st1) =>
    match finE st1 sg.params ps 0 with
    | none => none
    | some qs => some (rs ++ qs)

def funE (fn : Func) (sg : FSig) (ann : Ann) (ps : List PV) : Option (List PV) :=
  match fn.body, paramE sg.params ps 0 with
  | some c, some (ss, os, io) =>
    match evD T EQ C S io FU c ann { slots := ss ++ List.replicate (fn.ntmps - ps.length) .undef, objs := os, nxt := ps.length } with
    | some (.norm st) => endE T io fn sg ps st
    | some (.ret st) => endE T io fn sg ps st
    | _ => none
  | _, _ => none
end

section
variable {P : Program} {T : Types} {EQ : TypeId → Option (List ZK)} {C : Oracle} {S : Sigs} {FU : Nat}

/-- Where the changed arguments stand. -/
inductive Placed (β : Nat → Conc) (io : List Nat) : List PK → List PV → Nat → List (PK × Conc × Nat) → Prop
  | nil {j} : Placed β io [] [] j []
  | val {ks p ps j cs} (t : Placed β io ks ps (j + 1) cs) : Placed β io (.val :: ks) (p :: ps) j cs
  | iptr {ks p ps j c cs} (h : β j = c) (hj : j ∈ io) (t : Placed β io ks ps (j + 1) cs) : Placed β io (.iptr :: ks) (p :: ps) j ((.iptr, c, 0) :: cs)
  | islc {ks p ps j c cs sz} (h : β j = c) (hj : j ∈ io) (hs : p.slSz = sz) (t : Placed β io ks ps (j + 1) cs) : Placed β io (.islc :: ks) (p :: ps) j ((.islc, c, sz) :: cs)

theorem Placed.mono {β β' : Nat → Conc} {io io' : List Nat} {ks : List PK} {ps : List PV} {j : Nat} {cs : List (PK × Conc × Nat)} (h : Placed β io ks ps j cs) (hβ : ∀ n, j ≤ n → n ∈ io → β' n = β n) (hio : ∀ n ∈ io, n ∈ io') : Placed β' io' ks ps j cs := by
  induction h with
  | nil => exact .nil
  | val _ ih => exact .val (ih (fun n hn => hβ n (by omega)))
  | iptr h hj _ ih => exact .iptr ((hβ _ (Nat.le_refl _) hj).trans h) (hio _ hj) (ih (fun n hn => hβ n (by omega)))
  | islc h hj hs _ ih => exact .islc ((hβ _ (Nat.le_refl _) hj).trans h) (hio _ hj) hs (ih (fun n hn => hβ n (by omega)))

/-- The parameters: what the evaluator begins with. -/
theorem param_sound {I : Nat → Prop} {w : World} : ∀ {ks : List PK} {vs : List Value} {ps : List PV} {cs : List (PK × Conc × Nat)} (_ : ArgsOK I w ks vs ps cs) {j : Nat} {ss : List Slot} {os : List (Nat × Obj)} {io : List Nat}
    (_ : paramE ks ps j = some (ss, os, io)), vs.length = ps.length ∧ ss.length = ps.length ∧
      ∃ β : Nat → Conc, (∀ i, SlotOK I w β (vs.getD i undef) (ss.getD i .undef)) ∧ (∀ i, ∀ n ∈ (ss.getD i Slot.undef).names, j ≤ n ∧ n < j + ps.length) ∧
        (∀ n o, look os n = some o → j ≤ n ∧ n < j + ps.length ∧ ObjOK I w o (β n) ∧ n ∈ io) ∧ (∀ n ∈ io, j ≤ n ∧ n < j + ps.length) ∧
        (∀ n o b, look os n = some o → owned o (β n) = some b → InOwn cs b) ∧
        (ApartIn cs → ∀ n m o o' b, look os n = some o → look os m = some o' → owned o (β n) = some b → owned o' (β m) = some b → n = m) ∧ Placed β io ks ps j cs
  | _, _, _, _, .nil, j, ss, os, io, h => by
    simp only [paramE, Option.some.injEq, Prod.mk.injEq] at h
    obtain ⟨rfl, rfl, rfl⟩ := h
    exact ⟨rfl, rfl, fun _ => .emp none, fun i => by simpa using SlotOK.undef, fun i n hn => by simp [Slot.names] at hn, fun n o hn => by simp [look] at hn, by simp, fun n o b hn => by simp [look] at hn, fun _ n m o o' b hn => by simp [look] at hn, .nil⟩
  | _, _, _, _, .val (v := v) (p := p) hr t, j, ss, os, io, h => by
    simp only [paramE] at h
    split at h
    · cases h
    · rename_i ss1 os1 io1 h1
      cases h
      obtain ⟨g1, g2, β, g3, g4, g5, g6, g7, g8, g9⟩ := param_sound t h1
      refine ⟨by simp [g1], by simp [g2], β, fun i => ?_, fun i n hn => ?_, fun n o hn => ?_, fun n hn => ?_, g7, g8, .val g9⟩
      · cases i with
        | zero => exact .val hr
        | succ i => simpa using g3 i
      · cases i with
        | zero => simp [Slot.names] at hn
        | succ i => have := g4 i n (by simpa using hn); simp only [List.length_cons]; omega
      · obtain ⟨a, b, c, d⟩ := g5 n o hn; exact ⟨by omega, by simp only [List.length_cons]; omega, c, d⟩
      · have := g6 n hn; simp only [List.length_cons]; omega
  | _, _, _, _, .iptr (b := b) (ds := ds) hr t, j, ss, os, io, h => by
    simp only [paramE] at h
    split at h
    · cases h
    · rename_i ss1 os1 io1 h1
      cases h
      obtain ⟨g1, g2, β, g3, g4, g5, g6, g7, g8, g9⟩ := param_sound t h1
      have hne : ∀ n, j + 1 ≤ n → (if n = j then Conc.blk b else β n) = β n := fun n hn => if_neg (by omega)
      refine ⟨by simp [g1], by simp [g2], fun n => if n = j then .blk b else β n, fun i => ?_, fun i n hn => ?_, fun n o hn => ?_, fun n hn => ?_, fun n o b' hn hb => ?_, fun hap n m o o' b' hn hm hb hb' => ?_, .iptr (by simp) List.mem_cons_self (g9.mono (fun n hn _ => hne n hn) (fun n hn => List.mem_cons_of_mem _ hn))⟩
      · cases i with
        | zero => exact .ptr (by simp)
        | succ i => simpa using (g3 i).mono (fun _ x => x) (fun _ _ => rfl) (fun n hn => hne n (g4 i n hn).1)
      · cases i with
        | zero => simp [Slot.names] at hn; subst hn; simp only [List.length_cons]; omega
        | succ i => have := g4 i n (by simpa using hn); simp only [List.length_cons]; omega
      · rw [look_cons] at hn
        split at hn
        · rename_i e; cases hn; subst e
          refine ⟨Nat.le_refl _, by simp only [List.length_cons]; omega, ?_, List.mem_cons_self⟩
          simp only [if_true]
          exact .var hr
        · obtain ⟨a, b', c, d⟩ := g5 n o hn
          refine ⟨by omega, by simp only [List.length_cons]; omega, ?_, List.mem_cons_of_mem _ d⟩
          simp only [hne n a]
          exact c
      · simp only [List.mem_cons] at hn
        rcases hn with rfl | hn
        · simp only [List.length_cons]; omega
        · have := g6 n hn; simp only [List.length_cons]; omega
      · rw [look_cons] at hn
        split at hn
        · rename_i e; cases hn; subst e
          simp only [if_true] at hb
          exact ⟨_, List.mem_cons_self, hb⟩
        · have a := (g5 n o hn).1
          simp only [hne n a] at hb
          obtain ⟨x, hx, e⟩ := g7 n o b' hn hb
          exact ⟨x, List.mem_cons_of_mem _ hx, e⟩
      · obtain ⟨hap1, hap2⟩ := hap
        rw [look_cons] at hn hm
        by_cases e1 : j = n <;> by_cases e2 : j = m
        · exact e1.symm.trans e2
        · rw [if_pos e1] at hn; rw [if_neg e2] at hm
          cases hn; subst e1
          simp only [if_true] at hb
          have a := (g5 m o' hm).1
          simp only [hne m a] at hb'
          exact absurd (g7 m o' b' hm hb') (hap1 b' hb)
        · rw [if_neg e1] at hn; rw [if_pos e2] at hm
          cases hm; subst e2
          simp only [if_true] at hb'
          have a := (g5 n o hn).1
          simp only [hne n a] at hb
          exact absurd (g7 n o b' hn hb) (hap1 b' hb')
        · rw [if_neg e1] at hn; rw [if_neg e2] at hm
          have a := (g5 n o hn).1
          have a' := (g5 m o' hm).1
          simp only [hne n a] at hb
          simp only [hne m a'] at hb'
          exact g8 hap2 n m o o' b' hn hm hb hb'
  | _, _, _, _, .islc (c := c) (sz := sz) (xs := xs) hr t, j, ss, os, io, h => by
    simp only [paramE] at h
    split at h
    · cases h
    · rename_i ss1 os1 io1 h1
      cases h
      simp only [PV.slSz, PV.slXs]
      obtain ⟨g1, g2, β, g3, g4, g5, g6, g7, g8, g9⟩ := param_sound t h1
      have hoc : owned (.arr sz xs) c = ownedOf c := by cases hr <;> rfl
      have hne : ∀ n, j + 1 ≤ n → (if n = j then c else β n) = β n := fun n hn => if_neg (by omega)
      refine ⟨by simp [g1], by simp [g2], fun n => if n = j then c else β n, fun i => ?_, fun i n hn => ?_, fun n o hn => ?_, fun n hn => ?_, fun n o b' hn hb => ?_, fun hap n m o o' b' hn hm hb hb' => ?_, .islc (by simp) List.mem_cons_self rfl (g9.mono (fun n hn _ => hne n hn) (fun n hn => List.mem_cons_of_mem _ hn))⟩
      · cases i with
        | zero => exact .slc' (by simp)
        | succ i => simpa using (g3 i).mono (fun _ x => x) (fun _ _ => rfl) (fun n hn => hne n (g4 i n hn).1)
      · cases i with
        | zero => simp [Slot.names] at hn; subst hn; simp only [List.length_cons]; omega
        | succ i => have := g4 i n (by simpa using hn); simp only [List.length_cons]; omega
      · rw [look_cons] at hn
        split at hn
        · rename_i e; cases hn; subst e
          refine ⟨Nat.le_refl _, by simp only [List.length_cons]; omega, ?_, List.mem_cons_self⟩
          simp only [if_true]
          exact hr
        · obtain ⟨a, b', c, d⟩ := g5 n o hn
          refine ⟨by omega, by simp only [List.length_cons]; omega, ?_, List.mem_cons_of_mem _ d⟩
          simp only [hne n a]
          exact c
      · simp only [List.mem_cons] at hn
        rcases hn with rfl | hn
        · simp only [List.length_cons]; omega
        · have := g6 n hn; simp only [List.length_cons]; omega
      · rw [look_cons] at hn
        split at hn
        · rename_i e; cases hn; subst e
          simp only [if_true, hoc] at hb
          exact ⟨_, List.mem_cons_self, hb⟩
        · have a := (g5 n o hn).1
          simp only [hne n a] at hb
          obtain ⟨x, hx, e⟩ := g7 n o b' hn hb
          exact ⟨x, List.mem_cons_of_mem _ hx, e⟩
      · obtain ⟨hap1, hap2⟩ := hap
        rw [look_cons] at hn hm
        by_cases e1 : j = n <;> by_cases e2 : j = m
        · exact e1.symm.trans e2
        · rw [if_pos e1] at hn; rw [if_neg e2] at hm
          cases hn; subst e1
          simp only [if_true, hoc] at hb
          have a := (g5 m o' hm).1
          simp only [hne m a] at hb'
          exact absurd (g7 m o' b' hm hb') (hap1 b' hb)
        · rw [if_neg e1] at hn; rw [if_pos e2] at hm
          cases hm; subst e2
          simp only [if_true, hoc] at hb'
          have a := (g5 n o hn).1
          simp only [hne n a] at hb
          exact absurd (g7 n o b' hn hb) (hap1 b' hb')
        · rw [if_neg e1] at hn; rw [if_neg e2] at hm
          have a := (g5 n o hn).1
          have a' := (g5 m o' hm).1
          simp only [hne n a] at hb
          simp only [hne m a'] at hb'
          exact g8 hap2 n m o o' b' hn hm hb hb'

end
end Evp
end Go
