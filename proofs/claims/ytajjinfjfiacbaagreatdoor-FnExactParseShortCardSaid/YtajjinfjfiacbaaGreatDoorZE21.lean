/- Regions that draw their order. -/
import Derived.Test.YtajjinfjfiacbaaGreatDoorZE20
set_option linter.unusedSectionVars false
set_option linter.unusedVariables false
set_option linter.unusedSimpArgs false
set_option linter.unnecessarySimpa false
namespace Go
namespace Evp
variable [Globs]

structure Foot where
  ts : List Nat
  ns : List Nat
  d : Option Nat
  un : List Nat
  anc : List Nat
  deriving Inhabited

def disj (a b : List Nat) : Bool := a.all fun x => !b.contains x

def tmpFree (d : Option Nat) (ts : List Nat) : Bool :=
  match d with
  | some d => !ts.contains d
  | none => true

def difft (d e : Option Nat) : Bool :=
  match d, e with
  | some d, some e => !(d == e)
  | _, _ => true

def clashFree (f g : Foot) : Bool :=
  tmpFree f.d g.ts && tmpFree g.d f.ts && difft f.d g.d && disj f.un g.ns && disj g.un f.ns && disj f.un g.un

/-- The operations that must have gone before. -/
def ancE (feet : List Foot) (o : Oper) : List Nat :=
  o.after.toList.flatMap fun e => bif Region.binds .any e then e.on :: (feet.getD e.on default).anc else []

def edgesOK (i : Nat) (o : Oper) : Bool := o.after.toList.all fun e => !Region.binds .any e || Nat.blt e.on i

section
variable (T : Types) (EQ : TypeId → Option (List ZK)) (C : Oracle) (S : Sigs)

def footE (ops : Array Oper) (feet : List Foot) (st : St) (o : Oper) (u : Ups) : Foot :=
  { ts := o.looksAt ops, ns := (opIns T st o).flatMap Slot.names, d := o.dst, un := u.map (·.1), anc := ancE feet o }

def allFree (f : Foot) : (j : Nat) → List Foot → Bool
  | _, [] => true
  | j, g :: r => (f.anc.contains j || clashFree f g) && allFree f (j + 1) r

def drawE (ops : Array Oper) (base : Nat) : (n i : Nat) → List Foot → St → Option St
  | 0, _, _, st => some st
  | n + 1, i, feet, st =>
    match ops[i]? with
    | none => none
    | some o =>
      match effE T EQ C S ops base i st o with
      | none => none
      | some (s, u) =>
        bif edgesOK i o && allFree (footE T ops feet st o u) 0 feet then drawE ops base n (i + 1) (feet ++ [footE T ops feet st o u]) (st.put o.dst s u) else none
end

section
variable {T : Types} {EQ : TypeId → Option (List ZK)} {C : Oracle} {S : Sigs}

/-- What one operation after the other has given, told as functions of the place. -/
structure Trace (T : Types) (EQ : TypeId → Option (List ZK)) (C : Oracle) (S : Sigs) (ops : Array Oper) (base n : Nat) (sts : Nat → St) (os : Nat → Oper) (sl : Nat → Slot) (us : Nat → Ups) (ft : Nat → Foot) : Prop where
  op : ∀ i, i < n → ops[i]? = some (os i)
  eff : ∀ i, i < n → effE T EQ C S ops base i (sts i) (os i) = some (sl i, us i)
  next : ∀ i, i < n → sts (i + 1) = (sts i).put (os i).dst (sl i) (us i)
  foot : ∀ i, i < n → (ft i).ts = (os i).looksAt ops ∧ (ft i).ns = (opIns T (sts i) (os i)).flatMap Slot.names ∧ (ft i).d = (os i).dst ∧ (ft i).un = (us i).map (·.1)
  edge : ∀ i, i < n → ∀ e ∈ (os i).after.toList, Region.binds .any e = true → e.on < i
  ancs : ∀ i, i < n → ∀ j, j ∈ (ft i).anc → ∃ e ∈ (os i).after.toList, Region.binds .any e = true ∧ (j = e.on ∨ j ∈ (ft e.on).anc)
  free : ∀ i j, i < n → j < i → j ∈ (ft i).anc ∨ clashFree (ft i) (ft j) = true

theorem allFree_get {f : Foot} : ∀ {r : List Foot} {k : Nat}, allFree f k r = true → ∀ j (h : j < r.length), (k + j) ∈ f.anc ∨ clashFree f r[j] = true
  | [], _, _, j, h => by simp at h
  | g :: r, k, ha, j, h => by
    simp only [allFree, Bool.and_eq_true, Bool.or_eq_true, List.contains_iff_mem] at ha
    cases j with
    | zero => simpa using ha.1
    | succ j =>
      have := allFree_get ha.2 j (by simpa using h)
      rw [show k + (j + 1) = k + 1 + j by omega]
      simpa using this

variable (T EQ C S) in
def rowE (ops : Array Oper) (base : Nat) (st : St) : Nat → St × List Foot
  | 0 => (st, [])
  | i + 1 =>
    match ops[i]? with
    | none => rowE ops base st i
    | some o =>
      match effE T EQ C S ops base i (rowE ops base st i).1 o with
      | none => rowE ops base st i
      | some (s, u) => ((rowE ops base st i).1.put o.dst s u, (rowE ops base st i).2 ++ [footE T ops (rowE ops base st i).2 (rowE ops base st i).1 o u])

theorem draw_rows {ops : Array Oper} {base : Nat} {st : St} : ∀ (n i : Nat) {st' : St}, drawE T EQ C S ops base n i (rowE T EQ C S ops base st i).2 (rowE T EQ C S ops base st i).1 = some st' →
    (∀ k, i ≤ k → k < i + n → ∃ o s u, ops[k]? = some o ∧ effE T EQ C S ops base k (rowE T EQ C S ops base st k).1 o = some (s, u) ∧ edgesOK k o = true ∧
      allFree (footE T ops (rowE T EQ C S ops base st k).2 (rowE T EQ C S ops base st k).1 o u) 0 (rowE T EQ C S ops base st k).2 = true) ∧ st' = (rowE T EQ C S ops base st (i + n)).1
  | 0, i, st', h => by
    simp only [drawE, Option.some.injEq] at h
    exact ⟨fun k h1 h2 => by omega, h.symm⟩
  | n + 1, i, st', h => by
    simp only [drawE] at h
    split at h
    · cases h
    · rename_i o ho
      split at h
      · cases h
      · rename_i s u he
        cases hb : edgesOK i o && allFree (footE T ops (rowE T EQ C S ops base st i).2 (rowE T EQ C S ops base st i).1 o u) 0 (rowE T EQ C S ops base st i).2 with
        | false => rw [hb] at h; simp at h
        | true =>
          rw [hb] at h
          simp only [cond_true] at h
          have hrow : rowE T EQ C S ops base st (i + 1) = ((rowE T EQ C S ops base st i).1.put o.dst s u, (rowE T EQ C S ops base st i).2 ++ [footE T ops (rowE T EQ C S ops base st i).2 (rowE T EQ C S ops base st i).1 o u]) := by
            rw [rowE, ho]
            simp only [he]
          obtain ⟨h1, h2⟩ := draw_rows n (i + 1) (st' := st') (by rw [hrow]; exact h)
          simp only [Bool.and_eq_true] at hb
          refine ⟨fun k hk1 hk2 => ?_, by rw [show i + (n + 1) = i + 1 + n by omega]; exact h2⟩
          by_cases e : k = i
          · subst e
            exact ⟨o, s, u, ho, he, hb.1, hb.2⟩
          · exact h1 k (by omega) (by omega)

theorem trace_of {ops : Array Oper} {base n : Nat} {st st' : St} (h : drawE T EQ C S ops base n 0 [] st = some st') :
    ∃ sts os sl us ft, Trace T EQ C S ops base n sts os sl us ft ∧ sts 0 = st ∧ sts n = st' := by
  let R := rowE T EQ C S ops base st
  obtain ⟨h1, h2⟩ := draw_rows (st := st) n 0 (st' := st') h
  let os : Nat → Oper := fun i => (ops[i]?).getD default
  let ef : Nat → Slot × Ups := fun i => (effE T EQ C S ops base i (R i).1 (os i)).getD default
  let ft : Nat → Foot := fun j => (R (j + 1)).2.getD j default
  have hrow : ∀ k, k < n → ops[k]? = some (os k) ∧ effE T EQ C S ops base k (R k).1 (os k) = some (ef k) ∧ edgesOK k (os k) = true ∧ allFree (footE T ops (R k).2 (R k).1 (os k) (ef k).2) 0 (R k).2 = true ∧
      R (k + 1) = ((R k).1.put (os k).dst (ef k).1 (ef k).2, (R k).2 ++ [footE T ops (R k).2 (R k).1 (os k) (ef k).2]) := by
    intro k hk
    obtain ⟨o, s, u, g1, g2, g3, g4⟩ := h1 k (Nat.zero_le _) (by omega)
    have e1 : os k = o := by simp [os, g1]
    have e2 : ef k = (s, u) := by simp only [ef, e1]; rw [g2]; rfl
    rw [e1, e2]
    refine ⟨g1, g2, g3, g4, ?_⟩
    show rowE T EQ C S ops base st (k + 1) = _
    rw [rowE, g1]
    simp only [g2]
    rfl
  have hlen : ∀ k, k ≤ n → (R k).2.length = k := by
    intro k
    induction k with
    | zero => intro _; rfl
    | succ k ih => intro hk; rw [(hrow k (by omega)).2.2.2.2]; simp [ih (by omega)]
  have hft : ∀ k, k < n → ft k = footE T ops (R k).2 (R k).1 (os k) (ef k).2 := by
    intro k hk
    simp only [ft, (hrow k hk).2.2.2.2]
    rw [List.getD_eq_getElem?_getD, List.getElem?_append_right (by rw [hlen k (by omega)]; exact Nat.le_refl _), hlen k (by omega)]
    simp
  have hpre : ∀ k, k ≤ n → ∀ j, (hj : j < k) → (R k).2.getD j default = ft j := by
    intro k
    induction k with
    | zero => intro _ j hj; omega
    | succ k ih =>
      intro hk j hj
      by_cases e : j = k
      · subst e; rfl
      · rw [(hrow k (by omega)).2.2.2.2]
        rw [List.getD_eq_getElem?_getD, List.getElem?_append_left (by rw [hlen k (by omega)]; omega), ← List.getD_eq_getElem?_getD]
        exact ih (by omega) j (by omega)
  refine ⟨fun i => (R i).1, os, fun i => (ef i).1, fun i => (ef i).2, ft, ⟨fun i hi => (hrow i hi).1, fun i hi => (hrow i hi).2.1, fun i hi => by rw [(hrow i hi).2.2.2.2], fun i hi => ?_, fun i hi e he hb => ?_, fun i hi j hj => ?_, fun i j hi hj => ?_⟩, rfl, ?_⟩
  · rw [hft i hi]; exact ⟨rfl, rfl, rfl, rfl⟩
  · have := (hrow i hi).2.2.1
    simp only [edgesOK, List.all_eq_true, Bool.or_eq_true, Bool.not_eq_true'] at this
    rcases this e he with h3 | h3
    · rw [hb] at h3; cases h3
    · simpa using h3
  · rw [hft i hi] at hj
    simp only [footE, ancE, List.mem_flatMap] at hj
    obtain ⟨e, he, hj⟩ := hj
    cases hb : Region.binds .any e with
    | false => rw [hb] at hj; simp at hj
    | true =>
      rw [hb] at hj
      simp only [cond_true, List.mem_cons] at hj
      refine ⟨e, he, hb, hj.imp id (fun h4 => ?_)⟩
      have hlt : e.on < i := by
        have := (hrow i hi).2.2.1
        simp only [edgesOK, List.all_eq_true, Bool.or_eq_true, Bool.not_eq_true'] at this
        rcases this e he with h3 | h3
        · rw [hb] at h3; cases h3
        · simpa using h3
      rw [hpre i (by omega) e.on hlt] at h4
      exact h4
  · have h3 := (hrow i hi).2.2.2.1
    have h4 := allFree_get h3 j (by rw [hlen i (by omega)]; exact hj)
    rw [Nat.zero_add] at h4
    have h5 : (R i).2[j]'(by rw [hlen i (by omega)]; exact hj) = ft j := by
      rw [← hpre i (by omega) j hj, List.getD_eq_getElem?_getD, List.getElem?_eq_getElem (by rw [hlen i (by omega)]; exact hj)]
      rfl
    rw [h5] at h4
    rw [hft i hi]
    exact h4
  · rw [h2, Nat.zero_add]
end
end Evp
end Go
