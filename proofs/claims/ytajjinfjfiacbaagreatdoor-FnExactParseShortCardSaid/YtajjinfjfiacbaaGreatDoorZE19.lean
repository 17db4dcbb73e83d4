/- Regions: one operation after the other; in any order. -/
import Derived.Test.YtajjinfjfiacbaaGreatDoorZE18
set_option linter.unusedSectionVars false
set_option linter.unusedVariables false
set_option linter.unusedSimpArgs false
set_option linter.unnecessarySimpa false
namespace Go
namespace Evp
variable [Globs]

section
variable (T : Types) (EQ : TypeId → Option (List ZK)) (C : Oracle) (S : Sigs)

/-- Is a guarded operation wanted? none: not known. -/
def wantedE (ops : Array Oper) (st : St) (o : Oper) : Option Bool :=
  match o.guard with
  | none => some true
  | some (j, want) =>
    match (ops[j]?).bind (·.dst) with
    | none => some false
    | some d =>
      match st.slot d with
      | .val (.v (.bool b)) => some (b == want)
      | .undef => some false
      | _ => none

/-- What an operation leaves: the slot of its target, the objects. -/
def effE (ops : Array Oper) (base i : Nat) (st : St) (o : Oper) : Res :=
  match wantedE ops st o with
  | none => none
  | some false => some (.undef, [])
  | some true => opD T EQ C S (base + 16 * i) st o

def stepE (ops : Array Oper) (base i : Nat) (st : St) : Option St :=
  match ops[i]? with
  | none => none
  | some o =>
    match effE T EQ C S ops base i st o with
    | none => none
    | some (s, u) => some (st.put o.dst s u)

/-- The operations from number i on, n of them. -/
def seqE (ops : Array Oper) (base : Nat) : (n i : Nat) → St → Option St
  | 0, _, st => some st
  | n + 1, i, st =>
    match stepE T EQ C S ops base i st with
    | none => none
    | some st' => seqE ops base n (i + 1) st'
end

structure Ctx (P : Program) (T : Types) (EQ : TypeId → Option (List ZK)) (C : Oracle) (S : Sigs) : Prop where
  tok : TOK P T
  eqok : EQOK P EQ
  sound : SoundC P C S
  mixed : P.follows .mixedOrders = true

section
variable {P : Program} {T : Types} {EQ : TypeId → Option (List ZK)} {C : Oracle} {S : Sigs} {nm : Nat} {I : Nat → Prop} {w : World} {β : Nat → Conc} {N : Nat → Prop} {a : Act} {st : St}

/-- EVERY OPERATION. -/
theorem op_wp (X : Ctx P T EQ C S) (h : StOK I w β N a.tmps st) (hf : Fresh N nm) {o : Oper} {slot : Slot} {ups : Ups} (hc : opD T EQ C S nm st o = some (slot, ups)) {next : Act → World → Prop} {Q : Exit → Act → World → Prop}
    (hnext : ∀ v w' I' β' N', StOK I' w' β' N' a.tmps { st with objs := ups ++ st.objs } → SlotOK I' w' β' v slot → (∀ n ∈ slot.names, N' n) → Grows nm I w β N st.objs I' w' β' N' (ups ++ st.objs) → next (a.put o.dst v) w') :
    o.wp P a w next Q := by
  unfold opD at hc
  cases hi : isCall o with
  | true =>
    rw [hi] at hc
    simp only [cond_true] at hc
    unfold isCall at hi
    split at hi
    · rename_i f args ts ho
      exact call_wp X.sound h hf ho rfl (by simpa using hi) hc hnext
    · cases hi
  | false =>
    rw [hi] at hc
    simp only [cond_false] at hc
    obtain ⟨nx, v, w', I', β', N', h1, h2, h3, h4, h5, h6⟩ := opC_sim X.tok X.eqok h hf hc
    unfold Oper.wp
    rw [h1]
    rcases h2 with rfl | ⟨rfl, rfl⟩
    · rw [Oper.upon_value]
      exact hnext v w' I' β' N' h3 h4 h5 h6
    · rw [Oper.upon_skip]
      exact hnext undef w' I' β' N' h3 h4 h5 h6

theorem put_state {dst : Option Nat} {s : Slot} {u : Ups} : ({ st with objs := u ++ st.objs } : St).put dst s [] = st.put dst s u := by
  cases dst <;> rfl

/-- A step, in whatever order: from a state to the next. -/
theorem step_wp (X : Ctx P T EQ C S) (h : StOK I w β N a.tmps st) {ops : Array Oper} {base i : Nat} (hf : Fresh N (base + 16 * i)) {o : Oper} (ho : ops[i]? = some o) {s : Slot} {u : Ups} (hc : effE T EQ C S ops base i st o = some (s, u))
    {K : Act → World → Prop} {Q : Exit → Act → World → Prop}
    (hnext : ∀ a' w' I' β' N', StOK I' w' β' N' a'.tmps (st.put o.dst s u) → a'.defers = a.defers → Grows (base + 16 * i) I w β N st.objs I' w' β' N' (st.put o.dst s u).objs → K a' w') :
    wpOp P ops Q i K a w := by
  unfold wpOp
  rw [ho]
  simp only
  have hputd : ∀ v, (a.put o.dst v).defers = a.defers := by intro v; cases o.dst <;> rfl
  have hputt : ∀ v, (a.put o.dst v).tmps = (Act.put { tmps := a.tmps, defers := [] } o.dst v).tmps := by intro v; cases o.dst <;> rfl
  have hobjs : (st.put o.dst s u).objs = u ++ st.objs := by cases o.dst <;> rfl
  have skip : u = [] → s = .undef → K (a.put o.dst undef) w := by
    rintro rfl rfl
    refine hnext _ w I β N ?_ (hputd _) (by rw [hobjs]; exact .refl _ _ _ _ _ _)
    rw [hputt]
    exact h.put .undef (by simp [Slot.names]) o.dst
  have take : opD T EQ C S (base + 16 * i) st o = some (s, u) → o.wp P a w K Q := by
    intro hop
    refine op_wp X h hf hop (fun v w' I' β' N' h1 h2 h3 h4 => hnext _ w' I' β' N' ?_ (hputd v) (by rw [hobjs]; exact h4))
    rw [hputt, ← put_state]
    exact h1.put h2 h3 o.dst
  unfold effE at hc
  unfold wantedE at hc
  cases hg : o.guard with
  | none =>
    rw [hg] at hc
    simp only at hc
    have hw : Region.wanted o (yielded ops a.tmps) = true := by simp only [Region.wanted, hg]
    rw [if_pos hw]
    exact .inl (take hc)
  | some g =>
    obtain ⟨j, want⟩ := g
    rw [hg] at hc
    simp only at hc
    cases hd : (ops[j]?).bind (·.dst) with
    | none =>
      rw [hd] at hc
      simp only [Option.some.injEq, Prod.mk.injEq] at hc
      have hw : ¬ Region.wanted o (yielded ops a.tmps) = true := by simp [Region.wanted, hg, yielded, hd]
      rw [if_neg hw]
      exact skip hc.2.symm hc.1.symm
    | some d =>
      rw [hd] at hc
      simp only at hc
      have hsd := h.slot d
      have hyi : ∀ v, a.tmps.getD d undef = v → (∀ x, v ≠ x → True) → yielded ops a.tmps j = (match (a.tmps[d]? : Option Value) with | some (.bool b) => some b | _ => none) := by
        intro v _ _
        unfold yielded
        rw [hd]
        rfl
      cases hs : st.slot d with
      | val p =>
        rw [hs] at hc hsd
        have hr := hsd.inv_val
        cases p with
        | v x =>
          have hx := hr.isv
          cases x with
          | bool b =>
            simp only at hc
            have hy : yielded ops a.tmps j = some b := by
              rw [hyi _ rfl (fun _ _ => trivial)]
              simp only [Array.getD_eq_getD_getElem?] at hx
              cases hq : a.tmps[d]? with
              | none => rw [hq] at hx; simp [undef] at hx
              | some z => rw [hq] at hx; simp only [Option.getD_some] at hx; subst hx; rfl
            cases hb : b == want with
            | true =>
              rw [hb] at hc
              have hw : Region.wanted o (yielded ops a.tmps) = true := by simp only [Region.wanted, hg, hy]; simpa using hb
              rw [if_pos hw]
              exact .inl (take hc)
            | false =>
              rw [hb] at hc
              simp only [Option.some.injEq, Prod.mk.injEq] at hc
              have hw : ¬ Region.wanted o (yielded ops a.tmps) = true := by simp only [Region.wanted, hg, hy]; simpa using hb
              rw [if_neg hw]
              exact skip hc.2.symm hc.1.symm
          | _ => simp at hc
        | _ => simp at hc
      | undef =>
        rw [hs] at hc hsd
        simp only [Option.some.injEq, Prod.mk.injEq] at hc
        have hu : a.tmps.getD d undef = undef := by
          generalize a.tmps.getD d undef = z at hsd
          cases hsd; rfl
        have hy : yielded ops a.tmps j = none := by
          rw [hyi _ rfl (fun _ _ => trivial)]
          simp only [Array.getD_eq_getD_getElem?] at hu
          cases hq : a.tmps[d]? with
          | none => rfl
          | some z => rw [hq] at hu; simp only [Option.getD_some] at hu; subst hu; rfl
        have hw : ¬ Region.wanted o (yielded ops a.tmps) = true := by simp [Region.wanted, hg, hy]
        rw [if_neg hw]
        exact skip hc.2.symm hc.1.symm
      | _ => rw [hs] at hc; simp at hc

/-- What a function's frame may rely on all the way: where it began. io: the names that keep their places. -/
structure Reach (io : List Nat) (I0 : Nat → Prop) (w0 : World) (β0 : Nat → Conc) (Own0 : Nat → Prop) (I : Nat → Prop) (w : World) (β : Nat → Conc) (objs : List (Nat × Obj)) : Prop where
  moves : Moves I0 w0 Own0 I w (Owns β objs)
  io : ∀ n ∈ io, β n = β0 n

/-- The frame is in state st. -/
def Good (io : List Nat) (I0 : Nat → Prop) (w0 : World) (β0 : Nat → Conc) (Own0 : Nat → Prop) (st : St) (a : Act) (w : World) : Prop :=
  a.defers = [] ∧ ∃ I β N, StOK I w β N a.tmps st ∧ (∀ n, N n → n < st.nxt) ∧ (∀ n ∈ io, N n) ∧ Reach io I0 w0 β0 Own0 I w β st.objs

/-- Inside a region: names may run ahead. -/
def GoodIn (io : List Nat) (I0 : Nat → Prop) (w0 : World) (β0 : Nat → Conc) (Own0 : Nat → Prop) (M : Nat → Prop) (st : St) (a : Act) (w : World) : Prop :=
  a.defers = [] ∧ ∃ I β N, StOK I w β N a.tmps st ∧ (∀ n, N n → M n) ∧ (∀ n ∈ io, N n) ∧ Reach io I0 w0 β0 Own0 I w β st.objs

theorem Grows.reach {io : List Nat} {I0 : Nat → Prop} {w0 : World} {β0 : Nat → Conc} {Own0 : Nat → Prop} {objs objs' : List (Nat × Obj)} {I' : Nat → Prop} {w' : World} {β' : Nat → Conc} {N' : Nat → Prop}
    (hr : Reach io I0 w0 β0 Own0 I w β objs) (hio : ∀ n ∈ io, N n) (h : Grows nm I w β N objs I' w' β' N' objs') : Reach io I0 w0 β0 Own0 I' w' β' objs' :=
  ⟨hr.moves.trans h.moves, fun n hn => (h.beta n (hio n hn)).trans (hr.io n hn)⟩

theorem stepIn_wp (X : Ctx P T EQ C S) {io : List Nat} {I0 : Nat → Prop} {w0 : World} {β0 : Nat → Conc} {Own0 M : Nat → Prop} (h : GoodIn io I0 w0 β0 Own0 M st a w) {ops : Array Oper} {base i : Nat}
    (hM : ∀ n, base + 16 * i ≤ n → n < base + 16 * i + 16 → ¬ M n) {o : Oper} (ho : ops[i]? = some o) {s : Slot} {u : Ups} (hc : effE T EQ C S ops base i st o = some (s, u)) {K : Act → World → Prop} {Q : Exit → Act → World → Prop}
    (hnext : ∀ a' w', GoodIn io I0 w0 β0 Own0 (fun n => M n ∨ (base + 16 * i ≤ n ∧ n < base + 16 * i + 16)) (st.put o.dst s u) a' w' → K a' w') : wpOp P ops Q i K a w := by
  obtain ⟨hd, I, β, N, h1, h2, h3, h4⟩ := h
  refine step_wp X h1 (fun n hn hn2 hN => hM n hn hn2 (h2 n hN)) ho hc (fun a' w' I' β' N' g1 g2 g3 => hnext a' w' ⟨g2.trans hd, I', β', N', g1, fun n hn => ?_, fun n hn => g3.n1 n (h3 n hn), g3.reach h4 h3⟩)
  rcases g3.n2 n hn with h5 | h5
  · exact .inl (h2 n h5)
  · exact .inr h5

theorem seq_wp (X : Ctx P T EQ C S) {io : List Nat} {I0 : Nat → Prop} {w0 : World} {β0 : Nat → Conc} {Own0 : Nat → Prop} {ops : Array Oper} {base : Nat} {Q : Exit → Act → World → Prop} :
    ∀ (n i : Nat) {st st' : St} {a : Act} {w : World}, seqE T EQ C S ops base n i st = some st' → i + n = ops.size → GoodIn io I0 w0 β0 Own0 (fun m => m < base + 16 * i) st a w →
      (∀ a' w', GoodIn io I0 w0 β0 Own0 (fun m => m < base + 16 * (i + n)) st' a' w' → Q .normal a' w') → wpOps P ops Q (List.range' i n) a w
  | 0, i, st, st', a, w, hs, hn, hg, hQ => by
    simp only [seqE, Option.some.injEq] at hs
    subst hs
    simp only [List.range'_zero, wpOps]
    exact hQ a w hg
  | n + 1, i, st, st', a, w, hs, hn, hg, hQ => by
    simp only [seqE] at hs
    split at hs
    · cases hs
    · rename_i st1 h1
      unfold stepE at h1
      split at h1
      · cases h1
      · rename_i o ho
        split at h1
        · cases h1
        · rename_i s u he
          simp only [Option.some.injEq] at h1
          subst h1
          rw [List.range'_succ, wpOps_cons]
          refine stepIn_wp X hg (fun m h2 _ h3 => by omega) ho he (fun a' w' g1 => ?_)
          refine seq_wp X (io := io) (I0 := I0) (w0 := w0) (β0 := β0) (Own0 := Own0) n (i + 1) hs (by omega) ?_ (fun a2 w2 g2 => hQ a2 w2 ?_)
          · obtain ⟨hd, I, β, N, k1, k2, k3, k4⟩ := g1
            refine ⟨hd, I, β, N, k1, fun m hm => ?_, k3, k4⟩
            rcases k2 m hm with h5 | h5 <;> omega
          · rw [show i + (n + 1) = i + 1 + n by omega]
            exact g2

end
end Evp
end Go
