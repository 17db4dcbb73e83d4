/- Calls: what is asked of a function, and how a call goes. -/
import Derived.Test.YtajjinfjfiacbaaGreatDoorZE15
set_option linter.unusedSectionVars false
set_option linter.unusedVariables false
set_option linter.unusedSimpArgs false
set_option linter.unnecessarySimpa false
namespace Go
namespace Evp
variable [Globs]

def ownedOf : Conc → Option Nat
  | .blk b => some b
  | .arr b _ _ _ => some b
  | .emp _ => none

/-- Arguments: values; variables and own slices that the callee may change. -/
inductive ArgsOK (I : Nat → Prop) (w : World) : List PK → List Value → List PV → List (PK × Conc × Nat) → Prop
  | nil : ArgsOK I w [] [] [] []
  | val {v p ks vs ps cs} (h : Rep I w v p) (t : ArgsOK I w ks vs ps cs) : ArgsOK I w (.val :: ks) (v :: vs) (p :: ps) cs
  | iptr {b ds ks vs ps cs} (h : OwnRow I w b ds) (t : ArgsOK I w ks vs ps cs) :
      ArgsOK I w (.iptr :: ks) (.pointer (some ⟨b, 0, none⟩) :: vs) (.agg ds :: ps) ((.iptr, .blk b, 0) :: cs)
  | islc {c sz xs ks vs ps cs} (h : ObjOK I w (.arr sz xs) c) (t : ArgsOK I w ks vs ps cs) :
      ArgsOK I w (.islc :: ks) (c.val :: vs) (.sl sz xs :: ps) ((.islc, c, sz) :: cs)

/-- What the changed ones hold behind the call. -/
inductive BackOK (I : Nat → Prop) (w : World) : List (PK × Conc × Nat) → List PV → Prop
  | nil : BackOK I w [] []
  | iptr {b ds k cs ps} (h : OwnRow I w b ds) (t : BackOK I w cs ps) : BackOK I w ((.iptr, .blk b, k) :: cs) (.agg ds :: ps)
  | islc {c sz xs cs ps} (h : ObjOK I w (.arr sz xs) c) (t : BackOK I w cs ps) : BackOK I w ((.islc, c, sz) :: cs) (.sl sz xs :: ps)

/-- Results. B: where the new blocks begin; the last list: the new blocks of the results that are handed over. -/
inductive ResOK (I : Nat → Prop) (w : World) (B : Nat) : List RK → List Value → List PV → List Nat → Prop
  | nil : ResOK I w B [] [] [] []
  | flat {v p ks vs ps bs} (h : Rep I w v p) (hf : p.flat = true) (t : ResOK I w B ks vs ps bs) : ResOK I w B (.flat :: ks) (v :: vs) (p :: ps) bs
  | val {v p ks vs ps bs} (h : Rep I w v p) (t : ResOK I w B ks vs ps bs) : ResOK I w B (.val :: ks) (v :: vs) (p :: ps) bs
  | own {c sz xs ks vs ps bs} (h : ObjOK I w (.arr sz xs) c) (hf : ∀ x ∈ xs, x.flat = true) (hb : ∀ b, ownedOf c = some b → B ≤ b ∧ b ∉ bs) (t : ResOK I w B ks vs ps bs) :
      ResOK I w B (.own :: ks) (c.val :: vs) (.sl sz xs :: ps) ((ownedOf c).toList ++ bs)

def tupleOf : List Value → Value
  | [v] => v
  | vs => .tuple vs.toArray

/-- The blocks of the changed arguments. -/
def InOwn (cs : List (PK × Conc × Nat)) (b : Nat) : Prop := ∃ x ∈ cs, ownedOf x.2.1 = some b

/-- No block twice. -/
def ApartIn : List (PK × Conc × Nat) → Prop
  | [] => True
  | x :: r => (∀ b, ownedOf x.2.1 = some b → ¬ InOwn r b) ∧ ApartIn r

structure After (I : Nat → Prop) (w : World) (sg : FSig) (cs : List (PK × Conc × Nat)) (rs : List PV) (I' : Nat → Prop) (w' : World) (rv : List Value) : Prop where
  moves : Moves I w (InOwn cs) I' w' (InOwn cs)
  lt : ∀ b, I' b → b < w'.heap.size
  res : ∃ rs1 rs2 bs, rs = rs1 ++ rs2 ∧ ResOK I' w' w.heap.size sg.results rv rs1 bs ∧ BackOK I' w' cs rs2

/-- Called with what reads as ps, function f hands back what reads as rs. -/
def CallOK (P : Program) (sg : FSig) (f : FuncId) (ps rs : List PV) : Prop :=
  ∀ (I : Nat → Prop) (w : World) (vs : List Value) (cs : List (PK × Conc × Nat)), (∀ b, I b → b < w.heap.size) → GlobOK I w → ArgsOK I w sg.params vs ps cs → ApartIn cs →
    Calls P f vs.toArray w fun e w' => ∃ I' rv, e = .returned (tupleOf rv) ∧ After I w sg cs rs I' w' rv

structure SigOK (P : Program) (f : FuncId) (sg : FSig) : Prop where
  fn : ∃ fn, P.funcs[f]? = some fn ∧ (fn.name == "runtime.NumGoroutine") = false ∧ fn.body.isNone = false
  few : sg.results.length ≤ 14

structure SoundC (P : Program) (C : Oracle) (S : Sigs) : Prop where
  sig : ∀ f sg, S f = some sg → SigOK P f sg
  call : ∀ f sg ps rs, S f = some sg → C f ps = some rs → CallOK P sg f ps rs

theorem look_mem {n : Nat} {o : Obj} {objs : List (Nat × Obj)} : ∀ {r : List (Nat × Obj)}, look (r ++ objs) n = some o → (n, o) ∈ r ∨ look objs n = some o
  | [], h => .inr h
  | (m, q) :: r, h => by
    rw [List.cons_append, look_cons] at h
    split at h
    · rename_i e
      simp only [Option.some.injEq] at h
      subst e; subst h
      exact .inl List.mem_cons_self
    · rcases look_mem h with h1 | h1
      · exact .inl (List.mem_cons_of_mem _ h1)
      · exact .inr h1

section
variable {P : Program} {T : Types} {nm : Nat} {I : Nat → Prop} {w : World} {β : Nat → Conc} {N : Nat → Prop} {a : Act} {st : St}

/-- The blocks of what is lent. -/
def Lent (β : Nat → Conc) (bs : List (Nat × Obj)) (b : Nat) : Prop := ∃ n sz xs, (n, Obj.frz sz xs) ∈ bs ∧ owned (.arr sz xs) (β n) = some b

theorem gather_sim (h : StOK I w β N a.tmps st) : ∀ {ks : List PK} {ss : List Slot} {vs : List Value} {g : Gathered}, gather st.obj ks ss = some g → All2 (SlotOK I w β) vs ss →
    (∀ x ∈ g.borrowed, ∃ sz xs, x.2 = .frz sz xs ∧ st.obj x.1 = some (.arr sz xs)) ∧
    (∀ x ∈ g.inouts, (x.1 = .iptr ∧ ∃ ds, st.obj x.2.1 = some (.var ds)) ∨ (x.1 = .islc ∧ ∃ xs, st.obj x.2.1 = some (.arr x.2.2 xs))) ∧
    ∀ J : Nat → Prop, (∀ b, I b → J b) → (∀ b, Lent β g.borrowed b → J b) → (∀ x ∈ g.inouts, ∀ o b, st.obj x.2.1 = some o → owned o (β x.2.1) = some b → ¬ J b) →
      ArgsOK J w ks vs g.args (g.inouts.map fun x => (x.1, β x.2.1, x.2.2))
  | [], [], _, g, hg, .nil => by
    simp only [gather, Option.some.injEq] at hg
    subst hg
    exact ⟨by simp, by simp, fun J _ _ _ => .nil⟩
  | [], _ :: _, _, g, hg, _ => by simp [gather] at hg
  | _ :: _, [], _, g, hg, _ => by simp [gather] at hg
  | k :: ks, s :: ss, _, g, hg, .cons (a := v) hv t => by
    simp only [gather] at hg
    split at hg
    · cases hg
    · rename_i g0 hg0
      obtain ⟨hb, hi, hrec⟩ := gather_sim h hg0 t
      split at hg
      · cases hg
        exact ⟨hb, hi, fun J h1 h2 h3 => .val (hv.inv_val.mono h1 (fun _ _ => rfl)) (hrec J h1 h2 h3)⟩
      · rename_i n
        have hvs := hv.inv_slc
        split at hg
        · rename_i sz xs ho
          cases hg
          refine ⟨?_, hi, fun J h1 h2 h3 => .val ?_ (hrec J h1 (fun b ⟨m, sz', xs', hm, hb'⟩ => h2 b ⟨m, sz', xs', List.mem_cons_of_mem _ hm, hb'⟩) h3)⟩
          · intro x hx
            simp only [List.mem_cons] at hx
            rcases hx with rfl | hx
            · exact ⟨_, _, rfl, ho⟩
            · exact hb x hx
          · have hok := h.obj n _ ho
            have hl : ∀ b, owned (.arr sz xs) (β n) = some b → J b := fun b hb' => h2 b ⟨n, sz, xs, List.mem_cons_self, hb'⟩
            rw [hvs]
            generalize β n = c at *
            cases hok with
            | emp => exact .nil
            | arr hv' => exact hv'.freeze h1 (hl _ rfl)
        · rename_i sz xs ho
          cases hg
          refine ⟨hb, hi, fun J h1 h2 h3 => .val ?_ (hrec J h1 h2 h3)⟩
          have hok := h.obj n _ ho
          rw [hvs]
          generalize β n = c at *
          cases hok with
          | frz hr _ => exact hr.mono h1 (fun _ _ => rfl)
        · cases hg
      · rename_i n
        split at hg
        · rename_i ds ho
          cases hg
          refine ⟨hb, ?_, fun J h1 h2 h3 => ?_⟩
          · intro x hx
            simp only [List.mem_cons] at hx
            rcases hx with rfl | hx
            · exact .inl ⟨rfl, _, ho⟩
            · exact hi x hx
          · obtain ⟨b, hbn, rfl⟩ := hv.inv_ptr
            have hok := h.obj n _ ho
            have hout := h3 _ List.mem_cons_self _ b ho (by rw [hbn]; rfl)
            rw [hbn] at hok
            cases hok with
            | var hr =>
              simp only [List.map_cons, hbn]
              exact .iptr (hr.mono h1 (fun _ _ => rfl) (Nat.le_refl _) rfl hout) (hrec J h1 h2 (fun x hx => h3 x (List.mem_cons_of_mem _ hx)))
        · cases hg
      · rename_i n
        have hvs := hv.inv_slc
        split at hg
        · rename_i sz xs ho
          cases hg
          refine ⟨hb, ?_, fun J h1 h2 h3 => ?_⟩
          · intro x hx
            simp only [List.mem_cons] at hx
            rcases hx with rfl | hx
            · exact .inr ⟨rfl, _, ho⟩
            · exact hi x hx
          · have hok := h.obj n _ ho
            have hok' : ObjOK J w (.arr sz xs) (β n) := hok.mono h1 (fun _ _ => rfl) (Nat.le_refl _) (fun b hb' => ⟨rfl, h3 _ List.mem_cons_self _ b ho hb'⟩)
            rw [hvs]
            simp only [List.map_cons]
            exact .islc hok' (hrec J h1 h2 (fun x hx => h3 x (List.mem_cons_of_mem _ hx)))
        · cases hg
      · cases hg

theorem StOK.congrI (h : StOK I w β N a.tmps st) {J : Nat → Prop} (hJ : ∀ b, I b ↔ J b) : StOK J w β N a.tmps st := by
  have : I = J := funext fun b => propext (hJ b)
  exact this ▸ h

/-- What is lent is given up. -/
theorem StOK.freezeAll (h : StOK I w β N a.tmps st) : ∀ {bs : List (Nat × Obj)}, (∀ x ∈ bs, ∃ sz xs, x.2 = .frz sz xs ∧ st.obj x.1 = some (.arr sz xs)) →
    StOK (fun b => I b ∨ Lent β bs b) w β N a.tmps { st with objs := bs ++ st.objs } ∧ Moves I w (Owns β st.objs) (fun b => I b ∨ Lent β bs b) w (Owns β (bs ++ st.objs)) ∧ Near st.obj (bs ++ st.objs)
  | [], _ => by
    refine ⟨h.congrI (fun b => ?_), ⟨rfl, rfl, rfl, Nat.le_refl _, fun _ _ _ => rfl, fun _ x => .inl x, ?_, fun _ x => .inl x⟩, Near.refl st⟩
    · simp [Lent]
    · intro b hb
      simp [Lent] at hb
      exact .inl hb
  | (n, o) :: r, hb => by
    obtain ⟨h1, m1, n1⟩ := StOK.freezeAll h (bs := r) (fun x hx => hb x (List.mem_cons_of_mem _ hx))
    obtain ⟨sz, xs, ho, hobj⟩ := hb _ List.mem_cons_self
    simp only at ho hobj
    subst ho
    have hnear := n1.arr (.inl hobj)
    have hd : owned (.frz sz xs) (β n) = none := by simp [owned]
    have key : ∀ o0, look (r ++ st.objs) n = some o0 → (o0 = .arr sz xs ∨ o0 = .frz sz xs) → (∀ b, (I b ∨ Lent β r b) ∨ owned o0 (β n) = some b ↔ I b ∨ Lent β ((n, .frz sz xs) :: r) b) →
        ObjOK (fun x => (I x ∨ Lent β r x) ∨ owned o0 (β n) = some x) w (.frz sz xs) (β n) →
        StOK (fun b => I b ∨ Lent β ((n, .frz sz xs) :: r) b) w β N a.tmps { st with objs := (n, .frz sz xs) :: r ++ st.objs } ∧
          Moves I w (Owns β st.objs) (fun b => I b ∨ Lent β ((n, .frz sz xs) :: r) b) w (Owns β ((n, .frz sz xs) :: r ++ st.objs)) ∧ Near st.obj ((n, .frz sz xs) :: r ++ st.objs) := by
      intro o0 hl _ hiff hok
      obtain ⟨k1, k2⟩ := h1.give hl hd hok
      refine ⟨k1.congrI hiff, ?_, n1.frz (.inl hobj)⟩
      have := m1.trans k2
      have e : (fun x => (I x ∨ Lent β r x) ∨ owned o0 (β n) = some x) = fun b => I b ∨ Lent β ((n, .frz sz xs) :: r) b := funext fun b => propext (hiff b)
      rw [← e]
      exact this
    rcases hnear with hl | hl
    · refine key _ hl (.inl rfl) (fun b => ?_) ?_
      · constructor
        · rintro ((hb' | ⟨m, s, y, hm, hy⟩) | hb')
          · exact .inl hb'
          · exact .inr ⟨m, s, y, List.mem_cons_of_mem _ hm, hy⟩
          · exact .inr ⟨n, sz, xs, List.mem_cons_self, hb'⟩
        · rintro (hb' | ⟨m, s, y, hm, hy⟩)
          · exact .inl (.inl hb')
          · simp only [List.mem_cons] at hm
            rcases hm with hm | hm
            · cases hm; exact .inr hy
            · exact .inl (.inr ⟨m, s, y, hm, hy⟩)
      · have hok := h1.obj n _ hl
        generalize β n = c at *
        cases hok with
        | emp => exact .frz .nil (fun _ _ _ _ e => by cases e)
        | arr hv => exact .frz (hv.freeze (fun _ x => .inl x) (.inr rfl)) (fun _ _ _ _ e => by cases e; rfl)
    · refine key _ hl (.inr rfl) (fun b => ?_) ?_
      · constructor
        · rintro ((hb' | ⟨m, s, y, hm, hy⟩) | hb')
          · exact .inl hb'
          · exact .inr ⟨m, s, y, List.mem_cons_of_mem _ hm, hy⟩
          · simp [owned] at hb'
        · rintro (hb' | ⟨m, s, y, hm, hy⟩)
          · exact .inl (.inl hb')
          · simp only [List.mem_cons] at hm
            rcases hm with hm | hm
            · cases hm
              -- the block is among those that are read alone already
              refine .inl ?_
              have hin : (n, Obj.frz sz xs) ∈ r := by
                rcases look_mem hl with h5 | h5
                · exact h5
                · rw [show look st.objs n = some (.arr sz xs) from hobj] at h5
                  cases h5
              exact .inr ⟨n, sz, xs, hin, hy⟩
            · exact .inl (.inr ⟨m, s, y, hm, hy⟩)
      · have hok := h1.obj n _ hl
        exact hok.mono (fun _ x => .inl x) (fun _ _ => rfl) (Nat.le_refl _) (fun b hb => by simp [owned] at hb)

end
end Evp
end Go
