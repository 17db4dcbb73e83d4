/- Calls: the state behind a call. -/
import Derived.Test.YtajjinfjfiacbaaGreatDoorZE16
set_option linter.unusedSectionVars false
set_option linter.unusedVariables false
set_option linter.unusedSimpArgs false
set_option linter.unnecessarySimpa false
namespace Go
namespace Evp
variable [Globs]

section
variable {P : Program} {T : Types} {nm : Nat} {I : Nat → Prop} {w : World} {β : Nat → Conc} {N : Nat → Prop} {a : Act} {st : St}

theorem back_look {J : Nat → Prop} {w' : World} {objs : List (Nat × Obj)} {m : Nat} {o : Obj} : ∀ {io : List (PK × Nat × Nat)} {ps : List PV}, BackOK J w' (io.map fun x => (x.1, β x.2.1, x.2.2)) ps →
    look (backUps io ps ++ objs) m = some o → (∃ x ∈ io, x.2.1 = m ∧ ObjOK J w' o (β m) ∧ owned o (β m) = ownedOf (β m)) ∨ ((∀ x ∈ io, x.2.1 ≠ m) ∧ look objs m = some o)
  | [], ps, hb, hl => by
    cases hb
    exact .inr ⟨by simp, by simpa [backUps] using hl⟩
  | (k, n, sz) :: r, ps, hb, hl => by
    simp only [List.map_cons] at hb
    have hrec : ∀ qs, BackOK J w' (r.map fun x => (x.1, β x.2.1, x.2.2)) qs → ¬ n = m → look (backUps r qs ++ objs) m = some o →
        (∃ x ∈ (k, n, sz) :: r, x.2.1 = m ∧ ObjOK J w' o (β m) ∧ owned o (β m) = ownedOf (β m)) ∨ ((∀ x ∈ (k, n, sz) :: r, x.2.1 ≠ m) ∧ look objs m = some o) := by
      intro qs hq hne hl'
      rcases back_look hq hl' with ⟨x, hx, h1⟩ | ⟨h1, h2⟩
      · exact .inl ⟨x, List.mem_cons_of_mem _ hx, h1⟩
      · refine .inr ⟨fun x hx => ?_, h2⟩
        simp only [List.mem_cons] at hx
        rcases hx with rfl | hx
        · exact hne
        · exact h1 x hx
    generalize hc : β n = c at hb
    cases hb with
    | iptr h t =>
      rename_i b ds qs
      simp only [backUps, List.headD_cons, List.tail_cons, List.cons_append] at hl
      rw [look_cons] at hl
      split at hl
      · rename_i e
        subst e
        simp only [Option.some.injEq] at hl
        subst hl
        refine .inl ⟨_, List.mem_cons_self, rfl, ?_, ?_⟩
        · rw [hc]; exact .var h
        · rw [hc]; rfl
      · rename_i e
        exact hrec _ t e hl
    | islc h t =>
      rename_i xs qs
      simp only [backUps, List.headD_cons, List.tail_cons, List.cons_append] at hl
      rw [look_cons] at hl
      split at hl
      · rename_i e
        subst e
        simp only [Option.some.injEq] at hl
        subst hl
        refine .inl ⟨_, List.mem_cons_self, rfl, ?_, ?_⟩
        · rw [hc]; exact h
        · rw [hc]; cases h <;> rfl
      · rename_i e
        exact hrec _ t e hl

/-- The changed arguments' objects. -/
def IoOK (β : Nat → Conc) (objs : List (Nat × Obj)) (io : List (PK × Nat × Nat)) : Prop :=
  ∀ x ∈ io, ∃ o, look objs x.2.1 = some o ∧ owned o (β x.2.1) = ownedOf (β x.2.1)

theorem StOK.settle (h : StOK I w β N a.tmps st) {J : Nat → Prop} {w' : World} {io : List (PK × Nat × Nat)} {ps : List PV} (hio : IoOK β st.objs io)
    (hI : ∀ b, I b → J b) (hnew : ∀ b, J b → I b ∨ w.heap.size ≤ b) (hlt : ∀ b, J b → b < w'.heap.size) (hsize : w.heap.size ≤ w'.heap.size)
    (hblk : ∀ b, b < w.heap.size → ¬ InOwn (io.map fun x => (x.1, β x.2.1, x.2.2)) b → w'.heap[b]? = w.heap[b]?) (hb : BackOK J w' (io.map fun x => (x.1, β x.2.1, x.2.2)) ps) :
    StOK J w' β N a.tmps { st with objs := backUps io ps ++ st.objs } := by
  have hin : ∀ b, InOwn (io.map fun x => (x.1, β x.2.1, x.2.2)) b → ∃ x ∈ io, ∃ o, look st.objs x.2.1 = some o ∧ owned o (β x.2.1) = some b := by
    rintro b ⟨y, hy, e⟩
    simp only [List.mem_map] at hy
    obtain ⟨x, hx, rfl⟩ := hy
    obtain ⟨o, ho, hown⟩ := hio x hx
    exact ⟨x, hx, o, ho, by rw [hown]; exact e⟩
  have hIb : ∀ b, I b → w'.heap[b]? = w.heap[b]? := by
    intro b hb'
    refine hblk b (h.lt b hb') (fun hb2 => ?_)
    obtain ⟨x, _, o, ho, hown⟩ := hin b hb2
    exact ((h.obj _ _ ho).owned_lt hown).2 hb'
  refine h.upd hI hIb hlt (fun _ _ => rfl) (fun _ x => x) (fun m o hm => ?_) (fun m o hm => ?_) ?_
  · rcases back_look hb hm with ⟨x, hx, rfl, _⟩ | ⟨_, h1⟩
    · obtain ⟨o', ho', _⟩ := hio x hx
      exact h.objN _ _ ho'
    · exact h.objN _ _ h1
  · rcases back_look hb hm with ⟨x, hx, rfl, h1, _⟩ | ⟨h1, h2⟩
    · exact h1
    · refine (h.obj m o h2).mono hI hIb hsize (fun b hb' => ?_)
      have hb2 := (h.obj m o h2).owned_lt hb'
      refine ⟨hblk b hb2.1 (fun hb3 => ?_), fun hJ => ?_⟩
      · obtain ⟨x, hx, o', ho', hown⟩ := hin b hb3
        exact h1 x hx (h.apart _ _ _ _ b ho' h2 hown hb')
      · rcases hnew b hJ with h3 | h3
        · exact hb2.2 h3
        · omega
  · intro n m o o' b h1 h2 h3 h4
    have key : ∀ n o, look (backUps io ps ++ st.objs) n = some o → owned o (β n) = some b → ∃ o', look st.objs n = some o' ∧ owned o' (β n) = some b := by
      intro n o hn ho
      rcases back_look hb hn with ⟨x, hx, rfl, _, h5⟩ | ⟨_, h5⟩
      · obtain ⟨o', ho', hown⟩ := hio x hx
        exact ⟨o', ho', by rw [hown, ← h5]; exact ho⟩
      · exact ⟨o, h5, ho⟩
    obtain ⟨p, hp1, hp2⟩ := key n o h1 h3
    obtain ⟨q, hq1, hq2⟩ := key m o' h2 h4
    exact h.apart _ _ _ _ b hp1 hq1 hp2 hq2

theorem settle_owns {J : Nat → Prop} {w' : World} {io : List (PK × Nat × Nat)} {ps : List PV} (hio : IoOK β st.objs io) (hb : BackOK J w' (io.map fun x => (x.1, β x.2.1, x.2.2)) ps) :
    ∀ b, Owns β (backUps io ps ++ st.objs) b → Owns β st.objs b := by
  rintro b ⟨m, o, h1, h2⟩
  rcases back_look hb h1 with ⟨x, hx, rfl, _, h5⟩ | ⟨_, h5⟩
  · obtain ⟨o', ho', hown⟩ := hio x hx
    exact ⟨_, o', ho', by rw [hown, ← h5]; exact h2⟩
  · exact ⟨m, o, h5, h2⟩

/-- A result that is handed over gets a name. -/
theorem StOK.adopt (h : StOK I w β N a.tmps st) (hn : ¬ N nm) {sz : Nat} {xs : List PV} {c : Conc} (hok : ObjOK I w (.arr sz xs) c) (hfree : ∀ b, ownedOf c = some b → ¬ Owns β st.objs b) :
    StOK I w (fun m => if m = nm then c else β m) (fun m => N m ∨ m = nm) a.tmps { st with objs := (nm, .arr sz xs) :: st.objs } ∧
      (∀ b, Owns (fun m => if m = nm then c else β m) ((nm, .arr sz xs) :: st.objs) b → Owns β st.objs b ∨ ownedOf c = some b) := by
  have hβ : ∀ m, N m → (if m = nm then c else β m) = β m := fun m hm => by rw [if_neg]; rintro rfl; exact hn hm
  have hoc : owned (.arr sz xs) c = ownedOf c := by cases hok <;> rfl
  refine ⟨h.upd (fun _ x => x) (fun _ _ => rfl) h.lt hβ (fun _ x => .inl x) (fun m o' hm => ?_) (fun m o' hm => ?_) ?_, ?_⟩
  · rw [look_cons] at hm
    split at hm
    · rename_i e; exact .inr e.symm
    · exact .inl (h.objN _ _ hm)
  · rw [look_cons] at hm
    split at hm
    · rename_i e
      simp only [Option.some.injEq] at hm
      subst hm; subst e
      simpa using hok
    · simp only [hβ m (h.objN _ _ hm)]
      exact h.obj m o' hm
  · intro n1 n2 o1 o2 b h1 h2 h3 h4
    rw [look_cons] at h1 h2
    by_cases e1 : nm = n1 <;> by_cases e2 : nm = n2
    · exact e1.symm.trans e2
    · rw [if_pos e1] at h1; rw [if_neg e2] at h2
      simp only [Option.some.injEq] at h1; subst h1; subst e1
      rw [if_pos rfl, hoc] at h3; rw [hβ n2 (h.objN _ _ h2)] at h4
      exact absurd ⟨n2, o2, h2, h4⟩ (hfree b h3)
    · rw [if_neg e1] at h1; rw [if_pos e2] at h2
      simp only [Option.some.injEq] at h2; subst h2; subst e2
      rw [if_pos rfl, hoc] at h4; rw [hβ n1 (h.objN _ _ h1)] at h3
      exact absurd ⟨n1, o1, h1, h3⟩ (hfree b h4)
    · rw [if_neg e1] at h1; rw [if_neg e2] at h2
      rw [hβ n1 (h.objN _ _ h1)] at h3; rw [hβ n2 (h.objN _ _ h2)] at h4
      exact h.apart _ _ _ _ b h1 h2 h3 h4
  · rintro b ⟨m, o', h1, h2⟩
    rw [look_cons] at h1
    simp only [] at h2
    split at h1
    · rename_i e; simp only [Option.some.injEq] at h1; subst h1; subst e; rw [if_pos rfl, hoc] at h2; exact .inr h2
    · rw [hβ m (h.objN _ _ h1)] at h2
      exact .inl ⟨m, o', h1, h2⟩

/-- The results' slots. -/
inductive SlotsOK (I : Nat → Prop) (w : World) (β : Nat → Conc) : List Value → List (PV ⊕ Nat) → Prop
  | nil : SlotsOK I w β [] []
  | inl {v p vs ss} (h : Rep I w v p) (t : SlotsOK I w β vs ss) : SlotsOK I w β (v :: vs) (.inl p :: ss)
  | inr {v n vs ss} (h : v = (β n).val) (t : SlotsOK I w β vs ss) : SlotsOK I w β (v :: vs) (.inr n :: ss)

theorem SlotsOK.mono {β' : Nat → Conc} {vs : List Value} {ss : List (PV ⊕ Nat)} (h : SlotsOK I w β vs ss) (hβ : ∀ n, .inr n ∈ ss → β' n = β n) : SlotsOK I w β' vs ss := by
  induction h with
  | nil => exact .nil
  | inl h _ ih => exact .inl h (ih (fun n hn => hβ n (List.mem_cons_of_mem _ hn)))
  | inr h _ ih => exact .inr (by rw [hβ _ List.mem_cons_self]; exact h) (ih (fun n hn => hβ n (List.mem_cons_of_mem _ hn)))

/-- All results that are handed over get their names. -/
theorem StOK.adoptAll {B : Nat} : ∀ {ks : List RK} {vs : List Value} {ps : List PV} {bs : List Nat} (_ : ResOK I w B ks vs ps bs) {j : Nat} {β : Nat → Conc} {N : Nat → Prop} {st : St} (_ : StOK I w β N a.tmps st)
    (_ : ∀ n, nm + j ≤ n → n < nm + j + ks.length → ¬ N n) (_ : ∀ b, Owns β st.objs b → b < B),
    ∃ β' N', StOK I w β' N' a.tmps { st with objs := (resSlots nm ks ps j).2 ++ st.objs } ∧ SlotsOK I w β' vs (resSlots nm ks ps j).1 ∧ (∀ n, N n → N' n) ∧ (∀ n, N' n → N n ∨ (nm + j ≤ n ∧ n < nm + j + ks.length)) ∧
      (∀ n, N n → β' n = β n) ∧ (∀ n, .inr n ∈ (resSlots nm ks ps j).1 → N' n) ∧ (∀ b, Owns β' ((resSlots nm ks ps j).2 ++ st.objs) b → Owns β st.objs b ∨ b ∈ bs)
  | _, _, _, _, .nil, j, β, N, st, h, hf, hB => ⟨β, N, by simpa [resSlots] using h, .nil, fun _ x => x, fun _ x => .inl x, fun _ _ => rfl, by simp [resSlots], by simp [resSlots]⟩
  | _, _, _, _, .flat (ks := ks) hr _ t, j, β, N, st, h, hf, hB => by
    obtain ⟨β', N', g1, g2, g3, g4, g5, g6, g7⟩ := StOK.adoptAll t (j := j + 1) h (fun n hn hn2 => hf n (by omega) (by simp only [List.length_cons]; omega)) hB
    simp only [resSlots, List.headD_cons, List.tail_cons]
    refine ⟨β', N', g1, .inl hr g2, g3, fun n hn => ?_, g5, fun n hn => ?_, g7⟩
    · rcases g4 n hn with h1 | h1
      · exact .inl h1
      · exact .inr (by simp only [List.length_cons]; omega)
    · simp only [List.mem_cons] at hn
      rcases hn with hn | hn
      · cases hn
      · exact g6 n hn
  | _, _, _, _, .val (ks := ks) hr t, j, β, N, st, h, hf, hB => by
    obtain ⟨β', N', g1, g2, g3, g4, g5, g6, g7⟩ := StOK.adoptAll t (j := j + 1) h (fun n hn hn2 => hf n (by omega) (by simp only [List.length_cons]; omega)) hB
    simp only [resSlots, List.headD_cons, List.tail_cons]
    refine ⟨β', N', g1, .inl hr g2, g3, fun n hn => ?_, g5, fun n hn => ?_, g7⟩
    · rcases g4 n hn with h1 | h1
      · exact .inl h1
      · exact .inr (by simp only [List.length_cons]; omega)
    · simp only [List.mem_cons] at hn
      rcases hn with hn | hn
      · cases hn
      · exact g6 n hn
  | _, _, _, _, .own (c := c) (sz := sz) (xs := xs) (ks := ks) (bs := bs) hok hfl hb t, j, β, N, st, h, hf, hB => by
    obtain ⟨β', N', g1, g2, g3, g4, g5, g6, g7⟩ := StOK.adoptAll t (j := j + 1) h (fun n hn hn2 => hf n (by omega) (by simp only [List.length_cons]; omega)) hB
    simp only [resSlots, List.headD_cons, List.tail_cons, PV.slSz, PV.slXs]
    have hn0 : ¬ N' (nm + j) := by
      intro hn
      rcases g4 _ hn with h1 | h1
      · exact hf _ (Nat.le_refl _) (by simp only [List.length_cons]; omega) h1
      · omega
    obtain ⟨k1, k2⟩ := g1.adopt (nm := nm + j) hn0 hok (fun b hb1 hb2 => by
      rcases g7 b hb2 with h1 | h1
      · have := hB b h1; have := (hb b hb1).1; omega
      · exact (hb b hb1).2 h1)
    refine ⟨_, _, k1, .inr (by simp) (g2.mono (fun n hn => ?_)), fun n hn => .inl (g3 n hn), fun n hn => ?_, fun n hn => ?_, fun n hn => ?_, fun b hb1 => ?_⟩
    · show (if n = nm + j then c else β' n) = β' n
      rw [if_neg]
      rintro rfl
      exact hn0 (g6 _ hn)
    · rcases hn with hn | rfl
      · rcases g4 n hn with h1 | h1
        · exact .inl h1
        · exact .inr (by simp only [List.length_cons]; omega)
      · exact .inr (by simp only [List.length_cons]; omega)
    · show (if n = nm + j then c else β' n) = β n
      rw [if_neg]
      · exact g5 n hn
      · rintro rfl
        exact hf _ (Nat.le_refl _) (by simp only [List.length_cons]; omega) hn
    · simp only [List.mem_cons, Sum.inr.injEq] at hn
      rcases hn with rfl | hn
      · exact .inr rfl
      · exact .inl (g6 n hn)
    · rcases k2 b hb1 with h1 | h1
      · rcases g7 b h1 with h2 | h2
        · exact .inl h2
        · exact .inr (by simp [h2])
      · exact .inr (by simp [h1])

end
end Evp
end Go
