/- How a state follows the memory: objects given up, made, changed. -/
import Derived.Test.YtajjinfjfiacbaaGreatDoorZE3
set_option linter.unusedSectionVars false
set_option linter.unusedVariables false
set_option linter.unusedSimpArgs false
set_option linter.unnecessarySimpa false
namespace Go
namespace Evp
variable [Globs]

theorem look_cons {m n : Nat} {o : Obj} {r : List (Nat × Obj)} : look ((m, o) :: r) n = if m = n then some o else look r n := by
  simp only [look]
  by_cases h : m = n
  · simp [h]
  · rw [if_neg h, show (m == n) = false by simpa using h]; rfl

section
variable {I : Nat → Prop} {w : World} {β : Nat → Conc} {N : Nat → Prop} {tmps : Array Value} {st : St}

theorem StOK.upd (h : StOK I w β N tmps st) {I' : Nat → Prop} {w' : World} {β' : Nat → Conc} {N' : Nat → Prop} {objs : List (Nat × Obj)}
    (hI : ∀ b, I b → I' b) (hw : ∀ b, I b → w'.heap[b]? = w.heap[b]?) (hlt : ∀ b, I' b → b < w'.heap.size) (hβ : ∀ n, N n → β' n = β n) (hN : ∀ n, N n → N' n)
    (hobjN : ∀ n o, look objs n = some o → N' n) (hobj : ∀ n o, look objs n = some o → ObjOK I' w' o (β' n))
    (hap : ∀ n m o o' b, look objs n = some o → look objs m = some o' → owned o (β' n) = some b → owned o' (β' m) = some b → n = m) :
    StOK I' w' β' N' tmps { st with objs := objs } where
  len := h.len
  slot t := (h.slot t).mono hI hw (fun n hn => hβ n (h.slotN t n hn))
  slotN t n hn := hN n (h.slotN t n hn)
  objN := hobjN
  obj := hobj
  apart := hap
  lt := hlt
  gl := h.gl.mono hI hw

theorem getD_set {xs : Array Value} {d : Nat} {v u : Value} (t : Nat) : (xs.setIfInBounds d v).getD t u = if d = t ∧ d < xs.size then v else xs.getD t u := by
  simp only [Array.getD_eq_getD_getElem?, Array.getElem?_setIfInBounds]
  by_cases h : d = t
  · subst h
    by_cases h2 : d < xs.size
    · simp [h2]
    · simp [h2]
  · simp [h]

theorem slot_set {st : St} {d t : Nat} {s : Slot} {o : List (Nat × Obj)} : ({ st with slots := st.slots.set d s, objs := o } : St).slot t = if d = t ∧ d < st.slots.length then s else st.slot t := by
  simp only [St.slot, List.getD_eq_getElem?_getD, List.getElem?_set]
  by_cases h : d = t
  · subst h
    by_cases h2 : d < st.slots.length
    · simp [h2]
    · simp [h2]
  · simp [h]

theorem StOK.put (h : StOK I w β N tmps st) {v : Value} {s : Slot} (hs : SlotOK I w β v s) (hn : ∀ n ∈ s.names, N n) (dst : Option Nat) :
    StOK I w β N (Act.put { tmps, defers := [] } dst v).tmps (st.put dst s []) := by
  cases dst with
  | none => simpa [St.put, Act.put] using h
  | some d =>
    simp only [St.put, Act.put, List.nil_append]
    refine ⟨by simp [h.len], fun t => ?_, fun t n hn' => ?_, h.objN, h.obj, h.apart, h.lt, h.gl⟩
    · rw [getD_set, slot_set, h.len]
      split
      · exact hs
      · exact h.slot t
    · rw [slot_set] at hn'
      split at hn'
      · exact hn n hn'
      · exact h.slotN t n hn'

/-- An object gives up its block, which is read alone from now on. -/
theorem StOK.give (h : StOK I w β N tmps st) {n : Nat} {o0 o1 : Obj} (ho : st.obj n = some o0) (hd : owned o1 (β n) = none)
    (hok : ObjOK (fun x => I x ∨ owned o0 (β n) = some x) w o1 (β n)) :
    StOK (fun x => I x ∨ owned o0 (β n) = some x) w β N tmps { st with objs := (n, o1) :: st.objs } ∧
      Moves I w (Owns β st.objs) (fun x => I x ∨ owned o0 (β n) = some x) w (Owns β ((n, o1) :: st.objs)) := by
  have hI : ∀ b, I b → (I b ∨ owned o0 (β n) = some b) := fun _ x => .inl x
  have hown : ∀ b, Owns β ((n, o1) :: st.objs) b → Owns β st.objs b := by
    rintro b ⟨m, o, h1, h2⟩
    rw [look_cons] at h1
    split at h1
    · rename_i e
      simp only [Option.some.injEq] at h1
      subst h1; subst e
      rw [hd] at h2; cases h2
    · exact ⟨m, o, h1, h2⟩
  refine ⟨h.upd hI (fun _ _ => rfl) (fun b hb => ?_) (fun _ _ => rfl) (fun _ x => x) (fun m o hm => ?_) (fun m o hm => ?_) ?_, ?_⟩
  · rcases hb with h1 | h1
    · exact h.lt b h1
    · exact ((h.obj n _ ho).owned_lt h1).1
  · rw [look_cons] at hm
    split at hm
    · rename_i e; exact e ▸ h.objN _ _ ho
    · exact h.objN _ _ hm
  · rw [look_cons] at hm
    split at hm
    · rename_i e
      simp only [Option.some.injEq] at hm
      subst hm; subst e
      exact hok
    · rename_i e
      refine (h.obj m o hm).mono hI (fun _ _ => rfl) (Nat.le_refl _) (fun b hb => ⟨rfl, fun hI' => ?_⟩)
      rcases hI' with h1 | h1
      · exact ((h.obj m o hm).owned_lt hb).2 h1
      · exact e (h.apart _ _ _ _ b ho hm h1 hb)
  · intro n1 n2 o1' o2' b h1 h2 h3 h4
    rw [look_cons] at h1 h2
    split at h1
    · rename_i e; simp only [Option.some.injEq] at h1; subst h1; subst e; rw [hd] at h3; cases h3
    · split at h2
      · rename_i e; simp only [Option.some.injEq] at h2; subst h2; subst e; rw [hd] at h4; cases h4
      · exact h.apart _ _ _ _ b h1 h2 h3 h4
  · exact ⟨rfl, rfl, rfl, Nat.le_refl _, fun _ _ _ => rfl, hI, fun b hb => hb.elim .inl (fun e => .inr (.inl ⟨n, o0, ho, e⟩)), fun b hb => .inl (hown b hb)⟩

/-- An own slice is given up to be read alone. -/
theorem StOK.freeze (h : StOK I w β N tmps st) {n sz : Nat} {xs : List PV} (ho : st.obj n = some (.arr sz xs) ∨ st.obj n = some (.frz sz xs)) :
    ∃ I', StOK I' w β N tmps { st with objs := (n, .frz sz xs) :: st.objs } ∧ Moves I w (Owns β st.objs) I' w (Owns β ((n, .frz sz xs) :: st.objs)) ∧
      Rep I' w (β n).val (.sl sz xs) := by
  have hd : owned (.frz sz xs) (β n) = none := by simp [owned]
  rcases ho with ho | ho
  · have hk := h.obj n _ ho
    have hr : Rep (fun x => I x ∨ owned (.arr sz xs) (β n) = some x) w (β n).val (.sl sz xs) ∧ ∀ b len cap sz', β n = .arr b len cap sz' → sz' = sz := by
      generalize β n = c at *
      cases hk with
      | emp => exact ⟨.nil, fun _ _ _ _ e => by cases e⟩
      | arr hv => exact ⟨hv.freeze (fun _ x => .inl x) (.inr rfl), fun _ _ _ _ e => by cases e; rfl⟩
    obtain ⟨hr, hs⟩ := hr
    exact ⟨_, (h.give ho hd (.frz hr hs)).1, (h.give ho hd (.frz hr hs)).2, hr⟩
  · have hk := h.obj n _ ho
    have hr : Rep I w (β n).val (.sl sz xs) ∧ ∀ b len cap sz', β n = .arr b len cap sz' → sz' = sz := by
      generalize β n = c at *
      cases hk with
      | frz hr hs => exact ⟨hr, hs⟩
    obtain ⟨hr, hs⟩ := hr
    have hr' : Rep (fun x => I x ∨ owned (.frz sz xs) (β n) = some x) w (β n).val (.sl sz xs) := hr.mono (fun _ x => .inl x) (fun _ _ => rfl)
    exact ⟨_, (h.give ho hd (.frz hr' hs)).1, (h.give ho hd (.frz hr' hs)).2, hr'⟩

/-- A variable is given up to be read alone. -/
theorem StOK.fixvar (h : StOK I w β N tmps st) {n : Nat} {cs : List PV} (ho : st.obj n = some (.var cs) ∨ st.obj n = some (.bx cs)) :
    ∃ I', StOK I' w β N tmps { st with objs := (n, .bx cs) :: st.objs } ∧ Moves I w (Owns β st.objs) I' w (Owns β ((n, .bx cs) :: st.objs)) ∧
      Rep I' w (β n).val (.box cs 0) := by
  have hd : owned (.bx cs) (β n) = none := by simp [owned]
  rcases ho with ho | ho
  · have hk := h.obj n _ ho
    have hr : Rep (fun x => I x ∨ owned (.var cs) (β n) = some x) w (β n).val (.box cs 0) ∧ ∃ b, β n = .blk b := by
      generalize β n = c at *
      cases hk with
      | var hv => exact ⟨hv.freeze (fun _ x => .inl x) (.inr rfl), _, rfl⟩
    obtain ⟨hr, b, hb⟩ := hr
    have hok : ObjOK (fun x => I x ∨ owned (.var cs) (β n) = some x) w (.bx cs) (β n) := by
      generalize β n = c at *
      subst hb
      exact .bx hr
    exact ⟨_, (h.give ho hd hok).1, (h.give ho hd hok).2, hr⟩
  · have hk := h.obj n _ ho
    have hr : Rep I w (β n).val (.box cs 0) := by
      generalize β n = c at *
      cases hk with
      | bx hr => exact hr
    have hr' : Rep (fun x => I x ∨ owned (.bx cs) (β n) = some x) w (β n).val (.box cs 0) := hr.mono (fun _ x => .inl x) (fun _ _ => rfl)
    have hok : ObjOK (fun x => I x ∨ owned (.bx cs) (β n) = some x) w (.bx cs) (β n) := hk.mono (fun _ x => .inl x) (fun _ _ => rfl) (Nat.le_refl _) (fun b hb => by simp [owned] at hb)
    exact ⟨_, (h.give ho hd hok).1, (h.give ho hd hok).2, hr'⟩

/-- What an operation was told of the objects, while some of them are given up. -/
def Near (L : Look) (objs : List (Nat × Obj)) : Prop := ∀ n o, L n = some o →
  look objs n = some o ∨ (∃ sz xs, o = .arr sz xs ∧ look objs n = some (.frz sz xs)) ∨ (∃ cs, o = .var cs ∧ look objs n = some (.bx cs))

theorem Near.refl (st : St) : Near st.obj st.objs := fun _ _ h => .inl h

theorem Near.frz {L : Look} {objs : List (Nat × Obj)} (h : Near L objs) {n sz : Nat} {xs : List PV} (hn : L n = some (.arr sz xs) ∨ L n = some (.frz sz xs)) :
    Near L ((n, .frz sz xs) :: objs) := by
  intro m o hm
  rw [look_cons]
  split
  · rename_i e
    subst e
    rcases hn with hn | hn
    · rw [hn] at hm; cases hm; exact .inr (.inl ⟨_, _, rfl, rfl⟩)
    · rw [hn] at hm; cases hm; exact .inl rfl
  · exact h m o hm

theorem Near.bx {L : Look} {objs : List (Nat × Obj)} (h : Near L objs) {n : Nat} {cs : List PV} (hn : L n = some (.var cs) ∨ L n = some (.bx cs)) :
    Near L ((n, .bx cs) :: objs) := by
  intro m o hm
  rw [look_cons]
  split
  · rename_i e
    subst e
    rcases hn with hn | hn
    · rw [hn] at hm; cases hm; exact .inr (.inr ⟨_, rfl, rfl⟩)
    · rw [hn] at hm; cases hm; exact .inl rfl
  · exact h m o hm

theorem Near.arr {L : Look} {objs : List (Nat × Obj)} (h : Near L objs) {n sz : Nat} {xs : List PV} (hn : L n = some (.arr sz xs) ∨ L n = some (.frz sz xs)) :
    look objs n = some (.arr sz xs) ∨ look objs n = some (.frz sz xs) := by
  rcases hn with hn | hn <;> rcases h n _ hn with h1 | ⟨_, _, h1, h2⟩ | ⟨_, h1, _⟩
  · exact .inl h1
  · cases h1; exact .inr h2
  · cases h1
  · exact .inr h1
  · cases h1
  · cases h1

theorem Near.var {L : Look} {objs : List (Nat × Obj)} (h : Near L objs) {n : Nat} {cs : List PV} (hn : L n = some (.var cs) ∨ L n = some (.bx cs)) :
    look objs n = some (.var cs) ∨ look objs n = some (.bx cs) := by
  rcases hn with hn | hn <;> rcases h n _ hn with h1 | ⟨_, _, h1, h2⟩ | ⟨_, h1, h2⟩
  · exact .inl h1
  · cases h1
  · cases h1; exact .inr h2
  · exact .inr h1
  · cases h1
  · cases h1

theorem keep_sim (h : StOK I w β N tmps st) {L : Look} (hL : Near L st.objs) {v : Value} {s : Slot} (hs : SlotOK I w β v s) {p : PV} {ups : Ups}
    (hk : keepPV L s = some (p, ups)) : ∃ I', StOK I' w β N tmps { st with objs := ups ++ st.objs } ∧ Moves I w (Owns β st.objs) I' w (Owns β (ups ++ st.objs)) ∧
      Rep I' w v p ∧ Near L (ups ++ st.objs) := by
  cases hs with
  | val hr =>
    simp only [keepPV, Option.some.injEq, Prod.mk.injEq] at hk
    obtain ⟨rfl, rfl⟩ := hk
    exact ⟨I, h, .refl _ _ _, hr, hL⟩
  | slc =>
    rename_i n
    simp only [keepPV] at hk
    split at hk
    · rename_i sz xs ho
      simp only [Option.some.injEq, Prod.mk.injEq] at hk
      obtain ⟨rfl, rfl⟩ := hk
      obtain ⟨I', h1, h2, h3⟩ := h.freeze (hL.arr (.inl ho))
      exact ⟨I', h1, h2, h3, hL.frz (.inl ho)⟩
    · rename_i sz xs ho
      simp only [Option.some.injEq, Prod.mk.injEq] at hk
      obtain ⟨rfl, rfl⟩ := hk
      have hk := (hL.arr (.inr ho))
      have ho2 : look st.objs n = some (.frz sz xs) := by
        rcases hL n _ ho with h1 | ⟨_, _, h1, _⟩ | ⟨_, h1, _⟩
        · exact h1
        · cases h1
        · cases h1
      have hok := h.obj n _ ho2
      have hr : Rep I w (β n).val (.sl sz xs) := by
        generalize β n = c at *
        cases hok with
        | frz hr => exact hr
      exact ⟨I, h, .refl _ _ _, hr, hL⟩
    · cases hk
  | _ => simp [keepPV] at hk

theorem cap_sim (h : StOK I w β N tmps st) {L : Look} (hL : Near L st.objs) {v : Value} {s : Slot} (hs : SlotOK I w β v s) {p : PV} {ups : Ups}
    (hk : capPV L s = some (p, ups)) : ∃ I', StOK I' w β N tmps { st with objs := ups ++ st.objs } ∧ Moves I w (Owns β st.objs) I' w (Owns β (ups ++ st.objs)) ∧
      Rep I' w v p ∧ Near L (ups ++ st.objs) := by
  cases hs with
  | val hr =>
    simp only [capPV, Option.some.injEq, Prod.mk.injEq] at hk
    obtain ⟨rfl, rfl⟩ := hk
    exact ⟨I, h, .refl _ _ _, hr, hL⟩
  | ptr hb =>
    rename_i n off b
    have hoff : off = 0 := by
      cases off with
      | zero => rfl
      | succ k => simp [capPV] at hk
    subst hoff
    have hv : (β n).val = .pointer (some ⟨b, 0, none⟩) := by rw [hb]; rfl
    simp only [capPV] at hk
    split at hk
    · rename_i cs ho
      simp only [Option.some.injEq, Prod.mk.injEq] at hk
      obtain ⟨rfl, rfl⟩ := hk
      obtain ⟨I', h1, h2, h3⟩ := h.fixvar (hL.var (.inl ho))
      exact ⟨I', h1, h2, hv ▸ h3, hL.bx (.inl ho)⟩
    · rename_i cs ho
      simp only [Option.some.injEq, Prod.mk.injEq] at hk
      obtain ⟨rfl, rfl⟩ := hk
      have ho2 : look st.objs n = some (.bx cs) := by
        rcases hL n _ ho with h1 | ⟨_, _, h1, _⟩ | ⟨_, h1, _⟩
        · exact h1
        · cases h1
        · cases h1
      have hok := h.obj n _ ho2
      have hr : Rep I w (β n).val (.box cs 0) := by
        generalize β n = c at *
        cases hok with
        | bx hr => exact hr
      exact ⟨I, h, .refl _ _ _, hv ▸ hr, hL⟩
    · cases hk
  | _ => simp [capPV] at hk

/-- Two lists, place by place. -/
inductive All2 {α β : Type} (R : α → β → Prop) : List α → List β → Prop
  | nil : All2 R [] []
  | cons {a b as bs} (h : R a b) (t : All2 R as bs) : All2 R (a :: as) (b :: bs)

theorem All2.imp {α β : Type} {R S : α → β → Prop} (hRS : ∀ a b, R a b → S a b) {as : List α} {bs : List β} (h : All2 R as bs) : All2 S as bs := by
  induction h with
  | nil => exact .nil
  | cons h _ ih => exact .cons (hRS _ _ h) ih

theorem All2.length {α β : Type} {R : α → β → Prop} {as : List α} {bs : List β} (h : All2 R as bs) : as.length = bs.length := by
  induction h with
  | nil => rfl
  | cons _ _ ih => simp [ih]

theorem All2.get {α β : Type} {R : α → β → Prop} {as : List α} {bs : List β} (h : All2 R as bs) : ∀ i (h1 : i < as.length) (h2 : i < bs.length), R as[i] bs[i] := by
  induction h with
  | nil => intro i h1; simp at h1
  | cons h _ ih =>
    intro i h1 h2
    cases i with
    | zero => exact h
    | succ i => exact ih i (by simpa using h1) (by simpa using h2)

theorem keepAll_sim {L : Look} : ∀ {ss : List Slot} {vs : List Value} {ps : List PV} {ups : Ups}, All2 (SlotOK I w β) vs ss → StOK I w β N tmps st → Near L st.objs →
    keepAll L ss = some (ps, ups) → ∃ I', StOK I' w β N tmps { st with objs := ups ++ st.objs } ∧ Moves I w (Owns β st.objs) I' w (Owns β (ups ++ st.objs)) ∧
      All2 (Rep I' w) vs ps ∧ Near L (ups ++ st.objs)
  | [], _, ps, ups, hs, h, hL, hk => by
    cases hs
    simp only [keepAll, Option.some.injEq, Prod.mk.injEq] at hk
    obtain ⟨rfl, rfl⟩ := hk
    exact ⟨I, h, .refl _ _ _, .nil, hL⟩
  | s :: r, _, ps, ups, hs, h, hL, hk => by
    cases hs with
    | cons hv hr =>
      simp only [keepAll] at hk
      split at hk
      · cases hk
      · rename_i p u hp
        split at hk
        · cases hk
        · rename_i qs us hq
          simp only [Option.some.injEq, Prod.mk.injEq] at hk
          obtain ⟨rfl, rfl⟩ := hk
          obtain ⟨I1, h1, m1, r1, n1⟩ := keepAll_sim hr h hL hq
          obtain ⟨I2, h2, m2, r2, n2⟩ := keep_sim h1 n1 (hv.mono m1.more (fun _ _ => rfl) (fun _ _ => rfl)) hp
          refine ⟨I2, by simpa using h2, by simpa using m1.trans m2, .cons r2 (r1.imp fun a b x => x.mono m2.more (fun _ _ => rfl)), by simpa using n2⟩

theorem capAll_sim {L : Look} : ∀ {ss : List Slot} {vs : List Value} {ps : List PV} {ups : Ups}, All2 (SlotOK I w β) vs ss → StOK I w β N tmps st → Near L st.objs →
    capAll L ss = some (ps, ups) → ∃ I', StOK I' w β N tmps { st with objs := ups ++ st.objs } ∧ Moves I w (Owns β st.objs) I' w (Owns β (ups ++ st.objs)) ∧
      All2 (Rep I' w) vs ps ∧ Near L (ups ++ st.objs)
  | [], _, ps, ups, hs, h, hL, hk => by
    cases hs
    simp only [capAll, Option.some.injEq, Prod.mk.injEq] at hk
    obtain ⟨rfl, rfl⟩ := hk
    exact ⟨I, h, .refl _ _ _, .nil, hL⟩
  | s :: r, _, ps, ups, hs, h, hL, hk => by
    cases hs with
    | cons hv hr =>
      simp only [capAll] at hk
      split at hk
      · cases hk
      · rename_i p u hp
        split at hk
        · cases hk
        · rename_i qs us hq
          simp only [Option.some.injEq, Prod.mk.injEq] at hk
          obtain ⟨rfl, rfl⟩ := hk
          obtain ⟨I1, h1, m1, r1, n1⟩ := capAll_sim hr h hL hq
          obtain ⟨I2, h2, m2, r2, n2⟩ := cap_sim h1 n1 (hv.mono m1.more (fun _ _ => rfl) (fun _ _ => rfl)) hp
          refine ⟨I2, by simpa using h2, by simpa using m1.trans m2, .cons r2 (r1.imp fun a b x => x.mono m2.more (fun _ _ => rfl)), by simpa using n2⟩

/-- A new block is an object of the name nm. -/
theorem StOK.make (h : StOK I w β N tmps st) {nm : Nat} (hn : ¬ N nm) {o : Obj} {c : Conc} {x : Go.Obj} (hown : owned o c = some w.heap.size) (hok : ObjOK I (w.alloc x) o c) :
    StOK I (w.alloc x) (fun m => if m = nm then c else β m) (fun m => N m ∨ m = nm) tmps { st with objs := (nm, o) :: st.objs } ∧
      Moves I w (Owns β st.objs) I (w.alloc x) (Owns (fun m => if m = nm then c else β m) ((nm, o) :: st.objs)) := by
  have hheap : ∀ b, b < w.heap.size → (w.alloc x).heap[b]? = w.heap[b]? := fun b hb => by
    simp only [World.alloc, Array.getElem?_push]
    rw [if_neg (by omega)]
  have hβ : ∀ m, N m → (if m = nm then c else β m) = β m := fun m hm => by rw [if_neg]; rintro rfl; exact hn hm
  refine ⟨h.upd (fun _ x => x) (fun b hb => hheap b (h.lt b hb)) (fun b hb => ?_) hβ (fun _ x => .inl x) (fun m o' hm => ?_) (fun m o' hm => ?_) ?_, ?_⟩
  · have := h.lt b hb; simp only [World.size_alloc]; omega
  · rw [look_cons] at hm
    split at hm
    · rename_i e; exact .inr e.symm
    · exact .inl (h.objN _ _ hm)
  · rw [look_cons] at hm
    split at hm
    · rename_i e
      simp only [Option.some.injEq] at hm
      subst hm; subst e
      simpa using hok
    · rename_i e
      simp only [hβ m (h.objN _ _ hm)]
      exact (h.obj m o' hm).mono (fun _ x => x) (fun b hb => hheap b (h.lt b hb)) (by simp) (fun b hb => ⟨hheap b ((h.obj m o' hm).owned_lt hb).1, ((h.obj m o' hm).owned_lt hb).2⟩)
  · intro n1 n2 o1 o2 b h1 h2 h3 h4
    rw [look_cons] at h1 h2
    by_cases e1 : nm = n1 <;> by_cases e2 : nm = n2
    · exact e1.symm.trans e2
    · rw [if_pos e1] at h1; rw [if_neg e2] at h2
      simp only [Option.some.injEq] at h1; subst h1; subst e1
      rw [if_pos rfl, hown] at h3; rw [hβ n2 (h.objN _ _ h2)] at h4
      simp only [Option.some.injEq] at h3; subst h3
      exact absurd ((h.obj n2 _ h2).owned_lt h4).1 (by omega)
    · rw [if_neg e1] at h1; rw [if_pos e2] at h2
      simp only [Option.some.injEq] at h2; subst h2; subst e2
      rw [if_pos rfl, hown] at h4; rw [hβ n1 (h.objN _ _ h1)] at h3
      simp only [Option.some.injEq] at h4; subst h4
      exact absurd ((h.obj n1 _ h1).owned_lt h3).1 (by omega)
    · rw [if_neg e1] at h1; rw [if_neg e2] at h2
      rw [hβ n1 (h.objN _ _ h1)] at h3; rw [hβ n2 (h.objN _ _ h2)] at h4
      exact h.apart _ _ _ _ b h1 h2 h3 h4
  · refine ⟨rfl, rfl, rfl, by simp, fun b hb _ => hheap b hb, fun _ x => x, fun _ x => .inl x, ?_⟩
    rintro b ⟨m, o', h1, h2⟩
    rw [look_cons] at h1
    simp only [] at h2
    split at h1
    · rename_i e
      simp only [Option.some.injEq] at h1
      subst h1; subst e
      rw [if_pos rfl, hown] at h2
      simp only [Option.some.injEq] at h2
      exact .inr (by omega)
    · rw [hβ m (h.objN _ _ h1)] at h2
      exact .inl ⟨m, o', h1, h2⟩

/-- An object without a block. -/
theorem StOK.name (h : StOK I w β N tmps st) {nm : Nat} (hn : ¬ N nm) {o : Obj} {c : Conc} (hown : owned o c = none) (hok : ObjOK I w o c) :
    StOK I w (fun m => if m = nm then c else β m) (fun m => N m ∨ m = nm) tmps { st with objs := (nm, o) :: st.objs } ∧
      Moves I w (Owns β st.objs) I w (Owns (fun m => if m = nm then c else β m) ((nm, o) :: st.objs)) := by
  have hβ : ∀ m, N m → (if m = nm then c else β m) = β m := fun m hm => by rw [if_neg]; rintro rfl; exact hn hm
  refine ⟨h.upd (fun _ x => x) (fun _ _ => rfl) h.lt hβ (fun _ x => .inl x) (fun m o' hm => ?_) (fun m o' hm => ?_) ?_, ?_⟩
  · rw [look_cons] at hm
    split at hm
    · rename_i e; exact .inr e.symm
    · exact .inl (h.objN _ _ hm)
  · rw [look_cons] at hm
    split at hm
    · rename_i e
      simp only [Option.some.injEq] at hm
      subst hm; subst e
      simpa using hok
    · simp only [hβ m (h.objN _ _ hm)]
      exact h.obj m o' hm
  · intro n1 n2 o1 o2 b h1 h2 h3 h4
    rw [look_cons] at h1 h2
    split at h1
    · rename_i e; simp only [Option.some.injEq] at h1; subst h1; subst e; rw [if_pos rfl, hown] at h3; cases h3
    · split at h2
      · rename_i e; simp only [Option.some.injEq] at h2; subst h2; subst e; rw [if_pos rfl, hown] at h4; cases h4
      · rw [hβ n1 (h.objN _ _ h1)] at h3; rw [hβ n2 (h.objN _ _ h2)] at h4
        exact h.apart _ _ _ _ b h1 h2 h3 h4
  · refine ⟨rfl, rfl, rfl, Nat.le_refl _, fun _ _ _ => rfl, fun _ x => x, fun _ x => .inl x, ?_⟩
    rintro b ⟨m, o', h1, h2⟩
    rw [look_cons] at h1
    simp only [] at h2
    split at h1
    · rename_i e; simp only [Option.some.injEq] at h1; subst h1; subst e; rw [if_pos rfl, hown] at h2; cases h2
    · rw [hβ m (h.objN _ _ h1)] at h2
      exact .inl ⟨m, o', h1, h2⟩

/-- An object's block is written. -/
theorem StOK.write (h : StOK I w β N tmps st) {n b : Nat} {o0 o1 : Obj} {x : Go.Obj} (ho : st.obj n = some o0) (hb : owned o0 (β n) = some b) (hd : owned o1 (β n) = some b)
    (hok : ObjOK I (setBlock w b x) o1 (β n)) :
    StOK I (setBlock w b x) β N tmps { st with objs := (n, o1) :: st.objs } ∧
      Moves I w (Owns β st.objs) I (setBlock w b x) (Owns β ((n, o1) :: st.objs)) := by
  have hout : ¬ I b := ((h.obj n _ ho).owned_lt hb).2
  have hI : ∀ c, I c → (setBlock w b x).heap[c]? = w.heap[c]? := fun c hc => setBlock_other (by rintro rfl; exact hout hc)
  refine ⟨h.upd (fun _ x => x) hI (fun c hc => by rw [setBlock_size]; exact h.lt c hc) (fun _ _ => rfl) (fun _ x => x) (fun m o hm => ?_) (fun m o hm => ?_) ?_, ?_⟩
  · rw [look_cons] at hm
    split at hm
    · rename_i e; exact e ▸ h.objN _ _ ho
    · exact h.objN _ _ hm
  · rw [look_cons] at hm
    split at hm
    · rename_i e
      simp only [Option.some.injEq] at hm
      subst hm; subst e
      exact hok
    · rename_i e
      refine (h.obj m o hm).mono (fun _ x => x) hI (by rw [setBlock_size]; exact Nat.le_refl _) (fun c hc => ⟨setBlock_other ?_, ((h.obj m o hm).owned_lt hc).2⟩)
      rintro rfl
      exact e (h.apart _ _ _ _ c ho hm hb hc)
  · intro n1 n2 o1' o2' c h1 h2 h3 h4
    rw [look_cons] at h1 h2
    by_cases e1 : n = n1 <;> by_cases e2 : n = n2
    · exact e1.symm.trans e2
    · rw [if_pos e1] at h1; rw [if_neg e2] at h2
      simp only [Option.some.injEq] at h1; subst h1; subst e1
      rw [hd] at h3; simp only [Option.some.injEq] at h3; subst h3
      exact h.apart _ _ _ _ b ho h2 hb h4
    · rw [if_neg e1] at h1; rw [if_pos e2] at h2
      simp only [Option.some.injEq] at h2; subst h2; subst e2
      rw [hd] at h4; simp only [Option.some.injEq] at h4; subst h4
      exact h.apart _ _ _ _ b h1 ho h3 hb
    · rw [if_neg e1] at h1; rw [if_neg e2] at h2
      exact h.apart _ _ _ _ c h1 h2 h3 h4
  · refine ⟨rfl, rfl, rfl, by rw [setBlock_size]; exact Nat.le_refl _, fun c _ hc => setBlock_other ?_, fun _ x => x, fun _ x => .inl x, ?_⟩
    · rintro rfl; exact hc ⟨n, o0, ho, hb⟩
    · rintro c ⟨m, o', h1, h2⟩
      rw [look_cons] at h1
      split at h1
      · rename_i e; simp only [Option.some.injEq] at h1; subst h1; subst e
        rw [hd] at h2; simp only [Option.some.injEq] at h2; subst h2
        exact .inl ⟨n, o0, ho, hb⟩
      · exact .inl ⟨m, o', h1, h2⟩

end
end Evp
end Go
