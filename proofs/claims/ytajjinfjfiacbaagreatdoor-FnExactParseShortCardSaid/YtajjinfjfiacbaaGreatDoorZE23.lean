/- Code: branches, loops, a function's whole body. -/
import Derived.Test.YtajjinfjfiacbaaGreatDoorZE22
import Derived.LoopN
set_option linter.unusedSectionVars false
set_option linter.unusedVariables false
set_option linter.unusedSimpArgs false
set_option linter.unnecessarySimpa false
namespace Go
namespace Evp
variable [Globs]

/-! The head of a loop: what is kept. -/

inductive PE where
  | v
  | own (n : Nat)
  | var (n : Nat)
  | al (n off : Nat)

structure Pat where
  es : List (Nat × PE)
  nxt : Nat

structure NAcc where
  slots : List Slot
  objs : List (Nat × Obj)
  ren : List (Nat × Nat)      -- (from, to)

def NAcc.fresh (r : NAcc) (m n : Nat) : Bool := !(r.ren.map (·.1)).contains m && !(r.ren.map (·.2)).contains n

def normStep (st : St) (r : NAcc) (e : Nat × PE) : Option NAcc :=
  match e.2, st.slot e.1 with
  | .v, .val p => some { r with slots := r.slots.set e.1 (.val p) }
  | .v, .slc m =>
    match st.obj m with
    | some (.frz sz xs) => some { r with slots := r.slots.set e.1 (.val (.sl sz xs)) }
    | _ => none
  | .own n, .slc m =>
    match st.obj m with
    | some (.arr sz xs) => bif r.fresh m n then some { slots := r.slots.set e.1 (.slc n), objs := (n, .arr sz xs) :: r.objs, ren := (m, n) :: r.ren } else none
    | _ => none
  | .var n, .ptr m 0 =>
    match st.obj m with
    | some (.var cs) => bif r.fresh m n then some { slots := r.slots.set e.1 (.ptr n 0), objs := (n, .var cs) :: r.objs, ren := (m, n) :: r.ren } else none
    | some (.bx cs) => bif r.fresh m n then some { slots := r.slots.set e.1 (.ptr n 0), objs := (n, .bx cs) :: r.objs, ren := (m, n) :: r.ren } else none
    | _ => none
  | .al n off, .ptr m off' => bif (off == off') && r.ren.contains (m, n) then some { r with slots := r.slots.set e.1 (.ptr n off) } else none
  | .al n _, .slc m => bif r.ren.contains (m, n) then some { r with slots := r.slots.set e.1 (.slc n) } else none
  | _, _ => none

def normAll (st : St) : NAcc → List (Nat × PE) → Option NAcc
  | r, [] => some r
  | r, e :: es =>
    match normStep st r e with
    | none => none
    | some r' => normAll st r' es

def normE (io : List Nat) (pat : Pat) (st : St) : Option St :=
  match normAll st { slots := List.replicate st.slots.length .no, objs := [], ren := [] } pat.es with
  | none => none
  | some r => bif io.all (fun n => r.ren.contains (n, n)) && r.ren.all (fun x => Nat.blt x.2 pat.nxt) then some { slots := r.slots, objs := r.objs, nxt := pat.nxt } else none

inductive Ann where
  | z
  | s (p : Pat) (a b : Ann)
  | n (a b : Ann)
  | b (a : Ann)
  | l (p : Pat) (a : Ann)

inductive Ex where
  | norm (st : St)
  | exit (id : Nat) (st : St)
  | ret (st : St)

def loopD (body : St → Option Ex) (nrm : St → Option St) : Nat → St → Option Ex
  | 0, _ => none
  | n + 1, st =>
    match body st with
    | some (.norm st') =>
      match nrm st' with
      | some st2 => loopD body nrm n st2
      | none => none
    | r => r

section
variable (T : Types) (EQ : TypeId → Option (List ZK)) (C : Oracle) (S : Sigs) (io : List Nat) (FU : Nat)

def regionD (ops : Array Oper) (draw : Bool) (st : St) : Option St :=
  match (match draw with | true => drawE T EQ C S ops st.nxt ops.size 0 [] st | false => seqE T EQ C S ops st.nxt ops.size 0 st) with
  | none => none
  | some st' => some { st' with nxt := st.nxt + 16 * ops.size }

def condD (st : St) (c : Operand) : Option Bool :=
  match st.opnd T 0 c with
  | .val (.v (.bool b)) => some b
  | _ => none

def Ann.left : Ann → Ann
  | .s _ x _ => x
  | .n x _ => x
  | .b x => x
  | .l _ x => x
  | .z => .z
def Ann.right : Ann → Ann
  | .s _ _ y => y
  | .n _ y => y
  | _ => .z
def joinD (ann : Ann) (st : St) : Option St :=
  match ann with
  | .s p _ _ => normE io p st
  | _ => some st

def evD : Code → Ann → St → Option Ex
  | .skip, _, st => some (.norm st)
  | .region _ ops draw, _, st =>
    match regionD T EQ C S ops draw st with
    | none => none
    | some st' => some (.norm st')
  | .seq a b, ann, st =>
    match evD a ann.left st with
    | some (.norm st') =>
      match joinD io ann st' with
      | none => none
      | some st2 => evD b ann.right st2
    | r => r
  | .cond c x y, ann, st =>
    match condD T st c with
    | some true => evD x ann.left st
    | some false => evD y ann.right st
    | none => none
  | .block id c, ann, st =>
    match evD c ann.left st with
    | some (.exit id' st') => bif id' == id then some (.norm st') else some (.exit id' st')
    | r => r
  | .loop c, ann, st =>
    match ann with
    | .l p a =>
      match normE io p st with
      | none => none
      | some st1 => loopD (evD c a) (normE io p) FU st1
    | _ => none
  | .exit id, _, st => some (.exit id st)
  | .ret, _, st => some (.ret st)
  | _, _, _ => none
end

section
variable {P : Program} {T : Types} {EQ : TypeId → Option (List ZK)} {C : Oracle} {S : Sigs} {io : List Nat} {FU : Nat} {I0 : Nat → Prop} {w0 : World} {β0 : Nat → Conc} {Own0 : Nat → Prop}

/-! The head of a loop, sound -/

/-- Where an object of a new name was. -/
def src (ren : List (Nat × Nat)) (n : Nat) : Option Nat :=
  match ren.find? (fun x => x.2 == n) with
  | some x => some x.1
  | none => none

theorem src_cons {m n k : Nat} {ren : List (Nat × Nat)} : src ((m, n) :: ren) k = if n = k then some m else src ren k := by
  simp only [src, List.find?_cons]
  by_cases e : n = k
  · simp [e]
  · have : (n == k) = false := by simpa using e
    simp [e, this]

theorem src_mem {ren : List (Nat × Nat)} {n m : Nat} (h : src ren n = some m) : (m, n) ∈ ren := by
  induction ren with
  | nil => simp [src] at h
  | cons x r ih =>
    obtain ⟨a, b⟩ := x
    rw [src_cons] at h
    split at h
    · rename_i e; cases h; subst e; exact List.mem_cons_self
    · exact List.mem_cons_of_mem _ (ih h)

structure NInv (I : Nat → Prop) (w : World) (β : Nat → Conc) (tmps : Array Value) (st : St) (r : NAcc) : Prop where
  len : r.slots.length = st.slots.length
  slot : ∀ t, ∀ β' : Nat → Conc, (∀ m n, (m, n) ∈ r.ren → β' n = β m) → SlotOK I w β' (tmps.getD t undef) (r.slots.getD t .no)
  names : ∀ t, ∀ n ∈ (r.slots.getD t Slot.no).names, ∃ m, (m, n) ∈ r.ren
  objs : ∀ n o, look r.objs n = some o → ∃ m, (m, n) ∈ r.ren ∧ st.obj m = some o
  fst : (r.ren.map (·.1)).Nodup
  snd : (r.ren.map (·.2)).Nodup

theorem getD_list_set {l : List Slot} {d t : Nat} {s : Slot} : (l.set d s).getD t .no = if d = t ∧ d < l.length then s else l.getD t .no := by
  simp only [List.getD_eq_getElem?_getD, List.getElem?_set]
  by_cases h : d = t
  · subst h
    by_cases h2 : d < l.length
    · simp [h2]
    · simp [h2]
  · simp [h]

theorem NInv.step {I : Nat → Prop} {w : World} {β : Nat → Conc} {N : Nat → Prop} {tmps : Array Value} {st : St} (h : StOK I w β N tmps st) {r r' : NAcc} (hr : NInv I w β tmps st r) {e : Nat × PE} (hs : normStep st r e = some r') : NInv I w β tmps st r' := by
  obtain ⟨t, k⟩ := e
  -- a slot that names nothing new
  have plain : ∀ s : Slot, (∀ β' : Nat → Conc, (∀ m n, (m, n) ∈ r.ren → β' n = β m) → SlotOK I w β' (tmps.getD t undef) s) → (∀ n ∈ s.names, ∃ m, (m, n) ∈ r.ren) → NInv I w β tmps st { r with slots := r.slots.set t s } := by
    intro s h1 h2
    refine ⟨by simpa using hr.len, fun x β' hβ => ?_, fun x n hn => ?_, hr.objs, hr.fst, hr.snd⟩
    · rw [getD_list_set]
      split
      · rename_i c; rw [← c.1]; exact h1 β' hβ
      · exact hr.slot x β' hβ
    · rw [getD_list_set] at hn
      split at hn
      · exact h2 n hn
      · exact hr.names x n hn
  -- an object that goes along
  have take : ∀ (s : Slot) (m n : Nat) (o : Obj), r.fresh m n = true → st.obj m = some o → (∀ β' : Nat → Conc, β' n = β m → SlotOK I w β' (tmps.getD t undef) s) → s.names = [n] →
      NInv I w β tmps st { slots := r.slots.set t s, objs := (n, o) :: r.objs, ren := (m, n) :: r.ren } := by
    intro s m n o hf ho h1 h2
    simp only [NAcc.fresh, Bool.and_eq_true, Bool.not_eq_true'] at hf
    have hf1 : m ∉ r.ren.map (·.1) := fun x => by rw [← List.contains_iff_mem] at x; rw [x] at hf; cases hf.1
    have hf2 : n ∉ r.ren.map (·.2) := fun x => by rw [← List.contains_iff_mem] at x; rw [x] at hf; cases hf.2
    refine ⟨by simpa using hr.len, fun x β' hβ => ?_, fun x k hk => ?_, fun k o' hk => ?_, by simp only [List.map_cons, List.nodup_cons]; exact ⟨hf1, hr.fst⟩, by simp only [List.map_cons, List.nodup_cons]; exact ⟨hf2, hr.snd⟩⟩
    · rw [getD_list_set]
      split
      · rename_i c; rw [← c.1]; exact h1 β' (hβ m n List.mem_cons_self)
      · exact hr.slot x β' (fun a b hab => hβ a b (List.mem_cons_of_mem _ hab))
    · rw [getD_list_set] at hk
      split at hk
      · rw [h2] at hk
        simp only [List.mem_singleton] at hk
        subst hk
        exact ⟨m, List.mem_cons_self⟩
      · obtain ⟨a, ha⟩ := hr.names x k hk
        exact ⟨a, List.mem_cons_of_mem _ ha⟩
    · simp only at hk
      rw [look_cons] at hk
      split at hk
      · rename_i c
        simp only [Option.some.injEq] at hk
        subst hk; subst c
        exact ⟨m, List.mem_cons_self, ho⟩
      · obtain ⟨a, ha, ha2⟩ := hr.objs k o' hk
        exact ⟨a, List.mem_cons_of_mem _ ha, ha2⟩
  have hsl := h.slot t
  unfold normStep at hs
  split at hs
  · rename_i p hk he
    simp only at hk he
    rw [he] at hsl
    cases hs
    exact plain _ (fun β' _ => .val hsl.inv_val) (by simp [Slot.names])
  · rename_i m hk he
    simp only at hk he
    rw [he] at hsl
    split at hs
    · rename_i sz xs ho
      cases hs
      refine plain _ (fun β' _ => .val ?_) (by simp [Slot.names])
      rw [hsl.inv_slc]
      have hok := h.obj m _ ho
      generalize β m = c at *
      cases hok with
      | frz hr' _ => exact hr'
    · cases hs
  · rename_i n m hk he
    simp only at hk he
    rw [he] at hsl
    split at hs
    · rename_i sz xs ho
      cases hb : r.fresh m n with
      | false => rw [hb] at hs; simp at hs
      | true =>
        rw [hb] at hs
        cases hs
        exact take _ m n _ hb ho (fun β' hβ => .slc' (by rw [hβ]; exact hsl.inv_slc)) rfl
    · cases hs
  · rename_i n m hk he
    simp only at hk he
    rw [he] at hsl
    obtain ⟨b, hb1, hb2⟩ := hsl.inv_ptr
    split at hs
    · rename_i cs ho
      cases hb : r.fresh m n with
      | false => rw [hb] at hs; simp at hs
      | true =>
        rw [hb] at hs
        cases hs
        exact take _ m n _ hb ho (fun β' hβ => by rw [hb2]; exact .ptr (hβ.trans hb1)) rfl
    · rename_i cs ho
      cases hb : r.fresh m n with
      | false => rw [hb] at hs; simp at hs
      | true =>
        rw [hb] at hs
        cases hs
        exact take _ m n _ hb ho (fun β' hβ => by rw [hb2]; exact .ptr (hβ.trans hb1)) rfl
    · cases hs
  · rename_i n off m off' hk he
    simp only at hk he
    rw [he] at hsl
    obtain ⟨b, hb1, hb2⟩ := hsl.inv_ptr
    cases hb : (off == off') && r.ren.contains (m, n) with
    | false => rw [hb] at hs; simp at hs
    | true =>
      rw [hb] at hs
      cases hs
      simp only [Bool.and_eq_true, beq_iff_eq, List.contains_iff_mem] at hb
      obtain ⟨rfl, hmem⟩ := hb
      exact plain _ (fun β' hβ => by rw [hb2]; exact .ptr ((hβ m n hmem).trans hb1)) (fun k hk2 => by simp only [Slot.names, List.mem_singleton] at hk2; subst hk2; exact ⟨m, hmem⟩)
  · rename_i n off m hk he
    simp only at hk he
    rw [he] at hsl
    cases hb : r.ren.contains (m, n) with
    | false => rw [hb] at hs; simp at hs
    | true =>
      rw [hb] at hs
      cases hs
      rw [List.contains_iff_mem] at hb
      exact plain _ (fun β' hβ => .slc' (by rw [hβ m n hb]; exact hsl.inv_slc)) (fun k hk2 => by simp only [Slot.names, List.mem_singleton] at hk2; subst hk2; exact ⟨m, hb⟩)
  · cases hs

theorem NInv.all {I : Nat → Prop} {w : World} {β : Nat → Conc} {N : Nat → Prop} {tmps : Array Value} {st : St} (h : StOK I w β N tmps st) : ∀ {es : List (Nat × PE)} {r r' : NAcc}, NInv I w β tmps st r → normAll st r es = some r' → NInv I w β tmps st r'
  | [], r, r', hr, hs => by simp only [normAll, Option.some.injEq] at hs; subst hs; exact hr
  | e :: es, r, r', hr, hs => by
    simp only [normAll] at hs
    split at hs
    · cases hs
    · rename_i r1 h1
      exact NInv.all h (hr.step h h1) hs

theorem nodup_snd {ren : List (Nat × Nat)} (h : (ren.map (·.2)).Nodup) {m m' n : Nat} (h1 : (m, n) ∈ ren) (h2 : (m', n) ∈ ren) : m = m' := by
  induction ren with
  | nil => cases h1
  | cons x r ih =>
    simp only [List.map_cons, List.nodup_cons, List.mem_map, not_exists, not_and] at h
    simp only [List.mem_cons] at h1 h2
    rcases h1 with rfl | h1 <;> rcases h2 with h2 | h2
    · cases h2; rfl
    · exact absurd rfl (h.1 (m', n) h2)
    · subst h2; exact absurd rfl (h.1 (m, n) h1)
    · exact ih h.2 h1 h2

theorem nodup_fst {ren : List (Nat × Nat)} (h : (ren.map (·.1)).Nodup) {m n n' : Nat} (h1 : (m, n) ∈ ren) (h2 : (m, n') ∈ ren) : n = n' := by
  induction ren with
  | nil => cases h1
  | cons x r ih =>
    simp only [List.map_cons, List.nodup_cons, List.mem_map, not_exists, not_and] at h
    simp only [List.mem_cons] at h1 h2
    rcases h1 with rfl | h1 <;> rcases h2 with h2 | h2
    · cases h2; rfl
    · exact absurd rfl (h.1 (m, n') h2)
    · subst h2; exact absurd rfl (h.1 (m, n) h1)
    · exact ih h.2 h1 h2

theorem norm_sound {pat : Pat} {st st' : St} {a : Act} {w : World} (hn : normE io pat st = some st') (h : Good io I0 w0 β0 Own0 st a w) : Good io I0 w0 β0 Own0 st' a w := by
  obtain ⟨hd, I, β, N, h1, h2, h3, h4⟩ := h
  unfold normE at hn
  split at hn
  · cases hn
  · rename_i r hr
    cases hb : io.all (fun n => r.ren.contains (n, n)) && r.ren.all (fun x => Nat.blt x.2 pat.nxt) with
    | false => rw [hb] at hn; simp at hn
    | true =>
      rw [hb] at hn
      cases hn
      simp only [Bool.and_eq_true, List.all_eq_true, List.contains_iff_mem] at hb
      obtain ⟨hb1, hb2⟩ := hb
      have h0 : NInv I w β a.tmps st { slots := List.replicate st.slots.length .no, objs := [], ren := [] } := by
        have hno : ∀ t, (List.replicate st.slots.length Slot.no).getD t .no = .no := by
          intro t
          simp only [List.getD_eq_getElem?_getD, List.getElem?_replicate]
          split <;> rfl
        refine ⟨by simp, fun t β' _ => by rw [hno]; exact .no, fun t n hn => by rw [hno] at hn; simp [Slot.names] at hn, fun n o hn => by simp [look] at hn, by simp, by simp⟩
      have hi := NInv.all h1 h0 hr
      let β' : Nat → Conc := fun n => match src r.ren n with | some m => β m | none => .emp none
      have hβ : ∀ m n, (m, n) ∈ r.ren → β' n = β m := by
        intro m n hmn
        have : src r.ren n = some m := by
          cases hs : src r.ren n with
          | some m' => rw [nodup_snd hi.snd hmn (src_mem hs)]
          | none =>
            exfalso
            unfold src at hs
            split at hs
            · cases hs
            · rename_i hf
              rw [List.find?_eq_none] at hf
              exact hf _ hmn (by simp)
        simp only [β', this]
      refine ⟨hd, I, β', fun n => ∃ m, (m, n) ∈ r.ren, ⟨hi.len.trans h1.len, fun t => hi.slot t β' hβ, fun t n hn => hi.names t n hn, fun n o ho => ?_, fun n o ho => ?_, fun n m o o' b ho ho' hb hb' => ?_, h1.lt, h1.gl⟩, fun n ⟨m, hm⟩ => ?_, fun n hn => ⟨n, hb1 n hn⟩, ⟨⟨h4.moves.os, h4.moves.tape, h4.moves.output, h4.moves.size, h4.moves.block, h4.moves.more, h4.moves.fresh, ?_⟩, fun n hn => (hβ n n (hb1 n hn)).trans (h4.io n hn)⟩⟩
      · obtain ⟨m, hm, _⟩ := hi.objs n o ho
        exact ⟨m, hm⟩
      · obtain ⟨m, hm, hm2⟩ := hi.objs n o ho
        rw [hβ m n hm]
        exact h1.obj m o hm2
      · obtain ⟨x, hx, hx2⟩ := hi.objs n o ho
        obtain ⟨y, hy, hy2⟩ := hi.objs m o' ho'
        rw [hβ x n hx] at hb
        rw [hβ y m hy] at hb'
        have := h1.apart x y o o' b hx2 hy2 hb hb'
        subst this
        exact nodup_fst hi.fst hx hy
      · have := hb2 _ hm
        simpa using this
      · rintro b ⟨n, o, ho, hb⟩
        obtain ⟨m, hm, hm2⟩ := hi.objs n o ho
        rw [hβ m n hm] at hb
        exact h4.moves.own b ⟨m, o, hm2, hb⟩

/-! Code, sound -/

/-- How a piece of code ends. -/
def Post (io : List Nat) (I0 : Nat → Prop) (w0 : World) (β0 : Nat → Conc) (Own0 : Nat → Prop) (res : Ex) : Exit → Act → World → Prop
  | .normal, a, w => ∃ st, res = .norm st ∧ Good io I0 w0 β0 Own0 st a w
  | .exit id, a, w => ∃ st, res = .exit id st ∧ Good io I0 w0 β0 Own0 st a w
  | .ret, a, w => ∃ st, res = .ret st ∧ Good io I0 w0 β0 Own0 st a w
  | _, _, _ => False

theorem region_sound (X : Ctx P T EQ C S) {ops : Array Oper} {draw : Bool} {id : Nat} {st st' : St} {a : Act} {w : World} (hr : regionD T EQ C S ops draw st = some st') (h : Good io I0 w0 β0 Own0 st a w) :
    (Code.region id ops draw).wp P (Post io I0 w0 β0 Own0 (.norm st')) a w := by
  obtain ⟨hd, I, β, N, h1, h2, h3, h4⟩ := h
  unfold regionD at hr
  split at hr
  · cases hr
  · rename_i st1 hs
    cases hr
    have fin : ∀ a' w', GoodIn io I0 w0 β0 Own0 (fun m => m < st.nxt + 16 * ops.size) st1 a' w' → Post io I0 w0 β0 Own0 (.norm { st1 with nxt := st.nxt + 16 * ops.size }) .normal a' w' := by
      rintro a' w' ⟨g1, I', β', N', g2, g3, g4, g5⟩
      exact ⟨_, rfl, g1, I', β', N', g2.ext rfl (fun _ => rfl) (fun _ => rfl), g3, g4, g5⟩
    cases draw with
    | false =>
      simp only at hs
      refine wp_region ?_
      rw [List.range_eq_range']
      exact seq_wp X (io := io) (I0 := I0) (w0 := w0) (β0 := β0) (Own0 := Own0) ops.size 0 hs (by simp) ⟨hd, I, β, N, h1, fun n hn => by have := h2 n hn; omega, h3, h4⟩ (fun a' w' g => fin a' w' (by simpa using g))
    | true =>
      simp only at hs
      obtain ⟨sts, os, sl, us, ft, tr, e0, en⟩ := trace_of hs
      refine wp_region_any X.mixed ?_
      refine draw_wp X tr (fun a' w' g => fin a' w' (by rw [← en]; exact g)) ops.size _ st a _ (by simp) ?_ ?_ ?_ (by rw [e0]) ?_ ?_
      · have : ∀ n, cnt (fun j => !(Array.replicate ops.size false).getD j false) n ≤ n := by
          intro n
          induction n with
          | zero => exact Nat.le_refl _
          | succ n ih => simp only [cnt]; split <;> omega
        exact this _
      · intro i hi hl
        simp [Array.getD] at hl
      · refine ⟨hd, I, β, N, h1.heap rfl, fun n hn => .inl (h2 n hn), h3, ⟨h4.moves.trans (Moves.heap rfl rfl rfl rfl), h4.io⟩⟩
      · intro t
        have : lastW (fun j => (Array.replicate ops.size false).getD j false && (os j).dst == some t) ops.size = none := by
          have : ∀ n, lastW (fun j => (Array.replicate ops.size false).getD j false && (os j).dst == some t) n = none := by
            intro n
            induction n with
            | zero => rfl
            | succ n ih =>
              simp only [lastW, ih]
              simp [Array.getD]
          exact this _
        rw [this, e0]
      · intro m
        have : lastW (fun j => (Array.replicate ops.size false).getD j false && ((us j).map (·.1)).contains m) ops.size = none := by
          have : ∀ n, lastW (fun j => (Array.replicate ops.size false).getD j false && ((us j).map (·.1)).contains m) n = none := by
            intro n
            induction n with
            | zero => rfl
            | succ n ih =>
              simp only [lastW, ih]
              simp [Array.getD]
          exact this _
        rw [this, e0]

theorem loop_sound {c : Code} {body : St → Option Ex} {nrm : St → Option St}
    (hb : ∀ st res a w, body st = some res → Good io I0 w0 β0 Own0 st a w → c.wp P (Post io I0 w0 β0 Own0 res) a w)
    (hn : ∀ st st' a w, nrm st = some st' → Good io I0 w0 β0 Own0 st a w → Good io I0 w0 β0 Own0 st' a w) :
    ∀ (n : Nat) {st : St} {res : Ex} {a : Act} {w : World}, loopD body nrm n st = some res → Good io I0 w0 β0 Own0 st a w → Code.rounds P c (Post io I0 w0 β0 Own0 res) n a w
  | 0, st, res, a, w, h, _ => by simp [loopD] at h
  | n + 1, st, res, a, w, h, hg => by
    rw [rounds_succ]
    simp only [loopD] at h
    split at h
    · rename_i st1 h1
      split at h
      · rename_i st2 h2
        refine wp_mono (hb st _ a w h1 hg) (fun e a' w' hp => ?_)
        cases e with
        | normal =>
          obtain ⟨x, hx, hg'⟩ := hp
          cases hx
          exact loop_sound hb hn n h (hn _ _ _ _ h2 hg')
        | exit id => obtain ⟨x, hx, _⟩ := hp; cases hx
        | ret => obtain ⟨x, hx, _⟩ := hp; cases hx
        | _ => exact hp
      · cases h
    · rename_i hne
      refine wp_mono (hb st _ a w h hg) (fun e a' w' hp => ?_)
      cases e with
      | normal =>
        obtain ⟨x, hx, hg'⟩ := hp
        subst hx
        exact absurd h (hne x)
      | exit id => exact hp
      | ret => exact hp
      | _ => exact hp

theorem code_sound (X : Ctx P T EQ C S) : ∀ (c : Code) (ann : Ann) (st : St) (res : Ex) (a : Act) (w : World), evD T EQ C S io FU c ann st = some res → Good io I0 w0 β0 Own0 st a w →
    c.wp P (Post io I0 w0 β0 Own0 res) a w := by
  intro c
  induction c with
  | skip =>
    intro ann st res a w h hg
    simp only [evD, Option.some.injEq] at h
    subst h
    exact wp_skip ⟨st, rfl, hg⟩
  | region id ops draw =>
    intro ann st res a w h hg
    simp only [evD] at h
    split at h
    · cases h
    · rename_i st' hr
      cases h
      exact region_sound X hr hg
  | seq x y ihx ihy =>
    intro ann st res a w h hg
    simp only [evD] at h
    refine wp_seq ?_
    split at h
    · rename_i st1 h1
      split at h
      · cases h
      · rename_i st2 h2
        refine wp_mono (ihx _ _ _ a w h1 hg) (fun e a' w' hp => ?_)
        cases e with
        | normal =>
          obtain ⟨z, hz, hg'⟩ := hp
          cases hz
          refine ihy _ _ _ a' w' h ?_
          unfold joinD at h2
          split at h2
          · exact norm_sound h2 hg'
          · cases h2; exact hg'
        | exit id => obtain ⟨z, hz, _⟩ := hp; cases hz
        | ret => obtain ⟨z, hz, _⟩ := hp; cases hz
        | _ => exact hp
    · rename_i hne
      refine wp_mono (ihx _ _ _ a w h hg) (fun e a' w' hp => ?_)
      cases e with
      | normal =>
        obtain ⟨z, hz, hg'⟩ := hp
        subst hz
        exact absurd h (hne z)
      | exit id => exact hp
      | ret => exact hp
      | _ => exact hp
  | cond o x y ihx ihy =>
    intro ann st res a w h hg
    simp only [evD] at h
    have hc : ∀ b, condD T st o = some b → a.eval o = .bool b := by
      intro b hb
      obtain ⟨_, I, β, N, h1, _⟩ := hg
      have h2 := opnd_ok (T := T) h1 0 o
      unfold condD at hb
      split at hb
      · rename_i b' he
        cases hb
        rw [he] at h2
        exact h2.inv_val.isv
      · cases hb
    split at h
    · rename_i hb
      exact wp_cond_true (hc _ hb) (ihx _ _ _ a w h hg)
    · rename_i hb
      exact wp_cond_false (hc _ hb) (ihy _ _ _ a w h hg)
    · cases h
  | block id x ih =>
    intro ann st res a w h hg
    simp only [evD] at h
    refine wp_block ?_
    split at h
    · rename_i id' st1 h1
      refine wp_mono (ih _ _ _ a w h1 hg) (fun e a' w' hp => ?_)
      cases e with
      | exit id2 =>
        obtain ⟨z, hz, hg'⟩ := hp
        cases hz
        simp only [Exit.inBlock]
        cases hb : id' == id with
        | true =>
          rw [hb] at h
          cases h
          rw [if_pos (by simpa using hb)]
          exact ⟨_, rfl, hg'⟩
        | false =>
          rw [hb] at h
          cases h
          rw [if_neg (by simpa using hb)]
          exact ⟨_, rfl, hg'⟩
      | normal => obtain ⟨z, hz, _⟩ := hp; cases hz
      | ret => obtain ⟨z, hz, _⟩ := hp; cases hz
      | _ => exact hp
    · rename_i hne
      refine wp_mono (ih _ _ _ a w h hg) (fun e a' w' hp => ?_)
      cases e with
      | exit id2 =>
        obtain ⟨z, hz, _⟩ := hp
        subst hz
        exact absurd h (hne _ _)
      | normal => exact hp
      | ret => exact hp
      | _ => exact hp
  | loop x ih =>
    intro ann st res a w h hg
    simp only [evD] at h
    split at h
    · rename_i p an
      split at h
      · cases h
      · rename_i st1 h1
        exact wp_loop_rounds FU (loop_sound (fun st' res' a' w' hb hg' => ih an st' res' a' w' hb hg') (fun st' st'' a' w' hn hg' => norm_sound hn hg') FU h (norm_sound h1 hg))
    · cases h
  | exit id =>
    intro ann st res a w h hg
    simp only [evD, Option.some.injEq] at h
    subst h
    exact wp_exit ⟨st, rfl, hg⟩
  | ret =>
    intro ann st res a w h hg
    simp only [evD, Option.some.injEq] at h
    subst h
    exact wp_ret ⟨st, rfl, hg⟩
  | _ =>
    intro ann st res a w h hg
    simp [evD] at h

end
end Evp
end Go
