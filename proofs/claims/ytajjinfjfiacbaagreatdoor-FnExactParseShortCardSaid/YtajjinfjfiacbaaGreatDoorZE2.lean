/- What the evaluator's values, slots and objects mean in the model's memory. -/
import Derived.Test.YtajjinfjfiacbaaGreatDoorZE1
set_option linter.unusedSectionVars false
set_option linter.unusedVariables false
set_option linter.unusedSimpArgs false
set_option linter.unnecessarySimpa false
namespace Go
namespace Evp

def plainV : Value → Bool
  | .agg _ => false
  | .tuple _ => false
  | _ => true

def PV.single : PV → Bool
  | .agg _ => false
  | _ => true

/-- In world w the value reads as p; what is read lies in blocks of I. -/
inductive Rep (I : Nat → Prop) (w : World) : Value → PV → Prop
  | v {x : Value} (h : plainV x = true) : Rep I w x (.v x)
  | agg {vs : Array Value} {cs : List PV} (hs : vs.size = cs.length) (hn : ∀ i (h : i < cs.length), cs[i].single = true)
      (h : ∀ i (h1 : i < vs.size) (h2 : i < cs.length), Rep I w vs[i] cs[i]) : Rep I w (.agg vs) (.agg cs)
  | nil {a : Option Addr} {cap sz : Nat} : Rep I w (.slice a 0 cap) (.sl sz [])
  | sl {b off len cap sz : Nat} {xs : List PV} (vs : Nat → Nat → Value) (hl : xs.length = len) (hc : len ≤ cap) (hI : xs ≠ [] → I b)
      (hz : ∀ i (h : i < xs.length), xs[i].cells.length = sz)
      (hn : ∀ i (h : i < xs.length) j (h2 : j < xs[i].cells.length), (xs[i].cells[j]).single = true)
      (hv : ∀ i j, i < xs.length → j < sz → w.cell? ⟨b, off + i * sz + j, none⟩ = some (vs i j))
      (hr : ∀ i j (h : i < xs.length) (h2 : j < xs[i].cells.length), Rep I w (vs i j) (xs[i].cells[j])) :
      Rep I w (.slice (some ⟨b, off, none⟩) len cap) (.sl sz xs)
  | fn {f : FuncId} {first caps : Array Value} {ps qs : List PV} (h1 : first.size = ps.length) (h2 : caps.size = qs.length)
      (hp : ∀ i (h1 : i < first.size) (h2 : i < ps.length), Rep I w first[i] ps[i])
      (hq : ∀ i (h1 : i < caps.size) (h2 : i < qs.length), Rep I w caps[i] qs[i]) : Rep I w (.func (.func f) first caps) (.fn f ps qs)
  | box {b off o : Nat} {cs : List PV} (vs : Nat → Value) (hI : cs ≠ [] → I b) (hn : ∀ i (h : i < cs.length), cs[i].single = true)
      (hv : ∀ j, j < cs.length → w.cell? ⟨b, off + j, none⟩ = some (vs j))
      (hr : ∀ j (h : j < cs.length), Rep I w (vs j) cs[j]) : Rep I w (.pointer (some ⟨b, off + o, none⟩)) (.box cs o)

theorem cell_of_block {w w' : World} {b : Nat} (h : w'.heap[b]? = w.heap[b]?) (o : Nat) : w'.cell? ⟨b, o, none⟩ = w.cell? ⟨b, o, none⟩ := by
  simp only [World.cell?, h]

theorem Rep.mono {I I' : Nat → Prop} {w w' : World} (hI : ∀ b, I b → I' b) (hw : ∀ b, I b → w'.heap[b]? = w.heap[b]?) {v : Value} {p : PV}
    (h : Rep I w v p) : Rep I' w' v p := by
  induction h with
  | v h => exact .v h
  | agg hs hn _ ih => exact .agg hs hn ih
  | nil => exact .nil
  | sl vs hl hc hIb hz hn hv _ ih =>
    refine .sl vs hl hc (fun h => hI _ (hIb h)) hz hn (fun i j h1 h2 => ?_) ih
    rw [cell_of_block (hw _ (hIb (by intro e; rw [e] at h1; simp at h1)))]
    exact hv i j h1 h2
  | fn h1 h2 _ _ ih1 ih2 => exact .fn h1 h2 ih1 ih2
  | box vs hIb hn hv _ ih =>
    refine .box vs (fun h => hI _ (hIb h)) hn (fun j hj => ?_) ih
    rw [cell_of_block (hw _ (hIb (by intro e; rw [e] at hj; simp at hj)))]
    exact hv j hj

/-- A value's cells read as those of its reading. -/
theorem Rep.cells {I : Nat → Prop} {w : World} {v : Value} {p : PV} (h : Rep I w v p) :
    v.cells.size = p.cells.length ∧ (∀ i (h1 : i < v.cells.size) (h2 : i < p.cells.length), Rep I w v.cells[i] p.cells[i]) ∧
      ∀ i (h : i < p.cells.length), (p.cells[i]).single = true := by
  cases h with
  | agg hs hn h => exact ⟨hs, h, hn⟩
  | v h =>
    have hc : v.cells = #[v] := by cases v <;> first | rfl | (simp [plainV] at h)
    have hp : (PV.v v).cells = [.v v] := rfl
    refine ⟨by rw [hc]; rfl, ?_, ?_⟩
    · intro i h1 h2
      have h0 : i = 0 := by rw [hp] at h2; simpa using h2
      subst h0
      simp only [hc, hp]
      exact .v h
    · intro i h2
      have h0 : i = 0 := by rw [hp] at h2; simpa using h2
      subst h0
      rfl
  | nil =>
    refine ⟨rfl, ?_, ?_⟩
    · intro i h1 h2
      have h0 : i = 0 := by simpa [PV.cells] using h2
      subst h0
      exact .nil
    · intro i h2
      have h0 : i = 0 := by simpa [PV.cells] using h2
      subst h0
      rfl
  | sl vs hl hc hI hz hn hv hr =>
    refine ⟨rfl, ?_, ?_⟩
    · intro i h1 h2
      have h0 : i = 0 := by simpa [PV.cells] using h2
      subst h0
      exact .sl vs hl hc hI hz hn hv hr
    · intro i h2
      have h0 : i = 0 := by simpa [PV.cells] using h2
      subst h0
      rfl
  | fn h1 h2 hp hq =>
    refine ⟨rfl, ?_, ?_⟩
    · intro i h1' h2'
      have h0 : i = 0 := by simpa [PV.cells] using h2'
      subst h0
      exact .fn h1 h2 hp hq
    · intro i h2'
      have h0 : i = 0 := by simpa [PV.cells] using h2'
      subst h0
      rfl
  | box vs hI hn hv hr =>
    refine ⟨rfl, ?_, ?_⟩
    · intro i h1 h2
      have h0 : i = 0 := by simpa [PV.cells] using h2
      subst h0
      exact .box vs hI hn hv hr
    · intro i h2
      have h0 : i = 0 := by simpa [PV.cells] using h2
      subst h0
      rfl

theorem Rep.not_tuple {I : Nat → Prop} {w : World} {v : Value} {p : PV} (h : Rep I w v p) : ∀ vs, v ≠ .tuple vs := by
  intro vs e
  subst e
  cases h with
  | v h => simp [plainV] at h

/-- A single reading is of a value of one cell. -/
theorem Rep.plain {I : Nat → Prop} {w : World} {v : Value} {p : PV} (h : Rep I w v p) (hp : p.single = true) : plainV v = true := by
  cases h with
  | v h => exact h
  | agg _ _ _ => simp [PV.single] at hp
  | _ => rfl

/-! Objects -/

inductive Conc where
  | blk (b : Nat)
  | arr (b len cap sz : Nat)
  | emp (a : Option Addr)

def Conc.val : Conc → Value
  | .blk b => .pointer (some ⟨b, 0, none⟩)
  | .arr b len cap _ => .slice (some ⟨b, 0, none⟩) len cap
  | .emp a => .slice a 0 0

def noFrozen (fr : Nat × Nat) (n : Nat) : Prop := ∀ o, o < n → ¬(fr.1 ≤ o ∧ o < fr.2)

structure OwnRow (I : Nat → Prop) (w : World) (b : Nat) (cs : List PV) : Prop where
  out : ¬ I b
  lt : b < w.heap.size
  row : ∃ (c : Array Value) (e : TypeId) (fr : Nat × Nat), w.heap[b]? = some (.cells c e fr) ∧ c.size = cs.length ∧ noFrozen fr c.size ∧
    ∀ i (h1 : i < c.size) (h2 : i < cs.length), Rep I w c[i] cs[i]
  one : ∀ i (h : i < cs.length), cs[i].single = true

structure OwnArr (I : Nat → Prop) (w : World) (b cap sz : Nat) (xs : List PV) : Prop where
  out : ¬ I b
  lt : b < w.heap.size
  room : xs.length ≤ cap
  szs : ∀ i (h : i < xs.length), xs[i].cells.length = sz
  row : ∃ (c : Array Value) (e : TypeId) (fr : Nat × Nat), w.heap[b]? = some (.cells c e fr) ∧ cap * sz ≤ c.size ∧ noFrozen fr c.size ∧
    ∀ i j (h1 : i < xs.length) (h2 : j < xs[i].cells.length), ∃ v, c[i * sz + j]? = some v ∧ Rep I w v (xs[i].cells[j])
  one : ∀ i (h : i < xs.length) j (h2 : j < xs[i].cells.length), (xs[i].cells[j]).single = true

inductive ObjOK (I : Nat → Prop) (w : World) : Obj → Conc → Prop
  | var {cs b} (h : OwnRow I w b cs) : ObjOK I w (.var cs) (.blk b)
  | arr {sz xs b cap} (h : OwnArr I w b cap sz xs) : ObjOK I w (.arr sz xs) (.arr b xs.length cap sz)
  | emp {sz a} : ObjOK I w (.arr sz []) (.emp a)
  | frz {sz xs c} (h : Rep I w c.val (.sl sz xs)) (hs : ∀ b len cap sz', c = .arr b len cap sz' → sz' = sz) : ObjOK I w (.frz sz xs) c
  | bx {cs b} (h : Rep I w (.pointer (some ⟨b, 0, none⟩)) (.box cs 0)) : ObjOK I w (.bx cs) (.blk b)
  | gone {c} : ObjOK I w .gone c

def owned : Obj → Conc → Option Nat
  | .var _, .blk b => some b
  | .arr _ _, .arr b _ _ _ => some b
  | _, _ => none

theorem OwnRow.mono {I I' : Nat → Prop} {w w' : World} {b : Nat} {cs : List PV} (h : OwnRow I w b cs) (hI : ∀ b, I b → I' b)
    (hw : ∀ b, I b → w'.heap[b]? = w.heap[b]?) (hs : w.heap.size ≤ w'.heap.size) (hb : w'.heap[b]? = w.heap[b]?) (hout : ¬ I' b) : OwnRow I' w' b cs := by
  obtain ⟨c, e, fr, h1, h2, h3, h4⟩ := h.row
  exact ⟨hout, Nat.lt_of_lt_of_le h.lt hs, ⟨c, e, fr, hb.trans h1, h2, h3, fun i a b => (h4 i a b).mono hI hw⟩, h.one⟩

theorem OwnArr.mono {I I' : Nat → Prop} {w w' : World} {b cap sz : Nat} {xs : List PV} (h : OwnArr I w b cap sz xs) (hI : ∀ b, I b → I' b)
    (hw : ∀ b, I b → w'.heap[b]? = w.heap[b]?) (hs : w.heap.size ≤ w'.heap.size) (hb : w'.heap[b]? = w.heap[b]?) (hout : ¬ I' b) : OwnArr I' w' b cap sz xs := by
  obtain ⟨c, e, fr, h1, h2, h3, h4⟩ := h.row
  exact ⟨hout, Nat.lt_of_lt_of_le h.lt hs, h.room, h.szs, ⟨c, e, fr, hb.trans h1, h2, h3, fun i j a b =>
    let ⟨v, hv, hr⟩ := h4 i j a b; ⟨v, hv, hr.mono hI hw⟩⟩, h.one⟩

theorem ObjOK.mono {I I' : Nat → Prop} {w w' : World} {o : Obj} {c : Conc} (h : ObjOK I w o c) (hI : ∀ b, I b → I' b)
    (hw : ∀ b, I b → w'.heap[b]? = w.heap[b]?) (hs : w.heap.size ≤ w'.heap.size)
    (hb : ∀ b, owned o c = some b → w'.heap[b]? = w.heap[b]? ∧ ¬ I' b) : ObjOK I' w' o c := by
  cases h with
  | var h => exact .var (h.mono hI hw hs (hb _ rfl).1 (hb _ rfl).2)
  | arr h => exact .arr (h.mono hI hw hs (hb _ rfl).1 (hb _ rfl).2)
  | emp => exact .emp
  | frz h hs => exact .frz (h.mono hI hw) hs
  | bx h => exact .bx (h.mono hI hw)
  | gone => exact .gone

theorem ObjOK.owned_lt {I : Nat → Prop} {w : World} {o : Obj} {c : Conc} {b : Nat} (h : ObjOK I w o c) (hb : owned o c = some b) : b < w.heap.size ∧ ¬ I b := by
  cases h with
  | var h => simp only [owned, Option.some.injEq] at hb; subst hb; exact ⟨h.lt, h.out⟩
  | arr h => simp only [owned, Option.some.injEq] at hb; subst hb; exact ⟨h.lt, h.out⟩
  | emp => simp [owned] at hb
  | frz h => simp [owned] at hb
  | bx h => simp [owned] at hb
  | gone => simp [owned] at hb

/-- Given up to be read alone. -/
theorem OwnArr.freeze {I I' : Nat → Prop} {w : World} {b cap sz : Nat} {xs : List PV} (h : OwnArr I w b cap sz xs) (hI : ∀ b, I b → I' b) (hb : I' b) :
    Rep I' w (.slice (some ⟨b, 0, none⟩) xs.length cap) (.sl sz xs) := by
  obtain ⟨c, e, fr, h1, h2, h3, h4⟩ := h.row
  refine .sl (fun i j => (c[i * sz + j]?).getD undef) rfl h.room (fun _ => hb) h.szs h.one (fun i j hi hj => ?_) (fun i j hi hj => ?_)
  · obtain ⟨v, hv, _⟩ := h4 i j hi (by rw [h.szs i hi]; exact hj)
    simp only [World.cell?, h1, Nat.zero_add, hv]
    simp
  · obtain ⟨v, hv, hr⟩ := h4 i j hi hj
    simp only [hv, Option.getD_some]
    exact hr.mono hI (fun _ _ => rfl)

theorem OwnRow.freeze {I I' : Nat → Prop} {w : World} {b : Nat} {cs : List PV} (h : OwnRow I w b cs) (hI : ∀ b, I b → I' b) (hb : I' b) :
    Rep I' w (.pointer (some ⟨b, 0, none⟩)) (.box cs 0) := by
  obtain ⟨c, e, fr, h1, h2, h3, h4⟩ := h.row
  refine Rep.box (off := 0) (o := 0) (fun j => (c[j]?).getD undef) (fun _ => hb) h.one (fun j hj => ?_) (fun j hj => ?_)
  · have hj' : j < c.size := by omega
    simp only [World.cell?, h1, Nat.zero_add, Array.getElem?_eq_getElem hj']
    simp
  · have hj' : j < c.size := by omega
    simp only [Array.getElem?_eq_getElem hj', Option.getD_some]
    exact (h4 j hj' hj).mono hI (fun _ _ => rfl)

/-! States -/

inductive SlotOK (I : Nat → Prop) (w : World) (β : Nat → Conc) : Value → Slot → Prop
  | no {v} : SlotOK I w β v .no
  | undef : SlotOK I w β undef .undef
  | val {v p} (h : Rep I w v p) : SlotOK I w β v (.val p)
  | ptr {n off b} (h : β n = .blk b) : SlotOK I w β (.pointer (some ⟨b, off, none⟩)) (.ptr n off)
  | elt {n i o b len cap sz} (h : β n = .arr b len cap sz) : SlotOK I w β (.pointer (some ⟨b, i * sz + o, none⟩)) (.elt n i o)
  | slc {n} : SlotOK I w β (β n).val (.slc n)
  | tup {vs : Array Value} {ss : List (PV ⊕ Nat)} (hs : vs.size = ss.length)
      (hp : ∀ (i : Nat) (h : i < vs.size) (p : PV), ss[i]? = some (Sum.inl p) → Rep I w vs[i] p)
      (hq : ∀ (i : Nat) (h : i < vs.size) (n : Nat), ss[i]? = some (Sum.inr n) → vs[i] = (β n).val) : SlotOK I w β (.tuple vs) (.tup ss)

section
variable {I : Nat → Prop} {w : World} {β : Nat → Conc} {v : Value}
theorem SlotOK.inv_val {p : PV} (h : SlotOK I w β v (.val p)) : Rep I w v p := by cases h; assumption
theorem SlotOK.inv_ptr {n off : Nat} (h : SlotOK I w β v (.ptr n off)) : ∃ b, β n = .blk b ∧ v = .pointer (some ⟨b, off, none⟩) := by cases h; exact ⟨_, by assumption, rfl⟩
theorem SlotOK.inv_elt {n i off : Nat} (h : SlotOK I w β v (.elt n i off)) : ∃ b len cap sz, β n = .arr b len cap sz ∧ v = .pointer (some ⟨b, i * sz + off, none⟩) := by
  cases h; exact ⟨_, _, _, _, by assumption, rfl⟩
theorem SlotOK.inv_slc {n : Nat} (h : SlotOK I w β v (.slc n)) : v = (β n).val := by cases h; rfl
theorem SlotOK.inv_tup {ss : List (PV ⊕ Nat)} (h : SlotOK I w β v (.tup ss)) : ∃ vs : Array Value, v = .tuple vs ∧ vs.size = ss.length ∧
    (∀ (i : Nat) (h : i < vs.size) (p : PV), ss[i]? = some (Sum.inl p) → Rep I w vs[i] p) ∧ (∀ (i : Nat) (h : i < vs.size) (n : Nat), ss[i]? = some (Sum.inr n) → vs[i] = (β n).val) := by
  cases h; exact ⟨_, rfl, by assumption, by assumption, by assumption⟩
theorem Rep.inv_box {cs : List PV} {o : Nat} (h : Rep I w v (.box cs o)) : ∃ b off, v = .pointer (some ⟨b, off + o, none⟩) ∧ (cs ≠ [] → I b) ∧ (∀ i (h : i < cs.length), cs[i].single = true) ∧
    ∃ vs : Nat → Value, (∀ j, j < cs.length → w.cell? ⟨b, off + j, none⟩ = some (vs j)) ∧ (∀ j (h : j < cs.length), Rep I w (vs j) cs[j]) := by
  cases h; exact ⟨_, _, rfl, by assumption, by assumption, _, by assumption, by assumption⟩
theorem Rep.inv_sl {sz : Nat} {xs : List PV} (h : Rep I w v (.sl sz xs)) : ∃ ad cap, v = .slice ad xs.length cap ∧ xs.length ≤ cap ∧ (ad = none → xs = []) := by
  cases h with
  | nil => exact ⟨_, _, rfl, Nat.zero_le _, fun _ => rfl⟩
  | sl vs hl hc _ _ _ _ _ => exact ⟨_, _, by rw [hl], by rw [hl]; exact hc, fun e => by cases e⟩
theorem Rep.inv_agg {cs : List PV} (h : Rep I w v (.agg cs)) : ∃ vs : Array Value, v = .agg vs ∧ vs.size = cs.length ∧ (∀ i (h : i < cs.length), cs[i].single = true) ∧
    (∀ i (h1 : i < vs.size) (h2 : i < cs.length), Rep I w vs[i] cs[i]) := by
  cases h; exact ⟨_, rfl, by assumption, by assumption, by assumption⟩
theorem Rep.inv_fn {f : FuncId} {ps qs : List PV} (h : Rep I w v (.fn f ps qs)) : ∃ first caps : Array Value, v = .func (.func f) first caps ∧ first.size = ps.length ∧ caps.size = qs.length ∧
    (∀ i (h1 : i < first.size) (h2 : i < ps.length), Rep I w first[i] ps[i]) ∧ (∀ i (h1 : i < caps.size) (h2 : i < qs.length), Rep I w caps[i] qs[i]) := by
  cases h; exact ⟨_, _, rfl, by assumption, by assumption, by assumption, by assumption⟩
end

/-- Which objects a slot names. -/
def Slot.names : Slot → List Nat
  | .ptr n _ => [n]
  | .elt n _ _ => [n]
  | .slc n => [n]
  | .tup ss => ss.filterMap fun s => match s with | .inr n => some n | .inl _ => none
  | _ => []

theorem SlotOK.mono {I I' : Nat → Prop} {w w' : World} {β β' : Nat → Conc} {v : Value} {s : Slot} (h : SlotOK I w β v s) (hI : ∀ b, I b → I' b)
    (hw : ∀ b, I b → w'.heap[b]? = w.heap[b]?) (hβ : ∀ n ∈ s.names, β' n = β n) : SlotOK I' w' β' v s := by
  cases h with
  | no => exact .no
  | undef => exact .undef
  | val h => exact .val (h.mono hI hw)
  | ptr h => exact .ptr ((hβ _ (by simp [Slot.names])).trans h)
  | elt h => exact .elt ((hβ _ (by simp [Slot.names])).trans h)
  | slc => rename_i n; rw [← hβ n (by simp [Slot.names])]; exact .slc
  | tup hs hp hq =>
    refine .tup hs (fun i h p e => (hp i h p e).mono hI hw) (fun i h n e => ?_)
    rw [hβ n]
    · exact hq i h n e
    · simp only [Slot.names, List.mem_filterMap]
      exact ⟨.inr n, List.mem_of_getElem? e, rfl⟩

/-- What is known of package-level variables: it lies in some blocks, which nobody changes. -/
class Globs where
  blk : Nat → Prop
  ok : World → Prop
  congr : ∀ w w' : World, (∀ b, blk b → w'.heap[b]? = w.heap[b]?) → ok w → ok w'

structure GlobOK [Globs] (I : Nat → Prop) (w : World) : Prop where
  sub : ∀ b, Globs.blk b → I b
  ok : Globs.ok w

theorem GlobOK.mono [Globs] {I I' : Nat → Prop} {w w' : World} (h : GlobOK I w) (hI : ∀ b, I b → I' b) (hw : ∀ b, I b → w'.heap[b]? = w.heap[b]?) : GlobOK I' w' :=
  ⟨fun b hb => hI b (h.sub b hb), Globs.congr w w' (fun b hb => hw b (h.sub b hb)) h.ok⟩

variable [Globs]

/-- The state st says what the frame's slots tmps and the memory hold. N: the names in use. -/
structure StOK (I : Nat → Prop) (w : World) (β : Nat → Conc) (N : Nat → Prop) (tmps : Array Value) (st : St) : Prop where
  len : st.slots.length = tmps.size
  slot : ∀ t, SlotOK I w β (tmps.getD t undef) (st.slot t)
  slotN : ∀ t, ∀ n ∈ (st.slot t).names, N n
  objN : ∀ n o, st.obj n = some o → N n
  obj : ∀ n o, st.obj n = some o → ObjOK I w o (β n)
  apart : ∀ n m o o' b, st.obj n = some o → st.obj m = some o' → owned o (β n) = some b → owned o' (β m) = some b → n = m
  lt : ∀ b, I b → b < w.heap.size
  gl : GlobOK I w

/-- The blocks that the state's objects own. -/
def Owns (β : Nat → Conc) (objs : List (Nat × Obj)) (b : Nat) : Prop := ∃ n o, look objs n = some o ∧ owned o (β n) = some b

/-- How the world moves: blocks that are not owned stay; what is promised anew was owned or is new. -/
structure Moves (I : Nat → Prop) (w : World) (Own : Nat → Prop) (I' : Nat → Prop) (w' : World) (Own' : Nat → Prop) : Prop where
  os : w'.os = w.os
  tape : w'.tape = w.tape
  output : w'.output = w.output
  size : w.heap.size ≤ w'.heap.size
  block : ∀ b, b < w.heap.size → ¬ Own b → w'.heap[b]? = w.heap[b]?
  more : ∀ b, I b → I' b
  fresh : ∀ b, I' b → I b ∨ Own b ∨ w.heap.size ≤ b
  own : ∀ b, Own' b → Own b ∨ w.heap.size ≤ b

theorem Moves.refl (I : Nat → Prop) (w : World) (Own : Nat → Prop) : Moves I w Own I w Own :=
  ⟨rfl, rfl, rfl, Nat.le_refl _, fun _ _ _ => rfl, fun _ h => h, fun _ h => .inl h, fun _ h => .inl h⟩

theorem Moves.trans {I1 I2 I3 O1 O2 O3 : Nat → Prop} {w1 w2 w3 : World} (h : Moves I1 w1 O1 I2 w2 O2) (k : Moves I2 w2 O2 I3 w3 O3) :
    Moves I1 w1 O1 I3 w3 O3 where
  os := k.os.trans h.os
  tape := k.tape.trans h.tape
  output := k.output.trans h.output
  size := Nat.le_trans h.size k.size
  block b hb ho := by
    have ho2 : ¬ O2 b := fun x => (h.own b x).elim ho (fun y => absurd y (Nat.not_le.2 hb))
    exact (k.block b (Nat.lt_of_lt_of_le hb h.size) ho2).trans (h.block b hb ho)
  more b hb := k.more b (h.more b hb)
  fresh b hb := by
    rcases k.fresh b hb with h1 | h1 | h1
    · exact h.fresh b h1
    · rcases h.own b h1 with h2 | h2
      · exact .inr (.inl h2)
      · exact .inr (.inr h2)
    · exact .inr (.inr (Nat.le_trans h.size h1))
  own b hb := by
    rcases k.own b hb with h1 | h1
    · exact h.own b h1
    · exact .inr (Nat.le_trans h.size h1)

end Evp
end Go
