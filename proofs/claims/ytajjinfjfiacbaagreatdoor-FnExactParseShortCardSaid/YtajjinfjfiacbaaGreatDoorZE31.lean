/- A seat's tables checked by computing: types, equality, signatures. -/
import Derived.Test.YtajjinfjfiacbaaGreatDoorZE30
import Derived.Laws.StructEq
set_option linter.unusedSectionVars false
set_option linter.unusedVariables false
set_option linter.unusedSimpArgs false
set_option linter.unnecessarySimpa false
namespace Go
namespace Evp

/-- Does the program tell of type t what i says? -/
def zeroIs (z : Value) (l : List ZK) : Bool := z.cells.toList.length == l.length && (z.cells.toList.zip l).all fun x =>
  match x.1, x.2 with
  | .int k 0, .int k' => decide (k = k')
  | .bool false, .bool => true
  | .string ⟨⟨[]⟩⟩, .str => true
  | .slice none 0 0, .slice => true
  | .pointer none, .ptr => true
  | .nilIface, .iface => true
  | .nilFunc, .func => true
  | .map none, .map => true
  | _, _ => false

theorem zeroIs_eq {z : Value} {l : List ZK} (h : zeroIs z l = true) : z.cells.toList = l.map ZK.val := by
  unfold zeroIs at h
  rw [Bool.and_eq_true, beq_iff_eq] at h
  generalize z.cells.toList = vs at h
  obtain ⟨hl, h⟩ := h
  induction vs generalizing l with
  | nil => cases l with | nil => rfl | cons => simp at hl
  | cons v vs ih =>
    cases l with
    | nil => simp at hl
    | cons k l =>
      simp only [List.zip_cons_cons, List.all_cons, Bool.and_eq_true] at h
      rw [List.map_cons, ← ih (by simpa using hl) h.2]
      congr 1
      have h1 := h.1
      split at h1 <;> first
        | rfl
        | (rename_i e1 e2
           simp only [decide_eq_true_eq] at h1
           subst h1
           rfl)
        | cases h1
        | skip

def typeB (P : Program) (t : TypeId) (i : TI) : Bool :=
  (match P.info? t with
   | some ti => ti.size == i.size && ti.bytes == i.bytes && (match ti.zero with | some z => zeroIs z i.zero | none => false)
   | none => false) &&
  (i.zero.length == i.size) &&
  (match P.underlying t with
   | some d => descFits d i.kind && (match d with | .struct fields => fields.toList.all fun f => (match P.info? f.type with | some _ => true | none => false) | _ => true)
   | none => false)

theorem typeB_ok {P : Program} {t : TypeId} {i : TI} (h : typeB P t i = true) : TypeOK P t i := by
  unfold typeB at h
  rw [Bool.and_eq_true, Bool.and_eq_true] at h
  obtain ⟨⟨h1, h2⟩, h3⟩ := h
  refine ⟨?_, by simpa using h2, ?_, ?_⟩
  · split at h1
    · rename_i ti hti
      rw [Bool.and_eq_true, Bool.and_eq_true] at h1
      obtain ⟨⟨ha, hb⟩, hc⟩ := h1
      split at hc
      · rename_i z hz
        exact ⟨ti, z, hti, by simpa using ha, by simpa using hb, hz, zeroIs_eq hc⟩
      · cases hc
    · cases h1
  · split at h3
    · rename_i d hd
      rw [Bool.and_eq_true] at h3
      exact ⟨d, hd, h3.1⟩
    · cases h3
  · intro fields hf
    rw [hf] at h3
    simp only [Bool.and_eq_true] at h3
    have h4 := h3.2
    rw [List.all_eq_true] at h4
    have key : ∀ l : List Field, (∀ f ∈ l, (match P.info? f.type with | some _ => true | none => false) = true) →
        l.mapM (fun f => (P.info? f.type).map fun i => (f.offset, i.size)) = some (l.map fun f => (f.offset, P.cellsOf f.type)) := by
      intro l
      induction l with
      | nil => intro _; rfl
      | cons f l ih =>
        intro hl
        have hf := hl f (by simp)
        rw [List.mapM_cons, ih (fun g hg => hl g (by simp [hg]))]
        split at hf
        · rename_i x hx
          simp [hx, Program.cellsOf]
        · cases hf
    exact key _ h4

theorem findN_mem {α : Type} {n : Nat} {a : α} : ∀ {l : List (Nat × α)}, findN n l = some a → (n, a) ∈ l
  | [], h => by cases h
  | (m, b) :: r, h => by
    unfold findN at h
    cases hb : Nat.beq m n with
    | true =>
      rw [hb, cond_true] at h
      cases h
      rw [Nat.eq_of_beq_eq_true hb]
      simp
    | false =>
      rw [hb, cond_false] at h
      exact List.mem_cons_of_mem _ (findN_mem h)

theorem tok_of {K : Book} (h : K.types.all (fun x => typeB K.P x.1 x.2) = true) : TOK K.P K.T := by
  intro t i hi
  rw [List.all_eq_true] at h
  exact typeB_ok (h _ (findN_mem hi))

end Evp
end Go
