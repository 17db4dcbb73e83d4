/- Contracts of functions that are taken by themselves: from what the machine does to what the evaluator is told. -/
import Derived.Test.YtajjinfjfiacbaaGreatDoorZE32
set_option linter.unusedSectionVars false
set_option linter.unusedVariables false
set_option linter.unusedSimpArgs false
set_option linter.unnecessarySimpa false
namespace Go
namespace Evp

def PV.scal : PV → Value
  | .v x => x
  | _ => undef
def PV.toV : PV → Value
  | .v x => x
  | .agg cs => .agg (cs.map PV.scal).toArray
  | _ => undef

theorem Rep.flat_inv {I : Nat → Prop} {w : World} {v : Value} {p : PV} (h : Rep I w v p) (hf : p.flat = true) : v = p.toV := by
  cases h with
  | v h => rfl
  | agg hs hn h =>
    rename_i vs cs
    simp only [PV.flat, List.all_eq_true] at hf
    simp only [PV.toV]
    congr 1
    apply Array.ext
    · simpa using hs
    · intro i h1 h2
      have h3 : i < cs.length := by omega
      have h4 := hf cs[i] (List.getElem_mem h3)
      have h5 := h i h1 h3
      simp only [List.getElem_toArray, List.getElem_map]
      generalize cs[i] = p at *
      generalize vs[i] = v at *
      cases p <;> simp only [PV.isV, Bool.false_eq_true] at h4
      cases h5
      rfl
  | nil => cases hf
  | sl => cases hf
  | fn => cases hf
  | box => cases hf

/-- A value that lies nowhere in memory. -/
def PV.plain : PV → Bool
  | .v x => plainV x
  | .agg cs => cs.all fun p => match p with | .v x => plainV x | _ => false
  | _ => false

theorem PV.plain_flat {p : PV} (h : p.plain = true) : p.flat = true := by
  cases p <;> simp only [PV.plain, Bool.false_eq_true] at h
  · rfl
  · simp only [PV.flat, List.all_eq_true] at h ⊢
    intro x hx
    have := h x hx
    cases x <;> first | rfl | simp at this

theorem Rep.plain_mk {I : Nat → Prop} {w : World} {p : PV} (h : p.plain = true) : Rep I w p.toV p := by
  cases p <;> simp only [PV.plain, Bool.false_eq_true] at h
  · exact .v h
  · rename_i cs
    rw [List.all_eq_true] at h
    refine .agg (by simp) (fun i hi => ?_) (fun i h1 h2 => ?_)
    · have := h cs[i] (List.getElem_mem hi)
      generalize cs[i] = p at *
      cases p <;> first | rfl | simp at this
    · have := h cs[i] (List.getElem_mem h2)
      simp only [List.getElem_toArray, List.getElem_map]
      generalize cs[i] = p at *
      cases p <;> first | exact .v this | simp at this

/-- Nothing that was there has changed. -/
structure Quiet (w w' : World) : Prop where
  size : w.heap.size ≤ w'.heap.size
  old : ∀ k, k < w.heap.size → w'.heap[k]? = w.heap[k]?
  os : w'.os = w.os
  tape : w'.tape = w.tape
  output : w'.output = w.output

theorem Quiet.rfl' (w : World) : Quiet w w := ⟨Nat.le_refl _, fun _ _ => rfl, rfl, rfl, rfl⟩
theorem Quiet.trans {a b c : World} (h : Quiet a b) (k : Quiet b c) : Quiet a c :=
  ⟨Nat.le_trans h.size k.size, fun i hi => (k.old i (Nat.lt_of_lt_of_le hi h.size)).trans (h.old i hi), k.os.trans h.os, k.tape.trans h.tape, k.output.trans h.output⟩

theorem Quiet.moves {w w' : World} (h : Quiet w w') (I : Nat → Prop) : Moves I w (InOwn []) I w' (InOwn []) where
  os := h.os
  tape := h.tape
  output := h.output
  size := h.size
  block b hb _ := h.old b hb
  more _ x := x
  fresh _ x := .inl x
  own b hb := by obtain ⟨x, hx, _⟩ := hb; cases hx

variable [Globs]

theorem argsOK_flat {I : Nat → Prop} {w : World} : ∀ {ks : List PK} {vs : List Value} {ps : List PV} {cs : List (PK × Conc × Nat)}, ArgsOK I w ks vs ps cs → ks.all (fun k => decide (k = .val)) = true → ps.all PV.flat = true →
    vs = ps.map PV.toV ∧ cs = []
  | _, _, _, _, .nil, _, _ => ⟨rfl, rfl⟩
  | _, _, _, _, .val h t, hk, hp => by
    simp only [List.all_cons, Bool.and_eq_true] at hk hp
    obtain ⟨rfl, rfl⟩ := argsOK_flat t hk.2 hp.2
    exact ⟨by rw [List.map_cons, h.flat_inv hp.1], rfl⟩
  | _, _, _, _, .iptr h t, hk, _ => by simp at hk
  | _, _, _, _, .islc h t, hk, _ => by simp at hk

theorem resOK_plain {I : Nat → Prop} {w : World} {B : Nat} : ∀ {ks : List RK} {rs : List PV}, ks.all (fun k => decide (k = .flat)) = true → ks.length = rs.length → rs.all PV.plain = true → ResOK I w B ks (rs.map PV.toV) rs []
  | [], [], _, _, _ => .nil
  | k :: ks, p :: rs, hk, hl, hr => by
    simp only [List.all_cons, Bool.and_eq_true, decide_eq_true_eq] at hk hr
    obtain ⟨rfl, hk⟩ := hk
    exact .flat (Rep.plain_mk hr.1) (PV.plain_flat hr.1) (resOK_plain hk (by simpa using hl) hr.2)
  | [], _ :: _, _, hl, _ => by simp at hl
  | _ :: _, [], _, hl, _ => by simp at hl

/-- Values in, values out, nothing changed. -/
theorem callOK_quiet {P : Program} {sg : FSig} {f : FuncId} {ps rs : List PV} (hk : sg.params.all (fun k => decide (k = .val)) = true) (hr : sg.results.all (fun k => decide (k = .flat)) = true)
    (hl : sg.results.length = rs.length) (hp : ps.all PV.flat = true) (hrs : rs.all PV.plain = true)
    (h : ∀ w : World, Globs.ok w → Calls P f (ps.map PV.toV).toArray w fun e w' => e = .returned (tupleOf (rs.map PV.toV)) ∧ Quiet w w') : CallOK P sg f ps rs := by
  intro I w vs cs hlt hgl hargs _
  obtain ⟨rfl, rfl⟩ := argsOK_flat hargs hk hp
  refine (h w hgl.ok).mono ?_
  rintro e w' ⟨rfl, hq⟩
  exact ⟨I, _, rfl, hq.moves I, fun b hb => Nat.lt_of_lt_of_le (hlt b hb) hq.size, rs, [], [], by simp, resOK_plain hr hl hrs, .nil⟩

end Evp
end Go
