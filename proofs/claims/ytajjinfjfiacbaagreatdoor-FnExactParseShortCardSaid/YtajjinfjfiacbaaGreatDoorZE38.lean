/- From the evaluator's word on a law to a run of the law. -/
import Derived.Test.YtajjinfjfiacbaaGreatDoorZE36
import Derived.LaidLaws
import GoSem.ClaimJoined
set_option linter.unusedSectionVars false
set_option linter.unusedVariables false
set_option linter.unusedSimpArgs false
set_option linter.unnecessarySimpa false
namespace Go
namespace Evp

theorem laidVars_mem {P : Program} {w : World} {n : String} {d : DataW Unit} : ∀ {l : List (String × DataW Unit)} {ps : List MemPlace}, DataW.LaidVars P w l ps → (n, d) ∈ l →
    ∃ g t cs fuel p, P.globalNamed n = some g ∧ (P.globals[g]?).map (·.type) = some t ∧ w.var? P n = some cs ∧ DataW.trod (fun _ => ()) P w 0 (fun _ => true) false fuel t cs.toList = some (d, p)
  | [], _, _, h => by cases h
  | (n', d') :: r, ps, hl, h => by
    obtain ⟨g, t, cs, fuel, p, q, h1, h2, h3, h4, h5, _⟩ := hl
    cases h with
    | head => exact ⟨g, t, cs, fuel, p, h1, h2, h3, h4⟩
    | tail _ h => exact laidVars_mem h5 h

theorem var_block {P : Program} {w : World} {n : String} {g : Nat} {cs : Array Value} (hg : P.globalNamed n = some g) (h : w.var? P n = some cs) : g < w.heap.size := by
  unfold World.var? at h
  rw [hg, Option.bind_some] at h
  rcases Nat.lt_or_ge g w.heap.size with h' | h'
  · exact h'
  · rw [Array.getElem?_eq_none h'] at h; cases h

variable [Globs]

theorem law_calls {P : Program} {f : FuncId} {ks : List PK} {ps : List PV} (hc : CallOK P ⟨ks, [.flat]⟩ f ps [B true]) {w : World} {vs : List Value} (hg : Globs.ok w) (hb : ∀ b, Globs.blk b → b < w.heap.size)
    (ha : ArgsOK (fun b => b < w.heap.size) w ks vs ps []) : Calls P f vs.toArray w fun e w' => e = .returned (.bool true) ∧ Go.RowKit.Below w.heap.size w w' := by
  refine (hc (fun b => b < w.heap.size) w vs [] (fun _ h => h) ⟨hb, hg⟩ ha trivial).mono ?_
  rintro e w' ⟨I', rv, rfl, A⟩
  obtain ⟨rs1, rs2, bs, hrs, hres, hback⟩ := A.res
  cases hback
  rw [List.append_nil] at hrs
  subst hrs
  cases hres with
  | flat h hf t =>
    cases t
    cases h
    exact ⟨rfl, A.moves.os, A.moves.tape, A.moves.output, A.moves.size, fun k hk => A.moves.block k hk (by rintro ⟨x, hx, _⟩; cases hx)⟩

end Evp
end Go
