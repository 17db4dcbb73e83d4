/- Operations: the others. -/
import Derived.Test.YtajjinfjfiacbaaGreatDoorZE9
set_option linter.unusedSectionVars false
set_option linter.unusedVariables false
set_option linter.unusedSimpArgs false
set_option linter.unnecessarySimpa false
namespace Go
namespace Evp
variable [Globs]

def eqVals : List ZK → List Value → List Value → Option Bool
  | [], [], [] => some true
  | z :: zs, x :: xs, y :: ys =>
    bif z.fits x && z.fits y then
      match eqV x y with
      | none => none
      | some a =>
        match eqVals zs xs ys with
        | none => none
        | some b => some (a && b)
    else none
  | _, _, _ => none

/-- Values of type t, cells of the kinds zs, are compared cell by cell. -/
structure EqOK (P : Program) (t : TypeId) (zs : List ZK) : Prop where
  guard : P.eqGuardType P.depth t = false
  eq : ∀ (xs ys : List Value) (b : Bool) (w : World), eqVals zs xs ys = some b → (Op.equal t (.agg xs.toArray) (.agg ys.toArray)).run P w = .ok b w

def EQOK (P : Program) (EQ : TypeId → Option (List ZK)) : Prop := ∀ t zs, EQ t = some zs → EqOK P t zs

section
variable {P : Program} {T : Types} {nm : Nat} {I : Nat → Prop} {w : World} {β : Nat → Conc} {N : Nat → Prop} {a : Act} {st : St}

theorem Rep.isv {v x : Value} (h : Rep I w v (.v x)) : v = x := by cases h; rfl

theorem eqCells_vals : ∀ {zs : List ZK} {cs ds : List PV} {b : Bool} {vs ws : List Value}, eqCells zs cs ds = some b → All2 (Rep I w) vs cs → All2 (Rep I w) ws ds → eqVals zs vs ws = some b := by
  intro zs
  induction zs with
  | nil =>
    intro cs ds b vs ws h hv hw
    unfold eqCells at h
    split at h
    · rename_i e1 e2 e3
      cases hv; cases hw
      simpa [eqVals] using h
    · rename_i e; cases e
    · cases h
  | cons z zs ih =>
    intro cs ds b vs ws h hv hw
    unfold eqCells at h
    split at h
    · rename_i e1; cases e1
    · rename_i z' zs' x cs y ds e1
      cases e1
      cases hv with
      | cons h1 t1 =>
        cases hw with
        | cons h2 t2 =>
          rw [h1.isv, h2.isv]
          simp only [eqVals]
          cases hf : z.fits x && z.fits y with
          | false => rw [hf] at h; cases h
          | true =>
            rw [hf, cond_true] at h
            rw [cond_true]
            split at h
            · cases h
            · rename_i e1
              rw [e1]
              split at h
              · cases h
              · rename_i e2
                rw [ih e2 t1 t2]
                exact h
    · cases h

theorem RowRep.all2 {c : Array Value} {cs : List PV} (h : RowRep I w c cs) : All2 (Rep I w) c.toList cs := by
  have key : ∀ (l : List Value) (cs : List PV), l.length = cs.length → (∀ i (h1 : i < l.length) (h2 : i < cs.length), Rep I w l[i] cs[i]) → All2 (Rep I w) l cs := by
    intro l
    induction l with
    | nil => intro cs hl _; cases cs with | nil => exact .nil | cons _ _ => simp at hl
    | cons x l ih =>
      intro cs hl hr
      cases cs with
      | nil => simp at hl
      | cons p cs =>
        refine .cons (hr 0 (by simp) (by simp)) (ih cs (by simpa using hl) (fun i h1 h2 => ?_))
        exact hr (i + 1) (by simpa using h1) (by simpa using h2)
  exact key _ _ (by simpa using h.size) (fun i h1 h2 => by simpa using h.rep i (by simpa using h1) h2)

theorem bif_some {α : Type} {z : Bool} {u v : α} (h : (bif z then none else some u) = some v) : z = false ∧ u = v := by
  cases z with
  | true => simp at h
  | false => simpa using h

theorem bif_some' {α : Type} {z : Bool} {u v : α} (h : (bif z then some u else none) = some v) : z = true ∧ u = v := by
  cases z with
  | true => simpa using h
  | false => simp at h

theorem intBin_run {op : BinOp} {k : IntKind} {x y : Int} {v : Value} (h : intBin op k x y = some v) (hs : isShift op = false) (t : TypeId) :
    (binOp op t (.int k x) (.int k y)).run P w = .ok v w := by
  unfold intBin at h
  cases op <;> simp only [isShift] at hs <;> simp only [] at h <;> first
    | cases h
      first
        | (simp [binOp, Op.intArith]; done)
        | (simp [binOp, Op.intBits]; done)
        | (simp [binOp, Op.intCmp]; done)
    | (obtain ⟨h1, rfl⟩ := bif_some h
       have h2 : ¬ y = 0 := by simpa using h1
       simp [binOp, Op.intDiv, h2]; done)
    | simp at hs
    | simp at h

theorem shift_run {op : BinOp} {k k' : IntKind} {x y : Int} {v : Value} (h : shiftV op k x y = some v) (hs : isShift op = true) (t : TypeId) :
    (binOp op t (.int k x) (.int k' y)).run P w = .ok v w := by
  unfold shiftV at h
  cases hy : decide (y < 0) with
  | true => rw [hy] at h; simp at h
  | false =>
    rw [hy] at h
    have h2 : ¬ y < 0 := by simpa using hy
    cases op <;> simp only [isShift] at hs <;> simp only [cond_false] at h <;> first
      | (cases h; simp [binOp, Op.shift, h2]; done)
      | simp at hs
      | simp at h

theorem str_run {op : BinOp} {x y : ByteArray} {v : Value} (h : strBin op x y = some v) (t : TypeId) :
    (binOp op t (.string x) (.string y)).run P w = .ok v w := by
  unfold strBin at h
  cases op <;> simp only [] at h <;> first
    | (cases h; simp [binOp, Op.stringOp]; done)
    | (obtain ⟨h1, rfl⟩ := bif_some' h
       have h2 : x.size + y.size ≤ 9223372036854775807 := by simpa using h1
       have h3 : ¬ (((x.size + y.size : Nat) : Int) > IntKind.i64.max) := by simp [IntKind.max, IntKind.signed, IntKind.bits]; omega
       simp only [binOp, Op.stringOp]
       rw [if_neg h3]
       simp; done)
    | simp at h

theorem bool_run {op : BinOp} {x y : Bool} {p : PV} {eqt : Option (List ZK)} (h : binPV eqt true op (.v (.bool x)) (.v (.bool y)) = some p) {t : TypeId} {ti : TI} (ht : TypeOK P t ti) (hk : ti.kind = .bool) :
    ∃ z, p = .v (.bool z) ∧ (binOp op t (.bool x) (.bool y)).run P w = .ok (.bool z) w := by
  have hu : (underlying t).run P w = .ok .bool w := by
    obtain ⟨d, h1, h2⟩ := ht.run_desc w
    rw [hk] at h2
    cases d <;> simp_all [descFits]
  have he : (Op.equal t (.bool x) (.bool y)).run P w = .ok (x == y) w := by
    simp only [Op.equal, Op.maxDepth]
    rw [show (10000 : Nat) = 9999 + 1 from rfl, Op.equalIn]
    simp [hu]
  unfold binPV at h
  simp only [cond_true] at h
  cases op <;> simp only [] at h <;> first
    | (cases h; exact ⟨_, rfl, by simp [binOp, he]⟩)
    | simp at h

theorem agg_run {op : BinOp} {cs ds : List PV} {eqt : Option (List ZK)} {bt : Bool} {p : PV} (h : binPV eqt bt op (.agg cs) (.agg ds) = some p) {t : TypeId} (he : ∀ zs, eqt = some zs → EqOK P t zs) {x y : Value}
    (hx : Rep I w x (.agg cs)) (hy : Rep I w y (.agg ds)) (xo yo : Operand) : ∃ z, p = .v (.bool z) ∧ (eqGuard op t xo yo x y).run P w = .ok () w ∧ (binOp op t x y).run P w = .ok (.bool z) w := by
  unfold binPV at h
  cases eqt with
  | none => simp at h
  | some zs =>
    have he := he zs rfl
    simp only [] at h
    cases hx with
    | agg hs1 hn1 h1 =>
      rename_i vs
      cases hy with
      | agg hs2 hn2 h2 =>
        rename_i ws
        have a1 : All2 (Rep I w) vs.toList cs := RowRep.all2 ⟨hs1, h1, hn1⟩
        have a2 : All2 (Rep I w) ws.toList ds := RowRep.all2 ⟨hs2, h2, hn2⟩
        have hg : (eqGuard op t xo yo (.agg vs) (.agg ws)).run P w = .ok () w := by
          unfold eqGuard
          cases op <;> simp [he.guard, program, Sem.run]
        cases hq : eqCells zs cs ds with
        | none => rw [hq] at h; cases op <;> simp at h
        | some b =>
          have hv := he.eq _ _ b w (eqCells_vals hq a1 a2)
          simp only [Array.toArray_toList] at hv
          rw [hq] at h
          cases op <;> simp only [Option.map_some, Option.some.injEq] at h <;> first
            | (subst h; exact ⟨_, rfl, hg, by simp [binOp, hv]⟩)
            | simp at h

end
end Evp
end Go
