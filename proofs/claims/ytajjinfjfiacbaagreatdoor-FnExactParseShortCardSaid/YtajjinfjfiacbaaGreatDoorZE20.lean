/- What an operation looks at. -/
import Derived.Test.YtajjinfjfiacbaaGreatDoorZE19
set_option linter.unusedSectionVars false
set_option linter.unusedVariables false
set_option linter.unusedSimpArgs false
set_option linter.unnecessarySimpa false
namespace Go
namespace Evp
variable [Globs]

/-- Two looks at the objects that a slot names agree. -/
def SameOn (L L' : Look) (s : Slot) : Prop := ∀ n ∈ s.names, L n = L' n

theorem rdPV_congr {L L' : Look} {s : Slot} (h : SameOn L L' s) : rdPV L s = rdPV L' s := by
  cases s with
  | slc n => simp only [rdPV]; rw [h n (by simp [Slot.names])]
  | _ => rfl

theorem keepPV_congr {L L' : Look} {s : Slot} (h : SameOn L L' s) : keepPV L s = keepPV L' s := by
  cases s with
  | slc n => simp only [keepPV]; rw [h n (by simp [Slot.names])]
  | _ => rfl

theorem capPV_congr {L L' : Look} {s : Slot} (h : SameOn L L' s) : capPV L s = capPV L' s := by
  cases s with
  | ptr n off =>
    cases off with
    | zero => simp only [capPV]; rw [h n (by simp [Slot.names])]
    | succ k => rfl
  | _ => rfl

theorem keepAll_congr {L L' : Look} : ∀ {ss : List Slot}, (∀ s ∈ ss, SameOn L L' s) → keepAll L ss = keepAll L' ss
  | [], _ => rfl
  | s :: r, h => by
    simp only [keepAll]
    rw [keepPV_congr (h s List.mem_cons_self), keepAll_congr (fun x hx => h x (List.mem_cons_of_mem _ hx))]

theorem capAll_congr {L L' : Look} : ∀ {ss : List Slot}, (∀ s ∈ ss, SameOn L L' s) → capAll L ss = capAll L' ss
  | [], _ => rfl
  | s :: r, h => by
    simp only [capAll]
    rw [capPV_congr (h s List.mem_cons_self), capAll_congr (fun x hx => h x (List.mem_cons_of_mem _ hx))]

theorem loadC_congr {L L' : Look} {i : TI} {s : Slot} (h : SameOn L L' s) : loadC L i s = loadC L' i s := by
  cases s with
  | ptr n off => simp only [loadC]; rw [h n (by simp [Slot.names])]
  | elt n j off => simp only [loadC]; rw [h n (by simp [Slot.names])]
  | val p => cases p <;> rfl
  | _ => rfl

theorem storeC_congr {L L' : Look} {i : TI} {s : Slot} {p : PV} (h : SameOn L L' s) : storeC L i s p = storeC L' i s p := by
  cases s with
  | ptr n off => simp only [storeC]; rw [h n (by simp [Slot.names])]
  | elt n j off => simp only [storeC]; rw [h n (by simp [Slot.names])]
  | _ => rfl

theorem indexAddrC_congr {L L' : Look} {T : Types} {t : TypeId} {s : Slot} {i : Int} (h : SameOn L L' s) : indexAddrC T L t s i = indexAddrC T L' t s i := by
  cases s with
  | slc n => simp only [indexAddrC]; rw [h n (by simp [Slot.names])]
  | val p => cases p <;> rfl
  | _ => rfl

theorem sliceC_congr {L L' : Look} {T : Types} {nm : Nat} {t : TypeId} {s : Slot} {l h' m : Option Int} (h : SameOn L L' s) : sliceC T L nm t s l h' m = sliceC T L' nm t s l h' m := by
  simp only [sliceC]
  rw [rdPV_congr h, keepPV_congr h]

theorem appendC_congr {L L' : Look} {T : Types} {nm : Nat} {t t2 : TypeId} {s x : Slot} (h : SameOn L L' s) (hx : SameOn L L' x) : appendC T L nm t t2 s x = appendC T L' nm t t2 s x := by
  unfold appendC
  split
  · split
    · split
      · rename_i n
        rw [h n (by simp [Slot.names])]
        split
        · split
          · rfl
          · rename_i m _
            rw [hx m (by simp [Slot.names])]
          · rfl
          · rfl
        · rfl
      · rfl
    · rfl
  · rfl

theorem builtinC_congr {L L' : Look} {T : Types} {nm : Nat} {b : Builtin} {ts : List TypeId} {ins : List Slot} (h : ∀ s ∈ ins, SameOn L L' s) : builtinC T L nm b ts ins = builtinC T L' nm b ts ins := by
  unfold builtinC
  split
  · rw [rdPV_congr (h _ (by simp))]
  · exact appendC_congr (h _ (by simp)) (h _ (by simp))
  · rfl
  · rfl
  · rfl

theorem gather_congr {L L' : Look} : ∀ {ks : List PK} {ss : List Slot}, (∀ s ∈ ss, SameOn L L' s) → gather L ks ss = gather L' ks ss
  | [], [], _ => rfl
  | [], _ :: _, _ => rfl
  | _ :: _, [], _ => rfl
  | k :: ks, s :: ss, h => by
    simp only [gather]
    rw [gather_congr (fun x hx => h x (List.mem_cons_of_mem _ hx))]
    have hs := h s List.mem_cons_self
    cases gather L' ks ss with
    | none => rfl
    | some g =>
      simp only
      cases k <;> cases s with
      | slc n => first | rfl | (simp only; rw [hs n (by simp [Slot.names])])
      | ptr n off => cases off <;> first | rfl | (simp only; rw [hs n (by simp [Slot.names])])
      | _ => rfl

theorem callD_congr {C : Oracle} {S : Sigs} {nm : Nat} {L L' : Look} {ins : List Slot} (h : ∀ s ∈ ins, SameOn L L' s) : callD C S nm L ins = callD C S nm L' ins := by
  unfold callD
  cases ins with
  | nil => rfl
  | cons fs as_ =>
    simp only
    cases target fs with
    | none => rfl
    | some t =>
      obtain ⟨f, first, caps⟩ := t
      simp only
      cases S f with
      | none => rfl
      | some sg =>
        simp only [callPrep]
        rw [gather_congr (L' := L')]
        intro s hs
        simp only [List.mem_append, List.mem_map] at hs
        rcases hs with (⟨p, _, rfl⟩ | hs) | ⟨p, _, rfl⟩
        · intro n hn; simp [Slot.names] at hn
        · exact h s (List.mem_cons_of_mem _ hs)
        · intro n hn; simp [Slot.names] at hn

theorem opC_congr {T : Types} {EQ : TypeId → Option (List ZK)} {nm : Nat} {L L' : Look} {o : Oper} {ins : List Slot} (h : ∀ s ∈ ins, SameOn L L' s) : opC T EQ nm L o ins = opC T EQ nm L' o ins := by
  unfold opC
  split
  · rfl
  · rfl
  · rfl
  · rfl
  · split
    · rw [keepPV_congr (h _ (by simp))]
    · rfl
  · rw [keepAll_congr h]
  · rw [keepAll_congr h]
  · split
    · rw [loadC_congr (h _ (by simp))]
    · rfl
  · split
    · rename_i i s x _
      rw [keepPV_congr (h x (by simp))]
      cases keepPV L' x with
      | none => rfl
      | some pu => obtain ⟨p, u⟩ := pu; simp only; rw [storeC_congr (h s (by simp))]
    · rfl
  · rfl
  · split
    · rw [rdPV_congr (h _ (by simp)), rdPV_congr (h _ (by simp))]
    · rfl
  · rfl
  · split
    · rw [rdPV_congr (h _ (by simp))]
    · rfl
  · rw [capAll_congr h]
  · rfl
  · split
    · rename_i x is
      have hx : SameOn L L' x := h x (by simp)
      split <;> simp only [sliceC_congr hx]
    · rfl
  · rfl
  · rfl
  · split
    · exact indexAddrC_congr (h _ (by simp))
    · rfl
  · rfl
  · rfl
  · split
    · rw [builtinC_congr h]
    · rfl
  · rfl

theorem opnd_congr {T : Types} {st st' : St} {t : TypeId} {x : Operand} (h : ∀ n, x = .tmp n → st.slot n = st'.slot n) : st.opnd T t x = st'.opnd T t x := by
  cases x with
  | tmp n => exact h n rfl
  | _ => rfl

theorem looks_mem {ops : Array Oper} {o : Oper} {n : Nat} (h : Operand.tmp n ∈ o.op.operands.toList) : n ∈ o.looksAt ops := by
  unfold Oper.looksAt
  simp only [List.mem_append, List.mem_filterMap]
  exact .inl ⟨_, h, rfl⟩

theorem opIns_congr {T : Types} {st st' : St} {ops : Array Oper} {o : Oper} (h : ∀ t ∈ o.looksAt ops, st.slot t = st'.slot t) : opIns T st o = opIns T st' o := by
  have h1 : ∀ x ∈ o.op.operands.toList, ∀ t, st.opnd T t x = st'.opnd T t x := fun x hx t => opnd_congr (fun n e => h n (looks_mem (e ▸ hx)))
  unfold opIns
  cases ho : o.op with
  | build t ps =>
    rw [ho] at h1
    simp only
    apply List.map_congr_left
    rintro ⟨i, x⟩ hx
    exact h1 x (by simp only [Op.operands, List.mem_map]; exact ⟨(i, x), hx, rfl⟩) _
  | buildSlice t n ps =>
    rw [ho] at h1
    simp only
    apply List.map_congr_left
    rintro ⟨i, x⟩ hx
    exact h1 x (by simp only [Op.operands, List.mem_map]; exact ⟨(i, x), hx, rfl⟩) _
  | makeFunc fn first caps =>
    rw [ho] at h1
    simp only
    apply List.map_congr_left
    intro x hx
    exact h1 x (by simpa [Op.operands] using hx) _
  | slice t x lo hi mx =>
    rw [ho] at h1
    simp only
    rw [h1 x (by simp [Op.operands]) t]
    congr 1
    apply List.map_congr_left
    intro y hy
    exact h1 y (by simp only [Op.operands, Array.toList_append, List.mem_append, Option.toList_toArray]; simp only [List.mem_append] at hy; rcases hy with (hy | hy) | hy <;> simp [hy]) _
  | call c =>
    rw [ho] at h1
    simp only
    have h2 : (c.args.toList.zip c.argTypes.toList).map (fun x => st.opnd T x.2 x.1) = (c.args.toList.zip c.argTypes.toList).map (fun x => st'.opnd T x.2 x.1) := by
      apply List.map_congr_left
      rintro ⟨x, t⟩ hx
      exact h1 x (by simp only [Op.operands, Call.operands, Array.toList_append, List.mem_append]; exact .inr (List.of_mem_zip hx).1) _
    rw [h2]
    cases hc : c.callee with
    | value f => simp only; rw [h1 f (by simp [Op.operands, Call.operands, hc]) 0]
    | _ => rfl
  | _ =>
    first
      | rfl
      | (simp only [ho, Op.operands, List.mem_cons, List.not_mem_nil, or_false, forall_eq_or_imp, forall_eq] at h1
         first
           | (simp only [h1]; done)
           | (simp only [h1.1, h1.2]; done)
           | (simp only [h1.1, h1.2.1, h1.2.2]; done))

end Evp
end Go
