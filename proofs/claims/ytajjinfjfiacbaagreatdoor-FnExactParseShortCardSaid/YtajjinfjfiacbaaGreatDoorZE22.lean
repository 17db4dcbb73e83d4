/- Regions that draw their order: every order leads to the same. -/
import Derived.Test.YtajjinfjfiacbaaGreatDoorZE21
set_option linter.unusedSectionVars false
set_option linter.unusedVariables false
set_option linter.unusedSimpArgs false
set_option linter.unnecessarySimpa false
namespace Go
namespace Evp
variable [Globs]

def lastW (f : Nat → Bool) : Nat → Option Nat
  | 0 => none
  | n + 1 => bif f n then some n else lastW f n

theorem lastW_congr {f g : Nat → Bool} : ∀ {n : Nat}, (∀ j, j < n → f j = g j) → lastW f n = lastW g n
  | 0, _ => rfl
  | n + 1, h => by
    simp only [lastW]
    rw [h n (by omega), lastW_congr (fun j hj => h j (by omega))]

theorem lastW_cut {D w : Nat → Bool} {i : Nat} : ∀ {n : Nat}, i ≤ n → (∀ j, j < n → w j = true → (D j = true ↔ j < i)) → lastW (fun j => D j && w j) n = lastW w i
  | 0, hi, _ => by
    have : i = 0 := by omega
    subst this; rfl
  | n + 1, hi, h => by
    by_cases e : i = n + 1
    · subst e
      refine lastW_congr (fun j hj => ?_)
      cases hw : w j with
      | false => simp
      | true => rw [(h j hj hw).2 hj]; rfl
    · simp only [lastW]
      have : (D n && w n) = false := by
        cases hw : w n with
        | false => simp
        | true =>
          cases hD : D n with
          | false => rfl
          | true => exact absurd ((h n (by omega) hw).1 hD) (by omega)
      rw [this]
      exact lastW_cut (by omega) (fun j hj => h j (by omega))

theorem lastW_top {f : Nat → Bool} {i : Nat} : ∀ {n : Nat}, i < n → f i = true → (∀ j, j < n → f j = true → j ≤ i) → lastW f n = some i
  | 0, hi, _, _ => by omega
  | n + 1, hi, hf, h => by
    simp only [lastW]
    by_cases e : i = n
    · subst e; rw [hf]; rfl
    · have : f n = false := by
        cases hn : f n with
        | false => rfl
        | true => have := h n (by omega) hn; omega
      rw [this]
      exact lastW_top (by omega) hf (fun j hj => h j (by omega))

theorem look_append_mem {u r r' : List (Nat × Obj)} {m : Nat} (h : m ∈ u.map (·.1)) : look (u ++ r) m = look (u ++ r') m := by
  induction u with
  | nil => simp at h
  | cons x u ih =>
    obtain ⟨n, o⟩ := x
    simp only [List.cons_append, look_cons]
    by_cases e : n = m
    · simp [e]
    · rw [if_neg e, if_neg e]
      refine ih ?_
      simp only [List.map_cons, List.mem_cons] at h
      exact h.resolve_left (fun h => e h.symm)

theorem put_obj_mem {st st' : St} {d : Option Nat} {s : Slot} {u : Ups} {m : Nat} (h : m ∈ u.map (·.1)) : (st.put d s u).obj m = (st'.put d s u).obj m := by
  have e : ∀ x : St, (x.put d s u).objs = u ++ x.objs := by intro x; cases d <;> rfl
  simp only [St.obj, e]
  exact look_append_mem h

theorem put_obj_ne {st : St} {d : Option Nat} {s : Slot} {u : Ups} {m : Nat} (h : m ∉ u.map (·.1)) : (st.put d s u).obj m = st.obj m := by
  have e : (st.put d s u).objs = u ++ st.objs := by cases d <;> rfl
  simp only [St.obj, e]
  exact look_append (fun x hx e => h (List.mem_map.2 ⟨x, hx, e⟩))

theorem put_len {st : St} {d : Option Nat} {s : Slot} {u : Ups} : (st.put d s u).slots.length = st.slots.length := by
  cases d <;> simp [St.put]

theorem put_slot_ne {st : St} {d : Option Nat} {s : Slot} {u : Ups} {t : Nat} (h : d ≠ some t) : (st.put d s u).slot t = st.slot t := by
  cases d with
  | none => rfl
  | some d =>
    have hd : d ≠ t := fun e => h (by rw [e])
    simp only [St.put]
    rw [slot_set, if_neg (fun e => hd e.1)]

theorem put_slot_eq {st st' : St} {s : Slot} {u : Ups} {t : Nat} (h : st.slots.length = st'.slots.length) : (st.put (some t) s u).slot t = (st'.put (some t) s u).slot t := by
  simp only [St.put]
  rw [slot_set, slot_set, h]
  by_cases e : t < st'.slots.length
  · simp [e]
  · have e1 : st.slot t = .no := by simp only [St.slot, List.getD_eq_getElem?_getD]; rw [List.getElem?_eq_none (by omega)]; rfl
    have e2 : st'.slot t = .no := by simp only [St.slot, List.getD_eq_getElem?_getD]; rw [List.getElem?_eq_none (by omega)]; rfl
    simp [e, e1, e2]

def cnt (f : Nat → Bool) : Nat → Nat
  | 0 => 0
  | n + 1 => cnt f n + (if f n then 1 else 0)

theorem cnt_zero {f : Nat → Bool} : ∀ {n : Nat}, cnt f n = 0 → ∀ j, j < n → f j = false
  | 0, _, j, hj => by omega
  | n + 1, h, j, hj => by
    simp only [cnt] at h
    by_cases e : j = n
    · subst e
      cases hf : f j with
      | false => rfl
      | true => rw [hf] at h; simp at h
    · exact cnt_zero (n := n) (by omega) j (by omega)

theorem cnt_le {f g : Nat → Bool} : ∀ {n : Nat}, (∀ j, j < n → g j = true → f j = true) → cnt g n ≤ cnt f n
  | 0, _ => Nat.le_refl _
  | n + 1, h => by
    have h1 := cnt_le (fun j hj => h j (Nat.lt_succ_of_lt hj))
    have h2 := h n (Nat.lt_succ_self n)
    simp only [cnt]
    cases hg : g n with
    | false => simp; omega
    | true => rw [h2 hg]; simp; omega

theorem cnt_lt {f g : Nat → Bool} {i : Nat} : ∀ {n : Nat}, i < n → f i = true → g i = false → (∀ j, j < n → g j = true → f j = true) → cnt g n < cnt f n
  | 0, hi, _, _, _ => by omega
  | n + 1, hi, hf, hg, h => by
    simp only [cnt]
    by_cases e : i = n
    · subst e
      rw [hf, hg]
      have := cnt_le (f := f) (g := g) (fun j hj => h j (Nat.lt_succ_of_lt hj))
      simp; omega
    · have h1 := cnt_lt (n := n) (by omega) hf hg (fun j hj => h j (Nat.lt_succ_of_lt hj))
      have h2 := h n (Nat.lt_succ_self n)
      cases hgn : g n with
      | false => simp; omega
      | true => rw [h2 hgn]; simp; omega

section
variable {P : Program} {T : Types} {EQ : TypeId → Option (List ZK)} {C : Oracle} {S : Sigs}

theorem effE_congr {ops : Array Oper} {base i : Nat} {s s' : St} {o : Oper} (h1 : ∀ t ∈ o.looksAt ops, s.slot t = s'.slot t) (h2 : ∀ n ∈ (opIns T s o).flatMap Slot.names, s.obj n = s'.obj n) :
    effE T EQ C S ops base i s o = effE T EQ C S ops base i s' o := by
  have hw : wantedE ops s o = wantedE ops s' o := by
    unfold wantedE
    cases hg : o.guard with
    | none => rfl
    | some g =>
      obtain ⟨j, want⟩ := g
      simp only
      cases hd : (ops[j]?).bind (·.dst) with
      | none => rfl
      | some d =>
        simp only
        rw [h1 d (by unfold Oper.looksAt; simp [hg, hd])]
  have hi := opIns_congr (T := T) h1
  have hs : ∀ x ∈ opIns T s' o, SameOn s.obj s'.obj x := by
    intro x hx n hn
    exact h2 n (by rw [hi]; exact List.mem_flatMap.2 ⟨x, hx, hn⟩)
  unfold effE opD
  rw [hw, hi, callD_congr hs, opC_congr hs]

theorem disj_iff {a b : List Nat} (h : disj a b = true) : ∀ x ∈ a, x ∉ b := by
  intro x hx hb
  simp only [disj, List.all_eq_true, Bool.not_eq_true'] at h
  have := h x hx
  rw [← List.contains_iff_mem] at hb
  rw [hb] at this
  cases this

theorem tmpFree_iff {d : Option Nat} {ts : List Nat} (h : tmpFree d ts = true) : ∀ x, d = some x → x ∉ ts := by
  rintro x rfl hx
  simp only [tmpFree, Bool.not_eq_true'] at h
  rw [← List.contains_iff_mem] at hx
  rw [hx] at h
  cases h

theorem difft_iff {d e : Option Nat} (h : difft d e = true) : ∀ x, d = some x → e ≠ some x := by
  rintro x rfl rfl
  simp [difft] at h

theorem StOK.ext {I : Nat → Prop} {w : World} {β : Nat → Conc} {N : Nat → Prop} {tmps : Array Value} {st st' : St} (h : StOK I w β N tmps st) (h1 : st'.slots.length = st.slots.length) (h2 : ∀ t, st'.slot t = st.slot t) (h3 : ∀ n, st'.obj n = st.obj n) :
    StOK I w β N tmps st' where
  len := h1.trans h.len
  slot t := by rw [h2]; exact h.slot t
  slotN t := by rw [h2]; exact h.slotN t
  objN n o hn := h.objN n o (by rw [← h3]; exact hn)
  obj n o hn := h.obj n o (by rw [← h3]; exact hn)
  apart n m o o' b hn hm := h.apart n m o o' b (by rw [← h3]; exact hn) (by rw [← h3]; exact hm)
  lt := h.lt
  gl := h.gl

theorem GoodIn.ext {io : List Nat} {I0 : Nat → Prop} {w0 : World} {β0 : Nat → Conc} {Own0 M M' : Nat → Prop} {st st' : St} {a : Act} {w : World} (h : GoodIn io I0 w0 β0 Own0 M st a w) (h1 : st'.slots.length = st.slots.length) (h2 : ∀ t, st'.slot t = st.slot t)
    (h3 : ∀ n, st'.obj n = st.obj n) (hM : ∀ n, M n → M' n) : GoodIn io I0 w0 β0 Own0 M' st' a w := by
  obtain ⟨hd, I, β, N, k1, k2, k3, k4⟩ := h
  refine ⟨hd, I, β, N, k1.ext h1 h2 h3, fun n hn => hM n (k2 n hn), k3, ⟨⟨k4.moves.os, k4.moves.tape, k4.moves.output, k4.moves.size, k4.moves.block, k4.moves.more, k4.moves.fresh, ?_⟩, k4.io⟩⟩
  rintro b ⟨n, o, h5, h6⟩
  exact k4.moves.own b ⟨n, o, by have h7 := h3 n; simp only [St.obj] at h7; rw [← h7]; exact h5, h6⟩

/-- EVERY ORDER. -/
theorem draw_wp (X : Ctx P T EQ C S) {io : List Nat} {I0 : Nat → Prop} {w0 : World} {β0 : Nat → Conc} {Own0 : Nat → Prop} {ops : Array Oper} {base : Nat} {Q : Exit → Act → World → Prop}
    {sts : Nat → St} {os : Nat → Oper} {sl : Nat → Slot} {us : Nat → Ups} {ft : Nat → Foot} (tr : Trace T EQ C S ops base ops.size sts os sl us ft)
    (hQ : ∀ a' w', GoodIn io I0 w0 β0 Own0 (fun m => m < base + 16 * ops.size) (sts ops.size) a' w' → Q .normal a' w') :
    ∀ (fuel : Nat) (listed : Array Bool) (sD : St) (a : Act) (w : World), listed.size = ops.size → cnt (fun j => !listed.getD j false) ops.size ≤ fuel →
      (∀ i, i < ops.size → listed.getD i false = true → ∀ j ∈ (ft i).anc, listed.getD j false = true) →
      GoodIn io I0 w0 β0 Own0 (fun m => m < base ∨ ∃ i, i < ops.size ∧ listed.getD i false = true ∧ base + 16 * i ≤ m ∧ m < base + 16 * i + 16) sD a w →
      sD.slots.length = (sts 0).slots.length →
      (∀ t, sD.slot t = match lastW (fun j => listed.getD j false && (os j).dst == some t) ops.size with | some j => (sts (j + 1)).slot t | none => (sts 0).slot t) →
      (∀ m, sD.obj m = match lastW (fun j => listed.getD j false && ((us j).map (·.1)).contains m) ops.size with | some j => (sts (j + 1)).obj m | none => (sts 0).obj m) →
      wpAny P .any ops Q fuel listed a w := by
  -- the text's own order
  have hlen : ∀ i, i ≤ ops.size → (sts i).slots.length = (sts 0).slots.length := by
    intro i
    induction i with
    | zero => intro _; rfl
    | succ i ih => intro hi; rw [tr.next i (by omega), put_len]; exact ih (by omega)
  have htext : ∀ t i, i ≤ ops.size → (sts i).slot t = match lastW (fun j => (os j).dst == some t) i with | some j => (sts (j + 1)).slot t | none => (sts 0).slot t := by
    intro t i
    induction i with
    | zero => intro _; rfl
    | succ i ih =>
      intro hi
      simp only [lastW]
      cases hd : (os i).dst == some t with
      | true => rfl
      | false =>
        simp only [cond_false]
        rw [tr.next i (by omega), put_slot_ne (by simpa using hd)]
        exact ih (by omega)
  have hobj : ∀ m i, i ≤ ops.size → (sts i).obj m = match lastW (fun j => ((us j).map (·.1)).contains m) i with | some j => (sts (j + 1)).obj m | none => (sts 0).obj m := by
    intro m i
    induction i with
    | zero => intro _; rfl
    | succ i ih =>
      intro hi
      simp only [lastW]
      cases hd : ((us i).map (·.1)).contains m with
      | true => rfl
      | false =>
        simp only [cond_false]
        rw [tr.next i (by omega), put_obj_ne (by intro h; rw [← List.contains_iff_mem] at h; rw [h] at hd; cases hd)]
        exact ih (by omega)
  -- all have come up
  have done : ∀ (listed : Array Bool) (sD : St) (a : Act) (w : World), (∀ j, j < ops.size → listed.getD j false = true) →
      GoodIn io I0 w0 β0 Own0 (fun m => m < base ∨ ∃ i, i < ops.size ∧ listed.getD i false = true ∧ base + 16 * i ≤ m ∧ m < base + 16 * i + 16) sD a w → sD.slots.length = (sts 0).slots.length →
      (∀ t, sD.slot t = match lastW (fun j => listed.getD j false && (os j).dst == some t) ops.size with | some j => (sts (j + 1)).slot t | none => (sts 0).slot t) →
      (∀ m, sD.obj m = match lastW (fun j => listed.getD j false && ((us j).map (·.1)).contains m) ops.size with | some j => (sts (j + 1)).obj m | none => (sts 0).obj m) → Q .normal a w := by
    intro listed sD a w hall hg hl hs ho
    refine hQ a w (hg.ext ((hlen _ (Nat.le_refl _)).trans hl.symm) (fun t => ?_) (fun m => ?_) (fun m hm => ?_))
    · rw [hs t, htext t _ (Nat.le_refl _), lastW_congr (f := fun j => listed.getD j false && (os j).dst == some t) (g := fun j => (os j).dst == some t) (fun j hj => by rw [hall j hj]; rfl)]
    · rw [ho m, hobj m _ (Nat.le_refl _), lastW_congr (f := fun j => listed.getD j false && ((us j).map (·.1)).contains m) (g := fun j => ((us j).map (·.1)).contains m) (fun j hj => by rw [hall j hj]; rfl)]
    · rcases hm with hm | ⟨i, h1, _, h2, h3⟩ <;> omega
  intro fuel
  induction fuel with
  | zero =>
    intro listed sD a w hsz hc hcl hg hl hs ho
    have hall : ∀ j, j < ops.size → listed.getD j false = true := fun j hj => by have := cnt_zero (Nat.le_zero.1 hc) j hj; simpa using this
    refine ⟨?_, done listed sD a w hall hg hl hs ho⟩
    unfold Region.ready
    rw [List.filter_eq_nil_iff]
    intro i hi
    have h1 := hall i (by simpa using hi)
    have h2 : listed.getD i true = true := by
      have : i < listed.size := by rw [hsz]; simpa using hi
      simpa [Array.getD, this] using h1
    simp [h2]
  | succ fuel ih =>
    intro listed sD a w hsz hc hcl hg hl hs ho
    have hgd : ∀ i, i < ops.size → listed.getD i true = listed.getD i false := by
      intro i hi
      have : i < listed.size := by rw [hsz]; exact hi
      simp [Array.getD, this]
    refine ⟨fun hr => ?_, fun i hi => ?_⟩
    · -- none is ready: all are listed
      refine done listed sD a w ?_ hg hl hs ho
      intro j
      induction j using Nat.strongRecOn with
      | _ j ihj =>
        intro hj
        cases hlj : listed.getD j false with
        | true => rfl
        | false =>
          exfalso
          have hmem : j ∈ Region.ready .any ops listed := by
            unfold Region.ready
            rw [List.mem_filter]
            refine ⟨by simpa using hj, ?_⟩
            rw [hgd j hj, hlj, tr.op j hj]
            simp only [Bool.not_false, Bool.true_and, Option.map_some, Option.getD_some, Array.all_eq_true']
            intro e he
            cases hb : Region.binds .any e with
            | false => rfl
            | true =>
              have hlt := tr.edge j hj e (by simpa using he) hb
              simp only [Bool.not_true, Bool.false_or]
              exact ihj e.on hlt (by omega)
          rw [hr] at hmem
          cases hmem
    · -- the next one
      unfold Region.ready at hi
      rw [List.mem_filter] at hi
      obtain ⟨hir, hi⟩ := hi
      have hilt : i < ops.size := by simpa using hir
      rw [hgd i hilt, tr.op i hilt] at hi
      simp only [Option.map_some, Option.getD_some, Bool.and_eq_true, Bool.not_eq_true', Array.all_eq_true'] at hi
      obtain ⟨hnl, hedges⟩ := hi
      have hanc : ∀ j ∈ (ft i).anc, listed.getD j false = true := by
        intro j hj
        obtain ⟨e, he, hb, h1⟩ := tr.ancs i hilt j hj
        have h2 := hedges e (by simpa using he)
        rw [hb] at h2
        simp only [Bool.not_true, Bool.false_or] at h2
        rcases h1 with rfl | h1
        · exact h2
        · exact hcl e.on (Nat.lt_trans (tr.edge i hilt e he hb) hilt) h2 j h1
      -- who may clash with it has gone before it, or comes after it
      have hpart : ∀ j, j < ops.size → clashFree (ft i) (ft j) = false → clashFree (ft j) (ft i) = false → (listed.getD j false = true ↔ j < i) := by
        intro j hj h1 h2
        by_cases e : j < i
        · refine ⟨fun _ => e, fun _ => ?_⟩
          rcases tr.free i j hilt e with h3 | h3
          · exact hanc j h3
          · rw [h3] at h1; cases h1
        · refine ⟨fun hlj => ?_, fun h => absurd h e⟩
          exfalso
          by_cases e2 : j = i
          · subst e2; rw [hlj] at hnl; cases hnl
          · rcases tr.free j i hj (by omega) with h3 | h3
            · have := hcl j hj hlj i h3
              rw [hnl] at this; cases this
            · rw [h3] at h2; cases h2
      obtain ⟨f1, f2, f3, f4⟩ := tr.foot i hilt
      have hclash_t : ∀ j, j < ops.size → ∀ t, (os j).dst = some t → (t ∈ (ft i).ts ∨ (os i).dst = some t) → (listed.getD j false = true ↔ j < i) := by
        intro j hj t hd ht
        obtain ⟨g1, g2, g3, g4⟩ := tr.foot j hj
        refine hpart j hj ?_ ?_
        · cases hcf : clashFree (ft i) (ft j) with
          | false => rfl
          | true =>
            exfalso
            simp only [clashFree, Bool.and_eq_true] at hcf
            rcases ht with ht | ht
            · exact tmpFree_iff hcf.1.1.1.1.2 t (by rw [g3]; exact hd) ht
            · exact difft_iff hcf.1.1.1.2 t (by rw [f3]; exact ht) (by rw [g3]; exact hd)
        · cases hcf : clashFree (ft j) (ft i) with
          | false => rfl
          | true =>
            exfalso
            simp only [clashFree, Bool.and_eq_true] at hcf
            rcases ht with ht | ht
            · exact tmpFree_iff hcf.1.1.1.1.1 t (by rw [g3]; exact hd) ht
            · exact difft_iff hcf.1.1.1.2 t (by rw [g3]; exact hd) (by rw [f3]; exact ht)
      have hclash_n : ∀ j, j < ops.size → ∀ m, m ∈ (us j).map (·.1) → (m ∈ (ft i).ns ∨ m ∈ (us i).map (·.1)) → (listed.getD j false = true ↔ j < i) := by
        intro j hj m hm hn
        obtain ⟨g1, g2, g3, g4⟩ := tr.foot j hj
        refine hpart j hj ?_ ?_
        · cases hcf : clashFree (ft i) (ft j) with
          | false => rfl
          | true =>
            exfalso
            simp only [clashFree, Bool.and_eq_true] at hcf
            rcases hn with hn | hn
            · exact disj_iff hcf.1.2 m (by rw [g4]; exact hm) hn
            · exact disj_iff hcf.2 m (by rw [f4]; exact hn) (by rw [g4]; exact hm)
        · cases hcf : clashFree (ft j) (ft i) with
          | false => rfl
          | true =>
            exfalso
            simp only [clashFree, Bool.and_eq_true] at hcf
            rcases hn with hn | hn
            · exact disj_iff hcf.1.1.2 m (by rw [g4]; exact hm) hn
            · exact disj_iff hcf.2 m (by rw [g4]; exact hm) (by rw [f4]; exact hn)
      have hst : ∀ t ∈ (os i).looksAt ops, (sts i).slot t = sD.slot t := by
        intro t ht
        rw [hs t, htext t i (by omega)]
        rw [lastW_cut (D := fun j => listed.getD j false) (w := fun j => (os j).dst == some t) (i := i) (by omega) (fun j hj hw => hclash_t j hj t (by simpa using hw) (.inl (by rw [f1]; exact ht)))]
      have hso : ∀ m ∈ (opIns T (sts i) (os i)).flatMap Slot.names, (sts i).obj m = sD.obj m := by
        intro m hm
        rw [ho m, hobj m i (by omega)]
        rw [lastW_cut (D := fun j => listed.getD j false) (w := fun j => ((us j).map (·.1)).contains m) (i := i) (by omega) (fun j hj hw => hclash_n j hj m (by rw [← List.contains_iff_mem]; exact hw) (.inl (by rw [f2]; exact hm)))]
      have heff := tr.eff i hilt
      rw [effE_congr hst hso] at heff
      have hilt' : i < listed.size := by rw [hsz]; exact hilt
      have hset : ∀ j, (listed.setIfInBounds i true).getD j false = (listed.getD j false || (j == i)) := by
        intro j
        simp only [Array.getD_eq_getD_getElem?, Array.getElem?_setIfInBounds]
        by_cases e : i = j
        · subst e; simp [hilt']
        · rw [if_neg e]
          have : (j == i) = false := by simpa using fun h => e h.symm
          rw [this, Bool.or_false]
      refine stepIn_wp X hg (fun n h1 h2 h3 => ?_) (tr.op i hilt) heff (fun a' w' g1 => ?_)
      · rcases h3 with h3 | ⟨k, _, hk2, hk3, hk4⟩
        · omega
        · have : k = i := by omega
          subst this
          rw [hnl] at hk2; cases hk2
      · refine ih (listed.setIfInBounds i true) (sD.put (os i).dst (sl i) (us i)) a' w' (by simpa using hsz) ?_ ?_ ?_ (put_len.trans hl) ?_ ?_
        · have : cnt (fun j => !(listed.setIfInBounds i true).getD j false) ops.size < cnt (fun j => !listed.getD j false) ops.size := by
            refine cnt_lt hilt (by simp only [hnl]; rfl) (by simp only [hset]; simp) (fun j _ hj => ?_)
            simp only [hset, Bool.not_eq_true', Bool.or_eq_false_iff] at hj ⊢
            exact hj.1
          omega
        · intro j hj hlj k hk
          rw [hset] at hlj ⊢
          simp only [Bool.or_eq_true, beq_iff_eq] at hlj ⊢
          rcases hlj with h1 | rfl
          · exact .inl (hcl j hj h1 k hk)
          · exact .inl (hanc k hk)
        · obtain ⟨hd, I, β, N, k1, k2, k3, k4⟩ := g1
          refine ⟨hd, I, β, N, k1, fun n hn => ?_, k3, k4⟩
          rcases k2 n hn with (h1 | ⟨k, h1, h2, h3, h4⟩) | ⟨h1, h2⟩
          · exact .inl h1
          · exact .inr ⟨k, h1, by rw [hset, h2]; rfl, h3, h4⟩
          · exact .inr ⟨i, hilt, by rw [hset]; simp, h1, h2⟩
        · intro t
          by_cases e : (os i).dst = some t
          · have htop : lastW (fun j => (listed.setIfInBounds i true).getD j false && (os j).dst == some t) ops.size = some i := by
              refine lastW_top hilt (by simp only [hset, e]; simp) (fun j hj hw => ?_)
              simp only [hset, Bool.and_eq_true, Bool.or_eq_true, beq_iff_eq] at hw
              rcases hw.1 with h1 | h1
              · exact Nat.le_of_lt ((hclash_t j hj t hw.2 (.inr e)).1 h1)
              · omega
            rw [htop]
            simp only
            rw [tr.next i hilt, e]
            exact put_slot_eq (hl.trans (hlen i (by omega)).symm)
          · rw [put_slot_ne e, hs t, lastW_congr (f := fun j => (listed.setIfInBounds i true).getD j false && (os j).dst == some t) (g := fun j => listed.getD j false && (os j).dst == some t)]
            intro j hj
            rw [hset]
            by_cases e2 : j = i
            · subst e2
              have : ((os j).dst == some t) = false := by simpa using e
              rw [this, Bool.and_false, Bool.and_false]
            · have : (j == i) = false := by simpa using e2
              rw [this, Bool.or_false]
        · intro m
          by_cases e : m ∈ (us i).map (·.1)
          · have htop : lastW (fun j => (listed.setIfInBounds i true).getD j false && ((us j).map (·.1)).contains m) ops.size = some i := by
              refine lastW_top hilt (by simp only [hset, List.contains_iff_mem.2 e]; simp) (fun j hj hw => ?_)
              simp only [hset, Bool.and_eq_true, Bool.or_eq_true, beq_iff_eq] at hw
              rcases hw.1 with h1 | h1
              · exact Nat.le_of_lt ((hclash_n j hj m (List.contains_iff_mem.1 hw.2) (.inr e)).1 h1)
              · omega
            rw [htop]
            simp only
            rw [tr.next i hilt]
            exact put_obj_mem e
          · rw [put_obj_ne e, ho m, lastW_congr (f := fun j => (listed.setIfInBounds i true).getD j false && ((us j).map (·.1)).contains m) (g := fun j => listed.getD j false && ((us j).map (·.1)).contains m)]
            intro j hj
            rw [hset]
            by_cases e2 : j = i
            · subst e2
              have : ((us j).map (·.1)).contains m = false := by
                cases hc' : ((us j).map (·.1)).contains m with
                | false => rfl
                | true => exact absurd (List.contains_iff_mem.1 hc') e
              rw [this, Bool.and_false, Bool.and_false]
            · have : (j == i) = false := by simpa using e2
              rw [this, Bool.or_false]

end
end Evp
end Go
