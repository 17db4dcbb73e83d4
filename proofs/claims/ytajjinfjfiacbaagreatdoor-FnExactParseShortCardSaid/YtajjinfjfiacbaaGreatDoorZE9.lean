/- Operations: append, make. -/
import Derived.Test.YtajjinfjfiacbaaGreatDoorZE8
set_option linter.unusedSectionVars false
set_option linter.unusedVariables false
set_option linter.unusedSimpArgs false
set_option linter.unnecessarySimpa false
namespace Go
namespace Evp
variable [Globs]

theorem growBy_le (newLen : Nat) : ∀ (r c : Nat), Builtin.growBy newLen r c ≤ max c (newLen + (newLen + 768) / 4)
  | 0, c => by simp only [Builtin.growBy]; omega
  | r + 1, c => by
    simp only [Builtin.growBy]
    split
    · omega
    · have := growBy_le newLen r (c + (c + 768) / 4)
      omega

theorem nextslicecap_le {need cap : Nat} (h : cap < need) : Builtin.nextslicecap need cap ≤ 3 * need := by
  unfold Builtin.nextslicecap
  split
  · omega
  · split
    · omega
    · have := growBy_le need 4 cap
      omega

section
variable {P : Program} {T : Types} {nm : Nat} {I : Nat → Prop} {w : World} {β : Nat → Conc} {N : Nat → Prop} {a : Act} {st : St}

/-- An object is gone. -/
theorem StOK.drop (h : StOK I w β N a.tmps st) {n : Nat} (hn : N n) : StOK I w β N a.tmps { st with objs := (n, .gone) :: st.objs } ∧
    Moves I w (Owns β st.objs) I w (Owns β ((n, .gone) :: st.objs)) := by
  refine ⟨h.upd (fun _ x => x) (fun _ _ => rfl) h.lt (fun _ _ => rfl) (fun _ x => x) (fun m o hm => ?_) (fun m o hm => ?_) ?_, ?_⟩
  · rw [look_cons] at hm
    split at hm
    · rename_i e; exact e ▸ hn
    · exact h.objN _ _ hm
  · rw [look_cons] at hm
    split at hm
    · simp only [Option.some.injEq] at hm; subst hm; exact .gone
    · exact h.obj _ _ hm
  · intro n1 n2 o1 o2 b h1 h2 h3 h4
    rw [look_cons] at h1 h2
    split at h1
    · simp only [Option.some.injEq] at h1; subst h1; simp [owned] at h3
    · split at h2
      · simp only [Option.some.injEq] at h2; subst h2; simp [owned] at h4
      · exact h.apart _ _ _ _ b h1 h2 h3 h4
  · refine ⟨rfl, rfl, rfl, Nat.le_refl _, fun _ _ _ => rfl, fun _ x => x, fun _ x => .inl x, ?_⟩
    rintro b ⟨m, o', h1, h2⟩
    rw [look_cons] at h1
    split at h1
    · simp only [Option.some.injEq] at h1; subst h1; simp [owned] at h2
    · exact .inl ⟨m, o', h1, h2⟩

/-- An object's block, written, is another's from now on. -/
theorem StOK.rename (h : StOK I w β N a.tmps st) {n b : Nat} {o0 o1 : Obj} {c : Conc} {x : Go.Obj} (ho : st.obj n = some o0) (hb : owned o0 (β n) = some b) (hn : ¬ N nm) (hd : owned o1 c = some b)
    (hok : ObjOK I (setBlock w b x) o1 c) :
    StOK I (setBlock w b x) (fun m => if m = nm then c else β m) (fun m => N m ∨ m = nm) a.tmps { st with objs := (n, .gone) :: (nm, o1) :: st.objs } ∧
      Moves I w (Owns β st.objs) I (setBlock w b x) (Owns (fun m => if m = nm then c else β m) ((n, .gone) :: (nm, o1) :: st.objs)) := by
  have hnn : N n := h.objN _ _ ho
  have hne : nm ≠ n := by rintro rfl; exact hn hnn
  have hout : ¬ I b := ((h.obj n _ ho).owned_lt hb).2
  have hI : ∀ c, I c → (setBlock w b x).heap[c]? = w.heap[c]? := fun c hc => setBlock_other (by rintro rfl; exact hout hc)
  have hβ : ∀ m, N m → (if m = nm then c else β m) = β m := fun m hm => by rw [if_neg]; rintro rfl; exact hn hm
  have hlook : ∀ m o, look ((n, .gone) :: (nm, o1) :: st.objs) m = some o → (m = n ∧ o = .gone) ∨ (m = nm ∧ o = o1) ∨ (m ≠ n ∧ m ≠ nm ∧ st.obj m = some o) := by
    intro m o hm
    rw [look_cons, look_cons] at hm
    split at hm
    · rename_i e; simp only [Option.some.injEq] at hm; exact .inl ⟨e.symm, hm.symm⟩
    · rename_i e1
      split at hm
      · rename_i e; simp only [Option.some.injEq] at hm; exact .inr (.inl ⟨e.symm, hm.symm⟩)
      · rename_i e2; exact .inr (.inr ⟨fun e => e1 e.symm, fun e => e2 e.symm, hm⟩)
  refine ⟨h.upd (fun _ x => x) hI (fun c hc => by rw [setBlock_size]; exact h.lt c hc) hβ (fun _ x => .inl x) (fun m o hm => ?_) (fun m o hm => ?_) ?_, ?_⟩
  · rcases hlook m o hm with ⟨rfl, _⟩ | ⟨rfl, _⟩ | ⟨_, _, h1⟩
    · exact .inl hnn
    · exact .inr rfl
    · exact .inl (h.objN _ _ h1)
  · rcases hlook m o hm with ⟨_, rfl⟩ | ⟨rfl, rfl⟩ | ⟨h1, h2, h3⟩
    · exact .gone
    · simpa using hok
    · rw [hβ m (h.objN _ _ h3)]
      refine (h.obj m o h3).mono (fun _ x => x) hI (by rw [setBlock_size]; exact Nat.le_refl _) (fun c' hc => ⟨setBlock_other ?_, ((h.obj m o h3).owned_lt hc).2⟩)
      rintro rfl
      exact h1 (h.apart _ _ _ _ c' h3 ho hc hb)
  · intro n1 n2 p1 p2 d h1 h2 h3 h4
    rcases hlook n1 p1 h1 with ⟨_, rfl⟩ | ⟨rfl, rfl⟩ | ⟨a1, b1, c1⟩
    · simp [owned] at h3
    · rcases hlook n2 p2 h2 with ⟨_, rfl⟩ | ⟨rfl, rfl⟩ | ⟨a2, b2, c2⟩
      · simp [owned] at h4
      · rfl
      · rw [if_pos rfl, hd] at h3
        rw [hβ n2 (h.objN _ _ c2)] at h4
        simp only [Option.some.injEq] at h3; subst h3
        exact absurd (h.apart _ _ _ _ b c2 ho h4 hb) a2
    · rcases hlook n2 p2 h2 with ⟨_, rfl⟩ | ⟨rfl, rfl⟩ | ⟨a2, b2, c2⟩
      · simp [owned] at h4
      · rw [if_pos rfl, hd] at h4
        rw [hβ n1 (h.objN _ _ c1)] at h3
        simp only [Option.some.injEq] at h4; subst h4
        exact absurd (h.apart _ _ _ _ b c1 ho h3 hb) a1
      · rw [hβ n1 (h.objN _ _ c1)] at h3; rw [hβ n2 (h.objN _ _ c2)] at h4
        exact h.apart _ _ _ _ d c1 c2 h3 h4
  · refine ⟨rfl, rfl, rfl, by rw [setBlock_size]; exact Nat.le_refl _, fun c' _ hc => setBlock_other ?_, fun _ x => x, fun _ x => .inl x, ?_⟩
    · rintro rfl; exact hc ⟨n, o0, ho, hb⟩
    · rintro d ⟨m, o', h1, h2⟩
      rcases hlook m o' h1 with ⟨_, rfl⟩ | ⟨rfl, rfl⟩ | ⟨a1, b1, c1⟩
      · simp [owned] at h2
      · simp only [if_true, hd, Option.some.injEq] at h2; subst h2; exact .inl ⟨n, o0, ho, hb⟩
      · simp only [hβ m (h.objN _ _ c1)] at h2
        exact .inl ⟨m, o', c1, h2⟩

/-- What is appended: so many elements, and their cells. -/
structure Source (P : Program) (I : Nat → Prop) (w : World) (sz : Nat) (v : Value) (ys : List PV) : Prop where
  len : (Builtin.lenOf v).run P w = .ok ys.length w
  cells : ∃ c, (Builtin.firstCells sz ys.length v).run P w = .ok c w ∧ c.size = ys.length * sz ∧ Elems I w c sz 0 ys

theorem Source.sl {v : Value} {sz : Nat} {ys : List PV} (h : Rep I w v (.sl sz ys)) : Source P I w sz v ys := by
  cases h with
  | nil =>
    rename_i ad cap
    refine ⟨by simp only [Builtin.lenOf, Sem.run_pure, List.length_nil], #[], ?_, by simp, ⟨fun i h => by simp at h, fun i j h => by simp at h, fun i h => by simp at h⟩⟩
    cases ad with
    | none => simp only [Builtin.firstCells, Sem.run_pure]
    | some ad => simp only [Builtin.firstCells, List.length_nil, Nat.zero_mul, loadCells, loadCellsFrom, Sem.run_pure]
  | sl vs hl hc hI hz hn hv hr =>
    rename_i b off len cap
    subst hl
    let f : Nat → Value := fun k => vs (k / sz) (k % sz)
    have hload := run_loadCells (P := P) w ⟨b, off, none⟩ (ys.length * sz) f (fun j hj => by
      have hsz : 0 < sz := by
        rcases Nat.eq_zero_or_pos sz with h0 | h0
        · subst h0; simp at hj
        · exact h0
      rw [addr_add]
      have h1 : j / sz < ys.length := Nat.div_lt_of_lt_mul (by rw [Nat.mul_comm]; exact hj)
      have h2 : j % sz < sz := Nat.mod_lt _ hsz
      have := hv (j / sz) (j % sz) h1 h2
      rw [show off + j = off + j / sz * sz + j % sz by have := Nat.div_add_mod' j sz; omega]
      exact this)
    refine ⟨by simp only [Builtin.lenOf, Sem.run_pure], _, by simp only [Builtin.firstCells]; exact hload, by simp, ⟨hz, fun i j h1 h2 => ⟨vs i j, ?_, hr i j h1 h2⟩, hn⟩⟩
    have h3 : j < sz := by rw [← hz i h1]; exact h2
    have h4 : i * sz + j < ys.length * sz := by
      have : (i + 1) * sz ≤ ys.length * sz := Nat.mul_le_mul_right _ h1
      rw [Nat.succ_mul] at this
      omega
    have h5 : (i * sz + j) / sz = i := by rw [Nat.mul_comm, Nat.mul_add_div (by omega), Nat.div_eq_of_lt h3, Nat.add_zero]
    have h6 : (i * sz + j) % sz = j := by rw [Nat.mul_comm, Nat.mul_add_mod, Nat.mod_eq_of_lt h3]
    simp [f, h4, h5, h6]

theorem Source.str (I : Nat → Prop) (s : ByteArray) : Source P I w 1 (.string s) (ofBytes s.data.toList) := by
  refine ⟨by simp [Builtin.lenOf, ofBytes], _, by simp only [Builtin.firstCells, Sem.run_pure]; rfl, ?_, ⟨fun i h => ?_, fun i j h1 h2 => ?_, fun i h1 j h2 => ?_⟩⟩
  · simp [ofBytes]
  · simp [ofBytes, PV.cells]
  · have hj : j = 0 := by simpa [ofBytes, PV.cells] using h2
    subst hj
    have hi : i < s.size := by simpa [ofBytes] using h1
    refine ⟨.int .u8 (s.data[i]'hi).toNat, ?_, ?_⟩
    · have h3 : i < s.data.size := hi
      simp [ofBytes, Array.getElem?_eq_getElem h3]
    · simp only [ofBytes, List.getElem_map, PV.cells, List.getElem_cons_zero]
      exact .v rfl
  · have hj : j = 0 := by simpa [ofBytes, PV.cells] using h2
    subst hj
    simp [ofBytes, PV.cells, PV.single]

theorem Elems.mono {I I' : Nat → Prop} {w w' : World} {c : Array Value} {sz k : Nat} {xs : List PV} (h : Elems I w c sz k xs) (hI : ∀ b, I b → I' b) (hw : ∀ b, I b → w'.heap[b]? = w.heap[b]?) : Elems I' w' c sz k xs :=
  ⟨h.szs, fun i j a b => let ⟨v, h1, h2⟩ := h.rep i j a b; ⟨v, h1, h2.mono hI hw⟩, h.one⟩

/-- Old elements and new ones behind them. -/
theorem Elems.join {c : Array Value} {sz : Nat} {xs ys : List PV} (hx : Elems I w c sz 0 xs) (hy : Elems I w c sz xs.length ys) : Elems I w c sz 0 (xs ++ ys) := by
  have key : ∀ i (h : i < (xs ++ ys).length), (∃ h1 : i < xs.length, (xs ++ ys)[i] = xs[i]) ∨ ∃ k, ∃ h1 : k < ys.length, i = xs.length + k ∧ (xs ++ ys)[i] = ys[k] := by
    intro i h
    by_cases h1 : i < xs.length
    · exact .inl ⟨h1, List.getElem_append_left h1⟩
    · simp only [List.length_append] at h
      refine .inr ⟨i - xs.length, by omega, by omega, ?_⟩
      rw [List.getElem_append_right (by omega)]
  refine ⟨fun i h => ?_, fun i j h1 h2 => ?_, fun i h1 j h2 => ?_⟩
  · rcases key i h with ⟨h1, e⟩ | ⟨k, h1, _, e⟩
    · rw [e]; exact hx.szs i h1
    · rw [e]; exact hy.szs k h1
  · rcases key i h1 with ⟨h3, e⟩ | ⟨k, h3, hk, e⟩
    · simp only [e] at h2 ⊢
      exact hx.rep i j h3 h2
    · have h2' : j < ys[k].cells.length := by simp only [e] at h2; exact h2
      obtain ⟨v, hv, hr⟩ := hy.rep k j h3 h2'
      refine ⟨v, by rw [hk, Nat.zero_add]; exact hv, ?_⟩
      simp only [e]
      exact hr
  · rcases key i h1 with ⟨h3, e⟩ | ⟨k, h3, hk, e⟩
    · simp only [e] at h2 ⊢
      exact hx.one i h3 j h2
    · simp only [e] at h2 ⊢
      exact hy.one k h3 j h2

theorem Source.arr {c : Conc} {sz : Nat} {xs : List PV} (h : ObjOK I w (.arr sz xs) c) : Source P I w sz c.val xs := by
  cases h with
  | emp =>
    rename_i ad
    refine ⟨by simp only [Builtin.lenOf, Conc.val, Sem.run_pure, List.length_nil], #[], ?_, by simp, ⟨fun i h => by simp at h, fun i j h => by simp at h, fun i h => by simp at h⟩⟩
    cases ad with
    | none => simp only [Builtin.firstCells, Conc.val, Sem.run_pure]
    | some ad => simp only [Builtin.firstCells, Conc.val, List.length_nil, Nat.zero_mul, loadCells, loadCellsFrom, Sem.run_pure]
  | arr hv =>
    rename_i b cap
    obtain ⟨c, e, fr, h1, h2, h3, h4⟩ := hv.row
    have hle : xs.length * sz ≤ c.size := Nat.le_trans (Nat.mul_le_mul_right _ hv.room) h2
    let f : Nat → Value := fun k => (c[k]?).getD undef
    have hload := run_loadCells (P := P) w ⟨b, 0, none⟩ (xs.length * sz) f (fun j hj => by
      have hj' : j < c.size := by omega
      rw [addr_add]
      simp [World.cell?, h1, f, hj'])
    refine ⟨by simp only [Builtin.lenOf, Conc.val, Sem.run_pure], _, by simp only [Builtin.firstCells, Conc.val]; exact hload, by simp, ⟨hv.szs, fun i j h5 h6 => ?_, hv.one⟩⟩
    obtain ⟨v, hv', hr⟩ := h4 i j h5 h6
    refine ⟨v, ?_, hr⟩
    have h7 : j < sz := by rw [← hv.szs i h5]; exact h6
    have h8 : i * sz + j < xs.length * sz := by
      have : (i + 1) * sz ≤ xs.length * sz := Nat.mul_le_mul_right _ h5
      rw [Nat.succ_mul] at this
      omega
    simp [f, h8, hv']

theorem Elems.append_left {c d : Array Value} {sz k : Nat} {xs : List PV} (h : Elems I w c sz k xs) : Elems I w (c ++ d) sz k xs :=
  ⟨h.szs, fun i j a b => let ⟨v, h1, h2⟩ := h.rep i j a b; ⟨v, by rw [Array.getElem?_append_left (Array.getElem?_eq_some_iff.1 h1).1]; exact h1, h2⟩, h.one⟩

theorem Elems.append_right {c d : Array Value} {sz : Nat} {k : Nat} {xs : List PV} (h : Elems I w d sz 0 xs) (hc : c.size = k * sz) : Elems I w (c ++ d) sz k xs := by
  refine ⟨h.szs, fun i j a b => ?_, h.one⟩
  obtain ⟨v, h1, h2⟩ := h.rep i j a b
  refine ⟨v, ?_, h2⟩
  rw [Array.getElem?_append_right (by rw [hc, Nat.add_mul]; omega), hc, Nat.add_mul]
  rw [Nat.zero_add] at h1
  rw [show k * sz + i * sz + j - k * sz = i * sz + j by omega]
  exact h1

theorem Elems.lay {c : Array Value} {d : Array Value} {sz k : Nat} {xs : List PV} (h : Elems I w d sz 0 xs) (hd : d.size = xs.length * sz) (hc : k * sz + d.size ≤ c.size) : Elems I w (lay c (k * sz) d.toList) sz k xs := by
  refine ⟨h.szs, fun i j a b => ?_, h.one⟩
  obtain ⟨v, h1, h2⟩ := h.rep i j a b
  refine ⟨v, ?_, h2⟩
  rw [Nat.zero_add] at h1
  have h3 := (Array.getElem?_eq_some_iff.1 h1).1
  rw [lay_get _ _ _ _ (by simpa using hc), if_pos (by rw [Nat.add_mul]; simp; omega), Nat.add_mul]
  rw [show k * sz + i * sz + j - k * sz = i * sz + j by omega]
  simpa using h1

theorem Elems.lay_before {c : Array Value} {d : List Value} {sz k : Nat} {xs : List PV} (h : Elems I w c sz 0 xs) (hk : xs.length ≤ k) (hc : k * sz + d.length ≤ c.size) : Elems I w (Evp.lay c (k * sz) d) sz 0 xs := by
  refine ⟨h.szs, fun i j a b => ?_, h.one⟩
  obtain ⟨v, h1, h2⟩ := h.rep i j a b
  refine ⟨v, ?_, h2⟩
  rw [lay_get _ _ _ _ hc, if_neg]
  · exact h1
  · have h3 : j < sz := by rw [← h.szs i a]; exact b
    have : (i + 1) * sz ≤ k * sz := Nat.mul_le_mul_right _ (by omega)
    rw [Nat.succ_mul] at this
    rw [Nat.zero_add]
    omega

theorem Elems.plain {c : Array Value} {sz : Nat} {xs : List PV} (h : Elems I w c sz 0 xs) (hc : c.size = xs.length * sz) : ∀ x ∈ c.toList, plainV x = true := by
  intro x hx
  obtain ⟨k, hk, rfl⟩ := List.getElem_of_mem hx
  have hk' : k < xs.length * sz := by rw [← hc]; simpa using hk
  have hsz : 0 < sz := by
    rcases Nat.eq_zero_or_pos sz with h0 | h0
    · subst h0; simp at hk'
    · exact h0
  have h1 : k / sz < xs.length := Nat.div_lt_of_lt_mul (by rw [Nat.mul_comm]; exact hk')
  have h2 : k % sz < xs[k / sz].cells.length := by rw [h.szs _ h1]; exact Nat.mod_lt _ hsz
  obtain ⟨v, hv, hr⟩ := h.rep (k / sz) (k % sz) h1 h2
  rw [Nat.zero_add, Nat.div_add_mod'] at hv
  have : c.toList[k] = v := by
    have h3 : k < c.size := by omega
    rw [Array.getElem?_eq_getElem h3] at hv
    simpa using hv
  rw [this]
  exact hr.plain (h.one _ h1 _ h2)

def roomStores (base : Option Addr) (k : Nat) (l : List Value) : Sem Unit :=
  match base with
  | some a => storeCells (a.add k) l
  | none => pure ()

theorem append_run_room {t t2 e : TypeId} {ti ei : TI} (ht : TypeOK P t ti) (hk : ti.kind = .slice e) (he : TypeOK P e ei) {d2 : TypeDesc}
    (h2 : ∀ w', (underlying t2).run P w' = .ok d2 w') (hd2 : (∃ e2, d2 = .slice e2) ∨ d2 = .string) {base : Option Addr} {sLen n cap : Nat} {xv : Value} {new : Array Value}
    (hl : (Builtin.lenOf xv).run P w = .ok n w) (hn : (Builtin.firstCells ei.size n xv).run P w = .ok new w) (hcap : sLen + n ≤ cap) {ty : TypeId} :
    (Builtin.append_ #[t, t2] ty #[.slice base sLen cap, xv]).run P w = ((roomStores base (sLen * ei.size) new.toList).run P w).andThen fun _ w' => .ok (.slice base (sLen + n) cap) w' := by
  unfold Builtin.append_ roomStores
  rcases hd2 with ⟨e2, rfl⟩ | rfl
  all_goals
    cases base with
    | none => simp [ht.run_slice hk, he.run_size, h2, hl, hcap, hn]
    | some ad => simp [ht.run_slice hk, he.run_size, h2, hl, hcap, hn]

theorem append_run_grow {t t2 e : TypeId} {ti ei : TI} (ht : TypeOK P t ti) (hk : ti.kind = .slice e) (he : TypeOK P e ei) {d2 : TypeDesc}
    (h2 : ∀ w', (underlying t2).run P w' = .ok d2 w') (hd2 : (∃ e2, d2 = .slice e2) ∨ d2 = .string) {base : Option Addr} {sLen n cap : Nat} {xv : Value} {old new : Array Value}
    (hl : (Builtin.lenOf xv).run P w = .ok n w) (ho : (Builtin.firstCells ei.size sLen (.slice base sLen cap)).run P w.drew = .ok old w.drew)
    (hn : (Builtin.firstCells ei.size n xv).run P w.drew = .ok new w.drew) (hcap : ¬ sLen + n ≤ cap)
    (hroom : (sLen + n) * ei.bytes ≤ 70368744177664) (hb0 : ei.bytes ≠ 0) {ty : TypeId} :
    ∃ newCap rest, sLen + n ≤ newCap ∧ rest.size = (newCap - (sLen + n)) * ei.size ∧
      (Builtin.append_ #[t, t2] ty #[.slice base sLen cap, xv]).run P w = .ok (.slice (some ⟨w.heap.size, 0, none⟩) (sLen + n) newCap) (w.drew.alloc (.cells (old ++ new ++ rest) e)) := by
  obtain ⟨zi, z, hi1, hi2, hi3, hi4, hi5⟩ := he.info
  have hzs : z.cells.size = ei.size := by rw [← Array.length_toList, hi5, List.length_map, he.len]
  have hcapb : ¬ (2 ^ 48 < Builtin.nextslicecap (sLen + n) cap * zi.bytes) := by
    have h3 := nextslicecap_le (need := sLen + n) (cap := cap) (by omega)
    have h4 : Builtin.nextslicecap (sLen + n) cap * zi.bytes ≤ 3 * (sLen + n) * zi.bytes := Nat.mul_le_mul_right _ h3
    rw [Nat.mul_assoc, hi3] at h4
    rw [hi3]
    omega
  have hti : ∀ w', (typeInfo e).run P w' = .ok zi w' := fun w' => by simp [typeInfo, program, Sem.run, hi1, Pure.pure, Bind.bind, Sem.bind]
  have hzv : ∀ w', (zeroValue e).run P w' = .ok z w' := fun w' => by simp [zeroValue, hti, hi4]
  let q : Question := .appendCap (sLen + n) cap e
  let c := q.cut (w.tape w.drawn q)
  have hc : sLen + n ≤ c := by simp only [c, q, Question.cut]; omega
  have hroomrun : ∀ (k : Nat) (w' : World), (askRoom k).run P w' = .ok () w' := by
    intro k w'
    unfold askRoom
    split <;> rfl
  have hzb : ¬ zi.bytes = 0 := by rw [hi3]; exact hb0
  refine ⟨c, Builtin.zeroCells z.cells (c - (sLen + n)), hc, by simp [Builtin.zeroCells, hzs], ?_⟩
  unfold Builtin.append_
  rcases hd2 with ⟨e2, rfl⟩ | rfl
  all_goals
    simp [ht.run_slice hk, he.run_size, h2, hl, hcap, hn, hti, hzb, hcapb, ho, hzv, hroomrun, newRow_run]
    rw [if_neg (by simp [Question.forced])]
theorem sim_append (h : StOK I w β N a.tmps st) (hf : Fresh N nm) {t t2 e : TypeId} {ti ei : TI} (ht : TypeOK P t ti) (hk : ti.kind = .slice e) (he : TypeOK P e ei) {d2 : TypeDesc}
    (h2 : ∀ w', (underlying t2).run P w' = .ok d2 w') (hd2 : (∃ e2, d2 = .slice e2) ∨ d2 = .string) {n : Nat} {xs ys : List PV} (hobj : st.obj n = some (.arr ei.size xs)) {xv : Value}
    (hsrc : ∀ w' : World, w'.heap = w.heap → Source P I w' ei.size xv ys)
    (hroom : (xs.length + ys.length) * ei.bytes ≤ 70368744177664) (hb0 : ei.bytes ≠ 0) {ty : TypeId} {run : Result Next}
    (hrun : run = ((Builtin.append_ #[t, t2] ty #[(β n).val, xv]).run P w).andThen fun v w' => .ok (.value v) w') :
    OpSim nm I w β N a.tmps st (.slc nm) [(n, .gone), (nm, .arr ei.size (xs ++ ys))] run := by
  have hN := h.objN _ _ hobj
  have hok := h.obj n _ hobj
  have hs0 := hsrc w rfl
  obtain ⟨new, hn1, hn2, hn3⟩ := hs0.cells
  have hval : ∃ base cap, (β n).val = .slice base xs.length cap := by
    generalize β n = c at *
    cases hok with
    | emp => exact ⟨_, _, rfl⟩
    | arr hv => exact ⟨_, _, rfl⟩
  obtain ⟨base, cap, hbv⟩ := hval
  rw [hbv] at hrun
  by_cases hcap : xs.length + ys.length ≤ cap
  · -- within the room
    rw [append_run_room ht hk he h2 hd2 hs0.len hn1 hcap] at hrun
    generalize hc : β n = c at *
    cases hok with
    | emp =>
      rename_i ad
      simp only [Conc.val, Value.slice.injEq, List.length_nil, true_and] at hbv
      obtain ⟨rfl, rfl⟩ := hbv
      have hy : ys = [] := by
        simp only [List.length_nil, Nat.zero_add] at hcap
        exact List.length_eq_zero_iff.1 (by omega)
      subst hy
      have hnew : new = #[] := Array.size_eq_zero_iff.1 (by rw [hn2]; simp)
      subst hnew
      have hst : (roomStores ad (([] : List PV).length * ei.size) (#[] : Array Value).toList).run P w = .ok () w := by
        cases ad <;> simp [roomStores, storeCells]
      rw [hst] at hrun
      obtain ⟨nx, v, w', I', β', N', g1, g2, g3, g4, g5, g6⟩ := sim_nil (nm := nm) h hf (sz := ei.size) (ad := ad) (run := run) (by rw [hrun]; simp)
      obtain ⟨k1, k2⟩ := g3.drop (n := n) (g6.n1 n hN)
      exact ⟨nx, v, w', I', β', N', g1, g2, k1, g4, g5, ⟨g6.moves.trans k2, g6.n1, g6.n2, g6.beta⟩⟩
    | arr hv =>
      rename_i b cap'
      simp only [Conc.val, Value.slice.injEq, true_and] at hbv
      obtain ⟨rfl, rfl⟩ := hbv
      obtain ⟨cs, e', fr, g1, g2, g3, g4⟩ := hv.row
      have hle : (xs.length + ys.length) * ei.size ≤ cs.size := Nat.le_trans (Nat.mul_le_mul_right _ hcap) g2
      rw [Nat.add_mul] at hle
      have hst := run_storeCells_lay (P := P) (b := b) (o := xs.length * ei.size) (e := e') (fr := fr) new.toList 0 cs w g1 g3 (by simp [hn2]; omega) (hn3.plain hn2)
      have hst' : (roomStores (some ⟨b, 0, none⟩) (xs.length * ei.size) new.toList).run P w = .ok () (setBlock w b (.cells (lay cs (xs.length * ei.size) new.toList) e' fr)) := by
        simp only [roomStores, addr_add, Nat.zero_add]
        simpa using hst
      rw [hst'] at hrun
      have hI : ∀ x, I x → (setBlock w b (.cells (lay cs (xs.length * ei.size) new.toList) e' fr)).heap[x]? = w.heap[x]? := fun x hx => setBlock_other (by rintro rfl; exact hv.out hx)
      have hel : Elems I w (lay cs (xs.length * ei.size) new.toList) ei.size 0 (xs ++ ys) := by
        refine Elems.join (Elems.lay_before ⟨hv.szs, fun i j x y => by simpa using g4 i j x y, hv.one⟩ (Nat.le_refl _) (by simp [hn2]; omega)) (hn3.lay hn2 (by rw [hn2]; omega))
      have hel' := hel.mono (fun _ x => x) hI
      have hnew : ObjOK I (setBlock w b (.cells (lay cs (xs.length * ei.size) new.toList) e' fr)) (.arr ei.size (xs ++ ys)) (.arr b (xs ++ ys).length cap' ei.size) := by
        refine .arr ⟨hv.out, by rw [setBlock_size]; exact hv.lt, by simpa using hcap, hel'.szs, ⟨_, e', fr, setBlock_get hv.lt, by rw [lay_size]; exact g2, by rw [lay_size]; exact g3, fun i j x y => ?_⟩, hel'.one⟩
        simpa using hel'.rep i j x y
      obtain ⟨k1, k2⟩ := h.rename (nm := nm) hobj (by rw [hc]; rfl) (hf nm (Nat.le_refl _) (by omega)) (c := .arr b (xs ++ ys).length cap' ei.size) (by simp [owned]) hnew
      refine ⟨_, (.slice (some ⟨b, 0, none⟩) (xs.length + ys.length) cap'), _, I, _, _, hrun, .inl rfl, k1, .slc' (by simp [Conc.val]), fun m hm => ?_, ⟨k2, fun _ x => .inl x, ?_, ?_⟩⟩
      · simp only [Slot.names, List.mem_singleton] at hm
        exact .inr hm
      · rintro m (hm | rfl)
        · exact .inl hm
        · exact .inr ⟨Nat.le_refl _, by omega⟩
      · intro m hm
        show (if m = nm then _ else β m) = β m
        rw [if_neg]
        rintro rfl
        exact hf _ (Nat.le_refl _) (by omega) hm
  · -- a new block
    let w1 : World := w.drew
    have h1 : StOK I w1 β N a.tmps st := h.heap rfl
    have hs1 := hsrc w1 rfl
    obtain ⟨new1, hn1', hn2', hn3'⟩ := hs1.cells
    have ho1 := Source.arr (P := P) (h1.obj n _ hobj)
    obtain ⟨old, hol, hos, hoe⟩ := ho1.cells
    rw [hbv] at hol
    obtain ⟨newCap, rest, hc1, hc2, hc3⟩ := append_run_grow ht hk he h2 hd2 hs0.len hol hn1' hcap hroom hb0 (ty := ty)
    rw [hc3] at hrun
    have hel : Elems I w1 (old ++ new1 ++ rest) ei.size 0 (xs ++ ys) := (Elems.join hoe.append_left (hn3'.append_right hos)).append_left
    have hmul : newCap * ei.size = (xs.length + ys.length) * ei.size + (newCap - (xs.length + ys.length)) * ei.size := by rw [← Nat.add_mul]; congr 1; omega
    have hsize : newCap * ei.size ≤ (old ++ new1 ++ rest).size := by
      rw [Array.size_append, Array.size_append, hos, hn2', hc2, hmul, Nat.add_mul]
      exact Nat.le_refl _
    have hsim := sim_make (nm := nm) (I := I) (w := w1) (I1 := I) (ups := []) (.refl _ _ _) h1 hf (o := .arr ei.size (xs ++ ys)) (c := .arr w1.heap.size (xs ++ ys).length newCap ei.size) (x := .cells (old ++ new1 ++ rest) e) (by simp [owned])
      (hel.new h1.lt (by simpa using hc1) hsize (noFrozen_zero _)) (.inl rfl) (run := run) (by rw [hrun]; simp [Conc.val, w1])
    obtain ⟨nx, v, w', I', β', N', g1, g2, g3, g4, g5, g6⟩ := hsim
    obtain ⟨k1, k2⟩ := g3.drop (n := n) (g6.n1 n hN)
    have hmv : Moves I w (Owns β st.objs) I w1 (Owns β st.objs) := Moves.heap rfl rfl rfl rfl
    exact ⟨nx, v, w', I', β', N', g1, g2, k1, g4, g5, ⟨(hmv.trans g6.moves).trans k2, g6.n1, g6.n2, g6.beta⟩⟩

end
end Evp
end Go
