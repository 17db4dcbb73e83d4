/- The library's contracts turned into the evaluator's: splitting and joining. -/
import Derived.Test.YtajjinfjfiacbaaGreatDoorZE35
import Derived.Lib.SplitLaws
import Derived.Lib.LaidTab
import Derived.Below
set_option linter.unusedSectionVars false
set_option linter.unusedVariables false
set_option linter.unusedSimpArgs false
set_option linter.unnecessarySimpa false
namespace Go
namespace Evp
open Go.RowKit (Below)
set_option linter.unusedSectionVars false

theorem Quiet.of_below {w w' : World} (h : Below w.heap.size w w') : Quiet w w' := ⟨h.size, h.block, h.os, h.tape, h.output⟩
theorem Quiet.of_eq {w w' : World} (h : w' = w) : Quiet w w' := by subst h; exact .rfl' _
theorem Quiet.alloc (w : World) (o : Go.Obj) : Quiet w (w.alloc o) := Quiet.of_below (Go.RowKit.Below.alloc (Go.RowKit.Below.refl _ _) (Nat.le_refl _) o)


theorem splitK_one (c : UInt8) : ∀ l : List UInt8, Lib.splitK [c] 0 (l.count c) l = splitL c l
  | [] => rfl
  | b :: l => by
    have ih := splitK_one c l
    rw [splitL]
    rcases Bool.eq_false_or_eq_true (b == c) with h | h
    · rw [h, cond_true]
      rw [beq_iff_eq] at h
      subst h
      have hix : Lib.index (b :: l) [b] = 0 := by rw [Lib.index]; simp [List.isPrefixOf]
      rw [List.count_cons_self, Lib.splitK, hix, if_neg (by decide), ← ih]
      rfl
    · rw [h, cond_false]
      have hne : b ≠ c := by rw [beq_eq_false_iff_ne] at h; exact h
      rw [List.count_cons_of_ne hne, ← ih]
      have hp : ([c] : List UInt8).isPrefixOf (b :: l) = false := by simp [List.isPrefixOf, Ne.symm hne]
      have hix : Lib.index (b :: l) [c] = if Lib.index l [c] == -1 then -1 else Lib.index l [c] + 1 := by rw [Lib.index, hp]; simp
      generalize l.count c = k at *
      cases k with
      | zero => rfl
      | succ k =>
        rw [Lib.splitK, Lib.splitK, hix]
        have hge := Lib.index_ge l [c]
        by_cases hm : Lib.index l [c] = -1
        · rw [if_pos (beq_iff_eq.2 hm), if_pos (beq_iff_eq.2 hm), if_pos (by decide)]
        · obtain ⟨j, hj⟩ : ∃ j : Nat, Lib.index l [c] = j := ⟨(Lib.index l [c]).toNat, by omega⟩
          have n1 : ((j : Int) == -1) = false := by rw [beq_eq_false_iff_ne]; omega
          have n2 : ((j : Int) + 1 == -1) = false := by rw [beq_eq_false_iff_ne]; omega
          have e1 : ((j : Int) + 1).toNat = j + 1 := by omega
          simp [hj, n1, n2, e1]

theorem splitB_one (s : ByteArray) (c : UInt8) : (Lib.splitB ⟨#[c]⟩ 0 (Lib.countB s ⟨#[c]⟩) s).map Value.string = (splitL c s.data.toList).map fun x => Value.string (bs x) := by
  have h1 := Lib.splitB_data ⟨#[c]⟩ 0 (Lib.countB s ⟨#[c]⟩) s
  have h2 : Lib.countB s ⟨#[c]⟩ = s.data.toList.count c := Lib.count_one c s.data.toList
  rw [h2] at h1 ⊢
  have h3 := splitK_one c s.data.toList
  change List.map _ _ = Lib.splitK [c] 0 (s.data.toList.count c) s.data.toList at h1
  rw [h3] at h1
  rw [← h1, List.map_map]
  rfl

theorem splitB_count (s : ByteArray) (c : UInt8) : Lib.countB s ⟨#[c]⟩ + 1 = (splitL c s.data.toList).length := by
  have h := congrArg List.length (splitB_one s c)
  rw [List.length_map, List.length_map, Lib.splitB_all ⟨#[c]⟩ (Nat.le_refl 1) 0 _ s rfl] at h
  exact h

theorem one_of_list {t : ByteArray} {c : UInt8} (h : t.data.toList = [c]) : t = ⟨#[c]⟩ := by
  rw [← bs_data t, h]

theorem asTexts_inv : ∀ {xs : List PV} {l : List (List UInt8)}, asTexts xs = some l → ∃ bl : List ByteArray, xs = bl.map (fun s => PV.v (.string s)) ∧ l = bl.map (·.data.toList)
  | [], l, h => by cases h; exact ⟨[], rfl, rfl⟩
  | p :: r, l, h => by
    unfold asTexts at h
    split at h
    · rename_i hh; cases hh
    · rename_i s r2 hh
      cases hh
      cases hr : asTexts r with
      | none => rw [hr] at h; cases h
      | some l2 =>
        rw [hr] at h
        cases h
        obtain ⟨bl, rfl, rfl⟩ := asTexts_inv hr
        exact ⟨s :: bl, rfl, rfl⟩
    · cases h

/-- Where texts lie that read as a list of texts. -/
theorem rep_texts {I : Nat → Prop} {w : World} {v : Value} {bl : List ByteArray} (h : Rep I w v (.sl 1 (bl.map fun s => PV.v (.string s)))) (hlt : ∀ b, I b → b < w.heap.size) :
    (bl = [] ∧ ∃ a c, v = .slice a 0 c) ∨ ∃ b o c, v = .slice (some ⟨b, o, none⟩) bl.length c ∧ b < w.heap.size ∧ bl.length ≤ c ∧ ∀ (j : Nat) x, bl[j]? = some x → w.cell? ⟨b, o + j, none⟩ = some (.string x) := by
  generalize hx : (bl.map fun s => PV.v (.string s)) = xs at h
  cases h with
  | nil =>
    refine .inl ⟨?_, _, _, rfl⟩
    cases bl with
    | nil => rfl
    | cons _ _ => simp at hx
  | sl vs hl hc hI hz hn hv hr =>
    rename_i b off len cap
    subst hx
    cases hbl : bl with
    | nil =>
      subst hbl
      simp at hl
      exact .inl ⟨rfl, _, _, by rw [← hl]⟩
    | cons x0 r0 =>
      rw [← hbl]
      refine .inr ⟨b, off, cap, by rw [← hl, List.length_map], hlt b (hI (by rw [hbl]; simp)), by rw [List.length_map] at hl; omega, ?_⟩
      intro j x hj
      have hjl : j < bl.length := (List.getElem?_eq_some_iff.1 hj).1
      have h1 := hv j 0 (by simpa using hjl) (by decide)
      have h2 := hr j 0 (by simpa using hjl) (by simp [PV.cells])
      simp only [List.getElem_map, PV.cells, List.getElem_cons_zero, Nat.mul_one, Nat.add_zero] at h1 h2
      have h3 : bl[j] = x := (List.getElem?_eq_some_iff.1 hj).2
      rw [h3] at h2
      rw [h1]
      generalize vs j 0 = v at h2
      cases h2
      rfl

variable [Globs]

theorem callOK_split {P : Program} {sg : FSig} {f : FuncId} {ps rs : List PV} (hsg : sg = ⟨[.val, .val], [.own]⟩) (h : xSplit ps = some rs) (e : TypeId)
    (hc : ∀ (s : ByteArray) (c : UInt8) (w : World), Globs.ok w → s.size < 4294967281 → Calls P f #[.string s, .string ⟨#[c]⟩] w fun r w' =>
      r = .returned (.slice (some ⟨w.heap.size, 0, none⟩) (Lib.countB s ⟨#[c]⟩ + 1) (Lib.countB s ⟨#[c]⟩ + 1)) ∧ w' = w.alloc (.cells ((Lib.splitB ⟨#[c]⟩ 0 (Lib.countB s ⟨#[c]⟩) s).map Value.string).toArray e)) : CallOK P sg f ps rs := by
  subst hsg
  unfold xSplit at h
  split at h
  · rename_i s t
    split at h
    · rename_i c ht
      rcases Bool.eq_false_or_eq_true (s.size.ble 4294967280) with hb | hb
      · rw [hb, cond_true] at h
        cases h
        have hsz := Nat.le_of_ble_eq_true hb
        obtain rfl := one_of_list ht
        intro I w vs cs hlt hgl hargs _
        obtain ⟨rfl, rfl⟩ := argsOK_flat hargs rfl rfl
        refine (hc s c w hgl.ok (by omega)).mono ?_
        rintro r w' ⟨rfl, rfl⟩
        rw [splitB_one, splitB_count]
        have hlen : (texts (splitL c s.data.toList)).length = (splitL c s.data.toList).length := by rw [texts, List.length_map]
        have hmv := (Quiet.alloc w (.cells ((splitL c s.data.toList).map fun x => Value.string (bs x)).toArray e)).moves I
        have hsz2 : (w.alloc (.cells ((splitL c s.data.toList).map fun x => Value.string (bs x)).toArray e)).heap.size = w.heap.size + 1 := by
          show (w.heap.push _).size = _
          rw [Array.size_push]
        refine ⟨I, [.slice (some ⟨w.heap.size, 0, none⟩) (splitL c s.data.toList).length (splitL c s.data.toList).length], rfl, hmv, fun b hb => by rw [hsz2]; exact Nat.lt_succ_of_lt (hlt b hb), _, [], [w.heap.size], (List.append_nil _).symm, ?_, .nil⟩
        have hobj : OwnArr I (w.alloc (.cells ((splitL c s.data.toList).map fun x => Value.string (bs x)).toArray e)) w.heap.size (splitL c s.data.toList).length 1 (texts (splitL c s.data.toList)) := {
          out := fun hI => Nat.lt_irrefl _ (hlt _ hI)
          lt := by rw [hsz2]; exact Nat.lt_succ_self _
          room := by rw [hlen]; exact Nat.le_refl _
          szs := fun i hi => by simp [texts, PV.cells]
          row := by
            refine ⟨((splitL c s.data.toList).map fun x => Value.string (bs x)).toArray, e, (0, 0), ?_, ?_, ?_, ?_⟩
            · show (w.heap.push _)[w.heap.size]? = _
              rw [Array.getElem?_push, if_pos rfl]
            · simp
            · intro o _ ho
              exact Nat.not_lt_zero _ ho.2
            · intro i j h1 h2
              have hi : i < (splitL c s.data.toList).length := by rw [hlen] at h1; exact h1
              have hj : j = 0 := by
                simp [texts, PV.cells] at h2
                exact h2
              subst hj
              refine ⟨.string (bs (splitL c s.data.toList)[i]), by simp [hi], ?_⟩
              simp only [texts, List.getElem_map, PV.cells, List.getElem_cons_zero]
              exact .v rfl
          one := fun i hi j hj => by
            have hj0 : j = 0 := by
              simp [texts, PV.cells] at hj
              exact hj
            subst hj0
            simp [texts, PV.cells, PV.single] }
        have hob := ObjOK.arr hobj
        rw [hlen] at hob
        have := ResOK.own (B := w.heap.size) (ks := []) (vs := []) (ps := []) (bs := []) hob (fun x hx => by
          obtain ⟨y, _, rfl⟩ := List.mem_map.1 hx
          rfl) (fun b hb => by cases hb; exact ⟨Nat.le_refl _, by simp⟩) .nil
        exact this
      · rw [hb, cond_false] at h
        cases h
    · cases h
  · cases h

theorem callOK_join {P : Program} {sg : FSig} {f : FuncId} {ps rs : List PV} (hsg : sg = ⟨[.val, .val], [.flat]⟩) (h : xJoin ps = some rs)
    (h0 : ∀ (a : Option Addr) (c : Nat) (sep : ByteArray) (w : World), Calls P f #[.slice a 0 c, .string sep] w fun r w' => r = .returned (.string ⟨#[]⟩) ∧ w' = w)
    (hc : ∀ (bk o c : Nat) (xs : List ByteArray) (sep : ByteArray) (w : World), (∀ (j : Nat) x, xs[j]? = some x → w.cell? ⟨bk, o + j, none⟩ = some (.string x)) → bk < w.heap.size → xs.length ≤ 140737488355328 → xs.length ≤ c → (Lib.join (xs.map (·.data.toList)) sep.data.toList).length ≤ 140737488355328 →
      Calls P f #[.slice (some ⟨bk, o, none⟩) xs.length c, .string sep] w fun r w' => r = .returned (.string ⟨(Lib.join (xs.map (·.data.toList)) sep.data.toList).toArray⟩) ∧ Below w.heap.size w w') : CallOK P sg f ps rs := by
  subst hsg
  unfold xJoin at h
  split at h
  · rename_i xs t
    split at h
    · rename_i l hl
      obtain ⟨bl, rfl, rfl⟩ := asTexts_inv hl
      rcases Bool.eq_false_or_eq_true ((bl.map (·.data.toList)).length.ble 140737488355328 && (Lib.join (bl.map (·.data.toList)) t.data.toList).length.ble 140737488355328) with hb | hb
      · rw [hb, cond_true] at h
        cases h
        rw [Bool.and_eq_true] at hb
        have hb1 := Nat.le_of_ble_eq_true hb.1
        have hb2 := Nat.le_of_ble_eq_true hb.2
        rw [List.length_map] at hb1
        intro I w vs cs hlt hgl hargs _
        cases hargs with
        | val hv ht =>
          cases ht with
          | val hs ht =>
            cases ht
            cases hs
            rcases rep_texts hv hlt with ⟨rfl, a, c, rfl⟩ | ⟨b, o, c, rfl, hbl, hcap, hcell⟩
            · refine (h0 a c t w).mono ?_
              rintro r w' ⟨rfl, rfl⟩
              exact ⟨I, [.string ⟨#[]⟩], rfl, (Quiet.rfl' _).moves I, hlt, _, [], [], (List.append_nil _).symm, .flat (.v rfl) rfl .nil, .nil⟩
            · refine (hc b o c bl t w hcell hbl hb1 hcap hb2).mono ?_
              rintro r w' ⟨rfl, hbw⟩
              exact ⟨I, [.string ⟨(Lib.join (bl.map (·.data.toList)) t.data.toList).toArray⟩], rfl, (Quiet.of_below hbw).moves I, fun b hb => Nat.lt_of_lt_of_le (hlt b hb) hbw.size, _, [], [], (List.append_nil _).symm, .flat (.v rfl) rfl .nil, .nil⟩
      · rw [hb, cond_false] at h
        cases h
    · cases h
  · cases h

theorem callOK_indexByte {P : Program} {sg : FSig} {f : FuncId} {ps rs : List PV} (hsg : sg = ⟨[.val, .val], [.flat]⟩) (h : xIndexByte ps = some rs)
    (hc : ∀ (s : ByteArray) (c : Int) (w : World), Calls P f #[.string s, .int .u8 c] w fun e w' => e = .returned (.int .i64 (Lib.indexByte s.data.toList c.toNat.toUInt8)) ∧ w' = w) : CallOK P sg f ps rs := by
  subst hsg
  unfold xIndexByte at h
  split at h
  · cases h
    rename_i s c
    exact callOK_quiet rfl rfl rfl rfl rfl fun w _ => (hc s c w).mono fun e w' ⟨h1, h2⟩ => ⟨h1, .of_eq h2⟩
  · cases h

theorem callOK_index {P : Program} {sg : FSig} {f : FuncId} {ps rs : List PV} (hsg : sg = ⟨[.val, .val], [.flat]⟩) (h : xIndex ps = some rs)
    (hc : ∀ (s : ByteArray) (c : UInt8) (w : World), Calls P f #[.string s, .string ⟨#[c]⟩] w fun e w' => e = .returned (.int .i64 (Lib.indexByte s.data.toList c)) ∧ w' = w) : CallOK P sg f ps rs := by
  subst hsg
  unfold xIndex at h
  split at h
  · rename_i s t
    split at h
    · rename_i c ht
      cases h
      obtain rfl := one_of_list ht
      exact callOK_quiet rfl rfl rfl rfl rfl fun w _ => (hc s c w).mono fun e w' ⟨h1, h2⟩ => ⟨h1, .of_eq h2⟩
    · cases h
  · cases h

theorem callOK_count {P : Program} {sg : FSig} {f : FuncId} {ps rs : List PV} (hsg : sg = ⟨[.val, .val], [.flat]⟩) (h : xCount ps = some rs)
    (hc : ∀ (s : ByteArray) (c : UInt8) (w : World), Calls P f #[.string s, .string ⟨#[c]⟩] w fun e w' => e = .returned (.int .i64 (Lib.countByte s.data.toList c)) ∧ w' = w) : CallOK P sg f ps rs := by
  subst hsg
  unfold xCount at h
  split at h
  · rename_i s t
    split at h
    · rename_i c ht
      cases h
      obtain rfl := one_of_list ht
      exact callOK_quiet rfl rfl rfl rfl rfl fun w _ => (hc s c w).mono fun e w' ⟨h1, h2⟩ => ⟨h1, .of_eq h2⟩
    · cases h
  · cases h

theorem callOK_repeat {P : Program} {sg : FSig} {f : FuncId} {ps rs : List PV} (hsg : sg = ⟨[.val, .val], [.flat]⟩) (h : xRepeat ps = some rs)
    (hc : ∀ (s : ByteArray) (c : Nat) (w : World), c ≤ 9223372036854775807 → s.size * c ≤ 140737488355328 → Calls P f #[.string s, .int .i64 c] w fun e w' => e = .returned (.string ⟨(Lib.repeatL s.data.toList c).toArray⟩) ∧ Below w.heap.size w w') : CallOK P sg f ps rs := by
  subst hsg
  unfold xRepeat at h
  split at h
  · rename_i s n
    rcases Bool.eq_false_or_eq_true (decide (0 ≤ n) && decide (n ≤ 9223372036854775807) && (s.size * n.toNat).ble 140737488355328) with hb | hb
    · rw [hb, cond_true] at h
      cases h
      simp only [Bool.and_eq_true, decide_eq_true_eq] at hb
      obtain ⟨⟨h1, h2⟩, h3⟩ := hb
      obtain ⟨k, rfl⟩ : ∃ k : Nat, n = k := ⟨n.toNat, by omega⟩
      exact callOK_quiet rfl rfl rfl rfl rfl fun w _ => (hc s k w (by omega) (Nat.le_of_ble_eq_true h3)).mono fun e w' ⟨h1, h2⟩ => ⟨h1, .of_below h2⟩
    · rw [hb, cond_false] at h
      cases h
  · cases h

theorem callOK_itoa {P : Program} {sg : FSig} {f : FuncId} {ps rs : List PV} (hsg : sg = ⟨[.val], [.flat]⟩) (h : xItoa ps = some rs)
    (hc : ∀ (n : Int) (w : World), Globs.ok w → -9223372036854775808 ≤ n → n ≤ 9223372036854775807 → Calls P f #[.int .i64 n] w fun e w' => e = .returned (.string ⟨(Lib.itoa n).toArray⟩) ∧ Quiet w w') : CallOK P sg f ps rs := by
  subst hsg
  unfold xItoa at h
  split at h
  · rename_i n
    rcases Bool.eq_false_or_eq_true (decide (-9223372036854775808 ≤ n) && decide (n ≤ 9223372036854775807)) with hb | hb
    · rw [hb, cond_true] at h
      cases h
      simp only [Bool.and_eq_true, decide_eq_true_eq] at hb
      exact callOK_quiet rfl rfl rfl rfl rfl fun w hg => (hc n w hg hb.1 hb.2).mono fun e w' ⟨h1, h2⟩ => ⟨h1, h2⟩
    · rw [hb, cond_false] at h
      cases h
  · cases h

theorem callOK_decimal {P : Program} {sg : FSig} {f : FuncId} {ps rs : List PV} (hsg : sg = ⟨[.val], [.flat, .flat]⟩) (h : xDecimal ps = some rs)
    (hc : ∀ (s : ByteArray) (w : World), Globs.ok w → s.size ≤ 281474976710656 → Calls P f #[.string s] w fun e w' => e = .returned (.tuple #[.int .i64 (decimalL s.data.toList).1, .bool (decimalL s.data.toList).2]) ∧ Quiet w w') : CallOK P sg f ps rs := by
  subst hsg
  unfold xDecimal at h
  split at h
  · rename_i s
    rcases Bool.eq_false_or_eq_true (s.size.ble 281474976710656) with hb | hb
    · rw [hb, cond_true] at h
      cases h
      exact callOK_quiet rfl rfl rfl rfl rfl fun w hg => (hc s w hg (Nat.le_of_ble_eq_true hb)).mono fun e w' ⟨h1, h2⟩ => ⟨h1, h2⟩
    · rw [hb, cond_false] at h
      cases h
  · cases h

theorem callOK_mirrored {P : Program} {sg : FSig} {f : FuncId} {ps rs : List PV} (hsg : sg = ⟨[.val], [.flat]⟩) (h : xMirrored ps = some rs)
    (hc : ∀ (s : ByteArray) (r : Int) (w : World), s.size ≤ 9223372036854775807 → Calls P f #[.agg #[.string s, .int .i64 r]] w fun e w' => e = .returned (.agg #[.string ⟨(swapLR s.data.toList).toArray⟩, .int .i64 r]) ∧ Quiet w w') : CallOK P sg f ps rs := by
  subst hsg
  unfold xMirrored at h
  split at h
  · rename_i s r
    rcases Bool.eq_false_or_eq_true (s.size.ble 9223372036854775807) with hb | hb
    · rw [hb, cond_true] at h
      cases h
      exact callOK_quiet rfl rfl rfl rfl rfl fun w _ => (hc s r w (Nat.le_of_ble_eq_true hb)).mono fun e w' ⟨h1, h2⟩ => ⟨h1, h2⟩
    · rw [hb, cond_false] at h
      cases h
  · cases h

end Evp
end Go
