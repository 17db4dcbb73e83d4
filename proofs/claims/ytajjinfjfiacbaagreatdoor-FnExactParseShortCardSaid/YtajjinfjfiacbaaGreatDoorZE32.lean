/- Structs that are compared cell by cell: a computed check. -/
import Derived.Test.YtajjinfjfiacbaaGreatDoorZE31
set_option linter.unusedSectionVars false
set_option linter.unusedVariables false
set_option linter.unusedSimpArgs false
set_option linter.unnecessarySimpa false
namespace Go
namespace Evp
variable [Globs]

section
variable (P : Program) (T : Types)

def eqFB (ok : TypeId → Bool) (zs : List ZK) : List Field → Nat → Bool
  | [], off => off == zs.length
  | f :: fs, off =>
    (f.name != "_") && (f.offset == off) && ok f.type &&
      (match T f.type with | some fi => decide ((zs.drop off).take fi.size = fi.zero) && eqFB ok zs fs (off + fi.size) | none => false)

def eqB : Nat → TypeId → Bool
  | 0, _ => false
  | d + 1, t =>
    match T t with
    | some i =>
      match i.kind with
      | .int k => decide (i.zero = [.int k])
      | .bool => decide (i.zero = [.bool])
      | .str => decide (i.zero = [.str])
      | .struct _ => !(P.stoodInHeld t) && (match P.underlying t with | some (.struct fs) => eqFB T (eqB d) i.zero fs.toList 0 | _ => false)
      | _ => false
    | none => false
end

def partV (i : TI) (xs : List Value) : Value :=
  match i.isAgg with
  | true => .agg xs.toArray
  | false => xs.headD undef

theorem eqVals_len : ∀ {zs : List ZK} {xs ys : List Value} {b : Bool}, eqVals zs xs ys = some b → xs.length = zs.length ∧ ys.length = zs.length
  | [], [], [], _, _ => ⟨rfl, rfl⟩
  | z :: zs, x :: xs, y :: ys, b, h => by
    simp only [eqVals] at h
    cases hf : z.fits x && z.fits y with
    | false => rw [hf] at h; cases h
    | true =>
      rw [hf, cond_true] at h
      split at h
      · cases h
      · split at h
        · cases h
        · rename_i hb
          have := eqVals_len hb
          simp [this.1, this.2]
  | [], _ :: _, _, _, h => by cases h
  | [], [], _ :: _, _, h => by cases h
  | _ :: _, [], _, _, h => by cases h
  | _ :: _, _ :: _, [], _, h => by cases h

theorem eqVals_split : ∀ {n : Nat} {zs : List ZK} {xs ys : List Value} {b : Bool}, eqVals zs xs ys = some b →
    ∃ b1 b2, eqVals (zs.take n) (xs.take n) (ys.take n) = some b1 ∧ eqVals (zs.drop n) (xs.drop n) (ys.drop n) = some b2 ∧ b = (b1 && b2)
  | 0, zs, xs, ys, b, h => ⟨true, b, by simp [eqVals], by simpa using h, by simp⟩
  | n + 1, [], [], [], b, h => ⟨true, b, by simp [eqVals], by simpa using h, by simp⟩
  | n + 1, z :: zs, x :: xs, y :: ys, b, h => by
    simp only [eqVals] at h
    cases hf : z.fits x && z.fits y with
    | false => rw [hf] at h; cases h
    | true =>
      rw [hf, cond_true] at h
      split at h
      · cases h
      · rename_i a ha
        split at h
        · cases h
        · rename_i c hc
          cases h
          obtain ⟨b1, b2, h1, h2, rfl⟩ := eqVals_split (n := n) hc
          exact ⟨a && b1, b2, by simp only [List.take_succ_cons, eqVals, hf, cond_true, ha, h1], by simpa using h2, by simp [Bool.and_assoc]⟩
  | _ + 1, [], _ :: _, _, _, h => by cases h
  | _ + 1, [], [], _ :: _, _, h => by cases h
  | _ + 1, _ :: _, [], _, _, h => by cases h
  | _ + 1, _ :: _, _ :: _, [], _, h => by cases h

section
variable {P : Program} {T : Types}

theorem run_partV (tok : TOK P T) {t : TypeId} {i : TI} (ht : T t = some i) {xs : List Value} {off : Nat} (h : off + i.size ≤ xs.length) (h1 : i.isAgg = false → i.size = 1) (w : World) :
    (part t xs.toArray off).run P w = .ok (partV i ((xs.drop off).take i.size)) w := by
  unfold part
  simp only [Sem.run_bind, (tok t i ht).run_agg w, Result.andThen_ok]
  unfold partV
  cases ha : i.isAgg with
  | true =>
    simp only [if_true, Sem.run_bind, (tok t i ht).run_size w, Result.andThen_ok, Sem.run_pure]
    congr 2
    simp [List.extract_eq_take_drop]
  | false =>
    have hs := h1 ha
    have hlt : off < xs.length := by omega
    rw [hs, List.drop_eq_getElem_cons hlt]
    simp only [Bool.false_eq_true, if_false, List.getElem?_toArray, List.getElem?_eq_getElem hlt, Sem.run_pure, List.take_succ_cons, List.take_zero, List.headD_cons]

theorem zero_len (tok : TOK P T) {t : TypeId} {i : TI} (ht : T t = some i) : i.zero.length = i.size := (tok t i ht).len

theorem eqB_scalar (tok : TOK P T) {d : Nat} {t : TypeId} {i : TI} (h : eqB P T d t = true) (ht : T t = some i) : i.isAgg = false → i.size = 1 := by
  intro ha
  rw [← zero_len tok ht]
  cases d with
  | zero => cases h
  | succ d =>
    simp only [eqB, ht] at h
    unfold TI.isAgg at ha
    split at h <;> rename_i hk <;> first | (rw [decide_eq_true_eq] at h; rw [h]; rfl) | (simp only [hk] at ha; cases ha) | cases h

theorem eqFields_run (tok : TOK P T) {d e : Nat} {zs : List ZK} {xs ys : List Value}
    (ih : ∀ {t : TypeId} {i : TI} {us vs : List Value} {b : Bool} {w : World}, eqB P T d t = true → T t = some i → eqVals i.zero us vs = some b → (Op.equalIn (e + d) t (partV i us) (partV i vs)).run P w = .ok b w)
    (hx : xs.length = zs.length) (hy : ys.length = zs.length) :
    ∀ {fs : List Field} {off : Nat} {b : Bool} {w : World}, eqFB T (eqB P T d) zs fs off = true → eqVals (zs.drop off) (xs.drop off) (ys.drop off) = some b → (Op.eqFields (e + d) xs.toArray ys.toArray fs).run P w = .ok b w
  | [], off, b, w, h, hv => by
    simp only [eqFB, beq_iff_eq] at h
    rw [List.drop_eq_nil_of_le (by omega), List.drop_eq_nil_of_le (by omega), List.drop_eq_nil_of_le (by omega)] at hv
    simp only [eqVals, Option.some.injEq] at hv
    subst hv
    simp [Op.eqFields]
  | f :: fs, off, b, w, h, hv => by
    simp only [eqFB, Bool.and_eq_true, beq_iff_eq] at h
    obtain ⟨⟨⟨hn, ho⟩, hok⟩, h⟩ := h
    split at h
    · rename_i fi hT
      rw [Bool.and_eq_true, decide_eq_true_eq] at h
      obtain ⟨b1, b2, h1, h2, rfl⟩ := eqVals_split (n := fi.size) hv
      rw [h.1] at h1
      have hl := zero_len tok hT
      have hle : off + fi.size ≤ zs.length := by
        have := congrArg List.length h.1
        simp only [List.length_take, List.length_drop] at this
        have := eqVals_len h1
        simp only [List.length_take, List.length_drop] at this
        by_cases h0 : fi.size = 0
        · have hs := eqB_scalar tok hok hT
          have : off ≤ zs.length := by
            have key : ∀ (fs : List Field) (o : Nat), eqFB T (eqB P T d) zs fs o = true → o ≤ zs.length := by
              intro fs
              induction fs with
              | nil => intro o h; simp [eqFB] at h; omega
              | cons f fs ih2 =>
                intro o h
                simp only [eqFB, Bool.and_eq_true] at h
                have h3 := h.2
                split at h3
                · rw [Bool.and_eq_true] at h3
                  have := ih2 _ h3.2
                  omega
                · cases h3
            have := key _ _ h.2
            omega
          omega
        · omega
      have h1' := ih (w := w) hok hT h1
      have hf : (f.name ≠ "_") := by simpa using hn
      simp only [Op.eqFields, Sem.run_ite, Sem.run_bind]
      rw [if_pos hf, ho, run_partV tok hT (by omega) (eqB_scalar tok hok hT)]
      simp only [Result.andThen_ok]
      rw [run_partV tok hT (by omega) (eqB_scalar tok hok hT)]
      simp only [Result.andThen_ok, h1']
      cases b1 with
      | false => simp
      | true =>
        simp only [Bool.not_true, Bool.false_eq_true, if_false, Bool.true_and]
        rw [List.drop_drop, List.drop_drop, List.drop_drop] at h2
        exact eqFields_run tok ih hx hy h.2 h2
    · cases h

theorem eqB_run (tok : TOK P T) : ∀ {d : Nat} {t : TypeId} {i : TI} {xs ys : List Value} {b : Bool} {e : Nat} {w : World}, eqB P T d t = true → T t = some i → eqVals i.zero xs ys = some b →
    (Op.equalIn (e + d) t (partV i xs) (partV i ys)).run P w = .ok b w
  | 0, _, _, _, _, _, _, _, h, _, _ => by cases h
  | d + 1, t, i, xs, ys, b, e, w, h, ht, hv => by
    obtain ⟨hl1, hl2⟩ := eqVals_len hv
    simp only [eqB, ht] at h
    have one : ∀ z, i.zero = [z] → ∃ x y, xs = [x] ∧ ys = [y] ∧ z.fits x = true ∧ z.fits y = true ∧ eqV x y = some b := by
      intro z hz
      rw [hz] at hv hl1 hl2
      match xs, ys, hl1, hl2, hv with
      | [x], [y], _, _, hv =>
        refine ⟨x, y, rfl, rfl, ?_⟩
        simp only [eqVals] at hv
        cases hf : z.fits x && z.fits y with
        | false => rw [hf] at hv; cases hv
        | true =>
          rw [hf, cond_true] at hv
          rw [Bool.and_eq_true] at hf
          refine ⟨hf.1, hf.2, ?_⟩
          split at hv
          · cases hv
          · rename_i a hq; simp only [Bool.and_true, Option.some.injEq] at hv; rw [← hv]; exact hq
    split at h
    · rename_i k hk
      obtain ⟨x, y, rfl, rfl, hx, hy, hq⟩ := one _ (by simpa using h)
      have hu := (tok t i ht).run_int hk w
      have ha : i.isAgg = false := by simp [TI.isAgg, hk]
      simp only [partV, ha, List.headD_cons]
      cases x <;> simp only [ZK.fits] at hx <;> first | cases hx | skip
      cases y <;> simp only [ZK.fits] at hy <;> first | cases hy | skip
      rename_i k1 a1 k2 a2
      simp only [beq_iff_eq] at hx hy
      subst hx; subst hy
      simp only [eqV, beq_self_eq_true, cond_true, Option.some.injEq] at hq
      rw [show e + (d + 1) = (e + d) + 1 from rfl, Op.equalIn]
      simp [Sem.run_bind, hu, hq]
    · rename_i hk
      obtain ⟨x, y, rfl, rfl, hx, hy, hq⟩ := one _ (by simpa using h)
      have hu : P.underlying t = some .bool := by
        obtain ⟨ds, h1, h2⟩ := (tok t i ht).desc
        rw [hk] at h2
        cases ds <;> simp_all [descFits]
      have ha : i.isAgg = false := by simp [TI.isAgg, hk]
      simp only [partV, ha, List.headD_cons]
      cases x <;> simp only [ZK.fits] at hx <;> first | cases hx | skip
      cases y <;> simp only [ZK.fits] at hy <;> first | cases hy | skip
      simp only [eqV, Option.some.injEq] at hq
      rw [← hq]
      exact run_equalIn_bool w (e + d) t _ _ hu
    · rename_i hk
      obtain ⟨x, y, rfl, rfl, hx, hy, hq⟩ := one _ (by simpa using h)
      have hu : P.underlying t = some .string := by
        obtain ⟨ds, h1, h2⟩ := (tok t i ht).desc
        rw [hk] at h2
        cases ds <;> simp_all [descFits]
      have ha : i.isAgg = false := by simp [TI.isAgg, hk]
      simp only [partV, ha, List.headD_cons]
      cases x <;> simp only [ZK.fits] at hx <;> first | cases hx | skip
      cases y <;> simp only [ZK.fits] at hy <;> first | cases hy | skip
      simp only [eqV, Option.some.injEq] at hq
      rw [← hq]
      exact run_equalIn_string w (e + d) t _ _ hu
    · rename_i fs0 hk
      rw [Bool.and_eq_true, Bool.not_eq_true'] at h
      obtain ⟨hst, h⟩ := h
      split at h
      · rename_i fs hu
        have hfo : P.fieldsOf t = fs := by simp [Program.fieldsOf, hu]
        have ha : i.isAgg = true := by simp [TI.isAgg, hk]
        simp only [partV, ha]
        rw [show e + (d + 1) = (e + d) + 1 from rfl, run_equalIn_struct w (e + d) t _ _ (by rw [hfo]; exact hu) hst, hfo]
        exact eqFields_run tok (fun {_ _ _ _ _ _} h1 h2 h3 => eqB_run tok h1 h2 h3) hl1 hl2 h (by simpa using hv)
      · cases h
    · cases h

end

theorem eqok_of {K : Book} (tok : TOK K.P K.T) (h : K.eqs.all (fun t => eqB K.P K.T 100 t && !(K.P.eqGuardType K.P.depth t) && (match K.T t with | some i => i.isAgg | none => false)) = true) : EQOK K.P K.EQ := by
  intro t zs ht
  unfold Book.EQ at ht
  cases hc : K.eqs.contains t with
  | false => rw [hc] at ht; cases ht
  | true =>
    rw [hc, cond_true] at ht
    rw [List.all_eq_true] at h
    have hm := h t (by simpa using hc)
    rw [Bool.and_eq_true, Bool.and_eq_true, Bool.not_eq_true'] at hm
    obtain ⟨⟨h1, h2⟩, h3⟩ := hm
    split at h3
    · rename_i i hT
      rw [hT] at ht
      cases ht
      refine ⟨h2, fun xs ys b w hv => ?_⟩
      have := eqB_run tok (e := 9900) (w := w) h1 hT hv
      simp only [partV, h3] at this
      exact this
    · cases h3

theorem env_ok {K : Book} {FU : Nat} (tok : TOK K.P K.T) (eqok : EQOK K.P K.EQ) (mixed : K.P.follows .mixedOrders = true)
    (sig : K.infos.all (fun x => (match K.P.funcs[x.1]? with | some fn => !(fn.name == "runtime.NumGoroutine") && !fn.body.isNone && x.2.sg.params.length.ble fn.ntmps | none => false) && x.2.sg.results.length.ble 14) = true)
    (ext : ∀ f e sg ps rs, K.ext f = some e → K.S f = some sg → e ps = some rs → CallOK K.P sg f ps rs) : EnvOK K.P (K.env FU) where
  tok := tok
  eqok := eqok
  mixed := mixed
  sig := by
    intro f sg hs
    simp only [Book.env, Book.S, Option.map_eq_some_iff] at hs
    obtain ⟨i, hi, rfl⟩ := hs
    rw [List.all_eq_true] at sig
    have := sig _ (findN_mem hi)
    simp only [Bool.and_eq_true] at this
    obtain ⟨h1, h2⟩ := this
    split at h1
    · rename_i fn hf
      simp only [Bool.and_eq_true, Bool.not_eq_true'] at h1
      exact ⟨⟨fn, hf, h1.1.1, h1.1.2⟩, by simpa using h2⟩
    · cases h1
  fn := by
    intro f fn ann h
    simp only [Book.env, Book.fn] at h
    split at h
    · rename_i hf hi
      cases h
      exact hf
    · cases h
  fits := by
    intro f fn ann sg h hs
    simp only [Book.env, Book.fn] at h
    simp only [Book.env, Book.S, Option.map_eq_some_iff] at hs
    obtain ⟨i, hi, rfl⟩ := hs
    rw [List.all_eq_true] at sig
    have := sig _ (findN_mem hi)
    simp only [Bool.and_eq_true] at this
    obtain ⟨h1, h2⟩ := this
    split at h
    · rename_i hf hi'
      cases h
      rw [hf] at h1
      simp only [Bool.and_eq_true] at h1
      simpa using h1.2
    · cases h
  ext := ext

end Evp
end Go
