/- Sound: what the evaluator with continuations says, the evaluator says. Operations. -/
import Derived.Test.YtajjinfjfiacbaaGreatDoorZE26
set_option linter.unusedSectionVars false
set_option linter.unusedVariables false
set_option linter.unusedSimpArgs false
set_option linter.unnecessarySimpa false
namespace Go
namespace Evp

def Le (a b : R) : Prop := ∀ r, a = some r → b = some r

theorem Le.rfl' {a : R} : Le a a := fun _ h => h
theorem Le.trans {a b c : R} (h : Le a b) (h' : Le b c) : Le a c := fun r x => h' r (h r x)
theorem Le.none {b : R} : Le none b := fun _ h => by cases h

theorem chk_le {b : Bool} {k : R} : Le (chk b k) (match b with | true => k | false => none) := by cases b <;> exact .rfl'
theorem chk_some {b : Bool} {k : R} {r} (h : chk b k = some r) : b = true ∧ k = some r := by cases b <;> simp_all [chk]

theorem refine_some {s : Sh} {o : Option PV} {k : PV → R} {r} (h : refine s o k = some r) : ∃ p, o = some p ∧ k p = some r := by
  unfold refine at h
  split at h
  · unfold optI at h
    split at h
    · rename_i κ' a
      split at h
      · rename_i hd
        exact ⟨_, rfl, by rw [decide_eq_true_eq] at hd; rw [hd]; exact h⟩
      · cases h
    · cases h
  · unfold optB at h
    split at h
    · exact ⟨_, rfl, h⟩
    · cases h
  · unfold optS at h
    split at h
    · exact ⟨_, rfl, h⟩
    · cases h
  · unfold optLz at h
    split at h
    · split at h
      · rename_i hd
        exact ⟨_, rfl, by rw [decide_eq_true_eq] at hd; rw [hd]; exact h⟩
      · cases h
    · cases h
  · unfold optL at h
    split at h
    · exact ⟨_, rfl, h⟩
    · cases h
  · unfold optA at h
    split at h
    · exact ⟨_, rfl, h⟩
    · cases h
  · unfold optX at h
    split at h
    · exact ⟨_, rfl, h⟩
    · cases h
  · unfold optP at h
    split at h
    · exact ⟨_, rfl, h⟩
    · cases h

theorem optP_some {o : Option PV} {k : PV → R} {r} (h : optP o k = some r) : ∃ p, o = some p ∧ k p = some r := by
  unfold optP at h
  split at h
  · exact ⟨_, rfl, h⟩
  · cases h
theorem optC_some {α : Type} {o : Option α} {k : α → R} {r} (h : optC o k = some r) : ∃ p, o = some p ∧ k p = some r := by
  unfold optC at h
  split at h
  · exact ⟨_, rfl, h⟩
  · cases h
theorem optI_some {κ : IntKind} {o : Option PV} {k : Int → R} {r} (h : optI κ o k = some r) : ∃ a, o = some (.v (.int κ a)) ∧ k a = some r := by
  unfold optI at h
  split at h
  · split at h
    · rename_i hd
      exact ⟨_, by rw [decide_eq_true_eq] at hd; rw [hd], h⟩
    · cases h
  · cases h

theorem optU_some {ps : List PV} {k : PV → List PV → R} {r} (h : optU ps k = some r) : ∃ p q, ps = p :: q ∧ k p q = some r := by
  unfold optU at h
  split at h
  · exact ⟨_, _, rfl, h⟩
  · cases h
theorem un_some : ∀ {ss : List Sh} {ps : List PV} {k : List PV → R} {r}, un ss ps k = some r → k ps = some r
  | [], ps, k, r, h => by
    unfold un popN at h
    split at h
    · exact h
    · cases h
  | s :: ss, ps, k, r, h => by
    obtain ⟨p, ps, rfl, h⟩ := optU_some h
    obtain ⟨q, hq, h⟩ := refine_some (s := s) (o := some p) (k := fun q => un ss ps fun qs => k (q :: qs)) h
    cases hq
    exact un_some (ss := ss) (ps := ps) (k := fun qs => k (p :: qs)) h

theorem resK_of {x : Res} {s : Slot} {u : Ups} {k : KRes} {r} (hx : x = some (s, u)) (h : k s u = some r) : resK x k = some r := by rw [hx]; exact h

variable {T : Types} {EQ : TypeId → Option (List ZK)} {C : Oracle} {S : Sigs} {RS : FuncId → List Sh} {nm : Nat} {L : Look} {k : KRes} {r : List PV}

theorem loadK_some {i : TI} {s : Slot} (h : loadK L i s k = some r) : resK (loadC L i s) k = some r := by
  unfold loadK at h
  unfold loadC
  split at h
  · split at h
    · rename_i hL
      obtain ⟨p, hp, h⟩ := refine_some h
      simp only [hL, hp, optRes]; exact h
    · rename_i hL
      obtain ⟨p, hp, h⟩ := refine_some h
      simp only [hL, hp, optRes]; exact h
    · cases h
  · split at h
    · rename_i hL
      obtain ⟨p, hp, h⟩ := refine_some h
      unfold eltPart at hp
      split at hp
      · rename_i hx
        simp only [hL, hx, hp, optRes]; exact h
      · cases hp
    · rename_i hL
      obtain ⟨p, hp, h⟩ := refine_some h
      unfold eltPart at hp
      split at hp
      · rename_i hx
        simp only [hL, hx, hp, optRes]; exact h
      · cases hp
    · cases h
  · obtain ⟨p, hp, h⟩ := refine_some h
    simp only [hp, optRes]; exact h
  · cases h

theorem storeK_some {i : TI} {s : Slot} {p : PV} {k : Ups → R} (h : storeK L i s p k = some r) : ∃ u, storeC L i s p = some u ∧ k u = some r := by
  unfold storeK at h
  unfold storeC
  split at h
  · split at h
    · rename_i hL
      obtain ⟨ds, hp, h⟩ := optC_some h
      simp only [hL, hp]; exact ⟨_, rfl, h⟩
    · cases h
  · split at h
    · rename_i hL
      obtain ⟨x, hx, h⟩ := optP_some h
      simp only [hL, hx]
      split at h
      · rename_i he
        obtain ⟨hb, h⟩ := chk_some h
        simp only [he, hb, cond_true]; exact ⟨_, rfl, h⟩
      · rename_i he
        obtain ⟨ds, hp, h⟩ := optC_some h
        simp only [he, hp, cond_false]; exact ⟨_, rfl, h⟩
    · cases h
  · cases h

theorem indexAddrK_some {t : TypeId} {s : Slot} {i : Int} (h : indexAddrK T L t s i k = some r) : resK (indexAddrC T L t s i) k = some r := by
  unfold indexAddrK at h
  unfold indexAddrC
  split at h
  · rename_i hT
    simp only [hT]
    split at h
    · cases h
    · rename_i hE
      simp only [hE]
      split at h
      · split at h
        · rename_i hL
          obtain ⟨hb, h⟩ := chk_some h
          rw [Bool.and_eq_true] at hb
          simp only [hL, hb.1, hb.2, cond_true]; exact h
        · rename_i hL
          obtain ⟨hb, h⟩ := chk_some h
          rw [Bool.and_eq_true] at hb
          obtain ⟨x, hx, h⟩ := optP_some h
          simp only [hL, hb.1, hb.2, hx, cond_true]; exact h
        · cases h
      · obtain ⟨hb, h⟩ := chk_some h
        rw [Bool.and_eq_true] at hb
        obtain ⟨x, hx, h⟩ := optP_some h
        simp only [hb.1, hb.2, hx, cond_true]; exact h
      · cases h
  · rename_i hT
    simp only [hT]
    split at h
    · cases h
    · rename_i hE
      simp only [hE]
      split at h
      · obtain ⟨hb, h⟩ := chk_some h
        simp only [hb, cond_true]; exact h
      · obtain ⟨hb, h⟩ := chk_some h
        simp only [hb, cond_true]; exact h
      · cases h
  · cases h

theorem indexK_some {t : TypeId} {p : PV} {i : Int} (h : indexK T t p i k = some r) : resK (indexC T t p i) k = some r := by
  unfold indexK at h
  unfold indexC
  split at h
  · split at h
    · rename_i hT
      obtain ⟨b, hb, h⟩ := optI_some h
      unfold strAt at hb
      split at hb
      · rename_i h0
        split at hb
        · rename_i hx
          simp only [hT, h0, hx, valRes, cond_true]
          cases hb
          exact h
        · cases hb
      · cases hb
    · cases h
  · split at h
    · rename_i hT
      split at h
      · cases h
      · rename_i hE
        obtain ⟨q, hq, h⟩ := refine_some h
        unfold arrAt at hq
        split at hq
        · rename_i hb
          simp only [hT, hE, hb, hq, cond_true, optRes]; exact h
        · cases hq
    · cases h
  · cases h

theorem fieldK_some {t : TypeId} {f : Nat} {p : PV} (h : fieldK T t f p k = some r) : resK (fieldC T t f p) k = some r := by
  unfold fieldK at h
  unfold fieldC
  split at h
  · rename_i hT
    simp only [hT]
    split at h
    · cases h
    · rename_i hf
      simp only [hf]
      split at h
      · cases h
      · rename_i hE
        simp only [hE]
        split at h
        · obtain ⟨q, hq, h⟩ := refine_some h
          simp only [hq, optRes]; exact h
        · cases h
  · cases h

theorem sliceK_some {t : TypeId} {x : Slot} {lo hi mx : Option Int} (h : sliceK T L nm t x lo hi mx k = some r) : resK (sliceC T L nm t x lo hi mx) k = some r := by
  unfold sliceK at h
  split at h
  · exact h
  · unfold sliceC
    split at h
    · rename_i hk
      simp only [hk]
      split at h
      · rename_i hT
        obtain ⟨hb, h⟩ := chk_some h
        simp only [hT, hb, cond_true, valRes]; exact h
      · cases h
    · rename_i hk
      obtain ⟨hb, h⟩ := chk_some h
      simp only [hk, hb, cond_true]; exact h
    · cases h

theorem appendK_some {t t2 : TypeId} {s x : Slot} (h : appendK T L nm t t2 s x k = some r) : resK (appendC T L nm t t2 s x) k = some r := by
  unfold appendK at h
  unfold appendC
  split at h
  · rename_i hT
    simp only [hT]
    split at h
    · rename_i hE hX
      simp only [hE, hX]
      split at h
      · split at h
        · rename_i hL
          simp only [hL]
          split at h
          · rename_i hk
            obtain ⟨hb, h⟩ := chk_some h
            simp only [hk, hb, cond_true]; exact h
          · rename_i hk
            split at h
            · rename_i hM
              obtain ⟨hb, h⟩ := chk_some h
              simp only [hk, hM, hb, cond_true]; exact h
            · rename_i hM
              obtain ⟨hb, h⟩ := chk_some h
              simp only [hk, hM, hb, cond_true]; exact h
            · cases h
          · rename_i hk
            obtain ⟨hb, h⟩ := chk_some h
            simp only [hk, hb, cond_true]; exact h
          · cases h
        · cases h
      · cases h
    · cases h
  · cases h

theorem binK_some {ot t : TypeId} {op : BinOp} {p q : PV} (h : binK T EQ ot t op p q k = some r) : resK (optRes (binPV (EQ t) (isBoolT T t) op p q)) k = some r := by
  unfold binK at h
  split at h
  · exact h
  · obtain ⟨x, hx, h⟩ := refine_some h
    rw [hx]; exact h

theorem convertK_some {s d : TypeId} {p : PV} (h : convertK T nm s d p k = some r) : resK (convertC T nm s d p) k = some r := by
  unfold convertK at h
  split at h
  · rename_i xs
    split at h
    · rename_i si di hS hD
      split at h
      · rename_i e hsk hdk
        split at h
        · rename_i ei hE
          split at h
          · rename_i hu
            obtain ⟨b, hb, h⟩ := optC_some h
            unfold bytesOf at hb
            split at hb
            · rename_i hbs
              cases hb
              simp only [convertC, hS, hD, hsk, hdk, hE, hu, hbs, cond_true, valRes]; exact h
            · cases hb
          · cases h
        · cases h
      · cases h
    · cases h
  · exact h

theorem applyPV_some {p : PV} {args : List PV} {q : PV} (h : applyPV C S p args = some q) :
    ∃ f first caps sg rs, p = .fn f first caps ∧ S f = some sg ∧ sg.params.all (fun k => decide (k = .val)) = true ∧ sg.results = [.flat] ∧ sg.params.length = (first ++ args ++ caps).length ∧
      C f (first ++ args ++ caps) = some rs ∧ q = rs.headD default := by
  unfold applyPV at h
  split at h
  · split at h
    · rename_i hS
      split at h
      · rename_i hb
        split at h
        · rename_i hC
          simp only [Bool.and_eq_true, decide_eq_true_eq, beq_iff_eq] at hb
          cases h
          exact ⟨_, _, _, _, _, rfl, hS, hb.1.1, hb.1.2, hb.2, hC, rfl⟩
        · cases h
      · cases h
    · cases h
  · cases h

theorem gather_vals : ∀ {ks : List PK} {ss : List Slot} {ps : List PV}, ks.all (fun k => decide (k = .val)) = true → ks.length = ps.length → valArgs L ss = some ps →
    ∃ b, gather L ks ss = some ⟨ps, b, []⟩
  | [], ss, ps, _, hl, hv => by
    cases ps with
    | cons => simp at hl
    | nil =>
      cases ss with
      | nil => exact ⟨_, rfl⟩
      | cons s ss =>
        simp only [valArgs] at hv
        split at hv <;> cases hv
  | k :: ks, ss, ps, ha, hl, hv => by
    cases ps with
    | nil => simp at hl
    | cons p ps =>
      cases ss with
      | nil => simp [valArgs] at hv
      | cons s ss =>
        simp only [valArgs] at hv
        split at hv
        · rename_i hs hss
          cases hv
          rw [List.all_cons, Bool.and_eq_true, decide_eq_true_eq] at ha
          obtain ⟨b, hb⟩ := gather_vals (ks := ks) ha.2 (by simpa using hl) hss
          rw [ha.1]
          simp only [gather, hb]
          unfold rdPV at hs
          split at hs
          · cases hs; exact ⟨_, rfl⟩
          · split at hs
            · rename_i hL
              cases hs
              simp only [hL]; exact ⟨_, rfl⟩
            · rename_i hL
              cases hs
              simp only [hL]; exact ⟨_, rfl⟩
            · cases hs
          · cases hs
        · cases hv

theorem valArgs_app : ∀ {a : List PV} {ss : List Slot} {ps : List PV}, valArgs L ss = some ps → valArgs L (a.map .val ++ ss) = some (a ++ ps)
  | [], _, _, h => h
  | p :: a, ss, ps, h => by
    simp only [List.map_cons, List.cons_append, valArgs, rdPV, valArgs_app (a := a) h]
theorem valArgs_end : ∀ {ss : List Slot} {ps c : List PV}, valArgs L ss = some ps → valArgs L (ss ++ c.map .val) = some (ps ++ c)
  | [], ps, c, h => by
    cases h
    have := valArgs_app (L := L) (a := c) (ss := []) (ps := []) rfl
    simpa using this
  | s :: ss, ps, c, h => by
    simp only [valArgs] at h
    split at h
    · rename_i hs hss
      cases h
      simp only [List.cons_append, valArgs, hs, valArgs_end (c := c) hss]
    · cases h

theorem callK_some {ot : TypeId} {f : Operand} {ins : List Slot} (hf : ∀ g, f = .func g → ins.head? = some (.val (.fn g [] [])))
    (h : callK T C S RS nm L ot f ins k = some r) : resK (callD C S nm L ins) k = some r := by
  unfold callK at h
  split at h
  · rename_i fs as_
    split at h
    · rename_i g
      have := hf g rfl
      simp only [List.head?_cons, Option.some.injEq] at this
      subst this
      split at h
      · cases h
      · rename_i sg hS
        split at h
        · cases h
        · rename_i ga hg
          obtain ⟨rs, hC, h⟩ := optC_some h
          have h := un_some h
          simp only [callD, target, hS, List.map_nil, List.nil_append, List.append_nil, hg, hC]
          exact h
    · split at h
      · rename_i p _
        split at h
        · cases h
        · rename_i args hv
          obtain ⟨q, hq, h⟩ := refine_some h
          obtain ⟨g, first, caps, sg, rs, rfl, hS, ha, hr, hl, hC, rfl⟩ := applyPV_some hq
          have hv2 : valArgs L (first.map .val ++ as_ ++ caps.map .val) = some (first ++ args ++ caps) := valArgs_end (valArgs_app hv)
          obtain ⟨b, hb⟩ := gather_vals ha hl hv2
          simp only [callD, target, hS, callPrep, hb, List.map_nil, nodupB, List.contains_nil, Bool.not_false, Bool.true_and]
          have hall : (b.all fun _ => true) = true := by simp
          simp only [hall, cond_true, hC]
          refine resK_of rfl ?_
          simp only [hr, resSlots, resSlot, backUps, callUps]
          simpa [valK] using h
      · cases h
  · cases h

theorem opK_some {st : St} {o : Oper} (h : opK T EQ C S RS nm st o k = some r) : resK (opD T EQ C S nm st o) k = some r := by
  unfold opK at h
  unfold opD
  split at h
  · rename_i hc
    rw [hc, cond_true]
    split at h
    · rename_i f args tys hop
      refine callK_some (f := f) ?_ h
      intro g hg
      subst hg
      simp only [opIns, hop, St.opnd, List.cons_append, List.nil_append, List.head?_cons]
    · cases h
  · rename_i hc
    rw [hc, cond_false]
    unfold opC
    split at h <;> rename_i hop
    · simp only [hop]
      split at h
      · cases h
      · rename_i vs ups hk
        obtain ⟨cs, hb, h⟩ := optC_some h
        unfold buildS at hb
        split at hb
        · cases hb
        · rename_i i hT
          simp only [hT, hk]
          split at hb
          · rename_i hi
            simp only [hi, hb]; exact h
          · rename_i hi
            split at hb
            · cases hb
            · rename_i hE
              simp only [hi, hE, hb]; exact h
          · cases hb
    · simp only [hop]
      split at h
      · rename_i hT
        split at h
        · cases h
        · rename_i hE
          split at h
          · cases h
          · rename_i hk
            split at h
            · rename_i hb
              obtain ⟨hv, h⟩ := chk_some h
              rw [Bool.and_eq_true, Bool.and_eq_true] at hb
              simp only [hT, hE, hk, hb.1.1, hb.1.2, hb.2, hv, Bool.and_self, cond_true]; exact h
            · cases h
      · cases h
    · simp only [hop]
      split at h
      · rename_i hT hi
        simp only [hT, hi]; exact loadK_some h
      · cases h
    · simp only [hop]
      split at h
      · rename_i hT hi
        simp only [hT, hi]
        split at h
        · rename_i hk
          obtain ⟨u, hu, h⟩ := storeK_some h
          split at h
          · rename_i ha
            simp only [hk, hu, ha, cond_true]; exact h
          · cases h
        · cases h
      · cases h
    · simp only [hop]
      split at h
      · rename_i hi
        simp only [hi]
        split at h
        · rename_i hp hq
          simp only [hp, hq]; exact binK_some h
        · cases h
      · cases h
    · simp only [hop]
      split at h
      · rename_i hi
        simp only [hi]
        split at h
        · rename_i hp
          simp only [hp]; exact convertK_some h
        · cases h
      · cases h
    · simp only [hop]
      split at h
      · rename_i hT hi
        simp only [hT, hi]
        split at h
        · cases h
        · rename_i hE
          obtain ⟨hb, h⟩ := chk_some h
          simp only [hE, hb, cond_true]; exact h
      · cases h
    · simp only [hop]
      split at h
      · rename_i hi
        simp only [hi]
        split at h
        · exact sliceK_some h
        · split at h
          · rename_i ha
            simp only [ha]; exact sliceK_some h
          · cases h
        · split at h
          · rename_i ha
            simp only [ha]; exact sliceK_some h
          · cases h
        · split at h
          · rename_i ha hb
            simp only [ha, hb]; exact sliceK_some h
          · cases h
        · split at h
          · rename_i ha hb
            simp only [ha, hb]; exact sliceK_some h
          · cases h
        · cases h
      · cases h
    · simp only [hop]
      split at h
      · rename_i hi
        simp only [hi]; exact fieldK_some h
      · cases h
    · simp only [hop]
      split at h
      · rename_i hi
        simp only [hi]; exact indexAddrK_some h
      · cases h
    · simp only [hop]
      split at h
      · rename_i hi
        simp only [hi]; exact indexK_some h
      · cases h
    · simp only [hop]
      split at h
      · rename_i hc2
        simp only [hc2]
        split at h
        · rename_i hs
          simp only [hs, cond_true]
          split at h
          · rename_i ht hi
            simp only [ht, hi, builtinC]; exact appendK_some h
          · exact h
        · cases h
      · cases h
    · unfold opC at h
      exact h

end Evp
end Go
