/- The evaluator with continuations: regions, code, functions. -/
import Derived.Test.YtajjinfjfiacbaaGreatDoorZE27
set_option linter.unusedSectionVars false
set_option linter.unusedVariables false
set_option linter.unusedSimpArgs false
set_option linter.unnecessarySimpa false
namespace Go
namespace Evp

/-- A loop; F: one round, given what comes after it. -/
def iterK : Nat → ((List PV → R) → List PV → R) → List PV → R
  | 0, _, _ => none
  | n + 1, F, vs => F (iterK n F) vs

/-- Where ways meet. -/
def joinK (f : List PV → R) (g : (List PV → R) → R) : R := g f

inductive KA where
  | z
  | s (p : Pat) (ks : List Sh) (x y : KA)
  | n (x y : KA)
  | b (x : KA)
  | l (p : Pat) (ks : List Sh) (x : KA)

def KA.toAnn : KA → Ann
  | .z => .z
  | .s p _ x y => .s p x.toAnn y.toAnn
  | .n x y => .n x.toAnn y.toAnn
  | .b x => .b x.toAnn
  | .l p _ x => .l p x.toAnn
def KA.left : KA → KA
  | .s _ _ x _ => x
  | .n x _ => x
  | .b x => x
  | .l _ _ x => x
  | .z => .z
def KA.right : KA → KA
  | .s _ _ _ y => y
  | .n _ y => y
  | _ => .z

def vecStep (st : St) (e : Nat × PE) : List PV :=
  match e.2, st.slot e.1 with
  | .v, .val p => [p]
  | .v, .slc m =>
    match st.obj m with
    | some (.frz sz xs) => [.sl sz xs]
    | _ => []
  | .own _, .slc m =>
    match st.obj m with
    | some (.arr sz xs) => [.sl sz xs]
    | _ => []
  | .var _, .ptr m _ =>
    match st.obj m with
    | some (.var cs) => [.agg cs]
    | some (.bx cs) => [.box cs 0]
    | _ => []
  | .al _ _, .slc _ => [.v (.bool true)]
  | .al _ _, .ptr _ _ => [.v (.bool false)]
  | _, _ => []
def vecE (st : St) (es : List (Nat × PE)) : List PV := es.flatMap (vecStep st)

def unpackK : List (Nat × PE) → List Sh → List PV → List Slot → List (Nat × Obj) → (List Slot → List (Nat × Obj) → R) → R
  | [], [], vs, ss, os, k => popN vs (k ss os)
  | (t, pe) :: es, s :: ks, vs, ss, os, k =>
    match pe with
    | .v => optU vs fun p vs => refine s (some p) fun q => unpackK es ks vs (ss.set t (.val q)) os k
    | .own n =>
      match s with
      | .sl z => optU vs fun p vs => optLz z (some p) fun xs => unpackK es ks vs (ss.set t (.slc n)) ((n, .arr z xs) :: os) k
      | _ => optU vs fun p vs => optL (some p) fun z xs => unpackK es ks vs (ss.set t (.slc n)) ((n, .arr z xs) :: os) k
    | .var n =>
      match s with
      | .box => optU vs fun p vs => optX (some p) fun cs => unpackK es ks vs (ss.set t (.ptr n 0)) ((n, .bx cs) :: os) k
      | _ => optU vs fun p vs => optA (some p) fun cs => unpackK es ks vs (ss.set t (.ptr n 0)) ((n, .var cs) :: os) k
    | .al n off => optU vs fun p vs => optB (some p) fun b =>
      match s with
      | .slz => chk b (unpackK es ks vs (ss.set t (.slc n)) os k)
      | _ => chk (!b) (unpackK es ks vs (ss.set t (.ptr n off)) os k)
  | _, _, _, _, _, _ => none

def headK (p : Pat) (ks : List Sh) (len : Nat) (vs : List PV) (k : St → R) : R :=
  unpackK p.es ks vs (List.replicate len .no) [] fun ss os => k { slots := ss, objs := os, nxt := p.nxt }

section
variable (T : Types) (EQ : TypeId → Option (List ZK)) (C : Oracle) (S : Sigs) (RS : FuncId → List Sh) (io : List Nat) (FU : Nat)

def St.know (st : St) (d : Nat) (b : Bool) : St := { st with slots := st.slots.set d (.val (.v (.bool b))) }

def effK (ops : Array Oper) (base i : Nat) (st : St) (o : Oper) (k : St → KRes) : R :=
  match o.guard with
  | none => opK T EQ C S RS (base + 16 * i) st o (k st)
  | some (j, want) =>
    match (ops[j]?).bind (·.dst) with
    | none => k st .undef []
    | some d =>
      match st.slot d with
      | .val (.v (.bool b)) =>
        match want with
        | true => cond b (opK T EQ C S RS (base + 16 * i) (st.know d true) o (k (st.know d true))) (k (st.know d false) .undef [])
        | false => cond b (k (st.know d true) .undef []) (opK T EQ C S RS (base + 16 * i) (st.know d false) o (k (st.know d false)))
      | .undef => k st .undef []
      | _ => none

def seqK (ops : Array Oper) (base : Nat) : (n i : Nat) → St → (St → R) → R
  | 0, _, st, k => k st
  | n + 1, i, st, k =>
    match ops[i]? with
    | none => none
    | some o => effK T EQ C S RS ops base i st o fun st' s u => seqK ops base n (i + 1) (st'.put o.dst s u) k

def drawK (ops : Array Oper) (base : Nat) : (n i : Nat) → List Foot → St → (St → R) → R
  | 0, _, _, st, k => k st
  | n + 1, i, feet, st, k =>
    match ops[i]? with
    | none => none
    | some o =>
      effK T EQ C S RS ops base i st o fun st' s u =>
        match edgesOK i o && allFree (footE T ops feet st' o u) 0 feet with
        | true => drawK ops base n (i + 1) (feet ++ [footE T ops feet st' o u]) (st'.put o.dst s u) k
        | false => none

def regionK (ops : Array Oper) (draw : Bool) (st : St) (k : St → R) : R :=
  match draw with
  | true => drawK T EQ C S RS ops st.nxt ops.size 0 [] st fun st' => k { st' with nxt := st.nxt + 16 * ops.size }
  | false => seqK T EQ C S RS ops st.nxt ops.size 0 st fun st' => k { st' with nxt := st.nxt + 16 * ops.size }

def evK : Code → KA → St → (St → R) → (Nat → St → R) → (St → R) → R
  | .skip, _, st, kn, _, _ => kn st
  | .region _ ops draw, _, st, kn, _, _ => regionK T EQ C S RS ops draw st kn
  | .seq a b, ann, st, kn, kx, kr =>
    match ann with
    | .s p ks x y =>
      joinK (fun vs => headK p ks st.slots.length vs fun st2 => evK b y st2 kn kx kr)
        fun j => evK a x st (fun st' => match normE io p st', Nat.beq st'.slots.length st.slots.length with | some _, true => j (vecE st' p.es) | _, _ => none) kx kr
    | _ => evK a ann.left st (fun st' => evK b ann.right st' kn kx kr) kx kr
  | .cond c x y, ann, st, kn, kx, kr =>
    match st.opnd T 0 c with
    | .val (.v (.bool b)) => cond b (evK x ann.left st kn kx kr) (evK y ann.right st kn kx kr)
    | _ => none
  | .block id c, ann, st, kn, kx, kr => evK c ann.left st kn (fun id' st' => match id' == id with | true => kn st' | false => kx id' st') kr
  | .loop c, ann, st, _, kx, kr =>
    match ann with
    | .l p ks a =>
      match normE io p st with
      | none => none
      | some _ =>
        iterK FU (fun rec vs => headK p ks st.slots.length vs fun st1 =>
          evK c a st1 (fun st' => match normE io p st', Nat.beq st'.slots.length st.slots.length with | some _, true => rec (vecE st' p.es) | _, _ => none) kx kr) (vecE st p.es)
    | _ => none
  | .exit id, _, st, _, kx, _ => kx id st
  | .ret, _, st, _, _, kr => kr st
  | _, _, _, _, _, _ => none

def outK (st : St) (k : RK) (r : ResultVar) (c : PV → St → R) : R :=
  match r with
  | .tmp t =>
    match k with
    | .own =>
      match st.slot t with
      | .slc n =>
        match st.obj n with
        | some (.arr sz xs) =>
          match !io.contains n with
          | true => chk (xs.all PV.flat) (c (.sl sz xs) { st with objs := (n, .gone) :: st.objs })
          | false => none
        | _ => none
      | _ => none
    | .flat =>
      match st.slot t with
      | .val p => chk p.flat (c p st)
      | _ => none
    | .val =>
      match keepPV st.obj (st.slot t) with
      | some (p, u) => c p { st with objs := u ++ st.objs }
      | none => none
  | .cell a ty =>
    match st.slot a, T ty, k with
    | .ptr n off, some i, .flat =>
      match st.obj n with
      | some (.var cs) => refine i.sh (partPV cs off i) fun p => chk p.flat (c p st)
      | _ => none
    | _, _, _ => none

def outAll : St → List RK → List ResultVar → (List PV → St → R) → R
  | st, [], [], c => c [] st
  | st, k :: ks, r :: rs, c => outK T io st k r fun p st1 => outAll st1 ks rs fun ps st2 => c (p :: ps) st2
  | _, _, _, _ => none

def endK (fn : Func) (sg : FSig) (ps : List PV) (st : St) : R :=
  outAll T io st sg.results fn.results.toList fun rs st1 =>
    match finE st1 sg.params ps 0 with
    | none => none
    | some qs => some (rs ++ qs)

end

section
variable (T : Types) (EQ : TypeId → Option (List ZK)) (C : Oracle) (S : Sigs) (RS : FuncId → List Sh) (FU : Nat)

def funK (fn : Func) (sg : FSig) (ka : KA) (shs : List Sh) (ps : List PV) : R :=
  un shs ps fun ps =>
    match fn.body, paramE sg.params ps 0 with
    | some c, some (ss, os, io) =>
      evK T EQ C S RS io FU c ka { slots := ss ++ List.replicate (fn.ntmps - ps.length) .undef, objs := os, nxt := ps.length }
        (endK T io fn sg ps) (fun _ _ => none) (endK T io fn sg ps)
    | _, _ => none
end

/-! Sound. -/

section
variable {T : Types} {EQ : TypeId → Option (List ZK)} {C : Oracle} {S : Sigs} {RS : FuncId → List Sh} {io : List Nat} {FU : Nat} {r : List PV}

theorem know_same {st : St} {d : Nat} {b : Bool} (h : st.slot d = .val (.v (.bool b))) : st.know d b = st := by
  have : st.slots.set d (.val (.v (.bool b))) = st.slots := by
    apply List.ext_getElem (by simp)
    intro i h1 h2
    rw [List.getElem_set]
    split
    · rename_i e
      subst e
      unfold St.slot at h
      rw [List.getD_eq_getElem?_getD, List.getElem?_eq_getElem h2] at h
      exact h.symm
    · rfl
  unfold St.know
  rw [this]

theorem effK_some {ops : Array Oper} {base i : Nat} {st : St} {o : Oper} {k : St → KRes} (h : effK T EQ C S RS ops base i st o k = some r) :
    ∃ s u, effE T EQ C S ops base i st o = some (s, u) ∧ k st s u = some r := by
  have fin : ∀ {k : KRes}, opK T EQ C S RS (base + 16 * i) st o k = some r → ∃ s u, opD T EQ C S (base + 16 * i) st o = some (s, u) ∧ k s u = some r := by
    intro k h
    have h := opK_some h
    unfold resK at h
    split at h
    · exact ⟨_, _, by assumption, h⟩
    · cases h
  unfold effK at h
  unfold effE wantedE
  split at h
  · rename_i hg
    simp only [hg]
    exact fin h
  · rename_i j want hg
    simp only [hg]
    split at h
    · rename_i hb
      simp only [hb]
      exact ⟨_, _, rfl, h⟩
    · rename_i d hb
      simp only [hb]
      split at h
      · rename_i b hs
        simp only [hs]
        cases want <;> cases b <;> simp only [cond_true, cond_false, know_same hs] at h
        · obtain ⟨s, u, h1, h2⟩ := fin h
          exact ⟨s, u, h1, h2⟩
        · exact ⟨_, _, rfl, h⟩
        · exact ⟨_, _, rfl, h⟩
        · obtain ⟨s, u, h1, h2⟩ := fin h
          exact ⟨s, u, h1, h2⟩
      · rename_i hs
        simp only [hs]
        exact ⟨_, _, rfl, h⟩
      · cases h

theorem seqK_some {ops : Array Oper} {base : Nat} : ∀ {n i : Nat} {st : St} {k : St → R}, seqK T EQ C S RS ops base n i st k = some r →
    ∃ st', seqE T EQ C S ops base n i st = some st' ∧ k st' = some r
  | 0, _, _, _, h => ⟨_, rfl, h⟩
  | n + 1, i, st, k, h => by
    unfold seqK at h
    unfold seqE stepE
    split at h
    · cases h
    · rename_i ho
      obtain ⟨s, u, he, h⟩ := effK_some h
      simp only [ho, he]
      exact seqK_some h

theorem drawK_some {ops : Array Oper} {base : Nat} : ∀ {n i : Nat} {feet : List Foot} {st : St} {k : St → R}, drawK T EQ C S RS ops base n i feet st k = some r →
    ∃ st', drawE T EQ C S ops base n i feet st = some st' ∧ k st' = some r
  | 0, _, _, _, _, h => ⟨_, rfl, h⟩
  | n + 1, i, feet, st, k, h => by
    unfold drawK at h
    unfold drawE
    split at h
    · cases h
    · rename_i ho
      obtain ⟨s, u, he, h⟩ := effK_some h
      split at h
      · rename_i hb
        simp only [ho, he, hb, cond_true]
        exact drawK_some h
      · cases h

theorem regionK_some {ops : Array Oper} {draw : Bool} {st : St} {k : St → R} (h : regionK T EQ C S RS ops draw st k = some r) :
    ∃ st', regionD T EQ C S ops draw st = some st' ∧ k st' = some r := by
  unfold regionK at h
  unfold regionD
  cases draw
  · obtain ⟨st', h1, h2⟩ := seqK_some h
    exact ⟨_, by simp only [h1], h2⟩
  · obtain ⟨st', h1, h2⟩ := drawK_some h
    exact ⟨_, by simp only [h1], h2⟩

theorem optLz_some {z : Nat} {o : Option PV} {k : List PV → R} (h : optLz z o k = some r) : ∃ xs, o = some (.sl z xs) ∧ k xs = some r := by
  unfold optLz at h
  split at h
  · split at h
    · rename_i hd
      rw [decide_eq_true_eq] at hd
      exact ⟨_, by rw [hd], h⟩
    · cases h
  · cases h
theorem optL_some {o : Option PV} {k : Nat → List PV → R} (h : optL o k = some r) : ∃ z xs, o = some (.sl z xs) ∧ k z xs = some r := by
  unfold optL at h
  split at h
  · exact ⟨_, _, rfl, h⟩
  · cases h
theorem optA_some {o : Option PV} {k : List PV → R} (h : optA o k = some r) : ∃ cs, o = some (.agg cs) ∧ k cs = some r := by
  unfold optA at h
  split at h
  · exact ⟨_, rfl, h⟩
  · cases h

theorem optX_some {o : Option PV} {k : List PV → R} (h : optX o k = some r) : ∃ cs, o = some (.box cs 0) ∧ k cs = some r := by
  unfold optX at h
  split at h
  · exact ⟨_, rfl, h⟩
  · cases h

theorem unpackK_some {st : St} : ∀ {es : List (Nat × PE)} {ks : List Sh} {a b : NAcc} {k : List Slot → List (Nat × Obj) → R}, normAll st a es = some b →
    unpackK es ks (vecE st es) a.slots a.objs k = some r → k b.slots b.objs = some r
  | [], ks, a, b, k, hn, h => by
    cases hn
    cases ks with
    | nil => exact h
    | cons => cases h
  | e :: es, ks, a, b, k, hn, h => by
    obtain ⟨t, pe⟩ := e
    simp only [normAll] at hn
    split at hn
    · cases hn
    · rename_i a' ha
      have hv : vecE st ((t, pe) :: es) = vecStep st (t, pe) ++ vecE st es := rfl
      rw [hv] at h
      cases ks with
      | nil => cases h
      | cons s ks =>
        simp only [normStep] at ha
        split at ha
        · rename_i p hs
          simp only [vecStep, hs, List.cons_append, List.nil_append, unpackK, optU] at h
          obtain ⟨q, hq, h⟩ := refine_some h
          cases hq
          cases ha
          exact unpackK_some hn h
        · rename_i m hs
          split at ha
          · rename_i ho
            simp only [vecStep, hs, ho, List.cons_append, List.nil_append, unpackK, optU] at h
            obtain ⟨q, hq, h⟩ := refine_some h
            cases hq
            cases ha
            exact unpackK_some hn h
          · cases ha
        · rename_i n m hs
          split at ha
          · rename_i ho
            simp only [vecStep, hs, ho, List.cons_append, List.nil_append, unpackK, optU] at h
            cases hf : a.fresh m n with
            | false => rw [hf] at ha; cases ha
            | true =>
              rw [hf] at ha
              cases ha
              split at h
              · obtain ⟨xs, hx, h⟩ := optLz_some h
                cases hx
                exact unpackK_some hn h
              · obtain ⟨z, xs, hx, h⟩ := optL_some h
                cases hx
                exact unpackK_some hn h
          · cases ha
        · rename_i n m hs
          split at ha
          · rename_i ho
            simp only [vecStep, hs, ho, List.cons_append, List.nil_append, unpackK, optU] at h
            cases hf : a.fresh m n with
            | false => rw [hf] at ha; cases ha
            | true =>
              rw [hf] at ha
              cases ha
              split at h
              · obtain ⟨xs, hx, h⟩ := optX_some h
                cases hx
              · obtain ⟨xs, hx, h⟩ := optA_some h
                cases hx
                exact unpackK_some hn h
          · rename_i ho
            simp only [vecStep, hs, ho, List.cons_append, List.nil_append, unpackK, optU] at h
            cases hf : a.fresh m n with
            | false => rw [hf] at ha; cases ha
            | true =>
              rw [hf] at ha
              cases ha
              split at h
              · obtain ⟨xs, hx, h⟩ := optX_some h
                cases hx
                exact unpackK_some hn h
              · obtain ⟨xs, hx, h⟩ := optA_some h
                cases hx
          · cases ha
        · rename_i n off m off' hs
          cases hb : (off == off') && a.ren.contains (m, n) with
          | false => rw [hb] at ha; cases ha
          | true =>
            rw [hb] at ha
            cases ha
            simp only [vecStep, hs, List.cons_append, List.nil_append, unpackK, optU, optB] at h
            split at h
            · cases h
            · exact unpackK_some hn h
        · rename_i n off m hs
          cases hb : a.ren.contains (m, n) with
          | false => rw [hb] at ha; cases ha
          | true =>
            rw [hb] at ha
            cases ha
            simp only [vecStep, hs, List.cons_append, List.nil_append, unpackK, optU, optB] at h
            split at h
            · exact unpackK_some hn h
            · cases h
        · cases ha

theorem headK_some {p : Pat} {ks : List Sh} {st st1 : St} {k : St → R} (hn : normE io p st = some st1) (h : headK p ks st.slots.length (vecE st p.es) k = some r) : k st1 = some r := by
  unfold normE at hn
  split at hn
  · cases hn
  · rename_i b hb
    have := unpackK_some (a := { slots := List.replicate st.slots.length .no, objs := [], ren := [] }) hb h
    cases hc : io.all (fun n => b.ren.contains (n, n)) && b.ren.all (fun x => Nat.blt x.2 p.nxt) with
    | false => rw [hc] at hn; cases hn
    | true => rw [hc] at hn; cases hn; exact this

/-- What comes after: an exit's continuation. -/
def Ex.go (kn : St → R) (kx : Nat → St → R) (kr : St → R) : Ex → R
  | .norm st => kn st
  | .exit i st => kx i st
  | .ret st => kr st

theorem loopK_some {F : (List PV → R) → List PV → R} {body : St → Option Ex} {p : Pat} {ks : List Sh} {len : Nat} {kx : Nat → St → R} {kr : St → R} {ev : St → (St → R) → R}
    (hF : ∀ rec vs, F rec vs = headK p ks len vs fun st1 => ev st1 fun st' => match normE io p st', Nat.beq st'.slots.length len with | some _, true => rec (vecE st' p.es) | _, _ => none)
    (hev : ∀ st1 k r, ev st1 k = some r → ∃ ex, body st1 = some ex ∧ ex.go k kx kr = some r) :
    ∀ {n : Nat} {st st1 : St}, st.slots.length = len → normE io p st = some st1 → iterK n F (vecE st p.es) = some r →
      ∃ ex, loopD body (normE io p) n st1 = some ex ∧ ex.go (fun _ => none) kx kr = some r
  | 0, _, _, _, _, h => by cases h
  | n + 1, st, st1, hl, hn, h => by
    unfold iterK at h
    rw [hF, ← hl] at h
    have h := headK_some hn h
    obtain ⟨ex, hb, h⟩ := hev _ _ _ h
    unfold loopD
    cases ex with
    | norm st' =>
      simp only [Ex.go] at h
      split at h
      · rename_i st2 hn2 hlen
        simp only [hb, hn2]
        exact loopK_some hF hev ((Nat.eq_of_beq_eq_true hlen).trans hl) hn2 h
      · cases h
    | exit i st' => exact ⟨.exit i st', by simp only [hb], h⟩
    | ret st' => exact ⟨.ret st', by simp only [hb], h⟩

theorem evK_some : ∀ {c : Code} {ann : KA} {st : St} {kn : St → R} {kx : Nat → St → R} {kr : St → R} {r}, evK T EQ C S RS io FU c ann st kn kx kr = some r →
    ∃ ex, evD T EQ C S io FU c ann.toAnn st = some ex ∧ ex.go kn kx kr = some r := by
  intro c
  induction c with
  | skip => intro ann st kn kx kr r h; exact ⟨_, rfl, h⟩
  | region i ops draw =>
    intro ann st kn kx kr r h
    obtain ⟨st', h1, h2⟩ := regionK_some h
    exact ⟨.norm st', by simp only [evD, h1], h2⟩
  | seq a b iha ihb =>
    intro ann st kn kx kr r h
    simp only [evK] at h
    have plain : ∀ {x y : KA}, ann.toAnn.left = x.toAnn → ann.toAnn.right = y.toAnn → (∀ st, joinD io ann.toAnn st = some st) →
        evK T EQ C S RS io FU a x st (fun st' => evK T EQ C S RS io FU b y st' kn kx kr) kx kr = some r →
        ∃ ex, evD T EQ C S io FU (.seq a b) ann.toAnn st = some ex ∧ ex.go kn kx kr = some r := by
      intro x y hx hy hj h
      obtain ⟨ex, h1, h2⟩ := iha h
      cases ex with
      | norm st' =>
        obtain ⟨ex2, h3, h4⟩ := ihb h2
        exact ⟨ex2, by simp only [evD, hx, hy, h1, hj, h3], h4⟩
      | exit i st' => exact ⟨.exit i st', by simp only [evD, hx, h1], h2⟩
      | ret st' => exact ⟨.ret st', by simp only [evD, hx, h1], h2⟩
    split at h
    · rename_i p ks x y
      unfold joinK at h
      obtain ⟨ex, h1, h2⟩ := iha h
      cases ex with
      | norm st' =>
        simp only [Ex.go] at h2
        split at h2
        · rename_i st2 hn hl
          rw [← Nat.eq_of_beq_eq_true hl] at h2
          have h2 := headK_some hn h2
          obtain ⟨ex2, h3, h4⟩ := ihb h2
          exact ⟨ex2, by simp only [evD, KA.toAnn, Ann.left, Ann.right, h1, joinD, hn, h3], h4⟩
        · cases h2
      | exit i st' => exact ⟨.exit i st', by simp only [evD, KA.toAnn, Ann.left, h1], h2⟩
      | ret st' => exact ⟨.ret st', by simp only [evD, KA.toAnn, Ann.left, h1], h2⟩
    · rename_i hs
      refine plain ?_ ?_ ?_ h
      · cases ann <;> rfl
      · cases ann <;> rfl
      · intro st
        cases ann with
        | s p ks x y => exact absurd rfl (hs p ks x y)
        | _ => rfl
  | cond c x y ihx ihy =>
    intro ann st kn kx kr r h
    simp only [evK] at h
    split at h
    · rename_i b hb
      have hl : ann.left.toAnn = ann.toAnn.left := by cases ann <;> rfl
      have hr : ann.right.toAnn = ann.toAnn.right := by cases ann <;> rfl
      cases b
      · obtain ⟨ex, h1, h2⟩ := ihy h
        rw [hr] at h1
        exact ⟨ex, by simp only [evD, condD, hb, h1], h2⟩
      · obtain ⟨ex, h1, h2⟩ := ihx h
        rw [hl] at h1
        exact ⟨ex, by simp only [evD, condD, hb, h1], h2⟩
    · cases h
  | block id c ih =>
    intro ann st kn kx kr r h
    simp only [evK] at h
    obtain ⟨ex, h1, h2⟩ := ih h
    have hl : ann.left.toAnn = ann.toAnn.left := by cases ann <;> rfl
    rw [hl] at h1
    cases ex with
    | norm st' => exact ⟨.norm st', by simp only [evD, h1], h2⟩
    | ret st' => exact ⟨.ret st', by simp only [evD, h1], h2⟩
    | exit i st' =>
      simp only [Ex.go] at h2
      cases hi : i == id with
      | true => rw [hi] at h2; exact ⟨.norm st', by simp only [evD, h1, hi, cond_true], h2⟩
      | false => rw [hi] at h2; exact ⟨.exit i st', by simp only [evD, h1, hi, cond_false], h2⟩
  | loop c ih =>
    intro ann st kn kx kr r h
    simp only [evK] at h
    split at h
    · rename_i p ks a
      split at h
      · cases h
      · rename_i st1 hn
        obtain ⟨ex, h1, h2⟩ := loopK_some (io := io) (body := evD T EQ C S io FU c a.toAnn) (ev := fun st1 k => evK T EQ C S RS io FU c a st1 k kx kr) (fun _ _ => rfl)
          (fun st1 k r h => ih h) rfl hn h
        refine ⟨ex, by simp only [evD, KA.toAnn, hn, h1], ?_⟩
        cases ex with
        | norm st' => cases h2
        | _ => exact h2
    · cases h
  | exit id => intro ann st kn kx kr r h; exact ⟨_, rfl, h⟩
  | ret => intro ann st kn kx kr r h; exact ⟨_, rfl, h⟩
  | _ => intros; rename_i h; simp [evK] at h

theorem outK_some {st : St} {k : RK} {rv : ResultVar} {c : PV → St → R} (h : outK T io st k rv c = some r) : ∃ p st1, resE T io st k rv = some (p, st1) ∧ c p st1 = some r := by
  unfold outK at h
  unfold resE
  split at h
  · split at h
    · split at h
      · rename_i hs
        split at h
        · rename_i ho
          split at h
          · rename_i hio
            obtain ⟨hx, h⟩ := chk_some h
            simp only [hs, ho, hio, hx, Bool.and_self, cond_true]; exact ⟨_, _, rfl, h⟩
          · cases h
        · cases h
      · cases h
    · split at h
      · rename_i hs
        obtain ⟨hx, h⟩ := chk_some h
        simp only [hs, hx, cond_true]; exact ⟨_, _, rfl, h⟩
      · cases h
    · split at h
      · rename_i hk
        simp only [hk]; exact ⟨_, _, rfl, h⟩
      · cases h
  · split at h
    · rename_i hs hT
      split at h
      · rename_i ho
        obtain ⟨p, hp, h⟩ := refine_some h
        obtain ⟨hx, h⟩ := chk_some h
        simp only [hs, hT, ho, hp, hx, cond_true]; exact ⟨_, _, rfl, h⟩
      · cases h
    · cases h

theorem outAll_some : ∀ {st : St} {ks : List RK} {rvs : List ResultVar} {c : List PV → St → R}, outAll T io st ks rvs c = some r → ∃ ps st1, resAll T io st ks rvs = some (ps, st1) ∧ c ps st1 = some r
  | st, [], [], c, h => ⟨_, _, rfl, h⟩
  | st, k :: ks, rv :: rvs, c, h => by
    unfold outAll at h
    obtain ⟨p, st1, h1, h⟩ := outK_some h
    obtain ⟨ps, st2, h2, h⟩ := outAll_some h
    exact ⟨_, _, by simp only [resAll, h1, h2], h⟩
  | _, [], _ :: _, _, h => by cases h
  | _, _ :: _, [], _, h => by cases h

theorem endK_some {fn : Func} {sg : FSig} {ps : List PV} {st : St} (h : endK T io fn sg ps st = some r) : endE T io fn sg ps st = some r := by
  unfold endK at h
  unfold endE
  obtain ⟨rs, st1, h1, h⟩ := outAll_some h
  simp only [h1]
  split at h
  · cases h
  · rename_i hq
    simp only [hq]; exact h

theorem funK_some {fn : Func} {sg : FSig} {ka : KA} {shs : List Sh} {ps : List PV} (h : funK T EQ C S RS FU fn sg ka shs ps = some r) : funE T EQ C S FU fn sg ka.toAnn ps = some r := by
  unfold funK at h
  have h := un_some h
  unfold funE
  split at h
  · rename_i hb hp
    obtain ⟨ex, h1, h2⟩ := evK_some h
    simp only [hb, hp, h1]
    cases ex with
    | norm st' => exact endK_some h2
    | ret st' => exact endK_some h2
    | exit i st' => cases h2
  · cases h

end
end Evp
end Go
