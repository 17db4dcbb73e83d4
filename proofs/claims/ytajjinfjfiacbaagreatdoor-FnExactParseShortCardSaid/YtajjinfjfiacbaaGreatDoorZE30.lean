/- For proofs about the texts: the combinators at values of known form, loops, numbers. -/
import Derived.Test.YtajjinfjfiacbaaGreatDoorZE29
set_option linter.unusedSectionVars false
set_option linter.unusedVariables false
set_option linter.unusedSimpArgs false
set_option linter.unnecessarySimpa false
namespace Go
namespace Evp

/-- An equation that the rewriting takes as one (not as a computation). -/
theorem eqOf {α : Sort _} {a b : α} (h : a = b) : a = b := h

@[simp] theorem popI_cons {κ : IntKind} {a : Int} {r : List PV} {k : Int → List PV → R} : popI κ (.v (.int κ a) :: r) k = k a r := by simp [popI, optU, optI]
@[simp] theorem popB_cons {a : Bool} {r : List PV} {k : Bool → List PV → R} : popB (.v (.bool a) :: r) k = k a r := eqOf rfl
@[simp] theorem popS_cons {a : ByteArray} {r : List PV} {k : ByteArray → List PV → R} : popS (.v (.string a) :: r) k = k a r := eqOf rfl
@[simp] theorem popLz_cons {z : Nat} {a r : List PV} {k : List PV → List PV → R} : popLz z (.sl z a :: r) k = k a r := by simp [popLz, optU, optLz]
@[simp] theorem popL_cons {z : Nat} {a r : List PV} {k : Nat → List PV → List PV → R} : popL (.sl z a :: r) k = k z a r := eqOf rfl
@[simp] theorem popA_cons {a r : List PV} {k : List PV → List PV → R} : popA (.agg a :: r) k = k a r := eqOf rfl
@[simp] theorem popX_cons {a r : List PV} {k : List PV → List PV → R} : popX (.box a 0 :: r) k = k a r := eqOf rfl
@[simp] theorem popP_cons {a : PV} {r : List PV} {k : PV → List PV → R} : popP (a :: r) k = k a r := eqOf rfl
@[simp] theorem popN_nil {k : R} : popN [] k = k := eqOf rfl
@[simp] theorem optI_v {κ : IntKind} {a : Int} {k : Int → R} : optI κ (some (.v (.int κ a))) k = k a := by simp [optI]
@[simp] theorem optB_v {a : Bool} {k : Bool → R} : optB (some (.v (.bool a))) k = k a := eqOf rfl
@[simp] theorem optS_v {a : ByteArray} {k : ByteArray → R} : optS (some (.v (.string a))) k = k a := eqOf rfl
@[simp] theorem optLz_v {z : Nat} {a : List PV} {k : List PV → R} : optLz z (some (.sl z a)) k = k a := by simp [optLz]
@[simp] theorem optL_v {z : Nat} {a : List PV} {k : Nat → List PV → R} : optL (some (.sl z a)) k = k z a := eqOf rfl
@[simp] theorem optA_v {a : List PV} {k : List PV → R} : optA (some (.agg a)) k = k a := eqOf rfl
@[simp] theorem optX_v {a : List PV} {k : List PV → R} : optX (some (.box a 0)) k = k a := eqOf rfl
@[simp] theorem optP_v {a : PV} {k : PV → R} : optP (some a) k = k a := eqOf rfl
@[simp] theorem optC_v {α : Type} {a : α} {k : α → R} : optC (some a) k = k a := eqOf rfl
@[simp] theorem chk_true {k : R} : chk true k = k := eqOf rfl
theorem chk_of {b : Bool} {k : R} (h : b = true) : chk b k = k := by rw [h]; rfl
@[simp ↓] theorem popI_cons_pre {κ : IntKind} {a : Int} {r : List PV} {k : Int → List PV → R} : popI κ (.v (.int κ a) :: r) k = k a r := popI_cons
@[simp ↓] theorem popB_cons_pre {a : Bool} {r : List PV} {k : Bool → List PV → R} : popB (.v (.bool a) :: r) k = k a r := popB_cons
@[simp ↓] theorem popS_cons_pre {a : ByteArray} {r : List PV} {k : ByteArray → List PV → R} : popS (.v (.string a) :: r) k = k a r := popS_cons
@[simp ↓] theorem popLz_cons_pre {z : Nat} {a r : List PV} {k : List PV → List PV → R} : popLz z (.sl z a :: r) k = k a r := popLz_cons
@[simp ↓] theorem popL_cons_pre {z : Nat} {a r : List PV} {k : Nat → List PV → List PV → R} : popL (.sl z a :: r) k = k z a r := popL_cons
@[simp ↓] theorem popA_cons_pre {a r : List PV} {k : List PV → List PV → R} : popA (.agg a :: r) k = k a r := popA_cons
@[simp ↓] theorem popX_cons_pre {a r : List PV} {k : List PV → List PV → R} : popX (.box a 0 :: r) k = k a r := popX_cons
@[simp ↓] theorem popP_cons_pre {a : PV} {r : List PV} {k : PV → List PV → R} : popP (a :: r) k = k a r := popP_cons
@[simp ↓] theorem popN_nil_pre {k : R} : popN [] k = k := popN_nil
@[simp ↓] theorem optI_v_pre {κ : IntKind} {a : Int} {k : Int → R} : optI κ (some (.v (.int κ a))) k = k a := optI_v
@[simp ↓] theorem optB_v_pre {a : Bool} {k : Bool → R} : optB (some (.v (.bool a))) k = k a := optB_v
@[simp ↓] theorem optS_v_pre {a : ByteArray} {k : ByteArray → R} : optS (some (.v (.string a))) k = k a := optS_v
@[simp ↓] theorem optLz_v_pre {z : Nat} {a : List PV} {k : List PV → R} : optLz z (some (.sl z a)) k = k a := optLz_v
@[simp ↓] theorem optL_v_pre {z : Nat} {a : List PV} {k : Nat → List PV → R} : optL (some (.sl z a)) k = k z a := optL_v
@[simp ↓] theorem optA_v_pre {a : List PV} {k : List PV → R} : optA (some (.agg a)) k = k a := optA_v
@[simp ↓] theorem optX_v_pre {a : List PV} {k : List PV → R} : optX (some (.box a 0)) k = k a := optX_v
@[simp ↓] theorem optP_v_pre {a : PV} {k : PV → R} : optP (some a) k = k a := optP_v
@[simp ↓] theorem optC_v_pre {α : Type} {a : α} {k : α → R} : optC (some a) k = k a := optC_v
@[simp ↓] theorem chk_true_pre {k : R} : chk true k = k := chk_true
@[simp ↓] theorem joinK_eq {f : List PV → R} {g : (List PV → R) → R} : joinK f g = g f := eqOf rfl

/-! Evaluated from the outside in: what comes next is not looked at before it is reached. -/

@[congr] theorem popI_congr {κ : IntKind} {ps qs : List PV} {k : Int → List PV → R} (h : ps = qs) : popI κ ps k = popI κ qs k := by rw [h]
@[congr] theorem popB_congr {ps qs : List PV} {k : Bool → List PV → R} (h : ps = qs) : popB ps k = popB qs k := by rw [h]
@[congr] theorem popS_congr {ps qs : List PV} {k : ByteArray → List PV → R} (h : ps = qs) : popS ps k = popS qs k := by rw [h]
@[congr] theorem popLz_congr {z : Nat} {ps qs : List PV} {k : List PV → List PV → R} (h : ps = qs) : popLz z ps k = popLz z qs k := by rw [h]
@[congr] theorem popL_congr {ps qs : List PV} {k : Nat → List PV → List PV → R} (h : ps = qs) : popL ps k = popL qs k := by rw [h]
@[congr] theorem popA_congr {ps qs : List PV} {k : List PV → List PV → R} (h : ps = qs) : popA ps k = popA qs k := by rw [h]
@[congr] theorem popX_congr {ps qs : List PV} {k : List PV → List PV → R} (h : ps = qs) : popX ps k = popX qs k := by rw [h]
@[congr] theorem popP_congr {ps qs : List PV} {k : PV → List PV → R} (h : ps = qs) : popP ps k = popP qs k := by rw [h]
@[congr] theorem optI_congr {κ : IntKind} {o p : Option PV} {k : Int → R} (h : o = p) : optI κ o k = optI κ p k := by rw [h]
@[congr] theorem optB_congr {o p : Option PV} {k : Bool → R} (h : o = p) : optB o k = optB p k := by rw [h]
@[congr] theorem optS_congr {o p : Option PV} {k : ByteArray → R} (h : o = p) : optS o k = optS p k := by rw [h]
@[congr] theorem optLz_congr {z : Nat} {o p : Option PV} {k : List PV → R} (h : o = p) : optLz z o k = optLz z p k := by rw [h]
@[congr] theorem optL_congr {o p : Option PV} {k : Nat → List PV → R} (h : o = p) : optL o k = optL p k := by rw [h]
@[congr] theorem optA_congr {o p : Option PV} {k : List PV → R} (h : o = p) : optA o k = optA p k := by rw [h]
@[congr] theorem optX_congr {o p : Option PV} {k : List PV → R} (h : o = p) : optX o k = optX p k := by rw [h]
@[congr] theorem optP_congr {o p : Option PV} {k : PV → R} (h : o = p) : optP o k = optP p k := by rw [h]
@[congr] theorem optC_congr {α : Type} {o p : Option α} {k : α → R} (h : o = p) : optC o k = optC p k := by rw [h]
@[congr] theorem chk_congr {a b : Bool} {k : R} (h : a = b) : chk a k = chk b k := by rw [h]
@[congr] theorem popN_congr {ps qs : List PV} {k : R} (h : ps = qs) : popN ps k = popN qs k := by rw [h]
@[congr] theorem cond_congr' {a b : Bool} {x y : R} (h : a = b) : cond a x y = cond b x y := by rw [h]
@[congr] theorem iterK_congr {n : Nat} {F : (List PV → R) → List PV → R} {vs ws : List PV} (h : vs = ws) : iterK n F vs = iterK n F ws := by rw [h]

/-- A loop that gives g at every state: one round does, where the rest of the loop does. -/
theorem iterK_ind {α : Type} {F : (List PV → R) → List PV → R} (enc : α → List PV) (g : α → R) (μ : α → Nat) (inv : α → Prop)
    (step : ∀ a rec, inv a → (∀ b, inv b → μ b < μ a → rec (enc b) = g b) → F rec (enc a) = g a) : ∀ n a, inv a → μ a < n → iterK n F (enc a) = g a
  | 0, _, _, h => by omega
  | n + 1, a, hi, h => by
    unfold iterK
    exact step a _ hi fun b hb hlt => iterK_ind enc g μ inv step n b hb (by omega)

theorem wr_of {n : Int} (h1 : -9223372036854775808 ≤ n) (h2 : n < 9223372036854775808) : IntKind.wrap .i64 n = n := by
  unfold IntKind.wrap
  simp only [IntKind.bits, IntKind.signed]
  simp
  omega

end Evp
end Go
