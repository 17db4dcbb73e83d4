/- Shapes: what both packages' functions compute. -/
import Derived.Test.YtajjinfjfiacbaaGreatDoorZS1
import Derived.Test.YtajjinfjfiacbaaGreatDoorZE35
import Derived.Test.YtajjinfjfiacbaaGreatDoorZE37
set_option linter.unusedSectionVars false
set_option linter.unusedVariables false
set_option linter.unusedSimpArgs false
set_option linter.unnecessarySimpa false
section
/- Shapes: what both packages' functions compute. -/
namespace Go.Proofs.YtajjinfjfiacbaaGreatDoor
open Go Go.Evp

noncomputable abbrev Call (m : Nat) (f : FuncId) (ps : List PV) : Option (List PV) := callN (Bk.env FU0) m f ps

@[simp] theorem eqShapeT : Bk.EQ 23 = some [.int .i64, .int .i64, .int .i64, .int .i64, .int .i64, .bool] := by kernel_rfl

theorem k_within (m : Nat) (a b c : Int) : Call (m + 1) 85 [I a, I b, I c] = some [B (inR a b c)] := by
  apply c85
  simp only [s85, popI_cons, popN_nil, inR]
  by_cases h : b ≤ a <;> simp [h]

theorem k_l1In (m : Nat) (a b c : Int) : Call (m + 1) 71 [I a, I b, I c] = some [B (inR a b c)] := by
  apply c71
  simp only [s71, popI_cons, popN_nil, inR]
  by_cases h : b ≤ a <;> simp [h]

theorem wr_nat {n : Nat} (h : n < 9223372036854775807) : wr ((n : Int) + 1) = ((n + 1 : Nat) : Int) := by
  rw [wr, wr_of (by omega) (by omega)]
  omega

/-- A loop over a list's places. -/
theorem iterK_range {F : (List PV → R) → List PV → R} (enc : Nat → List PV) (g : Nat → R) (n : Nat) (hn : n < 9223372036854775807) {vs : List PV} {r : R} (hv : vs = enc 0) (hr : r = g 0)
    (step : ∀ i rec, i < n → rec (enc (i + 1)) = g (i + 1) → F rec (enc i) = g i) (stop : ∀ rec, F rec (enc n) = g n) : iterK FU0 F vs = r := by
  rw [hv, hr]
  refine iterK_loop enc g (fun i => n - i) (fun i => i ≤ n) (fun i rec hi hr => ?_) 0 (Nat.zero_le _) (by omega)
  rcases Nat.lt_or_ge i n with h | h
  · exact step i rec h (hr (i + 1) h (by omega))
  · rw [show i = n by omega]; exact stop rec

/-- A loop over a list. -/
theorem iterK_list {α : Type} {F : (List PV → R) → List PV → R} (xs : List α) (enc : Nat → List PV) (g : Nat → List α → R) (hn : xs.length < 9223372036854775807) {vs : List PV} {r : R} (hv : vs = enc 0) (hr : r = g 0 xs)
    (step : ∀ i x rest rec, (h : i < xs.length) → xs[i] = x → wr ((i : Int) + 1) = (i : Int) + 1 → rec (enc (i + 1)) = g (i + 1) rest → F rec (enc i) = g i (x :: rest)) (stop : ∀ rec, F rec (enc xs.length) = g xs.length []) : iterK FU0 F vs = r := by
  rw [hr, show xs = xs.drop 0 from rfl]
  refine iterK_range enc (fun i => g i (xs.drop i)) xs.length hn hv rfl (fun i rec h hrec => ?_) (fun rec => ?_)
  · rw [List.drop_eq_getElem_cons h]
    refine step i xs[i] _ rec h rfl ?_ hrec
    rw [wr, wr_of (by omega) (by omega)]
  · rw [List.drop_length]
    exact stop rec

theorem all_drop {α : Type} (xs : List α) (p : α → Bool) (i : Nat) (h : i < xs.length) : (xs.drop i).all p = (p xs[i] && (xs.drop (i + 1)).all p) := by
  rw [List.drop_eq_getElem_cons h, List.all_cons]

theorem k_l1All (m : Nat) (xs : List Int) (a b : Int) (hl : xs.length < 9223372036854775807) :
    Call (m + 2) 115 [.sl 1 (xs.map I), I a, I b] = some [B (xs.all fun n => inR n a b)] := by
  apply c115
  simp only [s115, popI_cons, popN_nil, popLz_cons, List.length_map]
  refine iterK_list xs (fun i => [I a, I b, .sl 1 (xs.map I), I xs.length, I i]) (fun _ l => some [B (l.all fun n => inR n a b)]) hl rfl rfl (fun i x rest rec h hx hw hr => ?_) (fun rec => ?_)
  · simp only [popI_cons, popN_nil, popLz_cons, hw]
    push_cast at hr
    simp [h, hx, k_l1In]
    cases inR x a b <;> simp [hr]
  · simp

theorem k_bends (m : Nat) (x : Shape) : Call (m + 1) 129 [.agg x.cells] = some [.sl 1 [I x.i, I x.m, I x.r, I x.l]] := by
  apply c129
  simp [s129, PV.flat]

theorem k_shFingers (m : Nat) (x : Shape) : Call (m + 1) 116 [.agg x.cells] = some [.sl 1 [I x.i, I x.m, I x.r, I x.l]] := by
  apply c116
  simp [s116, PV.flat]

/-- May a shape be spread? -/
def wide (x : Shape) : Bool := (x.m == 0 && (x.i == 0 || x.r == 0)) || (x.r == 0 && x.l == 0)
def goodShape (x : Shape) : Bool := inR x.t 0 2 && (inR x.i 0 2 && (inR x.m 0 2 && (inR x.r 0 2 && inR x.l 0 2))) && (!x.sp || wide x)

theorem k_maySpread (m : Nat) (x : Shape) : Call (m + 1) 127 [.agg x.cells] = some [B (wide x)] := by
  apply c127
  simp [s127, wide]
  generalize (x.m == 0) = a; generalize (x.i == 0) = b; generalize (x.r == 0) = c; generalize (x.l == 0) = d
  cases a <;> cases b <;> cases c <;> cases d <;> simp

theorem k_shWide (m : Nat) (x : Shape) : Call (m + 2) 117 [.agg x.cells] = some [B (wide x)] := by
  apply c117
  simp [s117, wide, k_shFingers]
  refine iterK_unroll fun k => ?_
  repeat (rw [iterK_succ]; simp [wr_eq, eltS])
  generalize (x.m == 0) = a; generalize (x.i == 0) = b; generalize (x.r == 0) = c; generalize (x.l == 0) = d
  cases a <;> cases b <;> cases c <;> cases d <;> simp

theorem k_l1All4 (m : Nat) (p q r s a b : Int) : Call (m + 2) 115 [.sl 1 [I p, I q, I r, I s], I a, I b] = some [B (inR p a b && (inR q a b && (inR r a b && inR s a b)))] := by
  have := k_l1All m [p, q, r, s] a b (by show 4 < _; omega)
  simp only [List.map_cons, List.map_nil, List.all_cons, List.all_nil, Bool.and_true] at this
  exact this

theorem k_shGood (m : Nat) (x : Shape) : Call (m + 3) 72 [.agg x.cells] = some [B (goodShape x)] := by
  apply c72
  simp [s72, goodShape, k_shFingers, k_l1In, k_shWide, k_l1All4]
  cases inR x.t 0 2 <;> simp
  cases inR x.i 0 2 <;> simp
  cases inR x.m 0 2 <;> simp
  cases inR x.r 0 2 <;> simp
  cases inR x.l 0 2 <;> simp
  cases x.sp <;> simp

theorem k_allWithin1 (m : Nat) (n a b : Int) : Call (m + 2) 149 [I n, .box [I a] 0, .box [I b] 0] = some [B (!inR n a b)] := by
  apply c149
  simp [s149, k_within]

/-- What a function value answers. -/
theorem applyPV_of {C : Oracle} {S : Sigs} {f : FuncId} {sg : FSig} {first caps args : List PV} {r : PV} (hS : S f = some sg)
    (hk : (sg.params.all (fun k => decide (k = .val)) && decide (sg.results = [.flat]) && (sg.params.length == (first ++ args ++ caps).length)) = true) (h : C f (first ++ args ++ caps) = some [r]) :
    applyPV C S (.fn f first caps) args = some r := by
  simp only [applyPV, hS, hk, h, List.headD_cons]

/-- Where p first holds. -/
def firstAt {α : Type} (p : α → Bool) : List α → Option Nat
  | [] => none
  | x :: l => bif p x then some 0 else (firstAt p l).map (· + 1)
def orNeg : Option Nat → Int
  | some i => i
  | none => -1

theorem orNeg_ge (o : Option Nat) : decide (0 ≤ orNeg o) = o.isSome := by
  cases o with
  | none => rfl
  | some n => exact decide_eq_true (by show (0 : Int) ≤ (n : Int); omega)
theorem firstAt_isSome {α : Type} (p : α → Bool) : ∀ l : List α, (firstAt p l).isSome = l.any p
  | [] => rfl
  | x :: l => by
    rw [firstAt, List.any_cons, ← firstAt_isSome p l]
    cases p x <;> simp

theorem k_IndexFunc (m : Nat) (xs : List Int) (g : PV) (p : Int → Bool) (hl : xs.length < 9223372036854775807)
    (hg : ∀ n, applyPV (callN (Bk.env FU0) m) Bk.S g [I n] = some (B (p n))) :
    Call (m + 1) 160 [.sl 1 (xs.map I), g] = some [I (orNeg (firstAt p xs))] := by
  apply c160
  simp only [s160, popP_cons, popN_nil, popLz_cons, List.length_map]
  refine iterK_list xs (fun i => [.sl 1 (xs.map I), g, I xs.length, I i]) (fun i l => some [I (match firstAt p l with | some j => (i : Int) + j | none => -1)]) hl rfl ?_ (fun i x rest rec h hx hw hr => ?_) (fun rec => ?_)
  · cases firstAt p xs <;> simp [orNeg]
  · simp only [popI_cons, popN_nil, popLz_cons, popP_cons, hw]
    push_cast at hr
    simp [h, hx, hg]
    cases hp : p x
    · simp [hr, firstAt, hp]
      cases firstAt p rest <;> simp <;> omega
    · simp [hp, firstAt]
  · simp [firstAt]

theorem k_ContainsFunc (m : Nat) (xs : List Int) (g : PV) (p : Int → Bool) (hl : xs.length < 9223372036854775807)
    (hg : ∀ n, applyPV (callN (Bk.env FU0) m) Bk.S g [I n] = some (B (p n))) :
    Call (m + 2) 148 [.sl 1 (xs.map I), g] = some [B (xs.any p)] := by
  apply c148
  simp [s148, k_IndexFunc m xs g p hl hg, orNeg_ge, firstAt_isSome]

theorem k_allWithin (m : Nat) (xs : List Int) (a b : Int) (hl : xs.length < 9223372036854775807) :
    Call (m + 5) 128 [.sl 1 (xs.map I), I a, I b] = some [B (xs.all fun n => inR n a b)] := by
  apply c128
  have h := k_ContainsFunc (m + 2) xs (.fn 149 [] [.box [I a] 0, .box [I b] 0]) (fun n => !inR n a b) hl (fun n => applyPV_of (S := Bk.S) (sg := i149.sg) (by kernel_rfl) (by kernel_rfl) (k_allWithin1 _ n a b))
  simp [s128, h, List.any_eq_not_all_not]

theorem k_allWithin5 (m : Nat) (o p q r s a b : Int) : Call (m + 5) 128 [.sl 1 [I o, I p, I q, I r, I s], I a, I b] = some [B (inR o a b && (inR p a b && (inR q a b && (inR r a b && inR s a b))))] := by
  have := k_allWithin m [o, p, q, r, s] a b (by simp)
  simp only [List.map_cons, List.map_nil, List.all_cons, List.all_nil, Bool.and_true] at this
  exact this

theorem k_IsShape (m : Nat) (x : Shape) : Call (m + 6) 87 [.agg x.cells] = some [B (goodShape x)] := by
  apply c87
  simp [s87, goodShape, k_bends, k_allWithin5, k_maySpread]
  generalize inR x.t 0 2 = a; generalize inR x.i 0 2 = b; generalize inR x.m 0 2 = c; generalize inR x.r 0 2 = d; generalize inR x.l 0 2 = e; generalize x.sp = f
  cases a <;> cases b <;> cases c <;> cases d <;> cases e <;> cases f <;> simp

def Shape.set (x : Shape) (f b : Int) : Shape :=
  let y : Shape := bif f == 0 then { x with t := b } else bif f == 1 then { x with i := b } else bif f == 2 then { x with m := b } else bif f == 3 then { x with r := b } else { x with l := b }
  { y with sp := y.sp && wide y }

theorem k_with (m : Nat) (x : Shape) (f b : Int) : Call (m + 2) 86 [.agg x.cells, I f, I b] = some [.agg (Shape.set x f b).cells] := by
  apply c86
  simp [s86, Shape.set]
  cases f == 0 <;> simp
  · cases f == 1 <;> simp
    · cases f == 2 <;> simp
      · cases f == 3 <;> simp
        all_goals cases x.sp <;> simp [k_maySpread]
      · cases x.sp <;> simp [k_maySpread]
    · cases x.sp <;> simp [k_maySpread]
  · cases x.sp <;> simp [k_maySpread]
end Go.Proofs.YtajjinfjfiacbaaGreatDoor
end

section
/- Shapes: texts, and what is read back. -/
set_option linter.unusedSimpArgs false
set_option linter.unusedVariables false
namespace Go.Proofs.YtajjinfjfiacbaaGreatDoor
open Go Go.Evp

def dig (n : Int) : UInt8 := UInt8.ofNat (48 + n.toNat)

theorem inR_iff {n a b : Int} : inR n a b = true ↔ a ≤ n ∧ n ≤ b := by simp [inR]

theorem itoa_dig {n : Int} (h0 : 0 ≤ n) (h1 : n < 10) : Lib.itoa n = [dig n] := by
  unfold Lib.itoa dig
  rw [if_neg (by omega), Lib.decDigits, dif_pos (by omega)]

theorem k_Itoa (m : Nat) (n : Int) (h0 : 0 ≤ n) (h1 : n < 10) : Call (m + 1) 130 [I n] = some [Sg (bs [dig n])] := by
  refine call_ext (e := xItoa) (by kernel_rfl) ?_
  have : (decide (-9223372036854775808 ≤ n) && decide (n ≤ 9223372036854775807)) = true := by simp; omega
  simp only [xItoa, this, cond_true', itoa_dig h0 h1]

theorem k_l1Num (m : Nat) (n : Int) (h0 : 0 ≤ n) (h1 : n < 10) : Call (m + 1) 133 [I n] = some [Sg (bs [dig n])] := by
  apply c133
  have : n = 0 ∨ n = 1 ∨ n = 2 ∨ n = 3 ∨ n = 4 ∨ n = 5 ∨ n = 6 ∨ n = 7 ∨ n = 8 ∨ n = 9 := by omega
  rcases this with rfl | rfl | rfl | rfl | rfl | rfl | rfl | rfl | rfl | rfl <;> rfl

def shapeText (x : Shape) : List UInt8 := [dig x.t, dig x.i, dig x.m, dig x.r, dig x.l] ++ (bif x.sp then [115] else [])

theorem good_digits {x : Shape} (h : goodShape x = true) : (0 ≤ x.t ∧ x.t < 10) ∧ (0 ≤ x.i ∧ x.i < 10) ∧ (0 ≤ x.m ∧ x.m < 10) ∧ (0 ≤ x.r ∧ x.r < 10) ∧ (0 ≤ x.l ∧ x.l < 10) := by
  simp only [goodShape, Bool.and_eq_true, inR_iff] at h
  omega

theorem k_shapeText (m : Nat) (x : Shape) (h : goodShape x = true) : Call (m + 2) 88 [.agg x.cells] = some [Sg (bs (shapeText x))] := by
  apply c88
  obtain ⟨⟨a1, a2⟩, ⟨b1, b2⟩, ⟨c1, c2⟩, ⟨d1, d2⟩, ⟨e1, e2⟩⟩ := good_digits h
  simp [s88, k_bends, k_Itoa, a1, a2]
  refine iterK_unroll fun k => ?_
  repeat (rw [iterK_succ]; simp [wr_eq, eltS, k_Itoa, b1, b2, c1, c2, d1, d2, e1, e2, binPV_add])
  cases hs : x.sp <;> simp [binPV_add, shapeText, hs]

theorem k_shText (m : Nat) (x : Shape) (h : goodShape x = true) : Call (m + 26) 96 [.agg x.cells] = some [Sg (bs (shapeText x))] := by
  apply c96
  obtain ⟨⟨a1, a2⟩, ⟨b1, b2⟩, ⟨c1, c2⟩, ⟨d1, d2⟩, ⟨e1, e2⟩⟩ := good_digits h
  simp [s96, k_shFingers, k_l1Num, a1, a2]
  refine iterK_unroll fun k => ?_
  repeat (rw [iterK_succ]; simp [wr_eq, eltS, k_l1Num, b1, b2, c1, c2, d1, d2, e1, e2, binPV_add])
  cases hs : x.sp <;> simp [binPV_add, shapeText, hs]

/-- The shape with a text. -/
def parseShape (s : List UInt8) : Option Shape :=
  match s with
  | [a, b, c, d, e] => bif goodShape ⟨(a.toNat : Int) - 48, (b.toNat : Int) - 48, (c.toNat : Int) - 48, (d.toNat : Int) - 48, (e.toNat : Int) - 48, false⟩ then
      some ⟨(a.toNat : Int) - 48, (b.toNat : Int) - 48, (c.toNat : Int) - 48, (d.toNat : Int) - 48, (e.toNat : Int) - 48, false⟩ else none
  | [a, b, c, d, e, f] => bif f == 115 && goodShape ⟨(a.toNat : Int) - 48, (b.toNat : Int) - 48, (c.toNat : Int) - 48, (d.toNat : Int) - 48, (e.toNat : Int) - 48, true⟩ then
      some ⟨(a.toNat : Int) - 48, (b.toNat : Int) - 48, (c.toNat : Int) - 48, (d.toNat : Int) - 48, (e.toNat : Int) - 48, true⟩ else none
  | _ => none

def okShape (o : Option Shape) : List PV := [.agg (o.getD .zero).cells, B o.isSome]

/-- A byte as a number. -/
theorem byte_wr (a : UInt8) : wr (IntKind.wrap .i64 (a.toNat : Int) - 48) = (a.toNat : Int) - 48 := by
  have := UInt8.toNat_lt a
  rw [wr_of (by omega) (by omega), wr_eq (by omega) (by omega)]

theorem len_cases (s : List UInt8) : (∃ a b c d e, s = [a, b, c, d, e]) ∨ (∃ a b c d e f, s = [a, b, c, d, e, f]) ∨ (inR s.length 5 6 = false ∧ parseShape s = none) := by
  match s with
  | [] => exact .inr (.inr ⟨rfl, rfl⟩)
  | [_] => exact .inr (.inr ⟨rfl, rfl⟩)
  | [_, _] => exact .inr (.inr ⟨rfl, rfl⟩)
  | [_, _, _] => exact .inr (.inr ⟨rfl, rfl⟩)
  | [_, _, _, _] => exact .inr (.inr ⟨rfl, rfl⟩)
  | [a, b, c, d, e] => exact .inl ⟨a, b, c, d, e, rfl⟩
  | [a, b, c, d, e, f] => exact .inr (.inl ⟨a, b, c, d, e, f, rfl⟩)
  | _ :: _ :: _ :: _ :: _ :: _ :: _ :: r =>
    refine .inr (.inr ⟨?_, rfl⟩)
    simp [inR]
    omega

theorem k_shParse (m : Nat) (s : List UInt8) : Call (m + 4) 37 [Sg (bs s)] = some (okShape (parseShape s)) := by
  apply c37
  rcases len_cases s with ⟨a, b, c, d, e, rfl⟩ | ⟨a, b, c, d, e, f, rfl⟩ | ⟨h, hp⟩
  · simp [s37, k_l1In, inR]
    refine iterK_unroll fun k => ?_
    repeat (rw [iterK_succ]; simp [strAt, wr_eq, eltS, byte_wr, k_shGood])
    rw [parseShape]
    cases goodShape ⟨(a.toNat : Int) - 48, (b.toNat : Int) - 48, (c.toNat : Int) - 48, (d.toNat : Int) - 48, (e.toNat : Int) - 48, false⟩ <;> simp [okShape]
  · simp [s37, k_l1In, inR, strAt]
    by_cases hf : f = 115
    · subst hf
      simp
      refine iterK_unroll fun k => ?_
      repeat (rw [iterK_succ]; simp [strAt, wr_eq, eltS, byte_wr, k_shGood])
      rw [parseShape]
      cases goodShape ⟨(a.toNat : Int) - 48, (b.toNat : Int) - 48, (c.toNat : Int) - 48, (d.toNat : Int) - 48, (e.toNat : Int) - 48, true⟩ <;> simp [okShape]
    · have h1 : ((f.toNat : Int) != 115) = true := by
        simp only [bne_iff_ne, ne_eq]
        intro h
        exact hf (UInt8.toNat_inj.1 (by simpa using (by omega : f.toNat = 115)))
      have h2 : (f == 115) = false := by simpa using hf
      simp [h1, parseShape, h2, okShape]
  · rw [hp]
    simp [s37, k_l1In, h, okShape]

theorem dig_byte (a : UInt8) (h : 0 ≤ (a.toNat : Int) - 48) : dig ((a.toNat : Int) - 48) = a := by
  unfold dig
  rw [show 48 + ((a.toNat : Int) - 48).toNat = a.toNat by omega, UInt8.ofNat_toNat]

theorem text_of5 {a b c d e : UInt8} {sp : Bool} (h : goodShape ⟨(a.toNat : Int) - 48, (b.toNat : Int) - 48, (c.toNat : Int) - 48, (d.toNat : Int) - 48, (e.toNat : Int) - 48, sp⟩ = true) :
    shapeText ⟨(a.toNat : Int) - 48, (b.toNat : Int) - 48, (c.toNat : Int) - 48, (d.toNat : Int) - 48, (e.toNat : Int) - 48, sp⟩ = [a, b, c, d, e] ++ (bif sp then [115] else []) := by
  obtain ⟨⟨a1, a2⟩, ⟨b1, b2⟩, ⟨c1, c2⟩, ⟨d1, d2⟩, ⟨e1, e2⟩⟩ := good_digits h
  simp only at a1 b1 c1 d1 e1
  simp only [shapeText, dig_byte _ a1, dig_byte _ b1, dig_byte _ c1, dig_byte _ d1, dig_byte _ e1]

theorem k_ParseShape (m : Nat) (s : List UInt8) : Call (m + 7) 44 [Sg (bs s)] = some (okShape (parseShape s)) := by
  apply c44
  rcases len_cases s with ⟨a, b, c, d, e, rfl⟩ | ⟨a, b, c, d, e, f, rfl⟩ | ⟨h, hp⟩
  · simp [s44, k_within, inR, Shape.zeros]
    refine iterK_unroll fun k => ?_
    repeat (rw [iterK_succ]; simp [strAt, wr_eq, eltS, byte_wr, k_with, Shape.set, Shape.zero, k_IsShape])
    rw [parseShape]
    cases h : goodShape ⟨(a.toNat : Int) - 48, (b.toNat : Int) - 48, (c.toNat : Int) - 48, (d.toNat : Int) - 48, (e.toNat : Int) - 48, false⟩
    · simp [okShape, Shape.zero]
    · simp [k_shapeText _ _ h, text_of5 h, okShape]
  · simp [s44, k_within, inR, Shape.zeros]
    refine iterK_unroll fun k => ?_
    repeat (rw [iterK_succ]; simp [strAt, wr_eq, eltS, byte_wr, k_with, Shape.set, Shape.zero, k_IsShape])
    rw [parseShape]
    cases h : goodShape ⟨(a.toNat : Int) - 48, (b.toNat : Int) - 48, (c.toNat : Int) - 48, (d.toNat : Int) - 48, (e.toNat : Int) - 48, true⟩
    · simp [okShape, Shape.zero]
    · simp [k_shapeText _ _ h, text_of5 h, okShape]
      by_cases hf : f = 115
      · subst hf; simp
      · have h2 : (f == 115) = false := by simpa using hf
        have h3 : ((115 : UInt8) == f) = false := by simpa using Ne.symm hf
        simp [h2, h3, Shape.zero]
  · rw [hp]
    simp [s44, k_within, h, okShape]
end Go.Proofs.YtajjinfjfiacbaaGreatDoor
end

section
/- Orientations. -/
set_option linter.unusedSimpArgs false
set_option linter.unusedVariables false
namespace Go.Proofs.YtajjinfjfiacbaaGreatDoor
open Go Go.Evp

@[simp] theorem eqOrientT : Bk.EQ 25 = some [.int .i64, .int .i64] := by kernel_rfl

theorem inR5 {n : Int} (h : inR n 0 5 = true) : n = 0 ∨ n = 1 ∨ n = 2 ∨ n = 3 ∨ n = 4 ∨ n = 5 := by
  rw [inR_iff] at h
  omega

/-- The opposite direction. -/
def oppDir (n : Int) : Int := bif n % 2 == 0 then n + 1 else n - 1
def goodOrient (o : Orient) : Bool := inR o.p 0 5 && (inR o.f 0 5 && (o.p != o.f && o.p != oppDir o.f))

theorem k_IsOrient (m : Nat) (o : Orient) : Call (m + 2) 89 [.agg o.cells] = some [B (goodOrient o)] := by
  apply c89
  obtain ⟨p, f⟩ := o
  simp [s89, k_within, goodOrient]
  cases h1 : inR p 0 5
  · simp
  · cases h2 : inR f 0 5
    · simp
    · rcases inR5 h1 with rfl | rfl | rfl | rfl | rfl | rfl <;> rcases inR5 h2 with rfl | rfl | rfl | rfl | rfl | rfl <;> rfl

theorem k_orDir (m : Nat) (n : Int) : Call (m + 2) 118 [I n] = some [B (inR n 0 5)] := by
  apply c118
  simp [s118, k_l1In]

theorem k_orOpposite (m : Nat) (n : Int) (h : inR n 0 5 = true) : Call (m + 1) 119 [I n] = some [I (oppDir n)] := by
  apply c119
  rcases inR5 h with rfl | rfl | rfl | rfl | rfl | rfl <;> rfl

theorem k_orGood (m : Nat) (o : Orient) : Call (m + 3) 74 [.agg o.cells] = some [B (goodOrient o)] := by
  apply c74
  obtain ⟨p, f⟩ := o
  simp [s74, k_orDir, goodOrient]
  cases h1 : inR p 0 5
  · simp
  · cases h2 : inR f 0 5
    · simp
    · simp [k_orOpposite _ _ h2]
      cases p != f <;> simp

def dirL : List UInt8 := [117, 100, 108, 114, 102, 98]
def dirLetter (n : Int) : UInt8 := dirL.getD n.toNat 0
def orientText (o : Orient) : List UInt8 := [dirLetter o.p, dirLetter o.f]

theorem good_dirs {o : Orient} (h : goodOrient o = true) : inR o.p 0 5 = true ∧ inR o.f 0 5 = true := by
  simp only [goodOrient, Bool.and_eq_true] at h
  exact ⟨h.1, h.2.1⟩

theorem k_orientText (m : Nat) (o : Orient) (h : goodOrient o = true) : Call (m + 1) 113 [.agg o.cells] = some [Sg (bs (orientText o))] := by
  apply c113
  obtain ⟨h1, h2⟩ := good_dirs h
  obtain ⟨p, f⟩ := o
  rcases inR5 h1 with rfl | rfl | rfl | rfl | rfl | rfl <;> rcases inR5 h2 with rfl | rfl | rfl | rfl | rfl | rfl <;> rfl

theorem k_orText (m : Nat) (o : Orient) (h : goodOrient o = true) : Call (m + 1) 97 [.agg o.cells] = some [Sg (bs (orientText o))] := by
  apply c97
  obtain ⟨h1, h2⟩ := good_dirs h
  obtain ⟨p, f⟩ := o
  rcases inR5 h1 with rfl | rfl | rfl | rfl | rfl | rfl <;> rcases inR5 h2 with rfl | rfl | rfl | rfl | rfl | rfl <;> rfl

theorem k_IndexByte (m : Nat) (l : List UInt8) (c : UInt8) : Call (m + 1) 68 [Sg (bs l), .v (.int .u8 c.toNat)] = some [I (Lib.indexByte l c)] := by
  refine call_ext (e := xIndexByte) (by kernel_rfl) ?_
  simp [xIndexByte]

/-- The direction of a letter, or -1. -/
def letterIx (b : UInt8) : Int := Lib.indexByte dirL b

theorem byte_eq (a b : UInt8) : (((a.toNat : Int)) == (b.toNat : Int)) = (a == b) := by
  rw [Bool.eq_iff_iff]
  simp
  exact ⟨fun h => UInt8.toNat_inj.1 (by omega), fun h => by rw [h]⟩

theorem k_orLetter (m : Nat) (b : UInt8) : Call (m + 1) 73 [.v (.int .u8 b.toNat)] = some [I (letterIx b)] := by
  apply c73
  simp [s73]
  refine iterK_unroll fun k => ?_
  have e0 := byte_eq 117 b; have e1 := byte_eq 100 b; have e2 := byte_eq 108 b; have e3 := byte_eq 114 b; have e4 := byte_eq 102 b; have e5 := byte_eq 98 b
  simp at e0 e1 e2 e3 e4 e5
  repeat (rw [iterK_succ]; simp [strAt, wr_eq, e0, e1, e2, e3, e4, e5])
  by_cases h0 : (117 : UInt8) = b
  · subst h0; rfl
  by_cases h1 : (100 : UInt8) = b
  · subst h1; rfl
  by_cases h2 : (108 : UInt8) = b
  · subst h2; rfl
  by_cases h3 : (114 : UInt8) = b
  · subst h3; rfl
  by_cases h4 : (102 : UInt8) = b
  · subst h4; rfl
  by_cases h5 : (98 : UInt8) = b
  · subst h5; rfl
  have f0 : ((117 : UInt8) == b) = false := by simpa using h0
  have f1 : ((100 : UInt8) == b) = false := by simpa using h1
  have f2 : ((108 : UInt8) == b) = false := by simpa using h2
  have f3 : ((114 : UInt8) == b) = false := by simpa using h3
  have f4 : ((102 : UInt8) == b) = false := by simpa using h4
  have f5 : ((98 : UInt8) == b) = false := by simpa using h5
  simp [letterIx, dirL, Lib.indexByte, h0, h1, h2, h3, h4, h5, f0, f1, f2, f3, f4, f5]

/-- The orientation with a text. -/
def parseOrient (s : List UInt8) : Option Orient :=
  match s with
  | [a, b] => bif goodOrient ⟨letterIx a, letterIx b⟩ then some ⟨letterIx a, letterIx b⟩ else none
  | _ => none
def okOrient (o : Option Orient) : List PV := [.agg (o.getD .zero).cells, B o.isSome]

theorem two_cases (s : List UInt8) : (∃ a b, s = [a, b]) ∨ (s.length ≠ 2 ∧ parseOrient s = none) := by
  match s with
  | [] => exact .inr ⟨by decide, rfl⟩
  | [_] => exact .inr ⟨by simp, rfl⟩
  | [a, b] => exact .inl ⟨a, b, rfl⟩
  | _ :: _ :: _ :: r => exact .inr ⟨by simp, rfl⟩

theorem k_ParseOrient (m : Nat) (s : List UInt8) : Call (m + 3) 45 [Sg (bs s)] = some (okOrient (parseOrient s)) := by
  apply c45
  rcases two_cases s with ⟨a, b, rfl⟩ | ⟨h, hp⟩
  · have ha := fun m => k_IndexByte m dirL a
    have hb := fun m => k_IndexByte m dirL b
    rw [dirL] at ha hb
    simp [s45, strAt, ha, hb, k_IsOrient, parseOrient, letterIx, dirL]
    cases goodOrient _ <;> simp [okOrient]
  · have h2 : (((s.length : Nat) : Int) != 2) = true := by simp only [bne_iff_ne, ne_eq]; omega
    simp [s45, h2, hp, okOrient]

theorem k_orParse (m : Nat) (s : List UInt8) : Call (m + 4) 38 [Sg (bs s)] = some (okOrient (parseOrient s)) := by
  apply c38
  rcases two_cases s with ⟨a, b, rfl⟩ | ⟨h, hp⟩
  · simp [s38, strAt, k_orLetter, k_orGood, parseOrient]
    cases goodOrient _ <;> simp [okOrient]
  · have h2 : (((s.length : Nat) : Int) != 2) = true := by simp only [bne_iff_ne, ne_eq]; omega
    simp [s38, h2, hp, okOrient]

/-- Left and right exchanged. -/
def swapDir (n : Int) : Int := bif n == 2 then 3 else bif n == 3 then 2 else n
def mirO (o : Orient) : Orient := ⟨swapDir o.p, swapDir o.f⟩

theorem k_orSwap (m : Nat) (n : Int) : Call (m + 2) 123 [I n] = some [I (swapDir n)] := by
  apply c123
  simp [s123, swapDir]
  by_cases h2 : n = 2
  · subst h2; simp [k_orOpposite, inR, oppDir]
  · by_cases h3 : n = 3
    · subst h3; simp [k_orOpposite, inR, oppDir]
    · have e2 : (n == 2) = false := by simpa using h2
      have e3 : (n == 3) = false := by simpa using h3
      simp [e2, e3]

theorem k_orMirror (m : Nat) (o : Orient) : Call (m + 3) 81 [.agg o.cells] = some [.agg (mirO o).cells] := by
  apply c81
  simp [s81, k_orSwap, mirO]

theorem k_oMirrored1 (m : Nat) (n : Int) : Call (m + 1) 141 [I n] = some [I (swapDir n)] := by
  apply c141
  by_cases h2 : n = 2
  · subst h2; rfl
  · by_cases h3 : n = 3
    · subst h3; rfl
    · have e2 : (n == 2) = false := by simpa using h2
      have e3 : (n == 3) = false := by simpa using h3
      simp [s141, swapDir, e2, e3]

theorem k_oMirrored (m : Nat) (o : Orient) : Call (m + 3) 110 [.agg o.cells] = some [.agg (mirO o).cells] := by
  apply c110
  have h : ∀ n, applyPV (callN (Bk.env FU0) (m + 2)) Bk.S (.fn 141 [] []) [I n] = some (I (swapDir n)) := fun n =>
    applyPV_of (S := Bk.S) (sg := i141.sg) (by kernel_rfl) (by kernel_rfl) (k_oMirrored1 (m + 1) n)
  simp [s110, h, mirO]
end Go.Proofs.YtajjinfjfiacbaaGreatDoor
end

section
/- Places. -/
set_option linter.unusedSimpArgs false
set_option linter.unusedVariables false
namespace Go.Proofs.YtajjinfjfiacbaaGreatDoor
open Go Go.Evp

@[simp] theorem eqPlaceT : Bk.EQ 27 = some [.int .i64, .int .i64, .bool] := by kernel_rfl

def goodPlace (p : Plc) : Bool := inR p.r 0 9 && (inR p.s (-1) 1 && (!p.c || p.r != 0))

theorem k_IsPlace (m : Nat) (p : Plc) : Call (m + 2) 95 [.agg p.cells] = some [B (goodPlace p)] := by
  apply c95
  simp [s95, k_within, goodPlace]
  cases inR p.r 0 9 <;> simp
  cases inR p.s (-1) 1 <;> simp
  cases p.c <;> simp [bne]

theorem k_plGood (m : Nat) (p : Plc) : Call (m + 2) 78 [.agg p.cells] = some [B (goodPlace p)] := by
  apply c78
  simp [s78, k_l1In, goodPlace]
  cases h : inR p.r 0 9 <;> simp
  cases inR p.s (-1) 1 <;> simp
  rw [inR_iff] at h
  by_cases h0 : 0 < p.r
  · have : p.r ≠ 0 := by omega
    simp [h0, this]
  · have : p.r = 0 := by omega
    simp [h0, this]

def allPlaces : List Plc := (List.range 60).filterMap fun (n : Nat) => bif goodPlace ⟨(n / 6 : Nat), ((n % 6 / 2 : Nat) : Int) - 1, n % 2 == 1⟩ then some ⟨(n / 6 : Nat), ((n % 6 / 2 : Nat) : Int) - 1, n % 2 == 1⟩ else none

theorem k_plAll (m : Nat) : Call (m + 3) 120 [] = some [.sl 3 (allPlaces.map fun p => .agg p.cells)] := by
  apply c120
  obtain ⟨k, hk⟩ := FU0_add
  rw [hk]
  kernel_rfl

def placeNames : List (List UInt8) := [[115, 112, 97, 99, 101], [104, 101, 97, 100], [101, 121, 101], [99, 104, 101, 101, 107], [109, 111, 117, 116, 104], [99, 104, 105, 110], [110, 101, 99, 107], [99, 104, 101, 115, 116], [119, 97, 105, 115, 116], [104, 105, 112]]
def placeText (p : Plc) : List UInt8 := placeNames.getD p.r.toNat [] ++ ((bif p.s == -1 then [60] else bif p.s == 1 then [62] else []) ++ (bif p.c then [42] else []))

theorem placeCases {p : Plc} (h : goodPlace p = true) : (p.r = 0 ∨ p.r = 1 ∨ p.r = 2 ∨ p.r = 3 ∨ p.r = 4 ∨ p.r = 5 ∨ p.r = 6 ∨ p.r = 7 ∨ p.r = 8 ∨ p.r = 9) ∧ (p.s = -1 ∨ p.s = 0 ∨ p.s = 1) := by
  simp only [goodPlace, Bool.and_eq_true, inR_iff] at h
  omega

theorem k_placeText (m : Nat) (p : Plc) (h : goodPlace p = true) : Call (m + 1) 91 [.agg p.cells] = some [Sg (bs (placeText p))] := by
  apply c91
  obtain ⟨h1, h2⟩ := placeCases h
  obtain ⟨r, s, c⟩ := p
  simp only at h1 h2
  rcases h1 with rfl | rfl | rfl | rfl | rfl | rfl | rfl | rfl | rfl | rfl <;> rcases h2 with rfl | rfl | rfl <;> cases c <;> rfl

theorem k_plNames (m : Nat) : Call (m + 1) 134 [] = some [.sl 1 (texts placeNames)] := by
  apply c134
  rfl

theorem k_plText (m : Nat) (p : Plc) (h : goodPlace p = true) : Call (m + 2) 98 [.agg p.cells] = some [Sg (bs (placeText p))] := by
  apply c98
  obtain ⟨h1, h2⟩ := placeCases h
  obtain ⟨r, s, c⟩ := p
  simp only at h1 h2
  simp only [s98, popA_cons, popN_nil, k_plNames, optC_v, popLz_cons]
  rcases h1 with rfl | rfl | rfl | rfl | rfl | rfl | rfl | rfl | rfl | rfl <;> rcases h2 with rfl | rfl | rfl <;> cases c <;> rfl

def placeOfCode (n : Int) : Option Plc := bif inR n 0 59 && goodPlace ⟨n / 6, n % 6 / 2 - 1, n % 2 == 1⟩ then some ⟨n / 6, n % 6 / 2 - 1, n % 2 == 1⟩ else none
def okPlace (o : Option Plc) : List PV := [.agg (o.getD .zero).cells, B o.isSome]

theorem quo_pos {a b : Int} (ha : 0 ≤ a) (hb : 0 < b) (hm : a < 9223372036854775808) : binPV none false .quo (I a) (I b) = some (I (a / b)) := by
  have h0 : (b == 0) = false := by simp only [beq_eq_false_iff_ne, ne_eq]; omega
  have h1 : a / b ≤ a := Int.ediv_le_self b ha
  have h2 : 0 ≤ a / b := Int.ediv_nonneg ha (by omega)
  have h3 : IntKind.wrap .i64 (a / b) = a / b := wr_of (by omega) (by omega)
  simp [binPV, intBin, isShift, h0, Int.tdiv_eq_ediv_of_nonneg ha, h3]
theorem rem_pos {a b : Int} (ha : 0 ≤ a) (hb : 0 < b) (hm : a < 9223372036854775808) : binPV none false .rem (I a) (I b) = some (I (a % b)) := by
  have h0 : (b == 0) = false := by simp only [beq_eq_false_iff_ne, ne_eq]; omega
  simp [binPV, intBin, isShift, h0, Int.tmod_eq_emod_of_nonneg ha]

theorem k_PlaceOfCode (m : Nat) (n : Int) : Call (m + 3) 90 [I n] = some (okPlace (placeOfCode n)) := by
  apply c90
  rw [placeOfCode]
  cases h : inR n 0 59
  · simp [s90, k_within, h, okPlace]
  · have h2 := inR_iff.1 h
    have e1 := quo_pos (a := n) (b := 6) (by omega) (by omega) (by omega)
    have e2 := rem_pos (a := n) (b := 6) (by omega) (by omega) (by omega)
    have e3 := quo_pos (a := n % 6) (b := 2) (by omega) (by omega) (by omega)
    have e4 := rem_pos (a := n) (b := 2) (by omega) (by omega) (by omega)
    have e5 : wr (n % 6 / 2 - 1) = n % 6 / 2 - 1 := wr_eq (by omega) (by omega)
    simp [s90, k_within, h, e1, e2, e3, e4, e5, k_IsPlace]
    cases goodPlace _ <;> simp [okPlace]

/-- The place with a text. -/
def parsePlace (s : List UInt8) : Option Plc := allPlaces.find? fun p => placeText p == s

theorem allPlaces_good : ∀ p ∈ allPlaces, goodPlace p = true := by decide

theorem k_plParse (m : Nat) (s : List UInt8) : Call (m + 4) 76 [Sg (bs s)] = some (okPlace (parsePlace s)) := by
  apply c76
  simp [s76, k_plAll]
  refine iterK_list allPlaces (fun i => [Sg (bs s), .agg Plc.zero.cells, .sl 3 (allPlaces.map fun p => .agg p.cells), I allPlaces.length, I i]) (fun _ l => some (okPlace (l.find? fun p => placeText p == s))) (by decide) rfl rfl (fun i x rest rec h hx hw hr => ?_) (fun rec => ?_)
  · have hg : goodPlace x = true := allPlaces_good x (by rw [← hx]; exact List.getElem_mem h)
    push_cast at hr
    simp [h, hx, hw, eltA, k_plText _ _ hg]
    cases hs : placeText x == s
    · simp [List.find?, hs, hr]
    · simp [List.find?, hs, okPlace]
  · simp [okPlace]

theorem find_filterMap {α β : Type} (f : α → Option β) (p : β → Bool) : ∀ l : List α, (l.filterMap f).find? p = l.findSome? fun a => match f a with | some b => bif p b then some b else none | none => none
  | [] => rfl
  | a :: l => by
    rw [List.findSome?_cons, ← find_filterMap f p l]
    cases h : f a with
    | none => rw [List.filterMap_cons_none h]
    | some b =>
      rw [List.filterMap_cons_some h, List.find?_cons]
      simp only [h]
      rcases Bool.eq_false_or_eq_true (p b) with hb | hb
      · simp only [hb, cond_true]
      · simp only [hb, cond_false]

/-- The place of a code, if it has this text. -/
def atCode (s : List UInt8) (n : Nat) : Option Plc := match placeOfCode n with | some p => bif placeText p == s then some p else none | none => none

theorem parsePlace_eq (s : List UInt8) : parsePlace s = (List.range 60).findSome? (atCode s) := by
  have h : allPlaces = (List.range 60).filterMap fun (n : Nat) => placeOfCode n := by decide
  rw [parsePlace, h, find_filterMap]
  rfl

theorem placeOfCode_good {n : Int} {p : Plc} (hp : placeOfCode n = some p) : goodPlace p = true := by
  rw [placeOfCode] at hp
  cases hc : inR n 0 59 && goodPlace ⟨n / 6, n % 6 / 2 - 1, n % 2 == 1⟩ with
  | false => rw [hc] at hp; cases hp
  | true =>
    rw [hc] at hp
    cases hp
    simp only [Bool.and_eq_true] at hc
    exact hc.2

theorem k_ParsePlace (m : Nat) (s : List UInt8) : Call (m + 4) 46 [Sg (bs s)] = some (okPlace (parsePlace s)) := by
  apply c46
  simp [s46]
  rw [parsePlace_eq]
  refine iterK_list (List.range 60) (fun i => [Sg (bs s), .agg Plc.zero.cells, I i]) (fun _ l => some (okPlace (l.findSome? (atCode s)))) (by decide) rfl rfl (fun i x rest rec h hx hw hr => ?_) (fun rec => ?_)
  · have h60 : i < 60 := by simpa using h
    have hxi : x = i := by simpa using hx.symm
    subst hxi
    push_cast at hr
    have h61 : (x : Int) < 60 := by omega
    rw [List.findSome?_cons]
    simp [h61, hw, k_PlaceOfCode]
    cases hp : placeOfCode x with
    | none =>
      have : atCode s x = none := by simp [atCode, hp]
      simp [okPlace, hr, this]
    | some p =>
      rcases Bool.eq_false_or_eq_true (placeText p == s) with hs | hs
      · have : atCode s x = some p := by simp [atCode, hp, hs]
        simp [this, okPlace, k_placeText _ _ (placeOfCode_good hp), hs]
      · have : atCode s x = none := by simp [atCode, hp, hs]
        simp [this, okPlace, k_placeText _ _ (placeOfCode_good hp), hs, hr]
  · simp [okPlace]
end Go.Proofs.YtajjinfjfiacbaaGreatDoor
end

section
/- Texts that are cut and joined. -/
set_option linter.unusedSimpArgs false
set_option linter.unusedVariables false
namespace Go.Proofs.YtajjinfjfiacbaaGreatDoor
open Go Go.Evp

/-- A loop over a list that carries a state. -/
theorem iterK_listS {α β : Type} {F : (List PV → R) → List PV → R} (xs : List α) (enc : Nat → β → List PV) (g : Nat → β → List α → R) (inv : Nat → β → List α → Prop) (hn : xs.length < 9223372036854775807) {vs : List PV} {r : R} (b0 : β)
    (hv : vs = enc 0 b0) (hr : r = g 0 b0 xs) (h0 : inv 0 b0 xs)
    (step : ∀ i b x rest rec, (h : i < xs.length) → xs[i] = x → wr ((i : Int) + 1) = (i : Int) + 1 → inv i b (x :: rest) → (∀ c, inv (i + 1) c rest → rec (enc (i + 1) c) = g (i + 1) c rest) → F rec (enc i b) = g i b (x :: rest))
    (stop : ∀ b rec, inv xs.length b [] → F rec (enc xs.length b) = g xs.length b []) : iterK FU0 F vs = r := by
  rw [hv, hr]
  have key : ∀ k i b rest, rest = xs.drop i → i + k = xs.length → inv i b rest → ∀ n, k < n → iterK n F (enc i b) = g i b rest := by
    intro k
    induction k with
    | zero =>
      intro i b rest hrest hi hinv n hn2
      obtain ⟨n, rfl⟩ : ∃ n', n = n' + 1 := ⟨n - 1, by omega⟩
      have hi2 : i = xs.length := by omega
      subst hi2
      rw [List.drop_length] at hrest
      subst hrest
      exact stop b _ hinv
    | succ k ih =>
      intro i b rest hrest hi hinv n hn2
      obtain ⟨n, rfl⟩ : ∃ n', n = n' + 1 := ⟨n - 1, by omega⟩
      have hlt : i < xs.length := by omega
      rw [List.drop_eq_getElem_cons hlt] at hrest
      subst hrest
      refine step i b xs[i] _ _ hlt rfl (by rw [wr, wr_of (by omega) (by omega)]) hinv (fun c hc => ?_)
      exact ih (i + 1) c _ rfl (by omega) hc n (by omega)
  exact key xs.length 0 b0 xs rfl (by omega) h0 FU0 (Nat.lt_of_lt_of_le (by omega) FU0_le)

@[simp] theorem extract_bs (l : List UInt8) (i j : Nat) : ByteArray.extract (bs l) i j = bs ((l.take j).drop i) := by
  apply ByteArray.ext
  simp [List.extract_eq_take_drop, List.drop_take]

/-- A text cut at its first byte c. -/
def cutL (c : UInt8) : List UInt8 → List UInt8 × List UInt8 × Bool
  | [] => ([], [], false)
  | b :: l => bif b == c then ([], l, true) else (b :: (cutL c l).1, (cutL c l).2.1, (cutL c l).2.2)

theorem indexByte_cut (c : UInt8) : ∀ l : List UInt8, (Lib.indexByte l c = -1 ∧ cutL c l = (l, [], false)) ∨ ∃ i : Nat, i < l.length ∧ Lib.indexByte l c = i ∧ cutL c l = (l.take i, l.drop (i + 1), true)
  | [] => .inl ⟨rfl, rfl⟩
  | b :: l => by
    rcases Bool.eq_false_or_eq_true (b == c) with h | h
    · exact .inr ⟨0, by simp, by simp [Lib.indexByte, h], by simp [cutL, h]⟩
    · rcases indexByte_cut c l with ⟨h1, h2⟩ | ⟨i, h0, h1, h2⟩
      · exact .inl ⟨by simp [Lib.indexByte, h, h1], by simp [cutL, h, h2]⟩
      · refine .inr ⟨i + 1, by simp; omega, ?_, by simp [cutL, h, h2]⟩
        have : ((i : Int) == -1) = false := by simp only [beq_eq_false_iff_ne, ne_eq]; omega
        simp [Lib.indexByte, h, h1, this]

theorem k_Index (m : Nat) (l : List UInt8) (c : UInt8) : Call (m + 1) 100 [Sg (bs l), Sg (bs [c])] = some [I (Lib.indexByte l c)] := by
  refine call_ext (e := xIndex) (by kernel_rfl) ?_
  simp [xIndex]

theorem k_sCut (m : Nat) (l : List UInt8) (c : UInt8) (hl : l.length < 4294967281) : Call (m + 2) 58 [Sg (bs l), Sg (bs [c])] = some [Sg (bs (cutL c l).1), Sg (bs (cutL c l).2.1), B (cutL c l).2.2] := by
  apply c58
  simp [s58, k_Index]
  rcases indexByte_cut c l with ⟨h1, h2⟩ | ⟨i, h0, h1, h2⟩
  · simp [h1, h2]
  · have e : wr ((i : Int) + 1) = ((i + 1 : Nat) : Int) := by rw [wr_eq (by omega) (by omega)]; rfl
    have e2 : decide (0 ≤ (i : Int)) = true := by simp
    simp only [h1, h2, e, e2, cond_true']
    have w1 : within 0 i l.length = true := by simp [within]; omega
    have w2 : within ((i : Int) + 1) l.length l.length = true := by simp [within]; omega
    simp [w1, w2]

theorem k_Cut (m : Nat) (l : List UInt8) (c : UInt8) (hl : l.length < 4294967281) : Call (m + 3) 27 [Sg (bs l), Sg (bs [c])] = some [Sg (bs (cutL c l).1), Sg (bs (cutL c l).2.1), B (cutL c l).2.2] := by
  apply c27
  simp [s27, k_sCut _ _ _ hl]

theorem splitL_ne (c : UInt8) : ∀ l, splitL c l ≠ []
  | [] => by simp [splitL]
  | b :: l => by
    rw [splitL]
    cases b == c
    · simp only [cond_false]
      split <;> simp
    · simp

/-- A piece put ahead of the first one. -/
def ahead (cur : List UInt8) : List (List UInt8) → List (List UInt8)
  | [] => [cur]
  | x :: r => (cur ++ x) :: r

theorem split_step (c b : UInt8) (l cur : List UInt8) : ahead cur (splitL c (b :: l)) = bif b == c then cur :: splitL c l else ahead (cur ++ [b]) (splitL c l) := by
  rw [splitL]
  cases b == c
  · simp only [cond_false]
    split
    · rename_i h; exact absurd h (splitL_ne c l)
    · rename_i h; simp [ahead, h]
  · simp [ahead]

theorem texts_flat (l : List (List UInt8)) : List.all (texts l) PV.flat = true := by simp [texts, PV.flat]
theorem texts_append (a b : List (List UInt8)) : texts a ++ texts b = texts (a ++ b) := by simp [texts]
theorem texts_len (l : List (List UInt8)) : (texts l).length = l.length := by simp [texts]

theorem k_l1Split (m : Nat) (l : List UInt8) (c : UInt8) (hl : l.length < 4294967281) : Call (m + 1) 24 [Sg (bs l), .v (.int .u8 c.toNat)] = some [.sl 1 (texts (splitL c l))] := by
  apply c24
  simp only [s24, popS_cons, popI_cons, popN_nil]
  refine iterK_listS (β := List (List UInt8) × List UInt8) l (fun i b => [Sg (bs l), .v (.int .u8 c.toNat), .sl 1 (texts b.1), I ((i : Int) - b.2.length), I i])
    (fun i b rest => some [.sl 1 (texts (b.1 ++ ahead b.2 (splitL c rest)))]) (fun i b rest => b.2.length ≤ i ∧ b.1.length ≤ i ∧ (l.take i).drop (i - b.2.length) = b.2) (by omega) ([], []) (by simp [texts]) ?_ (by simp) (fun i b x rest rec h hx hw hi hr => ?_) (fun b rec hi => ?_)
  · have := splitL_ne c l
    cases hs : splitL c l with
    | nil => exact absurd hs this
    | cons x r => simp [ahead]
  · obtain ⟨acc, cur⟩ := b
    obtain ⟨i1, i2, i3⟩ := hi
    simp only at i1 i2 i3
    have hlt : decide ((i : Int) < (l.length : Int)) = true := by simp; omega
    have hb := byte_eq x c
    have hst : strAt (bs l) i = some (.v (.int .u8 x.toNat)) := by rw [strAt_nat l i h, hx]
    simp only [popS_cons, popI_cons, popLz_cons, popN_nil, bs_size, hlt, cond_true', hst, optI_v, hb, hw]
    have htn : ((i : Int) - cur.length).toNat = i - cur.length := by omega
    rcases Bool.eq_false_or_eq_true (x == c) with hc | hc
    · have w1 : within ((i : Int) - cur.length) i l.length = true := by simp [within]; omega
      have := hr (acc ++ [cur], []) ⟨by simp, by simp; omega, by simp⟩
      have hz := splitL_ne c rest
      simp at this
      have hroom : (acc.length + 1) * 16 ≤ 70368744177664 := by omega
      simp [hc, w1, htn, i3, split_step, texts_len, hroom]
      rw [show [Sg (bs cur)] = texts [cur] from rfl, texts_append, this]
      cases hs : splitL c rest with
      | nil => exact absurd hs hz
      | cons y r => simp [ahead]
    · have := hr (acc, cur ++ [x]) ⟨by simp; omega, by simp; omega, by
        simp only [List.length_append, List.length_singleton]
        rw [List.take_succ_eq_append_getElem h, hx, show i + 1 - (cur.length + 1) = i - cur.length by omega, List.drop_append_of_le_length (by simp; omega), i3]⟩
      simp at this
      simp [hc, split_step]
      rw [← this]
      congr 3
      simp
      omega
  · obtain ⟨acc, cur⟩ := b
    obtain ⟨i1, i2, i3⟩ := hi
    simp only at i1 i2 i3
    have htn : ((l.length : Int) - cur.length).toNat = l.length - cur.length := by omega
    have w1 : within ((l.length : Int) - cur.length) l.length l.length = true := by simp [within]; omega
    have hroom : (acc.length + 1) * 16 ≤ 70368744177664 := by omega
    simp [w1, htn, texts_len, hroom]
    rw [List.take_length] at i3
    rw [i3, show [Sg (bs cur)] = texts [cur] from rfl, texts_append]
    simp [splitL, ahead, texts_flat, PV.flat]

theorem k_Split (m : Nat) (l : List UInt8) (c : UInt8) (hl : l.length < 4294967281) : Call (m + 1) 28 [Sg (bs l), Sg (bs [c])] = some [.sl 1 (texts (splitL c l))] := by
  refine call_ext (e := xSplit) (by kernel_rfl) ?_
  have : l.length.ble 4294967280 = true := Nat.ble_eq_true_of_le (by omega)
  simp [xSplit, this]

theorem k_Count (m : Nat) (l : List UInt8) (c : UInt8) : Call (m + 1) 63 [Sg (bs l), Sg (bs [c])] = some [I (l.count c : Nat)] := by
  refine call_ext (e := xCount) (by kernel_rfl) ?_
  simp [xCount, Lib.countByte]

theorem asTexts_texts : ∀ l : List (List UInt8), asTexts (texts l) = some l
  | [] => rfl
  | x :: l => by
    have := asTexts_texts l
    simp only [texts] at this
    simp [texts, asTexts, this]

theorem k_Join (m : Nat) (l : List (List UInt8)) (sep : List UInt8) (h1 : l.length ≤ 140737488355328) (h2 : (Lib.join l sep).length ≤ 140737488355328) :
    Call (m + 1) 29 [.sl 1 (texts l), Sg (bs sep)] = some [Sg (bs (Lib.join l sep))] := by
  refine call_ext (e := xJoin) (by kernel_rfl) ?_
  have e1 := Nat.ble_eq_true_of_le h1
  have e2 := Nat.ble_eq_true_of_le h2
  simp [xJoin, asTexts_texts, e1, e2]

theorem k_Repeat (m : Nat) (l : List UInt8) (n : Int) (h0 : 0 ≤ n) (h1 : n ≤ 1000000) (h2 : l.length ≤ 1000000) : Call (m + 1) 142 [Sg (bs l), I n] = some [Sg (bs (Lib.repeatL l n.toNat))] := by
  refine call_ext (e := xRepeat) (by kernel_rfl) ?_
  have h3 : l.length * n.toNat ≤ 1000000 * 1000000 := Nat.mul_le_mul h2 (by omega)
  have e1 : (l.length * n.toNat).ble 140737488355328 = true := Nat.ble_eq_true_of_le (by omega)
  have e2 : (decide (0 ≤ n) && decide (n ≤ 9223372036854775807)) = true := by simp; omega
  simp only [xRepeat, bs_size, bs_dl, e1, e2, Bool.and_self, cond_true']
end Go.Proofs.YtajjinfjfiacbaaGreatDoor
end

section
/- Movements. -/
set_option linter.unusedSimpArgs false
set_option linter.unusedVariables false
namespace Go.Proofs.YtajjinfjfiacbaaGreatDoor
open Go Go.Evp

@[simp] theorem eqMovT : Bk.EQ 29 = some [.str, .int .i64] := by kernel_rfl

theorem k_hasOnly (m : Nat) (s l : List UInt8) (hs : s.length < 9223372036854775807) : Call (m + 2) 132 [Sg (bs s), Sg (bs l)] = some [B (s.all fun b => decide (0 ≤ Lib.indexByte l b))] := by
  apply c132
  simp only [s132, popS_cons, popN_nil]
  refine iterK_list s (fun i => [Sg (bs s), Sg (bs l), I s.length, I i]) (fun _ r => some [B (r.all fun b => decide (0 ≤ Lib.indexByte l b))]) hs (by simp) rfl (fun i x rest rec h hx hw hr => ?_) (fun rec => ?_)
  · have hst : strAt (bs s) i = some (.v (.int .u8 x.toNat)) := by rw [strAt_nat s i h, hx]
    push_cast at hr
    simp [h, hst, k_IndexByte, hw]
    by_cases h0 : Lib.indexByte l x < 0
    · have h1 : ¬ 0 ≤ Lib.indexByte l x := by omega
      simp [h0, h1]
    · have h1 : 0 ≤ Lib.indexByte l x := by omega
      simp [h0, h1, hr]
  · simp

theorem k_mvLetters (m : Nat) : Call (m + 1) 159 [] = some [Sg (bs [117, 100, 108, 114, 102, 98])] := by
  apply c159
  rfl

theorem k_mvIndex (m : Nat) (b : UInt8) : Call (m + 2) 146 [.v (.int .u8 b.toNat)] = some [I (letterIx b)] := by
  apply c146
  simp [s146]
  refine iterK_unroll fun k => ?_
  have e0 := byte_eq 117 b; have e1 := byte_eq 100 b; have e2 := byte_eq 108 b; have e3 := byte_eq 114 b; have e4 := byte_eq 102 b; have e5 := byte_eq 98 b
  simp at e0 e1 e2 e3 e4 e5
  repeat (rw [iterK_succ]; simp [strAt, wr_eq, e0, e1, e2, e3, e4, e5, k_mvLetters])
  by_cases h0 : (117 : UInt8) = b
  · subst h0; rfl
  by_cases h1 : (100 : UInt8) = b
  · subst h1; rfl
  by_cases h2 : (108 : UInt8) = b
  · subst h2; rfl
  by_cases h3 : (114 : UInt8) = b
  · subst h3; rfl
  by_cases h4 : (102 : UInt8) = b
  · subst h4; rfl
  by_cases h5 : (98 : UInt8) = b
  · subst h5; rfl
  have f0 : ((117 : UInt8) == b) = false := by simpa using h0
  have f1 : ((100 : UInt8) == b) = false := by simpa using h1
  have f2 : ((108 : UInt8) == b) = false := by simpa using h2
  have f3 : ((114 : UInt8) == b) = false := by simpa using h3
  have f4 : ((102 : UInt8) == b) = false := by simpa using h4
  have f5 : ((98 : UInt8) == b) = false := by simpa using h5
  simp [letterIx, dirL, Lib.indexByte, h0, h1, h2, h3, h4, h5, f0, f1, f2, f3, f4, f5]

def dirOnly (s : List UInt8) : Bool := s.all fun b => decide (0 ≤ letterIx b)
def goodMov (x : Mov) : Bool := decide (x.st.length ≤ 6) && (dirOnly x.st && (inR x.n 1 3 && (!x.st.isEmpty || x.n == 1)))

theorem k_mvSteps (m : Nat) (s : List UInt8) (hs : s.length < 9223372036854775807) : Call (m + 3) 122 [Sg (bs s)] = some [B (dirOnly s)] := by
  apply c122
  simp only [s122, popS_cons, popN_nil]
  refine iterK_list s (fun i => [Sg (bs s), I i]) (fun _ r => some [B (dirOnly r)]) hs (by simp) rfl (fun i x rest rec h hx hw hr => ?_) (fun rec => ?_)
  · have hst : strAt (bs s) i = some (.v (.int .u8 x.toNat)) := by rw [strAt_nat s i h, hx]
    push_cast at hr
    simp [h, hst, k_mvIndex, hw]
    by_cases h0 : letterIx x < 0
    · have h1 : ¬ 0 ≤ letterIx x := by omega
      simp [h0, h1, dirOnly]
    · have h1 : 0 ≤ letterIx x := by omega
      simp [h0, h1, hr, dirOnly]
  · simp [dirOnly]

theorem k_hasDirs (m : Nat) (s : List UInt8) (hs : s.length < 9223372036854775807) : Call (m + 2) 132 [Sg (bs s), Sg (bs [117, 100, 108, 114, 102, 98])] = some [B (dirOnly s)] :=
  k_hasOnly m s dirL hs

theorem k_IsMove (m : Nat) (x : Mov) (hs : x.st.length < 9223372036854775807) : Call (m + 3) 93 [.agg x.cells] = some [B (goodMov x)] := by
  apply c93
  simp [s93, goodMov, k_hasDirs _ _ hs, k_within]
  by_cases h6 : x.st.length ≤ 6
  · have h7 : decide ((x.st.length : Int) ≤ 6) = true := by simp; omega
    simp [h6, h7]
    cases dirOnly x.st <;> simp
    cases inR x.n 1 3 <;> simp
    cases x.st.isEmpty <;> simp
  · have h7 : decide ((x.st.length : Int) ≤ 6) = false := by simp; omega
    simp [h6, h7]

theorem k_mvGood (m : Nat) (x : Mov) (hs : x.st.length < 9223372036854775807) : Call (m + 4) 79 [.agg x.cells] = some [B (goodMov x)] := by
  apply c79
  simp [s79, goodMov, k_mvSteps _ _ hs, k_l1In]
  by_cases h6 : x.st.length ≤ 6
  · have h7 : decide ((x.st.length : Int) ≤ 6) = true := by simp; omega
    simp [h6, h7]
    cases dirOnly x.st <;> simp
    cases inR x.n 1 3 <;> simp
    cases x.st.isEmpty <;> simp
  · have h7 : decide ((x.st.length : Int) ≤ 6) = false := by simp; omega
    simp [h6, h7]

def movAll (x : Mov) : List UInt8 := Lib.repeatL x.st x.n.toNat

theorem mov_bounds {x : Mov} (h : goodMov x = true) : x.st.length ≤ 6 ∧ dirOnly x.st = true ∧ (x.n = 1 ∨ x.n = 2 ∨ x.n = 3) ∧ (x.st ≠ [] ∨ x.n = 1) := by
  simp [goodMov, inR_iff] at h
  refine ⟨h.1, h.2.1, by omega, ?_⟩
  exact h.2.2.2

theorem k_all (m : Nat) (x : Mov) (h : goodMov x = true) : Call (m + 2) 111 [.agg x.cells] = some [Sg (bs (movAll x))] := by
  apply c111
  obtain ⟨h1, h2, h3, h4⟩ := mov_bounds h
  simp [s111, k_Repeat _ x.st x.n (by omega) (by omega) (by omega), movAll]

theorem k_mvTimes (m : Nat) (s : List UInt8) (n : Int) (h1 : s.length ≤ 1000) (hn : n = 1 ∨ n = 2 ∨ n = 3) : Call (m + 1) 124 [Sg (bs s), I n] = some [Sg (bs (Lib.repeatL s n.toNat))] := by
  apply c124
  have a1 := binPV_add [] s (by simp; omega)
  have a2 := binPV_add s s (by omega)
  have a3 := binPV_add (s ++ s) s (by simp; omega)
  rw [List.nil_append] at a1
  rcases hn with rfl | rfl | rfl
  all_goals
    simp only [s124, popS_cons, popI_cons, popN_nil]
    refine iterK_unroll fun k => ?_
    repeat (rw [iterK_succ]; simp [wr_eq, a1, a2, a3])
    simp [Lib.repeatL]

theorem k_mvAll (m : Nat) (x : Mov) (h : goodMov x = true) : Call (m + 2) 82 [.agg x.cells] = some [Sg (bs (movAll x))] := by
  apply c82
  obtain ⟨h1, h2, h3, h4⟩ := mov_bounds h
  simp [s82, k_mvTimes _ x.st x.n (by omega) h3, movAll]

def mirM (x : Mov) : Mov := ⟨swapLR x.st, x.n⟩

theorem k_mMirrored (m : Nat) (x : Mov) (hs : x.st.length ≤ 1000) : Call (m + 1) 112 [.agg x.cells] = some [.agg (mirM x).cells] := by
  refine call_ext (e := xMirrored) (by kernel_rfl) ?_
  have e1 : x.st.length.ble 9223372036854775807 = true := Nat.ble_eq_true_of_le (by omega)
  simp [xMirrored, Mov.cells, e1, mirM]

theorem swap_byte (x : UInt8) : UInt8.ofNat (swapN x.toNat) = bif (x.toNat : Int) == 108 then 114 else bif (x.toNat : Int) == 114 then 108 else x := by
  have e1 := byte_eq x 108
  have e2 := byte_eq x 114
  simp at e1 e2
  rw [e1, e2]
  by_cases h1 : x = 108
  · subst h1; rfl
  by_cases h2 : x = 114
  · subst h2; rfl
  have f1 : (x == 108) = false := by simpa using h1
  have f2 : (x == 114) = false := by simpa using h2
  have g1 : x.toNat ≠ 108 := fun h => h1 (UInt8.toNat_inj.1 h)
  have g2 : x.toNat ≠ 114 := fun h => h2 (UInt8.toNat_inj.1 h)
  simp [f1, f2, swapN, g1, g2]

theorem k_mvMirror (m : Nat) (x : Mov) (hs : x.st.length ≤ 1000) : Call (m + 1) 83 [.agg x.cells] = some [.agg (mirM x).cells] := by
  apply c83
  simp only [s83, popA_cons, popN_nil]
  refine iterK_listS (β := List UInt8) x.st (fun i out => [.agg x.cells, .agg Mov.zero.cells, Sg (bs out), I i]) (fun i out rest => some [.agg (Mov.mk (out ++ swapLR rest) x.n).cells]) (fun i out rest => out.length = i) (by omega) [] rfl (by simp [mirM]) rfl
    (fun i out y rest rec h hx hw hi hr => ?_) (fun out rec hi => ?_)
  · have hst : strAt (bs x.st) i = some (.v (.int .u8 y.toNat)) := by rw [strAt_nat x.st i h, hx]
    have a := fun z => binPV_add out [z] (by simp; omega)
    have w1 : within (i : Int) ((i : Int) + 1) x.st.length = true := by simp [within]; omega
    have e1 : ((i : Int) + 1).toNat = i + 1 := by omega
    have e2 : (x.st.take (i + 1)).drop i = [y] := by
      rw [List.take_succ_eq_append_getElem h, hx, List.drop_append_of_le_length (by simp; omega), List.drop_eq_nil_of_le (by rw [List.length_take]; omega)]
      rfl
    have hsw := swap_byte y
    have hr2 := fun z => hr (out ++ [z]) (by simp; omega)
    push_cast at hr2
    have key : swapLR (y :: rest) = UInt8.ofNat (swapN y.toNat) :: swapLR rest := rfl
    simp [h, hst, hw, a, w1, e1, e2]
    rw [key, hsw]
    cases (y.toNat : Int) == 108 <;> simp [hr2]
    cases (y.toNat : Int) == 114 <;> simp [hr2]
  · simp [swapLR]

def movText (x : Mov) : List UInt8 := bif x.st.isEmpty then [45] else bif x.n == 1 then x.st else x.st ++ [42, dig x.n]

theorem k_movText (m : Nat) (x : Mov) (h : goodMov x = true) : Call (m + 2) 94 [.agg x.cells] = some [Sg (bs (movText x))] := by
  apply c94
  obtain ⟨h1, h2, h3, h4⟩ := mov_bounds h
  simp [s94, movText]
  cases x.st.isEmpty <;> simp
  cases x.n == 1 <;> simp
  rw [binPV_add _ _ (by simp; omega)]
  simp [k_Itoa _ x.n (by omega) (by omega)]
  rw [binPV_add _ _ (by simp; omega)]
  simp

theorem k_mvText (m : Nat) (x : Mov) (h : goodMov x = true) : Call (m + 26) 99 [.agg x.cells] = some [Sg (bs (movText x))] := by
  apply c99
  obtain ⟨h1, h2, h3, h4⟩ := mov_bounds h
  simp [s99, movText]
  cases x.st.isEmpty <;> simp
  rcases h3 with h3 | h3 | h3
  · simp [h3]
  all_goals
    simp [h3]
    rw [binPV_add _ _ (by simp; omega)]
    simp [k_l1Num]
    rw [binPV_add _ _ (by simp; omega)]
    simp
end Go.Proofs.YtajjinfjfiacbaaGreatDoor
end

section
/- Movements read back. -/
set_option linter.unusedSimpArgs false
set_option linter.unusedVariables false
namespace Go.Proofs.YtajjinfjfiacbaaGreatDoor
open Go Go.Evp

theorem k_decimal (m : Nat) (s : List UInt8) (hs : s.length < 4294967281) : Call (m + 1) 92 [Sg (bs s)] = some [I (decimalL s).1, B (decimalL s).2] := by
  refine call_ext (e := xDecimal) (by kernel_rfl) ?_
  have e1 : s.length.ble 281474976710656 = true := Nat.ble_eq_true_of_le (by omega)
  simp [xDecimal, e1]

theorem cutL_len (c : UInt8) : ∀ l : List UInt8, (cutL c l).1.length ≤ l.length ∧ (cutL c l).2.1.length ≤ l.length
  | [] => by simp [cutL]
  | b :: l => by
    have := cutL_len c l
    rw [cutL]
    cases b == c <;> simp <;> omega

def movOfI (s : List UInt8) : Mov := ⟨bif s == [45] then [] else (cutL 42 s).1, bif (cutL 42 s).2.2 then (decimalL (cutL 42 s).2.1).1 else 1⟩
/-- The movement with a text. -/
def parseMov (s : List UInt8) : Option Mov := bif goodMov (movOfI s) && movText (movOfI s) == s then some (movOfI s) else none
def okMov (o : Option Mov) : List PV := [.agg (o.getD .zero).cells, B o.isSome]

theorem k_ParseMove (m : Nat) (s : List UInt8) (hs : s.length < 4294967281) : Call (m + 4) 48 [Sg (bs s)] = some (okMov (parseMov s)) := by
  apply c48
  obtain ⟨l1, l2⟩ := cutL_len 42 s
  have key : ∀ x : Mov, x = movOfI s → x.st.length < 9223372036854775807 := by
    rintro x rfl
    simp only [movOfI]
    cases s == [45] <;> simp <;> omega
  have fin : ∀ x : Mov, x = movOfI s → (bif goodMov x then bif movText x == s then some (okMov (some x)) else some (okMov none) else some (okMov none)) = some (okMov (parseMov s)) := by
    rintro x rfl
    rw [parseMov]
    cases goodMov (movOfI s) <;> simp
    cases movText (movOfI s) == s <;> simp
  simp [s48, k_Cut _ _ _ hs]
  have tail : ∀ x : Mov, x = movOfI s → (optC (callN (Bk.env FU0) (m + 3) 93 [.agg x.cells]) fun rs34 => popB rs34 fun b36 r35 => popN r35 (bif b36 then
      optC (callN (Bk.env FU0) (m + 3) 94 [.agg x.cells]) fun rs41 => popS rs41 fun s43 r42 => popN r42 (bif s43.toList == s then some [.agg x.cells, B true] else some [.agg Mov.zero.cells, B false]) else some [.agg Mov.zero.cells, B false])) = some (okMov (parseMov s)) := by
    intro x hx
    rw [← fin x hx]
    simp [k_IsMove _ x (key x hx)]
    cases hg : goodMov x
    · simp [okMov]
    · simp [k_movText _ x hg, okMov]
  cases hf : (cutL 42 s).2.2
  · cases h5 : s == [45]
    · simp; exact tail _ (by simp [movOfI, hf, h5])
    · simp; exact tail _ (by simp [movOfI, hf, h5])
  · have hd := fun m => k_decimal m (cutL 42 s).2.1 (by omega)
    simp [hd]
    cases h5 : s == [45]
    · simp; exact tail _ (by simp [movOfI, hf, h5])
    · simp; exact tail _ (by simp [movOfI, hf, h5])

/-- What spec.l1Read counts. -/
def readGo (n : Int) : List UInt8 → Int
  | [] => n
  | b :: l => bif decide ((b.toNat : Int) < 48) then -1 else bif decide (57 < (b.toNat : Int)) then -1 else readGo (wr (wr (10 * n) + IntKind.wrap .i64 (IntKind.wrap .u8 ((b.toNat : Int) - 48)))) l
def readNum (s : List UInt8) : Int :=
  bif !inR s.length 1 6 then -1 else match s with | [] => -1 | b :: l => bif b == 48 && !l.isEmpty then -1 else readGo 0 (b :: l)

theorem k_l1Read (m : Nat) (s : List UInt8) (hs : s.length < 4294967281) : Call (m + 2) 121 [Sg (bs s)] = some [I (readNum s)] := by
  apply c121
  unfold readNum
  cases hl : inR s.length 1 6
  · simp [s121, k_l1In, hl]
  · have loop : ∀ (F : (List PV → R) → List PV → R), (∀ rec i n x, s[i]? = some x → (i : Nat) < s.length → F rec [Sg (bs s), I n, I i] = bif decide ((x.toNat : Int) < 48) then some [I (-1)] else bif decide (57 < (x.toNat : Int)) then some [I (-1)] else rec [Sg (bs s), I (wr (wr (10 * n) + IntKind.wrap .i64 (IntKind.wrap .u8 ((x.toNat : Int) - 48)))), I (wr (i + 1))]) →
        (∀ rec n, F rec [Sg (bs s), I n, I s.length] = some [I n]) → iterK FU0 F [Sg (bs s), I 0, I 0] = some [I (readGo 0 s)] := by
      intro F h1 h2
      refine iterK_listS (β := Int) s (fun i n => [Sg (bs s), I n, I i]) (fun i n rest => some [I (readGo n rest)]) (fun _ _ _ => True) (by omega) 0 rfl rfl trivial (fun i n x rest rec h hx hw _ hr => ?_) (fun n rec _ => ?_)
      · rw [h1 rec i n x (by rw [List.getElem?_eq_getElem h, hx]) h, hw, readGo]
        have := hr (wr (wr (10 * n) + IntKind.wrap .i64 (IntKind.wrap .u8 ((x.toNat : Int) - 48)))) trivial
        push_cast at this
        rw [this]
        cases decide ((x.toNat : Int) < 48) <;> simp
        cases decide (57 < (x.toNat : Int)) <;> simp
      · rw [h2, readGo]
    cases s with
    | nil => simp [inR] at hl
    | cons b l =>
      have hb := byte_eq b 48
      simp at hb
      simp [s121, k_l1In]
      simp at hl
      simp [hl, strAt_lit0, hb]
      have side : ∀ {rec : List PV → R} {i : Nat} {n : Int} {x : UInt8}, (b :: l)[i]? = some x → i < (b :: l).length → strAt (bs (b :: l)) i = some (.v (.int .u8 x.toNat)) := by
        intro _ i _ x h1 h2
        rw [strAt_nat _ i h2]
        rw [List.getElem?_eq_getElem h2] at h1
        cases h1
        rfl
      rw [loop _ (fun rec i n x h1 h2 => ?_) (fun rec n => ?_)]
      · cases b == 48 <;> simp
        by_cases h0 : l = []
        · subst h0; simp
        · have : 1 < (l.length : Int) + 1 := by
            have := List.length_pos_iff.2 h0
            omega
          have hie : l.isEmpty = false := by simpa using h0
          simp [this, hie]
      · have hst := side (rec := rec) (n := n) h1 h2
        have h3 : decide ((i : Int) < (l.length : Int) + 1) = true := by simp at h2 ⊢; omega
        simp [hst, h3]
      · simp

theorem atoi_dig : decimalL [50] = (2, true) ∧ decimalL [51] = (3, true) := by
  have h2 : Lib.atoiAll [50] = .ok 2 := by decide
  have h3 : Lib.atoiAll [51] = .ok 3 := by decide
  have i2 := itoa_dig (n := 2) (by omega) (by omega)
  have i3 := itoa_dig (n := 3) (by omega) (by omega)
  constructor
  · simp only [decimalL, h2, i2]; rfl
  · simp only [decimalL, h3, i3]; rfl

theorem read_dig : readNum [50] = 2 ∧ readNum [51] = 3 := by decide

theorem dir_ne {s : List UInt8} (h : dirOnly s = true) : ∀ b ∈ s, b ≠ 42 ∧ b ≠ 45 := by
  intro b hb
  have := List.all_eq_true.1 h b hb
  refine ⟨fun e => ?_, fun e => ?_⟩ <;> (subst e; revert this; decide)

theorem cutL_none {c : UInt8} : ∀ {l : List UInt8}, (∀ b ∈ l, b ≠ c) → cutL c l = (l, [], false)
  | [], _ => rfl
  | b :: l, h => by
    have h1 : (b == c) = false := by simpa using h b (by simp)
    rw [cutL, h1, cutL_none (fun x hx => h x (List.mem_cons_of_mem _ hx))]
    rfl
theorem cutL_some {c : UInt8} : ∀ {l : List UInt8} {r : List UInt8}, (∀ b ∈ l, b ≠ c) → cutL c (l ++ c :: r) = (l, r, true)
  | [], r, _ => by simp [cutL]
  | b :: l, r, h => by
    have h1 : (b == c) = false := by simpa using h b (by simp)
    rw [List.cons_append, cutL, h1, cutL_some (fun x hx => h x (List.mem_cons_of_mem _ hx))]
    rfl
theorem splitL_none {c : UInt8} : ∀ {l : List UInt8}, (∀ b ∈ l, b ≠ c) → splitL c l = [l]
  | [], _ => rfl
  | b :: l, h => by
    have h1 : (b == c) = false := by simpa using h b (by simp)
    rw [splitL, h1, splitL_none (fun x hx => h x (List.mem_cons_of_mem _ hx))]
    rfl
theorem splitL_some {c : UInt8} : ∀ {l : List UInt8} {r : List UInt8}, (∀ b ∈ l, b ≠ c) → splitL c (l ++ c :: r) = l :: splitL c r
  | [], r, _ => by simp [splitL]
  | b :: l, r, h => by
    have h1 : (b == c) = false := by simpa using h b (by simp)
    rw [List.cons_append, splitL, h1, splitL_some (fun x hx => h x (List.mem_cons_of_mem _ hx))]
    rfl

theorem movOfI_text {x : Mov} (h : goodMov x = true) : movOfI (movText x) = x := by
  obtain ⟨h1, h2, h3, h4⟩ := mov_bounds h
  obtain ⟨st, n⟩ := x
  simp only at h1 h2 h3 h4
  have hne := dir_ne h2
  have hst : st = [] ∨ (st.isEmpty = false ∧ (st == [45]) = false ∧ ∀ r, (st ++ 42 :: r == [45]) = false) := by
    cases st with
    | nil => exact .inl rfl
    | cons b l =>
      have := (hne b (by simp)).2
      exact .inr ⟨rfl, by simp [this], fun r => by simp [this]⟩
  rcases hst with rfl | ⟨e1, e2, e3⟩
  · simp only [ne_eq, not_true_eq_false, false_or] at h4
    subst h4
    rfl
  · rcases h3 with rfl | rfl | rfl
    · simp only [movText, e1, cond_false, beq_self_eq_true, cond_true, movOfI, e2, cutL_none (fun b hb => (hne b hb).1)]
    · have d : dig 2 = 50 := rfl
      simp only [movText, e1, cond_false, movOfI, e3, cutL_some (fun b hb => (hne b hb).1), show ((2 : Int) == 1) = false from rfl, cond_true, d, atoi_dig.1]
    · have d : dig 3 = 51 := rfl
      simp only [movText, e1, cond_false, movOfI, e3, cutL_some (fun b hb => (hne b hb).1), show ((3 : Int) == 1) = false from rfl, cond_true, d, atoi_dig.2]

theorem parseMov_text {x : Mov} (h : goodMov x = true) : parseMov (movText x) = some x := by
  simp only [parseMov, movOfI_text h, h, beq_self_eq_true, Bool.and_self, cond_true]
theorem parseMov_some {s : List UInt8} {x : Mov} (h : parseMov s = some x) : goodMov x = true ∧ movText x = s := by
  unfold parseMov at h
  cases hc : goodMov (movOfI s) && movText (movOfI s) == s with
  | false => rw [hc] at h; cases h
  | true =>
    rw [hc] at h
    cases h
    simp only [Bool.and_eq_true, beq_iff_eq] at hc
    exact hc

def movOfS (s : List UInt8) : Mov := ⟨bif s == [45] then [] else (splitL 42 s).headD [], bif decide ((splitL 42 s).length = 2) then readNum ((splitL 42 s).getD 1 []) else 1⟩

theorem movOfS_text {x : Mov} (h : goodMov x = true) : movOfS (movText x) = x ∧ (splitL 42 (movText x)).length ≤ 2 := by
  obtain ⟨h1, h2, h3, h4⟩ := mov_bounds h
  obtain ⟨st, n⟩ := x
  simp only at h1 h2 h3 h4
  have hne := dir_ne h2
  have hst : st = [] ∨ (st.isEmpty = false ∧ (st == [45]) = false ∧ ∀ r, (st ++ 42 :: r == [45]) = false) := by
    cases st with
    | nil => exact .inl rfl
    | cons b l =>
      have := (hne b (by simp)).2
      exact .inr ⟨rfl, by simp [this], fun r => by simp [this]⟩
  rcases hst with rfl | ⟨e1, e2, e3⟩
  · simp only [ne_eq, not_true_eq_false, false_or] at h4
    subst h4
    exact ⟨rfl, by decide⟩
  · rcases h3 with rfl | rfl | rfl
    · have hs := splitL_none (c := 42) (fun b hb => (hne b hb).1)
      simp only [movText, e1, cond_false, beq_self_eq_true, cond_true, movOfS, e2, hs]
      exact ⟨rfl, by simp⟩
    · have d : dig 2 = 50 := rfl
      have hs := fun r => splitL_some (c := 42) (r := r) (fun b hb => (hne b hb).1)
      simp only [movText, e1, cond_false, movOfS, e3, hs, show ((2 : Int) == 1) = false from rfl, d]
      exact ⟨by simp [show splitL 42 [50] = [[50]] from rfl, read_dig.1], by simp [show splitL 42 [50] = [[50]] from rfl]⟩
    · have d : dig 3 = 51 := rfl
      have hs := fun r => splitL_some (c := 42) (r := r) (fun b hb => (hne b hb).1)
      simp only [movText, e1, cond_false, movOfS, e3, hs, show ((3 : Int) == 1) = false from rfl, d]
      exact ⟨by simp [show splitL 42 [51] = [[51]] from rfl, read_dig.2], by simp [show splitL 42 [51] = [[51]] from rfl]⟩

theorem parseMov_S (s : List UInt8) : parseMov s = bif decide (2 < (splitL 42 s).length) then none else bif goodMov (movOfS s) then bif movText (movOfS s) == s then some (movOfS s) else none else none := by
  cases hp : parseMov s with
  | some x =>
    obtain ⟨h1, h2⟩ := parseMov_some hp
    subst h2
    obtain ⟨h3, h4⟩ := movOfS_text h1
    have h5 : decide (2 < (splitL 42 (movText x)).length) = false := by simpa using h4
    simp [h5, h3, h1]
  | none =>
    cases h2 : decide (2 < (splitL 42 s).length) <;> simp
    cases h3 : goodMov (movOfS s) <;> simp
    cases h4 : movText (movOfS s) == s <;> simp
    have := parseMov_text h3
    rw [beq_iff_eq] at h4
    rw [h4, hp] at this
    cases this

theorem splitL_len (c : UInt8) : ∀ (l x : List UInt8), x ∈ splitL c l → x.length ≤ l.length
  | [], x, h => by simp [splitL] at h; subst h; simp
  | b :: l, x, h => by
    rw [splitL] at h
    cases hb : b == c
    · rw [hb, cond_false] at h
      split at h
      · rename_i hs; exact absurd hs (splitL_ne c l)
      · rename_i y r hs
        simp only [List.mem_cons] at h
        rcases h with rfl | h
        · have := splitL_len c l y (by rw [hs]; simp)
          simp; omega
        · have := splitL_len c l x (by rw [hs]; simp [h])
          simp; omega
    · rw [hb, cond_true] at h
      simp only [List.mem_cons] at h
      rcases h with rfl | h
      · simp
      · have := splitL_len c l x h
        simp; omega

theorem k_mvParse (m : Nat) (s : List UInt8) (hs : s.length < 4294967281) : Call (m + 27) 77 [Sg (bs s)] = some (okMov (parseMov s)) := by
  apply c77
  rw [parseMov_S]
  have hsp := fun m => k_l1Split m s 42 hs
  simp at hsp
  have hlen := splitL_len 42 s
  have hmov : movOfS s = ⟨bif s == [45] then [] else (splitL 42 s).headD [], bif decide ((splitL 42 s).length = 2) then readNum ((splitL 42 s).getD 1 []) else 1⟩ := rfl
  obtain ⟨w, r, hw⟩ : ∃ w r, splitL 42 s = w :: r := by
    cases h : splitL 42 s with
    | nil => exact absurd h (splitL_ne 42 s)
    | cons w r => exact ⟨w, r, rfl⟩
  have fin : ∀ x : Mov, x.st.length < 9223372036854775807 → (optC (callN (Bk.env FU0) (m + 26) 79 [.agg x.cells]) fun rs37 => popB rs37 fun b39 r38 => popN r38 (bif b39 then
      optC (callN (Bk.env FU0) (m + 26) 99 [.agg x.cells]) fun rs44 => popS rs44 fun s46 r45 => popN r45 (bif s46.toList == s then some [.agg x.cells, B true] else some [.agg Mov.zero.cells, B false]) else some [.agg Mov.zero.cells, B false])) =
      some (okMov (bif goodMov x then bif movText x == s then some x else none else none)) := by
    intro x hx
    simp [k_mvGood _ x hx]
    cases hg : goodMov x
    · simp [okMov]
    · simp [k_mvText _ x hg]
      cases movText x == s <;> simp [okMov]
  rw [hw] at hlen hmov hsp
  simp [s77, hsp, hw]
  match r, hlen, hmov with
  | [], hlen, hmov =>
    have l1 := hlen w (by simp)
    simp at hmov
    simp [texts, eltS]
    cases h5 : s == [45]
    · simp [h5] at hmov
      simp; rw [hmov]; exact fin _ (by simp; omega)
    · simp [h5] at hmov
      simp; rw [hmov]; exact fin _ (by simp)
  | [v], hlen, hmov =>
    have l1 := hlen w (by simp)
    have l2 := hlen v (by simp)
    have hrd := fun m => k_l1Read m v (by omega)
    simp at hmov
    simp [texts, eltS]
    cases h5 : s == [45]
    · simp [h5] at hmov
      simp [hrd]; rw [hmov]; exact fin _ (by simp; omega)
    · simp [h5] at hmov
      simp [hrd]; rw [hmov]; exact fin _ (by simp)
  | v :: u :: t, hlen, hmov =>
    have e1 : (((t.length : Int) + 1 + 1 + 1) == 2) = false := by simp only [beq_eq_false_iff_ne, ne_eq]; omega
    have e2 : decide (2 < ((t.length : Int) + 1 + 1 + 1)) = true := by simp; omega
    simp [texts, eltS, e1, e2]
    cases s == [45] <;> simp [e1, e2, okMov]
end Go.Proofs.YtajjinfjfiacbaaGreatDoor
end

section
/- Hands: valid ones, their texts, the rules for two of them. -/
set_option linter.unusedSimpArgs false
set_option linter.unusedVariables false
namespace Go.Proofs.YtajjinfjfiacbaaGreatDoor
open Go Go.Evp

def goodHand (h : Hand) : Bool := goodShape h.sh && (goodOrient h.o && (goodPlace h.p && goodMov h.m))
theorem goodHand_iff {h : Hand} : goodHand h = true ↔ goodShape h.sh = true ∧ goodOrient h.o = true ∧ goodPlace h.p = true ∧ goodMov h.m = true := by simp [goodHand]

theorem k_IsHand (m : Nat) (h : Hand) (hs : h.m.st.length < 9223372036854775807) : Call (m + 7) 49 [.agg h.cells] = some [B (goodHand h)] := by
  apply c49
  simp [s49, k_IsShape, k_IsOrient, k_IsPlace, k_IsMove _ h.m hs, goodHand]
  cases goodShape h.sh <;> simp
  cases goodOrient h.o <;> simp
  cases goodPlace h.p <;> simp

theorem k_siHand (m : Nat) (h : Hand) (hs : h.m.st.length < 9223372036854775807) : Call (m + 5) 40 [.agg h.cells] = some [B (goodHand h)] := by
  apply c40
  simp [s40, k_shGood, k_orGood, k_plGood, k_mvGood _ h.m hs, goodHand]
  cases goodShape h.sh <;> simp
  cases goodOrient h.o <;> simp
  cases goodPlace h.p <;> simp

/-! Facts on the texts. -/

def clean (s : List UInt8) : Bool := s.all fun b => b != 47 && b != 43

theorem clean_ne {s : List UInt8} (h : clean s = true) : (∀ b ∈ s, b ≠ 47) ∧ ∀ b ∈ s, b ≠ 43 := by
  simp only [clean, List.all_eq_true, Bool.and_eq_true, bne_iff_ne] at h
  exact ⟨fun b hb => (h b hb).1, fun b hb => (h b hb).2⟩

theorem digCases {n : Int} (h0 : 0 ≤ n) (h1 : n < 10) : dig n = 48 ∨ dig n = 49 ∨ dig n = 50 ∨ dig n = 51 ∨ dig n = 52 ∨ dig n = 53 ∨ dig n = 54 ∨ dig n = 55 ∨ dig n = 56 ∨ dig n = 57 := by
  have : n = 0 ∨ n = 1 ∨ n = 2 ∨ n = 3 ∨ n = 4 ∨ n = 5 ∨ n = 6 ∨ n = 7 ∨ n = 8 ∨ n = 9 := by omega
  rcases this with rfl | rfl | rfl | rfl | rfl | rfl | rfl | rfl | rfl | rfl <;> decide

theorem dig_clean {n : Int} (h0 : 0 ≤ n) (h1 : n < 10) : (dig n != 47 && dig n != 43) = true := by
  rcases digCases h0 h1 with h | h | h | h | h | h | h | h | h | h <;> rw [h] <;> decide

theorem dig_back {n : Int} (h0 : 0 ≤ n) (h1 : n < 10) : ((dig n).toNat : Int) - 48 = n := by
  have : n = 0 ∨ n = 1 ∨ n = 2 ∨ n = 3 ∨ n = 4 ∨ n = 5 ∨ n = 6 ∨ n = 7 ∨ n = 8 ∨ n = 9 := by omega
  rcases this with rfl | rfl | rfl | rfl | rfl | rfl | rfl | rfl | rfl | rfl <;> decide

theorem shapeText_facts {x : Shape} (h : goodShape x = true) : clean (shapeText x) = true ∧ (shapeText x).length ≤ 6 ∧ parseShape (shapeText x) = some x := by
  have h' := h
  obtain ⟨⟨a1, a2⟩, ⟨b1, b2⟩, ⟨c1, c2⟩, ⟨d1, d2⟩, ⟨e1, e2⟩⟩ := good_digits h
  obtain ⟨t, i, m, r, l, sp⟩ := x
  simp only at a1 a2 b1 b2 c1 c2 d1 d2 e1 e2
  refine ⟨?_, ?_, ?_⟩
  · simp only [clean, shapeText, List.all_append, List.all_cons, List.all_nil, dig_clean a1 a2, dig_clean b1 b2, dig_clean c1 c2, dig_clean d1 d2, dig_clean e1 e2]
    cases sp <;> decide
  · cases sp <;> simp [shapeText]
  · cases sp
    · simp [shapeText, parseShape, dig_back a1 a2, dig_back b1 b2, dig_back c1 c2, dig_back d1 d2, dig_back e1 e2, h']
    · simp [shapeText, parseShape, dig_back a1 a2, dig_back b1 b2, dig_back c1 c2, dig_back d1 d2, dig_back e1 e2, h']

theorem orientText_facts {o : Orient} (h : goodOrient o = true) : clean (orientText o) = true ∧ (orientText o).length = 2 ∧ parseOrient (orientText o) = some o := by
  have h' := h
  obtain ⟨h1, h2⟩ := good_dirs h
  obtain ⟨p, f⟩ := o
  refine ⟨?_, rfl, ?_⟩
  · rcases inR5 h1 with rfl | rfl | rfl | rfl | rfl | rfl <;> rcases inR5 h2 with rfl | rfl | rfl | rfl | rfl | rfl <;> decide
  · have e : ∀ n : Int, inR n 0 5 = true → letterIx (dirLetter n) = n := by
      intro n hn
      rcases inR5 hn with rfl | rfl | rfl | rfl | rfl | rfl <;> decide
    simp only at h1 h2
    simp [orientText, parseOrient, e p h1, e f h2, h']

theorem place_mem {p : Plc} (h : goodPlace p = true) : p ∈ allPlaces := by
  have h' := h
  obtain ⟨h1, h2⟩ := placeCases h
  obtain ⟨r, s, c⟩ := p
  simp only at h1 h2
  revert h'
  rcases h1 with rfl | rfl | rfl | rfl | rfl | rfl | rfl | rfl | rfl | rfl <;> rcases h2 with rfl | rfl | rfl <;> cases c <;> decide

theorem allPlaces_facts : ∀ p ∈ allPlaces, clean (placeText p) = true ∧ (placeText p).length ≤ 7 ∧ parsePlace (placeText p) = some p := by decide +kernel
theorem placeText_facts {p : Plc} (h : goodPlace p = true) : clean (placeText p) = true ∧ (placeText p).length ≤ 7 ∧ parsePlace (placeText p) = some p := allPlaces_facts p (place_mem h)

theorem dirs_clean {s : List UInt8} (h : dirOnly s = true) : clean s = true := by
  simp only [clean, List.all_eq_true, Bool.and_eq_true, bne_iff_ne]
  intro b hb
  have := List.all_eq_true.1 h b hb
  refine ⟨fun e => ?_, fun e => ?_⟩ <;> (subst e; revert this; decide)

theorem movText_facts {x : Mov} (h : goodMov x = true) : clean (movText x) = true ∧ (movText x).length ≤ 8 := by
  obtain ⟨h1, h2, h3, h4⟩ := mov_bounds h
  have hc := dirs_clean h2
  unfold movText
  cases x.st.isEmpty
  · cases hn : x.n == 1
    · have hd := dig_clean (n := x.n) (by omega) (by omega)
      refine ⟨?_, by simp; omega⟩
      simp only [cond_false, clean, List.all_append, List.all_cons, List.all_nil, hd]
      simp only [clean] at hc
      rw [hc]
      decide
    · exact ⟨by simpa using hc, by simp; omega⟩
  · exact ⟨by simp [clean], by simp⟩

def handText (h : Hand) : List UInt8 := shapeText h.sh ++ 47 :: (orientText h.o ++ 47 :: (placeText h.p ++ 47 :: movText h.m))

theorem handText_facts {h : Hand} (hg : goodHand h = true) : (∀ b ∈ handText h, b ≠ 43) ∧ (handText h).length ≤ 26 ∧ splitL 47 (handText h) = [shapeText h.sh, orientText h.o, placeText h.p, movText h.m] := by
  obtain ⟨g1, g2, g3, g4⟩ := goodHand_iff.1 hg
  obtain ⟨a1, a2, _⟩ := shapeText_facts g1
  obtain ⟨b1, b2, _⟩ := orientText_facts g2
  obtain ⟨c1, c2, _⟩ := placeText_facts g3
  obtain ⟨d1, d2⟩ := movText_facts g4
  refine ⟨?_, ?_, ?_⟩
  · intro b hb
    simp only [handText, List.mem_append, List.mem_cons] at hb
    rcases hb with hb | rfl | hb | rfl | hb | rfl | hb
    · exact (clean_ne a1).2 b hb
    · decide
    · exact (clean_ne b1).2 b hb
    · decide
    · exact (clean_ne c1).2 b hb
    · decide
    · exact (clean_ne d1).2 b hb
  · simp [handText]
    omega
  · rw [handText, splitL_some (clean_ne a1).1, splitL_some (clean_ne b1).1, splitL_some (clean_ne c1).1, splitL_none (clean_ne d1).1]

theorem k_handText (m : Nat) (h : Hand) (hg : goodHand h = true) : Call (m + 3) 65 [.agg h.cells] = some [Sg (bs (handText h))] := by
  apply c65
  obtain ⟨g1, g2, g3, g4⟩ := goodHand_iff.1 hg
  obtain ⟨_, hl, _⟩ := handText_facts hg
  have hj : Lib.join [shapeText h.sh, orientText h.o, placeText h.p, movText h.m] [47] = handText h := by
    simp [Lib.join, handText, List.intercalate]
  have k := fun m => k_Join m [shapeText h.sh, orientText h.o, placeText h.p, movText h.m] [47] (by simp) (by rw [hj]; omega)
  simp [texts] at k
  simp [s65, k_shapeText _ _ g1, k_orientText _ _ g2, k_placeText _ _ g3, k_movText _ _ g4, k, hj]

theorem k_siText (m : Nat) (h : Hand) (hg : goodHand h = true) : Call (m + 27) 57 [.agg h.cells] = some [Sg (bs (handText h))] := by
  apply c57
  obtain ⟨g1, g2, g3, g4⟩ := goodHand_iff.1 hg
  obtain ⟨a1, a2, _⟩ := shapeText_facts g1
  obtain ⟨b1, b2, _⟩ := orientText_facts g2
  obtain ⟨c1, c2, _⟩ := placeText_facts g3
  obtain ⟨d1, d2⟩ := movText_facts g4
  simp [s57, k_shText _ _ g1, k_orText _ _ g2, k_plText _ _ g3, k_mvText _ _ g4]
  rw [binPV_add _ _ (by simp; omega)]; simp
  rw [binPV_add _ _ (by simp; omega)]; simp
  rw [binPV_add _ _ (by simp; omega)]; simp
  rw [binPV_add _ _ (by simp; omega)]; simp
  rw [binPV_add _ _ (by simp; omega)]; simp
  rw [binPV_add _ _ (by simp; omega)]; simp [handText]

/-! The rules for two hands. -/

theorem k_moves (m : Nat) (h : Hand) : Call (m + 1) 107 [.agg h.cells] = some [B (!h.m.st.isEmpty)] := by
  apply c107
  simp [s107]

def plainShapes : List Shape := [⟨0, 0, 0, 0, 0, false⟩, ⟨0, 0, 0, 0, 0, true⟩, ⟨2, 2, 2, 2, 2, false⟩, ⟨1, 0, 0, 0, 0, false⟩, ⟨1, 0, 2, 2, 2, false⟩, ⟨0, 0, 2, 2, 2, false⟩]

theorem k_PlainShapes (m : Nat) : Call (m + 8) 109 [] = some [.sl 6 (plainShapes.map fun x => .agg x.cells)] := by
  apply c109
  obtain ⟨k, hk⟩ := FU0_add
  rw [hk]
  kernel_rfl

theorem k_siPlain (m : Nat) : Call (m + 5) 80 [] = some [.sl 6 (plainShapes.map fun x => .agg x.cells)] := by
  apply c80
  obtain ⟨k, hk⟩ := FU0_add
  rw [hk]
  kernel_rfl

theorem all6 (xs : List Shape) : List.all (xs.map fun x => PV.agg x.cells) PV.flat = true := by
  simp only [List.all_map, List.all_eq_true]
  intro x _
  rfl

theorem k_Index6 (m : Nat) (xs : List Shape) (y : Shape) (hl : xs.length < 9223372036854775807) : Call (m + 1) 140 [.sl 6 (xs.map fun x => .agg x.cells), .agg y.cells] = some [I (orNeg (firstAt (fun x => decide (y = x)) xs))] := by
  apply c140
  simp only [s140, popA_cons, popN_nil, popLz_cons, List.length_map]
  refine iterK_list xs (fun i => [.sl 6 (xs.map fun x => .agg x.cells), .agg y.cells, I xs.length, I i]) (fun i l => some [I (match firstAt (fun x => decide (y = x)) l with | some j => (i : Int) + j | none => -1)]) hl rfl ?_ (fun i x rest rec h hx hw hr => ?_) (fun rec => ?_)
  · cases firstAt (fun x => decide (y = x)) xs <;> simp [orNeg]
  · push_cast at hr
    simp [h, hx, hw, Shape.eqC]
    cases hp : decide (y = x)
    · simp [hr, firstAt, hp]
      cases firstAt (fun x => decide (y = x)) rest <;> simp <;> omega
    · simp [hp, firstAt]
  · simp [firstAt]

theorem k_Contains6 (m : Nat) (xs : List Shape) (y : Shape) (hl : xs.length < 9223372036854775807) : Call (m + 2) 108 [.sl 6 (xs.map fun x => .agg x.cells), .agg y.cells] = some [B (xs.any fun x => decide (y = x))] := by
  apply c108
  simp [s108, k_Index6 _ xs y hl, orNeg_ge, firstAt_isSome]

theorem swapDir_swap (n : Int) : swapDir (swapDir n) = n := by
  unfold swapDir
  by_cases h2 : n = 2
  · subst h2; rfl
  by_cases h3 : n = 3
  · subst h3; rfl
  have e2 : (n == 2) = false := by simpa using h2
  have e3 : (n == 3) = false := by simpa using h3
  simp [e2, e3]
theorem mirO_mirO (o : Orient) : mirO (mirO o) = o := by cases o; simp [mirO, swapDir_swap]

theorem swap_dir (b : UInt8) : decide (0 ≤ letterIx (UInt8.ofNat (swapN b.toNat))) = decide (0 ≤ letterIx b) := by
  have h := swap_byte b
  have e1 := byte_eq b 108
  have e2 := byte_eq b 114
  simp at e1 e2
  rw [h, e1, e2]
  by_cases h1 : b = 108
  · subst h1; decide
  by_cases h2 : b = 114
  · subst h2; decide
  have f1 : (b == 108) = false := by simpa using h1
  have f2 : (b == 114) = false := by simpa using h2
  simp [f1, f2]

theorem mirM_good (x : Mov) : goodMov (mirM x) = goodMov x := by
  have h1 : dirOnly (swapLR x.st) = dirOnly x.st := by
    simp only [dirOnly, swapLR, List.all_map]
    congr 1
    funext b
    exact swap_dir b
  have h2 : (swapLR x.st).length = x.st.length := by simp [swapLR]
  have h3 : (swapLR x.st).isEmpty = x.st.isEmpty := by simp [swapLR]
  simp [goodMov, mirM, h1, h2, h3]

/-- What breaks a rule for two hands: 0 if nothing does. -/
def broken (a b : Hand) : Int :=
  bif b.m.st.isEmpty then (bif decide (a.sh = b.sh) then 0 else bif plainShapes.any (fun x => decide (x = b.sh)) then 0 else 4)
  else bif a.m.st.isEmpty then 3
  else bif !decide (a.sh = b.sh) then 1
  else bif !decide (a.o = b.o) && !decide (a.o = mirO b.o) then 2
  else bif !(movAll a.m == movAll b.m) && !(movAll (mirM a.m) == movAll b.m) then 3 else 0

theorem k_siBroken (m : Nat) (a b : Hand) (ha : goodMov a.m = true) (hb : goodMov b.m = true) : Call (m + 6) 41 [.agg a.cells, .agg b.cells] = some [I (broken a b)] := by
  apply c41
  have hl := (mov_bounds ha).1
  unfold broken
  simp [s41, Shape.eqC, Orient.eqC]
  cases h1 : b.m.st.isEmpty
  · simp
    cases h2 : a.m.st.isEmpty
    · simp
      by_cases h3 : a.sh = b.sh
      · simp [h3]
        by_cases h4 : a.o = b.o
        · simp [h4, k_mvAll _ _ ha, k_mvAll _ _ hb]
          cases movAll a.m == movAll b.m
          · simp [k_mvMirror _ a.m (by omega), k_mvAll _ (mirM a.m) (by rw [mirM_good]; exact ha), k_mvAll _ _ hb]
            cases movAll (mirM a.m) == movAll b.m <;> simp
          · simp
        · simp [h4, k_orMirror, Orient.eqC]
          by_cases h5 : a.o = mirO b.o
          · simp [h5, k_mvAll _ _ ha, k_mvAll _ _ hb]
            cases movAll a.m == movAll b.m
            · simp [k_mvMirror _ a.m (by omega), k_mvAll _ (mirM a.m) (by rw [mirM_good]; exact ha), k_mvAll _ _ hb]
              cases movAll (mirM a.m) == movAll b.m <;> simp
            · simp
          · simp [h5]
      · simp [h3]
    · simp
  · simp
    by_cases h3 : a.sh = b.sh
    · simp [h3]
    · simp [h3, k_siPlain]
      refine iterK_list plainShapes (fun i => [.agg b.cells, .sl 6 (plainShapes.map fun x => .agg x.cells), I plainShapes.length, I i]) (fun _ l => some [I (bif l.any (fun x => decide (x = b.sh)) then 0 else 4)]) (by decide) rfl (by simp) (fun i x rest rec h hx hw hr => ?_) (fun rec => ?_)
      · push_cast at hr
        simp [h, hx, hw, eltA, Shape.eqC]
        by_cases h5 : x = b.sh
        · simp [h5]
        · simp [h5, hr]
      · simp

def keep (a b : Hand) : Bool := broken a b == 0

theorem k_keepRules (m : Nat) (a b : Hand) (ha : goodMov a.m = true) (hb : goodMov b.m = true) : Call (m + 9) 64 [.agg a.cells, .agg b.cells] = some [B (keep a b)] := by
  apply c64
  have hl := (mov_bounds ha).1
  have hany : plainShapes.any (fun x => decide (b.sh = x)) = plainShapes.any (fun x => decide (x = b.sh)) := by
    congr 1; funext x; simp [eq_comm]
  unfold keep broken
  simp [s64, Shape.eqC, Orient.eqC, k_moves]
  cases h1 : b.m.st.isEmpty
  · simp
    have e1 : decide (b.o = a.o) = decide (a.o = b.o) := by rw [decide_eq_decide]; exact eq_comm
    have e2 : decide (b.o = mirO a.o) = decide (a.o = mirO b.o) := by
      rw [decide_eq_decide]
      exact ⟨fun h => by rw [h, mirO_mirO], fun h => by rw [h, mirO_mirO]⟩
    have e3 : (movAll b.m == movAll a.m) = (movAll a.m == movAll b.m) := BEq.comm
    have e4 : (movAll b.m == movAll (mirM a.m)) = (movAll (mirM a.m) == movAll b.m) := BEq.comm
    rw [e1]
    have f1 := fun m => k_all m a.m ha
    have f2 := fun m => k_all m b.m hb
    have f3 := fun m => k_mMirrored m a.m (by omega)
    have f4 := fun m => k_all m (mirM a.m) (by rw [mirM_good]; exact ha)
    generalize decide (a.o = b.o) = p at *
    generalize decide (a.sh = b.sh) = v at *
    generalize a.m.st.isEmpty = u at *
    cases p
    · simp [f1, f2, f3, f4, k_oMirrored, Orient.eqC, e3]
      rw [e2]
      generalize decide (a.o = mirO b.o) = q at *
      generalize (movAll a.m == movAll b.m) = r at *
      cases r <;> simp [f2, f3, f4]
      · rw [e4]
        generalize (movAll (mirM a.m) == movAll b.m) = t at *
        cases q <;> cases u <;> cases v <;> cases t <;> simp
      · cases q <;> cases u <;> cases v <;> simp
    · simp [f1, f2, f3, f4, e3]
      generalize (movAll a.m == movAll b.m) = r at *
      cases r <;> simp [f2, f3, f4]
      · rw [e4]
        generalize (movAll (mirM a.m) == movAll b.m) = t at *
        cases u <;> cases v <;> cases t <;> simp
      · cases u <;> cases v <;> simp
  · simp
    by_cases h3 : a.sh = b.sh
    · simp [h3]
    · have h3' : ¬ b.sh = a.sh := fun h => h3 h.symm
      have hc := fun m => k_Contains6 m plainShapes b.sh (by decide)
      simp [h3, h3', k_PlainShapes, hc]
      rw [hany]
      cases plainShapes.any (fun x => decide (x = b.sh)) <;> simp
end Go.Proofs.YtajjinfjfiacbaaGreatDoor
end

section
/- Hands and signs read. -/
set_option linter.unusedSimpArgs false
set_option linter.unusedVariables false
namespace Go.Proofs.YtajjinfjfiacbaaGreatDoor
open Go Go.Evp

/-- A hand with a text; or what is wrong, and where. -/
def readParts : List (List UInt8) → Hand × Int × Int
  | [a, b, c, d] =>
    match parseShape a with
    | none => (.zero, 3, 0)
    | some x =>
      match parseOrient b with
      | none => (.zero, 4, (a.length : Int) + 1)
      | some y =>
        match parsePlace c with
        | none => (.zero, 5, (a.length : Int) + 1 + ((b.length : Int) + 1))
        | some z =>
          match parseMov d with
          | none => (.zero, 6, (a.length : Int) + 1 + ((b.length : Int) + 1) + ((c.length : Int) + 1))
          | some w => (⟨x, y, z, w⟩, 0, 0)
  | _ => (.zero, 2, 0)
def readHand (s : List UInt8) : Hand × Int × Int := readParts (splitL 47 s)
def okRead (r : Hand × Int × Int) : List PV := [.agg r.1.cells, I r.2.1, I r.2.2]

theorem k_paHand (m : Nat) (s : List UInt8) (hs : s.length < 4294967281) : Call (m + 28) 55 [Sg (bs s)] = some (okRead (readHand s)) := by
  apply c55
  have hsp := fun m => k_l1Split m s 47 hs
  simp at hsp
  have hlen := splitL_len 47 s
  unfold readHand
  simp [s55, hsp, texts_len]
  rcases hw : splitL 47 s with _ | ⟨a, _ | ⟨b, _ | ⟨c, _ | ⟨d, _ | ⟨e, r⟩⟩⟩⟩⟩
  · simp [readParts, okRead, texts]
  · simp [readParts, okRead, texts]
  · simp [readParts, okRead, texts]
  · simp [readParts, okRead, texts]
  · rw [hw] at hlen
    have l1 := hlen a (by simp)
    have l2 := hlen b (by simp)
    have l3 := hlen c (by simp)
    have l4 := hlen d (by simp)
    have e1 : wr ((a.length : Int) + 1) = (a.length : Int) + 1 := wr_eq (by omega) (by omega)
    have e1' : wr (0 + ((a.length : Int) + 1)) = (a.length : Int) + 1 := by rw [wr_eq (by omega) (by omega)]; omega
    have e2 : wr ((b.length : Int) + 1) = (b.length : Int) + 1 := wr_eq (by omega) (by omega)
    have e3 : wr ((c.length : Int) + 1) = (c.length : Int) + 1 := wr_eq (by omega) (by omega)
    have e4 : wr ((a.length : Int) + 1 + ((b.length : Int) + 1)) = (a.length : Int) + 1 + ((b.length : Int) + 1) := wr_eq (by omega) (by omega)
    have e5 : wr ((a.length : Int) + 1 + ((b.length : Int) + 1) + ((c.length : Int) + 1)) = (a.length : Int) + 1 + ((b.length : Int) + 1) + ((c.length : Int) + 1) := wr_eq (by omega) (by omega)
    simp [texts, eltS, k_shParse, okShape, readParts]
    cases h1 : parseShape a with
    | none => simp [okRead]
    | some x =>
      simp [k_orParse, okOrient, e1, e1']
      cases h2 : parseOrient b with
      | none => simp [okRead]
      | some y =>
        simp [k_plParse, okPlace, e2, e4]
        cases h3 : parsePlace c with
        | none => simp [okRead]
        | some z =>
          simp [k_mvParse _ d (by omega), okMov, e3, e5]
          cases h4 : parseMov d with
          | none => simp [okRead]
          | some w =>
            simp [okRead]
  · have e1 : (((r.length : Int) + 1 + 1 + 1 + 1 + 1) != 4) = true := by simp only [bne_iff_ne, ne_eq]; omega
    simp [readParts, okRead, texts, e1]

theorem k_readHand (m : Nat) (s : List UInt8) (hs : s.length < 4294967281) : Call (m + 8) 42 [Sg (bs s)] = some (okRead (readHand s)) := by
  apply c42
  have hlen := splitL_len 47 s
  unfold readHand
  simp [s42, k_Split _ s 47 hs, texts_len]
  rcases hw : splitL 47 s with _ | ⟨a, _ | ⟨b, _ | ⟨c, _ | ⟨d, _ | ⟨e, r⟩⟩⟩⟩⟩
  · simp [readParts, okRead, texts]
  · simp [readParts, okRead, texts]
  · simp [readParts, okRead, texts]
  · simp [readParts, okRead, texts]
  · rw [hw] at hlen
    have l1 := hlen a (by simp)
    have l2 := hlen b (by simp)
    have l3 := hlen c (by simp)
    have l4 := hlen d (by simp)
    have e1 : wr ((a.length : Int) + 1) = (a.length : Int) + 1 := wr_eq (by omega) (by omega)
    have e1' : wr (0 + ((a.length : Int) + 1)) = (a.length : Int) + 1 := by rw [wr_eq (by omega) (by omega)]; omega
    have e2 : wr ((b.length : Int) + 1) = (b.length : Int) + 1 := wr_eq (by omega) (by omega)
    have e3 : wr ((c.length : Int) + 1) = (c.length : Int) + 1 := wr_eq (by omega) (by omega)
    have e4 : wr ((a.length : Int) + 1 + ((b.length : Int) + 1)) = (a.length : Int) + 1 + ((b.length : Int) + 1) := wr_eq (by omega) (by omega)
    have e5 : wr ((a.length : Int) + 1 + ((b.length : Int) + 1) + ((c.length : Int) + 1)) = (a.length : Int) + 1 + ((b.length : Int) + 1) + ((c.length : Int) + 1) := wr_eq (by omega) (by omega)
    have e6 : wr ((d.length : Int) + 1) = (d.length : Int) + 1 := wr_eq (by omega) (by omega)
    simp [texts, eltS, k_ParseShape, okShape, readParts, k_ParseOrient, okOrient, k_ParsePlace, okPlace, k_ParseMove _ d (by omega), okMov, Hand.zeros, four_put0, four_put1, four_put2, four_put3, four_part]
    refine iterK_unroll fun k => ?_
    cases h1 : parseShape a with
    | none => rw [iterK_succ]; simp [arrS, wr_eq, okRead]
    | some x =>
      rw [iterK_succ]; simp [arrS, wr_eq, eltS, e1, e1']
      cases h2 : parseOrient b with
      | none => rw [iterK_succ]; simp [arrS, wr_eq, okRead]
      | some y =>
        rw [iterK_succ]; simp [arrS, wr_eq, eltS, e2, e4]
        cases h3 : parsePlace c with
        | none => rw [iterK_succ]; simp [arrS, wr_eq, okRead]
        | some z =>
          rw [iterK_succ]; simp [arrS, wr_eq, eltS, e3, e5]
          cases h4 : parseMov d with
          | none => rw [iterK_succ]; simp [arrS, wr_eq, okRead]
          | some w =>
            rw [iterK_succ]; simp [arrS, wr_eq, eltS, e6]
            rw [iterK_succ]; simp [okRead]
  · have e1 : (((r.length : Int) + 1 + 1 + 1 + 1 + 1) != 4) = true := by simp only [bne_iff_ne, ne_eq]; omega
    simp [readParts, okRead, texts, e1]
end Go.Proofs.YtajjinfjfiacbaaGreatDoor
end

section
/- Signs: read, written, written short. -/
set_option linter.unusedSimpArgs false
set_option linter.unusedVariables false
namespace Go.Proofs.YtajjinfjfiacbaaGreatDoor
open Go Go.Evp

def unsplit (c : UInt8) : List (List UInt8) → List UInt8
  | [] => []
  | [x] => x
  | x :: y :: r => x ++ c :: unsplit c (y :: r)

theorem unsplit_cons (c : UInt8) (b : UInt8) (x : List UInt8) (r : List (List UInt8)) : unsplit c ((b :: x) :: r) = b :: unsplit c (x :: r) := by
  cases r <;> rfl
theorem unsplit_split (c : UInt8) : ∀ l, unsplit c (splitL c l) = l
  | [] => rfl
  | b :: l => by
    have ih := unsplit_split c l
    rw [splitL]
    rcases Bool.eq_false_or_eq_true (b == c) with h | h
    · rw [h, cond_true]
      rw [beq_iff_eq] at h
      cases hs : splitL c l with
      | nil => exact absurd hs (splitL_ne c l)
      | cons x r => rw [unsplit, ← hs, ih, h]; rfl
    · rw [h, cond_false]
      cases hs : splitL c l with
      | nil => exact absurd hs (splitL_ne c l)
      | cons x r => rw [hs] at ih; simp only [unsplit_cons, ih]

theorem parseShape_some {s : List UInt8} {x : Shape} (h : parseShape s = some x) : goodShape x = true ∧ shapeText x = s := by
  unfold parseShape at h
  split at h
  · rename_i a b c d e
    cases hc : goodShape ⟨(a.toNat : Int) - 48, (b.toNat : Int) - 48, (c.toNat : Int) - 48, (d.toNat : Int) - 48, (e.toNat : Int) - 48, false⟩ with
    | false => rw [hc] at h; cases h
    | true => rw [hc] at h; cases h; exact ⟨hc, by rw [text_of5 hc]; rfl⟩
  · rename_i a b c d e f
    cases hf : f == 115 with
    | false => rw [hf] at h; cases h
    | true =>
      rw [hf] at h
      cases hc : goodShape ⟨(a.toNat : Int) - 48, (b.toNat : Int) - 48, (c.toNat : Int) - 48, (d.toNat : Int) - 48, (e.toNat : Int) - 48, true⟩ with
      | false => rw [hc] at h; cases h
      | true =>
        rw [hc] at h
        cases h
        rw [beq_iff_eq] at hf
        subst hf
        exact ⟨hc, by rw [text_of5 hc]; rfl⟩
  · cases h

theorem letter_back {b : UInt8} (h : 0 ≤ letterIx b) : dirLetter (letterIx b) = b := by
  have key : ∀ (l : List UInt8), 0 ≤ Lib.indexByte l b → l.getD (Lib.indexByte l b).toNat 0 = b := by
    intro l
    induction l with
    | nil => intro h; simp [Lib.indexByte] at h
    | cons x l ih =>
      intro h
      rcases Bool.eq_false_or_eq_true (x == b) with hx | hx
      · simp only [Lib.indexByte, hx, if_true]
        rw [beq_iff_eq] at hx
        simp [hx]
      · have hge := Lib.indexByte_ge l b
        rcases Bool.eq_false_or_eq_true (Lib.indexByte l b == -1) with h1 | h1
        · simp [Lib.indexByte, hx, h1] at h
        · have h2 : 0 ≤ Lib.indexByte l b := by
            have : Lib.indexByte l b ≠ -1 := by simpa using h1
            omega
          simp only [Lib.indexByte, hx, h1, Bool.false_eq_true, if_false]
          have := ih h2
          rw [show (Lib.indexByte l b + 1).toNat = (Lib.indexByte l b).toNat + 1 by omega, List.getD_cons_succ]
          exact this
  exact key dirL h

theorem parseOrient_some {s : List UInt8} {o : Orient} (h : parseOrient s = some o) : goodOrient o = true ∧ orientText o = s := by
  unfold parseOrient at h
  split at h
  · rename_i a b
    cases hc : goodOrient ⟨letterIx a, letterIx b⟩ with
    | false => rw [hc] at h; cases h
    | true =>
      rw [hc] at h
      cases h
      obtain ⟨h1, h2⟩ := good_dirs hc
      exact ⟨hc, by simp only [orientText, letter_back (inR_iff.1 h1).1, letter_back (inR_iff.1 h2).1]⟩
  · cases h

theorem parsePlace_some {s : List UInt8} {p : Plc} (h : parsePlace s = some p) : goodPlace p = true ∧ placeText p = s := by
  have h1 := List.mem_of_find?_eq_some h
  have h2 := List.find?_some h
  exact ⟨allPlaces_good p h1, by simpa using h2⟩

theorem readHand_good {s : List UInt8} (h : (readHand s).2.1 = 0) : goodHand (readHand s).1 = true ∧ handText (readHand s).1 = s := by
  have hu := unsplit_split 47 s
  unfold readHand at h ⊢
  revert hu h
  generalize splitL 47 s = l
  intro h hu
  unfold readParts at h ⊢
  split at h
  · rename_i a b c d
    cases h1 : parseShape a with
    | none => rw [h1] at h; simp at h
    | some x =>
      rw [h1] at h
      cases h2 : parseOrient b with
      | none => rw [h2] at h; simp at h
      | some y =>
        rw [h2] at h
        cases h3 : parsePlace c with
        | none => rw [h3] at h; simp at h
        | some z =>
          rw [h3] at h
          cases h4 : parseMov d with
          | none => rw [h4] at h; simp at h
          | some w =>
            obtain ⟨a1, a2⟩ := parseShape_some h1
            obtain ⟨b1, b2⟩ := parseOrient_some h2
            obtain ⟨c1, c2⟩ := parsePlace_some h3
            obtain ⟨d1, d2⟩ := parseMov_some h4
            refine ⟨by simp [goodHand, a1, b1, c1, d1], ?_⟩
            rw [← hu]
            simp only [handText, a2, b2, c2, d2, unsplit]
  · simp at h

theorem readHand_text {h : Hand} (hg : goodHand h = true) : readHand (handText h) = (h, 0, 0) := by
  obtain ⟨g1, g2, g3, g4⟩ := goodHand_iff.1 hg
  simp only [readHand, (handText_facts hg).2.2, readParts, (shapeText_facts g1).2.2, (orientText_facts g2).2.2, (placeText_facts g3).2.2, parseMov_text g4]

/-- A sign with a text; or what is wrong, and where. -/
def readSign (s : List UInt8) : Sign × Int × Int :=
  match splitL 43 s with
  | [a] => bif (readHand a).2.1 == 0 then (⟨(readHand a).1, false, .zero⟩, 0, 0) else (.zero, (readHand a).2.1, (readHand a).2.2)
  | [a, b] =>
    bif (readHand a).2.1 == 0 then
      bif (readHand b).2.1 == 0 then
        bif keep (readHand a).1 (readHand b).1 then (⟨(readHand a).1, true, (readHand b).1⟩, 0, 0) else (.zero, 7, (a.length : Int) + 1)
      else (.zero, (readHand b).2.1, (a.length : Int) + 1 + (readHand b).2.2)
    else (.zero, (readHand a).2.1, (readHand a).2.2)
  | _ => (.zero, 1, 0)
def okReadS (r : Sign × Int × Int) : List PV := [.agg r.1.cells, I r.2.1, I r.2.2]

theorem readHand_at (s : List UInt8) : 0 ≤ (readHand s).2.2 ∧ (readHand s).2.2 ≤ 3 * (s.length : Int) + 3 := by
  have hlen := splitL_len 47 s
  unfold readHand
  revert hlen
  generalize splitL 47 s = l
  intro hlen
  unfold readParts
  split
  · rename_i a b c d
    have l1 := hlen a (by simp)
    have l2 := hlen b (by simp)
    have l3 := hlen c (by simp)
    cases parseShape a with
    | none => simp; omega
    | some x =>
      cases parseOrient b with
      | none => simp; omega
      | some y =>
        cases parsePlace c with
        | none => simp; omega
        | some z =>
          cases parseMov d with
          | none => simp; omega
          | some w => simp; omega
  · simp; omega

theorem k_paParse (m : Nat) (s : List UInt8) (hs : s.length < 4294967281) : Call (m + 29) 25 [Sg (bs s)] = some (okReadS (readSign s)) := by
  apply c25
  have hsp := fun m => k_l1Split m s 43 hs
  simp at hsp
  have hlen := splitL_len 43 s
  unfold readSign
  simp [s25, hsp, texts_len]
  rcases hw : splitL 43 s with _ | ⟨a, _ | ⟨b, _ | ⟨c, r⟩⟩⟩
  · exact absurd hw (splitL_ne 43 s)
  · rw [hw] at hlen
    have l1 := hlen a (by simp)
    simp [texts, eltS, k_paHand _ a (by omega), okRead]
    have e : ((readHand a).2.1 != 0) = !((readHand a).2.1 == 0) := rfl
    simp [e]
    cases h : (readHand a).2.1 == 0 <;> simp [okReadS]
  · rw [hw] at hlen
    have l1 := hlen a (by simp)
    have l2 := hlen b (by simp)
    have ha := readHand_at b
    have e1 : wr ((a.length : Int) + 1) = (a.length : Int) + 1 := wr_eq (by omega) (by omega)
    have e2 : wr ((a.length : Int) + 1 + (readHand b).2.2) = (a.length : Int) + 1 + (readHand b).2.2 := wr_eq (by omega) (by omega)
    have ea : ((readHand a).2.1 != 0) = !((readHand a).2.1 == 0) := rfl
    have eb : ((readHand b).2.1 != 0) = !((readHand b).2.1 == 0) := rfl
    simp [texts, eltS, k_paHand _ a (by omega), k_paHand _ b (by omega), okRead, ea]
    cases h : (readHand a).2.1 == 0
    · simp [okReadS]
    · simp [k_paHand _ b (by omega : b.length < 4294967281), okRead, eb]
      cases h2 : (readHand b).2.1 == 0
      · simp [okReadS, e1, e2]
      · rw [beq_iff_eq] at h h2
        have ga := (goodHand_iff.1 (readHand_good h).1).2.2.2
        have gb := (goodHand_iff.1 (readHand_good h2).1).2.2.2
        simp [k_siBroken _ _ _ ga gb, e1]
        have ec : (broken (readHand a).1 (readHand b).1 != 0) = !keep (readHand a).1 (readHand b).1 := rfl
        simp [ec]
        cases keep (readHand a).1 (readHand b).1 <;> simp [okReadS]
  · have e2 : decide (2 < ((r.length : Int) + 1 + 1 + 1)) = true := by simp; omega
    simp [texts, e2, okReadS]

/-- What strings.Count and Cut tell of the pieces. -/
theorem split_count (c : UInt8) : ∀ l : List UInt8, (splitL c l).length = l.count c + 1
  | [] => rfl
  | b :: l => by
    have ih := split_count c l
    rw [splitL, List.count_cons]
    cases b == c
    · simp only [cond_false, Bool.false_eq_true, if_false]
      split
      · rename_i h; exact absurd h (splitL_ne c l)
      · rename_i x r h; rw [h] at ih; simpa using ih
    · simp [ih]

theorem cut_split1 {c : UInt8} : ∀ {l a : List UInt8}, splitL c l = [a] → cutL c l = (a, [], false)
  | [], a, h => by simp [splitL] at h; subst h; rfl
  | b :: l, a, h => by
    rw [splitL] at h
    rw [cutL]
    cases hb : b == c
    · rw [hb, cond_false] at h
      split at h
      · rename_i h2; exact absurd h2 (splitL_ne c l)
      · rename_i x r h2
        cases h
        rw [cut_split1 h2]
        rfl
    · rw [hb, cond_true] at h
      have := splitL_ne c l
      simp_all

theorem cut_split2 {c : UInt8} : ∀ {l a b : List UInt8}, splitL c l = [a, b] → cutL c l = (a, b, true)
  | [], a, b, h => by simp [splitL] at h
  | x :: l, a, b, h => by
    rw [splitL] at h
    rw [cutL]
    cases hb : x == c
    · rw [hb, cond_false] at h
      split at h
      · cases h
      · rename_i y r h2
        cases h
        rw [cut_split2 h2]
        rfl
    · rw [hb, cond_true] at h
      simp only [List.cons.injEq] at h
      obtain ⟨rfl, h⟩ := h
      have := cut_whole h
      simp [this]
where
  cut_whole {c : UInt8} : ∀ {l b : List UInt8}, splitL c l = [b] → l = b
    | [], b, h => by simp [splitL] at h; exact h.symm
    | x :: l, b, h => by
      rw [splitL] at h
      cases hb : x == c
      · rw [hb, cond_false] at h
        split at h
        · rename_i h2; exact absurd h2 (splitL_ne c l)
        · rename_i y r h2
          cases h
          rw [cut_whole h2]
      · rw [hb, cond_true] at h
        have := splitL_ne c l
        simp_all

theorem k_readSign (m : Nat) (s : List UInt8) (hs : s.length < 4294967281) : Call (m + 10) 30 [Sg (bs s)] = some (okReadS (readSign s)) := by
  apply c30
  have hlen := splitL_len 43 s
  have hcnt := split_count 43 s
  unfold readSign
  simp [s30, k_Count]
  rcases hw : splitL 43 s with _ | ⟨a, _ | ⟨b, _ | ⟨c, r⟩⟩⟩
  · exact absurd hw (splitL_ne 43 s)
  · rw [hw] at hlen hcnt
    have l1 := hlen a (by simp)
    have e1 : decide (1 < ((s.count 43 : Nat) : Int)) = false := by simp at hcnt ⊢; omega
    have hcut := fun m => k_Cut m s 43 hs
    rw [cut_split1 hw] at hcut
    have e : ((readHand a).2.1 != 0) = !((readHand a).2.1 == 0) := rfl
    simp [e1, hcut, k_readHand _ a (by omega), okRead, e]
    cases h : (readHand a).2.1 == 0 <;> simp [okReadS]
  · rw [hw] at hlen hcnt
    have l1 := hlen a (by simp)
    have l2 := hlen b (by simp)
    have ha := readHand_at b
    have e1 : decide (1 < ((s.count 43 : Nat) : Int)) = false := by simp at hcnt ⊢; omega
    have hcut := fun m => k_Cut m s 43 hs
    rw [cut_split2 hw] at hcut
    have e2 : wr ((a.length : Int) + 1) = (a.length : Int) + 1 := wr_eq (by omega) (by omega)
    have e3 : wr ((a.length : Int) + 1 + (readHand b).2.2) = (a.length : Int) + 1 + (readHand b).2.2 := wr_eq (by omega) (by omega)
    have ea : ((readHand a).2.1 != 0) = !((readHand a).2.1 == 0) := rfl
    have eb : ((readHand b).2.1 != 0) = !((readHand b).2.1 == 0) := rfl
    simp [e1, hcut, k_readHand _ a (by omega), okRead, ea]
    cases h : (readHand a).2.1 == 0
    · simp [okReadS]
    · simp [k_readHand _ b (by omega : b.length < 4294967281), okRead, eb]
      cases h2 : (readHand b).2.1 == 0
      · simp [okReadS, e2, e3]
      · rw [beq_iff_eq] at h h2
        have ga := (goodHand_iff.1 (readHand_good h).1).2.2.2
        have gb := (goodHand_iff.1 (readHand_good h2).1).2.2.2
        simp [k_keepRules _ _ _ ga gb, e2]
        cases keep (readHand a).1 (readHand b).1 <;> simp [okReadS]
  · rw [hw] at hcnt
    have e2 : decide (1 < ((s.count 43 : Nat) : Int)) = true := by simp at hcnt ⊢; omega
    simp [e2, okReadS]
end Go.Proofs.YtajjinfjfiacbaaGreatDoor
end

section
/- Short texts. -/
set_option linter.unusedSimpArgs false
set_option linter.unusedVariables false
namespace Go.Proofs.YtajjinfjfiacbaaGreatDoor
open Go Go.Evp
attribute [-simp] cond_true cond_false

def shortParts (a b : Hand) : List (List UInt8) :=
  [bif decide (a.sh = b.sh) then [61] else shapeText b.sh, bif decide (a.o = b.o) then [61] else orientText b.o, bif decide (a.p = b.p) then [61] else placeText b.p, bif decide (a.m = b.m) then [61] else movText b.m]
def shortText (s : Sign) : List UInt8 := bif s.two then handText s.main ++ 43 :: Lib.join (shortParts s.main s.other) [47] else handText s.main

theorem k_same (m : Nat) (a b : Hand) : Call (m + 1) 66 [.agg a.cells, .agg b.cells] = some [.sl 1 [B (decide (a.sh = b.sh)), B (decide (a.o = b.o)), B (decide (a.p = b.p)), B (decide (a.m = b.m))]] := by
  apply c66
  simp [s66, Shape.eqC, Orient.eqC, Plc.eqC, Mov.eqC, PV.flat]

theorem short_len {a b : Hand} (hb : goodHand b = true) : (shortParts a b).length = 4 ∧ (Lib.join (shortParts a b) [47]).length ≤ 40 := by
  obtain ⟨g1, g2, g3, g4⟩ := goodHand_iff.1 hb
  obtain ⟨a1, a2, _⟩ := shapeText_facts g1
  obtain ⟨b1, b2, _⟩ := orientText_facts g2
  obtain ⟨c1, c2, _⟩ := placeText_facts g3
  obtain ⟨d1, d2⟩ := movText_facts g4
  refine ⟨rfl, ?_⟩
  simp only [shortParts, Lib.join, List.intercalate]
  cases decide (a.sh = b.sh) <;> cases decide (a.o = b.o) <;> cases decide (a.p = b.p) <;> cases decide (a.m = b.m) <;> simp <;> omega

theorem k_short (m : Nat) (s : Sign) (ha : goodHand s.main = true) (hb : s.two = true → goodHand s.other = true) : Call (m + 4) 31 [.agg s.cells] = some [Sg (bs (shortText s))] := by
  apply c31
  unfold shortText
  simp [s31]
  cases h2 : s.two
  · simp [k_handText _ _ ha]
  · have hb := hb h2
    obtain ⟨_, l1, _⟩ := handText_facts ha
    obtain ⟨_, l2, hsp⟩ := handText_facts hb
    obtain ⟨l3, l4⟩ := short_len (a := s.main) hb
    have hj := fun m => k_Join m (shortParts s.main s.other) [47] (by rw [l3]; omega) (by omega)
    have a1 := binPV_add (handText s.main) [43] (by simp; omega)
    have a2 := binPV_add (handText s.main ++ [43]) (Lib.join (shortParts s.main s.other) [47]) (by simp; omega)
    simp [k_handText _ _ hb, k_Split _ (handText s.other) 47 (by omega), hsp, k_same]
    refine iterK_unroll fun k => ?_
    have e : texts (shortParts s.main s.other) = [Sg (bs (bif decide (s.main.sh = s.other.sh) then [61] else shapeText s.other.sh)), Sg (bs (bif decide (s.main.o = s.other.o) then [61] else orientText s.other.o)),
      Sg (bs (bif decide (s.main.p = s.other.p) then [61] else placeText s.other.p)), Sg (bs (bif decide (s.main.m = s.other.m) then [61] else movText s.other.m))] := rfl
    rw [e] at hj
    generalize decide (s.main.sh = s.other.sh) = p0 at *
    generalize decide (s.main.o = s.other.o) = p1 at *
    generalize decide (s.main.p = s.other.p) = p2 at *
    generalize decide (s.main.m = s.other.m) = p3 at *
    cases p0 <;> cases p1 <;> cases p2 <;> cases p3
    all_goals
      simp at hj
      rw [iterK_succ]; simp [eltS, texts, wr_eq]
      rw [iterK_succ]; simp [eltS, texts, wr_eq]
      rw [iterK_succ]; simp [eltS, texts, wr_eq]
      rw [iterK_succ]; simp [eltS, texts, wr_eq]
      rw [iterK_succ]; simp [k_handText _ _ ha, a1, hj, a2]

theorem text_inj {a b : Hand} (ha : goodHand a = true) (hb : goodHand b = true) :
    (shapeText b.sh == shapeText a.sh) = decide (a.sh = b.sh) ∧ (orientText b.o == orientText a.o) = decide (a.o = b.o) ∧ (placeText b.p == placeText a.p) = decide (a.p = b.p) ∧ (movText b.m == movText a.m) = decide (a.m = b.m) := by
  obtain ⟨g1, g2, g3, g4⟩ := goodHand_iff.1 ha
  obtain ⟨f1, f2, f3, f4⟩ := goodHand_iff.1 hb
  have key : ∀ {α : Type} [DecidableEq α] (p : List UInt8 → Option α) (t : α → List UInt8) (x y : α), p (t x) = some x → p (t y) = some y → (t y == t x) = decide (x = y) := by
    intro α _ p t x y hx hy
    rw [Bool.eq_iff_iff, beq_iff_eq, decide_eq_true_eq]
    exact ⟨fun h => by rw [h, hx] at hy; exact Option.some.inj hy, fun h => by rw [h]⟩
  exact ⟨key parseShape _ _ _ (shapeText_facts g1).2.2 (shapeText_facts f1).2.2, key parseOrient _ _ _ (orientText_facts g2).2.2 (orientText_facts f2).2.2,
    key parsePlace _ _ _ (placeText_facts g3).2.2 (placeText_facts f3).2.2, key parseMov _ _ _ (parseMov_text g4) (parseMov_text f4)⟩

theorem k_paText (m : Nat) (s : Sign) (ha : goodHand s.main = true) (hb : s.two = true → goodHand s.other = true) : Call (m + 28) 56 [.agg s.cells] = some [Sg (bs (bif s.two then handText s.main ++ 43 :: handText s.other else handText s.main))] := by
  apply c56
  obtain ⟨_, l1, _⟩ := handText_facts ha
  simp [s56]
  cases h2 : s.two
  · simp [k_siText _ _ ha]
  · have hb := hb h2
    obtain ⟨_, l2, _⟩ := handText_facts hb
    have a1 := binPV_add (handText s.main) [43] (by simp; omega)
    have a2 := binPV_add (handText s.main ++ [43]) (handText s.other) (by simp; omega)
    simp [k_siText _ _ ha, k_siText _ _ hb, a1, a2]

theorem k_paShort (m : Nat) (s : Sign) (ha : goodHand s.main = true) (hb : s.two = true → goodHand s.other = true) : Call (m + 29) 26 [.agg s.cells] = some [Sg (bs (shortText s))] := by
  apply c26
  unfold shortText
  simp [s26]
  cases h2 : s.two
  · have := fun m => k_paText m s ha hb
    simp [h2] at this
    simp [this]
  · have hb := hb h2
    obtain ⟨_, l1, hsp1⟩ := handText_facts ha
    obtain ⟨_, l2, hsp2⟩ := handText_facts hb
    have s1 := fun m => k_l1Split m (handText s.main) 47 (by omega)
    have s2 := fun m => k_l1Split m (handText s.other) 47 (by omega)
    simp [hsp1] at s1
    simp [hsp2] at s2
    obtain ⟨t1, t2, t3, t4⟩ := text_inj ha hb
    obtain ⟨g1, g2, g3, g4⟩ := goodHand_iff.1 hb
    have b1 := (shapeText_facts g1).2.1
    have b2 := (orientText_facts g2).2.1
    have b3 := (placeText_facts g3).2.1
    have b4 := (movText_facts g4).2
    have a1 := binPV_add (handText s.main) [43] (by simp; omega)
    have hj : Lib.join (shortParts s.main s.other) [47] = (bif decide (s.main.sh = s.other.sh) then [61] else shapeText s.other.sh) ++ 47 :: ((bif decide (s.main.o = s.other.o) then [61] else orientText s.other.o) ++ 47 :: ((bif decide (s.main.p = s.other.p) then [61] else placeText s.other.p) ++ 47 :: (bif decide (s.main.m = s.other.m) then [61] else movText s.other.m))) := by
      simp [Lib.join, List.intercalate, shortParts]
    simp [k_siText _ _ ha, k_siText _ _ hb, s1, s2, a1, hj]
    refine iterK_unroll fun k => ?_
    have add : ∀ (x y : List UInt8), x.length + y.length ≤ 1000 → binPV none false .add (Sg (bs x)) (Sg (bs y)) = some (Sg (bs (x ++ y))) := fun x y h => binPV_add x y (by omega)
    generalize decide (s.main.sh = s.other.sh) = p0 at *
    generalize decide (s.main.o = s.other.o) = p1 at *
    generalize decide (s.main.p = s.other.p) = p2 at *
    generalize decide (s.main.m = s.other.m) = p3 at *
    rw [iterK_succ]; simp [eltS, texts, wr_eq, t1]
    cases p0
    all_goals
      simp [wr_eq]
      rw [add _ _ (by simp; omega)]; simp
      rw [iterK_succ]; simp [eltS, texts, wr_eq, t2]
      rw [add _ _ (by simp; omega)]; simp [eltS, t2]
      cases p1
    all_goals
      simp [wr_eq]
      rw [add _ _ (by simp; omega)]; simp
      rw [iterK_succ]; simp [eltS, texts, wr_eq, t3]
      rw [add _ _ (by simp; omega)]; simp [eltS, t3]
      cases p2
    all_goals
      simp [wr_eq]
      rw [add _ _ (by simp; omega)]; simp
      rw [iterK_succ]; simp [eltS, texts, wr_eq, t4]
      rw [add _ _ (by simp; omega)]; simp [eltS, t4]
      cases p3
    all_goals
      simp [wr_eq]
      rw [add _ _ (by simp; omega)]; simp
      rw [iterK_succ]; simp
end Go.Proofs.YtajjinfjfiacbaaGreatDoor
end

section
/- Short texts read back. -/
set_option linter.unusedSimpArgs false
set_option linter.unusedVariables false
namespace Go.Proofs.YtajjinfjfiacbaaGreatDoor
open Go Go.Evp
attribute [-simp] cond_true cond_false

def okSign (o : Option Sign) : List PV := [.agg (o.getD .zero).cells, B o.isSome]

theorem readSign_good {s : List UInt8} (h : (readSign s).2.1 = 0) : goodHand (readSign s).1.main = true ∧ ((readSign s).1.two = true → goodHand (readSign s).1.other = true ∧ keep (readSign s).1.main (readSign s).1.other = true) ∧ ((readSign s).1.two = false → (readSign s).1.other = .zero) := by
  unfold readSign at h ⊢
  split at h
  · rename_i a _
    cases h1 : (readHand a).2.1 == 0 with
    | false =>
      rw [h1, cond_false] at h
      simp only at h
      rw [h] at h1
      cases h1
    | true =>
      rw [beq_iff_eq] at h1
      have := (readHand_good h1).1
      simp [this]
  · rename_i a b _
    cases h1 : (readHand a).2.1 == 0 with
    | false =>
      rw [h1, cond_false] at h
      simp only at h
      rw [h] at h1
      cases h1
    | true =>
      rw [h1, cond_true] at h
      cases h2 : (readHand b).2.1 == 0 with
      | false =>
        rw [h2, cond_false] at h
        simp only at h
        rw [h] at h2
        cases h2
      | true =>
        rw [h2, cond_true] at h
        cases h3 : keep (readHand a).1 (readHand b).1 with
        | false => rw [h3] at h; simp at h
        | true =>
          rw [beq_iff_eq] at h1 h2
          have k1 := (readHand_good h1).1
          have k2 := (readHand_good h2).1
          simp [k1, k2, h3]
  · simp at h

def expand1 (p o : List UInt8) : List UInt8 := bif p == [61] then o else p
def fullText (s : List UInt8) : Option (List UInt8) :=
  bif (cutL 43 s).2.2 then
    match splitL 47 (cutL 43 s).2.1, splitL 47 (cutL 43 s).1 with
    | [p0, p1, p2, p3], [o0, o1, o2, o3] => some ((cutL 43 s).1 ++ 43 :: (expand1 p0 o0 ++ 47 :: (expand1 p1 o1 ++ 47 :: (expand1 p2 o2 ++ 47 :: expand1 p3 o3))))
    | _, _ => none
  else some s
def finShort (s f : List UInt8) : Option Sign := bif (readSign f).2.1 == 0 then bif shortText (readSign f).1 == s then some (readSign f).1 else none else none
def parseShort (s : List UInt8) : Option Sign :=
  bif decide (200 < s.length) then none else match fullText s with | some f => finShort s f | none => none

theorem expand1_len (p o : List UInt8) : (expand1 p o).length ≤ p.length + o.length := by
  unfold expand1
  cases p == [61] <;> simp

theorem k_ParseShort (m : Nat) (s : List UInt8) (hs : s.length < 4294967281) : Call (m + 11) 10 [Sg (bs s)] = some (okSign (parseShort s)) := by
  apply c10
  unfold parseShort
  simp [s10]
  by_cases hl : 200 < s.length
  · have : decide ((200 : Int) < (s.length : Int)) = true := by simp; omega
    simp [this, hl, okSign]
  · have h1 : decide ((200 : Int) < (s.length : Int)) = false := by simp; omega
    have h2 : decide (200 < s.length) = false := by simp; omega
    obtain ⟨l1, l2⟩ := cutL_len 43 s
    simp [h1, h2, k_Cut _ _ _ hs]
    have fin : ∀ f : List UInt8, f.length < 100000 → (optC (callN (Bk.env FU0) (m + 10) 30 [Sg (bs f)]) fun rs89 => popA rs89 fun cs91 r90 => popI .i64 r90 fun n93 r92 => popI .i64 r92 fun n95 r94 => popN r94 (
        optC (putPart [I 0, I 0, I 0, I 0, I 0, B false, I 0, I 0, I 0, I 0, B false, Sg (bs []), I 0, B false, I 0, I 0, I 0, I 0, I 0, B false, I 0, I 0, I 0, I 0, B false, Sg (bs []), I 0] 0 27 (.agg cs91)) fun cs96 =>
        bif n93 != 0 then some [.agg Sign.zero.cells, B false] else
        optA (partA cs96 0 27) fun cs100 => optC (callN (Bk.env FU0) (m + 10) 31 [.agg cs100]) fun rs101 => popS rs101 fun s103 r102 => popN r102 (
          bif s103.toList == s then optA (partA cs96 0 27) fun cs107 => optC (putPart [I 0, I 0, I 0, I 0, I 0, B false, I 0, I 0, I 0, I 0, B false, Sg (bs []), I 0, B false, I 0, I 0, I 0, I 0, I 0, B false, I 0, I 0, I 0, I 0, B false, Sg (bs []), I 0] 0 27 (.agg cs107)) fun cs108 =>
            optA (partA cs108 0 27) fun cs109 => chk (cs109.all PV.isV) (some [.agg cs109, B true]) else some [.agg Sign.zero.cells, B false]))) = some (okSign (finShort s f)) := by
      intro f hf
      unfold finShort
      have ea : ((readSign f).2.1 != 0) = !((readSign f).2.1 == 0) := rfl
      simp [k_readSign _ f (by omega), okReadS, ea]
      cases h : (readSign f).2.1 == 0
      · simp [okSign]
      · rw [beq_iff_eq] at h
        obtain ⟨g1, g2, g3⟩ := readSign_good h
        simp [k_short _ _ g1 (fun h => (g2 h).1)]
        cases shortText (readSign f).1 == s <;> simp [okSign]
    cases hf : (cutL 43 s).2.2
    · have hc : (cutL 43 s).1 = s := by
        rcases indexByte_cut 43 s with ⟨_, h⟩ | ⟨i, _, _, h⟩
        · rw [h]
        · rw [h] at hf; cases hf
      have hft : fullText s = some s := by simp [fullText, hf]
      rw [hft]
      simp only [cond_false']
      rw [hc]
      exact fin s (by omega)
    · have hjn : ∀ (q0 q1 q2 q3 : List UInt8), q0.length + q1.length + q2.length + q3.length ≤ 10000 → callN (Bk.env FU0) (m + 10) 29 [.sl 1 [Sg (bs q0), Sg (bs q1), Sg (bs q2), Sg (bs q3)], Sg (bs [47])] = some [Sg (bs (q0 ++ 47 :: (q1 ++ 47 :: (q2 ++ 47 :: q3))))] := by
        intro q0 q1 q2 q3 hq
        have hj : Lib.join [q0, q1, q2, q3] [47] = q0 ++ 47 :: (q1 ++ 47 :: (q2 ++ 47 :: q3)) := by simp [Lib.join, List.intercalate]
        have := k_Join (m + 9) [q0, q1, q2, q3] [47] (by simp) (by rw [hj]; simp; omega)
        rw [hj] at this
        exact this
      have add : ∀ (x y : List UInt8), x.length + y.length ≤ 100000 → binPV none false .add (Sg (bs x)) (Sg (bs y)) = some (Sg (bs (x ++ y))) := fun x y h => binPV_add x y (by omega)
      have lp := splitL_len 47 (cutL 43 s).2.1
      have lo := splitL_len 47 (cutL 43 s).1
      simp [k_Split _ (cutL 43 s).2.1 47 (by omega), k_Split _ (cutL 43 s).1 47 (by omega), texts_len]
      have five : ∀ r : List (List UInt8), (((r.length : Int) + 1 + 1 + 1 + 1 + 1) != 4) = true := fun r => by simp only [bne_iff_ne, ne_eq]; omega
      rcases hP : splitL 47 (cutL 43 s).2.1 with _ | ⟨p0, _ | ⟨p1, _ | ⟨p2, _ | ⟨p3, _ | ⟨p4, r⟩⟩⟩⟩⟩
      · simp [fullText, hf, hP, okSign]
      · simp [fullText, hf, hP, okSign]
      · simp [fullText, hf, hP, okSign]
      · simp [fullText, hf, hP, okSign]
      · rcases hO : splitL 47 (cutL 43 s).1 with _ | ⟨o0, _ | ⟨o1, _ | ⟨o2, _ | ⟨o3, _ | ⟨o4, r⟩⟩⟩⟩⟩
        · simp [fullText, hf, hP, hO, okSign]
        · simp [fullText, hf, hP, hO, okSign]
        · simp [fullText, hf, hP, hO, okSign]
        · simp [fullText, hf, hP, hO, okSign]
        · rw [hP] at lp
          rw [hO] at lo
          have lp0 := lp p0 (by simp)
          have lp1 := lp p1 (by simp)
          have lp2 := lp p2 (by simp)
          have lp3 := lp p3 (by simp)
          have lo0 := lo o0 (by simp)
          have lo1 := lo o1 (by simp)
          have lo2 := lo o2 (by simp)
          have lo3 := lo o3 (by simp)
          simp [fullText, hf, hP, hO]
          refine iterK_unroll fun k => ?_
          rw [iterK_succ]; simp [eltS, texts, wr_eq]
          cases h0 : p0 == [61]
          all_goals
            simp
            rw [iterK_succ]; simp [eltS, wr_eq]
            cases h1 : p1 == [61]
          all_goals
            simp
            rw [iterK_succ]; simp [eltS, wr_eq]
            cases h2 : p2 == [61]
          all_goals
            simp
            rw [iterK_succ]; simp [eltS, wr_eq]
            cases h3 : p3 == [61]
          all_goals
            simp
            rw [iterK_succ]; simp
            rw [hjn _ _ _ _ (by omega)]
            simp
            rw [add _ _ (by simp; omega)]
            simp
            rw [add _ _ (by simp; omega)]
            simp [expand1, h0, h1, h2, h3]
            exact fin _ (by simp; omega)
        · simp [fullText, hf, hP, hO, okSign, five]
      · simp [fullText, hf, hP, okSign, five]
end Go.Proofs.YtajjinfjfiacbaaGreatDoor
end

section
/- The law on short texts. -/
set_option linter.unusedSimpArgs false
set_option linter.unusedVariables false
namespace Go.Proofs.YtajjinfjfiacbaaGreatDoor
open Go Go.Evp
attribute [-simp] cond_true cond_false

theorem cutL_join {c : UInt8} : ∀ {l : List UInt8}, (cutL c l).2.2 = true → l = (cutL c l).1 ++ c :: (cutL c l).2.1
  | [], h => by simp [cutL] at h
  | b :: l, h => by
    rw [cutL] at h ⊢
    rcases Bool.eq_false_or_eq_true (b == c) with hb | hb
    · rw [hb, cond_true]
      rw [beq_iff_eq] at hb
      simp [hb]
    · rw [hb, cond_false] at h ⊢
      have := cutL_join (l := l) h
      simp only [List.cons_append]
      rw [← this]
theorem cutL_found {c : UInt8} : ∀ {l : List UInt8}, 0 < l.count c → (cutL c l).2.2 = true
  | [], h => by simp at h
  | b :: l, h => by
    rw [cutL]
    rcases Bool.eq_false_or_eq_true (b == c) with hb | hb
    · rw [hb]; rfl
    · rw [hb, cond_false]
      rw [List.count_cons, hb] at h
      exact cutL_found (by simpa using h)
theorem cutL_clean {c : UInt8} : ∀ {l : List UInt8}, (cutL c l).1.count c = 0
  | [] => by simp [cutL]
  | b :: l => by
    rw [cutL]
    rcases Bool.eq_false_or_eq_true (b == c) with hb | hb
    · rw [hb]; rfl
    · rw [hb, cond_false]
      simp only [List.count_cons, hb, cutL_clean (l := l)]
      rfl

theorem expand1_count (p o : List UInt8) : p.count 43 ≤ (expand1 p o).count 43 := by
  unfold expand1
  rcases Bool.eq_false_or_eq_true (p == [61]) with h | h
  · rw [beq_iff_eq] at h
    subst h
    exact Nat.zero_le _
  · rw [h, cond_false]; exact Nat.le_refl _

theorem three_none {s : List UInt8} (h : 2 < (splitL 43 s).length) : ∀ f, fullText s = some f → finShort s f = none := by
  rw [split_count] at h
  have hf := cutL_found (c := 43) (l := s) (by omega)
  have hj := cutL_join hf
  have hc := cutL_clean (c := 43) (l := s)
  have hcs : 1 ≤ (cutL 43 s).2.1.count 43 := by
    have : s.count 43 = ((cutL 43 s).1 ++ 43 :: (cutL 43 s).2.1).count 43 := by rw [← hj]
    rw [List.count_append, List.count_cons, hc] at this
    simp at this
    omega
  unfold fullText
  rw [hf, cond_true]
  · intro f hff
    split at hff
    · rename_i p0 p1 p2 p3 o0 o1 o2 o3 hp ho
      cases hff
      have hu := unsplit_split 47 (cutL 43 s).2.1
      rw [hp] at hu
      simp only [unsplit] at hu
      rw [← hu] at hcs
      have c0 := expand1_count p0 o0
      have c1 := expand1_count p1 o1
      have c2 := expand1_count p2 o2
      have c3 := expand1_count p3 o3
      have hcount : 2 < (splitL 43 ((cutL 43 s).1 ++ 43 :: (expand1 p0 o0 ++ 47 :: (expand1 p1 o1 ++ 47 :: (expand1 p2 o2 ++ 47 :: expand1 p3 o3))))).length := by
        rw [split_count]
        simp only [List.count_append, List.count_cons, hc] at hcs ⊢
        simp at hcs ⊢
        omega
      have : ∀ f : List UInt8, 2 < (splitL 43 f).length → finShort s f = none := by
        intro f hf3
        have : (readSign f).2.1 = 1 := by
          unfold readSign
          split
          · rename_i h2; rw [h2] at hf3; simp at hf3
          · rename_i h2; rw [h2] at hf3; simp at hf3
          · rfl
        simp [finShort, this]
      exact this _ hcount
    · cases hff

theorem k_spParseShort (m : Nat) (s : List UInt8) (hs : s.length < 4294967281) : Call (m + 30) 9 [Sg (bs s)] = some (okSign (parseShort s)) := by
  apply c9
  unfold parseShort
  have hgiven : ∀ m, Call (m + 1) 23 [Sg (bs s)] = some [B (decide ((s.length : Int) ≤ 200))] := by
    intro m
    apply c23
    simp [s23]
  have hsp := fun m => k_l1Split m s 43 hs
  simp at hsp
  have hlen := splitL_len 43 s
  simp [s9, hgiven]
  by_cases hl : 200 < s.length
  · have : decide ((s.length : Int) ≤ 200) = false := by simp; omega
    simp [this, hl, okSign]
  · have h1 : decide ((s.length : Int) ≤ 200) = true := by simp; omega
    have h2 : decide (200 < s.length) = false := by simp; omega
    simp [h1, h2, hsp, texts_len]
    have fin : ∀ f : List UInt8, f.length < 100000 → (optC (callN (Bk.env FU0) (m + 29) 25 [Sg (bs f)]) fun rs106 => popA rs106 fun cs108 r107 => popI .i64 r107 fun n110 r109 => popI .i64 r109 fun n112 r111 => popN r111 (
        optC (putPart [I 0, I 0, I 0, I 0, I 0, B false, I 0, I 0, I 0, I 0, B false, Sg (bs []), I 0, B false, I 0, I 0, I 0, I 0, I 0, B false, I 0, I 0, I 0, I 0, B false, Sg (bs []), I 0] 0 27 (.agg cs108)) fun cs113 =>
        bif n110 != 0 then some [.agg Sign.zero.cells, B false] else
        optA (partA cs113 0 27) fun cs120 => optC (callN (Bk.env FU0) (m + 29) 26 [.agg cs120]) fun rs121 => popS rs121 fun s123 r122 => popN r122 (
          bif s123.toList == s then optA (partA cs113 0 27) fun cs127 => optC (putPart [I 0, I 0, I 0, I 0, I 0, B false, I 0, I 0, I 0, I 0, B false, Sg (bs []), I 0, B false, I 0, I 0, I 0, I 0, I 0, B false, I 0, I 0, I 0, I 0, B false, Sg (bs []), I 0] 0 27 (.agg cs127)) fun cs128 =>
            optA (partA cs128 0 27) fun cs129 => chk (cs129.all PV.isV) (some [.agg cs129, B true]) else some [.agg Sign.zero.cells, B false]))) = some (okSign (finShort s f)) := by
      intro f hf
      unfold finShort
      have ea : ((readSign f).2.1 != 0) = !((readSign f).2.1 == 0) := rfl
      simp [k_paParse _ f (by omega), okReadS, ea]
      cases h : (readSign f).2.1 == 0
      · simp [okSign]
      · rw [beq_iff_eq] at h
        obtain ⟨g1, g2, g3⟩ := readSign_good h
        simp [k_paShort _ _ g1 (fun h => (g2 h).1)]
        cases shortText (readSign f).1 == s <;> simp [okSign]
    have hu := unsplit_split 43 s
    rcases hw : splitL 43 s with _ | ⟨a, _ | ⟨b, _ | ⟨c, r⟩⟩⟩
    · exact absurd hw (splitL_ne 43 s)
    · rw [hw] at hu
      simp only [unsplit] at hu
      have hft : fullText s = some s := by simp [fullText, cut_split1 hw]
      rw [hft]
      simp [texts, eltS]
      rw [hu]
      exact fin s (by omega)
    · rw [hw] at hlen
      have la := hlen a (by simp)
      have lb := hlen b (by simp)
      have s1 := fun m => k_l1Split m a 47 (by omega)
      have s2 := fun m => k_l1Split m b 47 (by omega)
      simp at s1 s2
      have lp := splitL_len 47 b
      have lo := splitL_len 47 a
      have add : ∀ (x y : List UInt8), x.length + y.length ≤ 100000 → binPV none false .add (Sg (bs x)) (Sg (bs y)) = some (Sg (bs (x ++ y))) := fun x y h => binPV_add x y (by omega)
      have five : ∀ r : List (List UInt8), (((r.length : Int) + 1 + 1 + 1 + 1 + 1) != 4) = true := fun r => by simp only [bne_iff_ne, ne_eq]; omega
      simp [eltS, show texts [a, b] = [Sg (bs a), Sg (bs b)] from rfl, s1, s2, texts_len]
      rcases hO : splitL 47 a with _ | ⟨o0, _ | ⟨o1, _ | ⟨o2, _ | ⟨o3, _ | ⟨o4, r⟩⟩⟩⟩⟩
      · simp [fullText, cut_split2 hw, hO, okSign]
      · simp [fullText, cut_split2 hw, hO, okSign]
      · simp [fullText, cut_split2 hw, hO, okSign]
      · simp [fullText, cut_split2 hw, hO, okSign]
      · rcases hP : splitL 47 b with _ | ⟨p0, _ | ⟨p1, _ | ⟨p2, _ | ⟨p3, _ | ⟨p4, r⟩⟩⟩⟩⟩
        · simp [fullText, cut_split2 hw, hP, hO, okSign]
        · simp [fullText, cut_split2 hw, hP, hO, okSign]
        · simp [fullText, cut_split2 hw, hP, hO, okSign]
        · simp [fullText, cut_split2 hw, hP, hO, okSign]
        · rw [hP] at lp
          rw [hO] at lo
          have lp0 := lp p0 (by simp)
          have lp1 := lp p1 (by simp)
          have lp2 := lp p2 (by simp)
          have lp3 := lp p3 (by simp)
          have lo0 := lo o0 (by simp)
          have lo1 := lo o1 (by simp)
          have lo2 := lo o2 (by simp)
          have lo3 := lo o3 (by simp)
          simp [fullText, cut_split2 hw, hP, hO]
          refine iterK_unroll fun k => ?_
          rw [iterK_succ]; simp [eltS, texts, wr_eq]
          cases h0 : p0 == [61]
          all_goals
            simp
            rw [iterK_succ]; simp [eltS, wr_eq]
            cases h1 : p1 == [61]
          all_goals
            simp
            rw [iterK_succ]; simp [eltS, wr_eq]
            cases h2 : p2 == [61]
          all_goals
            simp
            rw [iterK_succ]; simp [eltS, wr_eq]
            cases h3 : p3 == [61]
          all_goals
            simp
            rw [iterK_succ]; simp [eltS]
            rw [add _ _ (by simp; omega)]; simp
            rw [add _ _ (by simp; omega)]; simp
            rw [add _ _ (by simp; omega)]; simp
            rw [add _ _ (by simp; omega)]; simp
            rw [add _ _ (by simp; omega)]; simp
            rw [add _ _ (by simp; omega)]; simp
            rw [add _ _ (by simp; omega)]; simp
            rw [add _ _ (by simp; omega)]; simp
            simp [expand1, h0, h1, h2, h3]
            exact fin _ (by simp; omega)
        · simp [fullText, cut_split2 hw, hP, hO, okSign, five]
      · simp [fullText, cut_split2 hw, hO, okSign, five]
    · have h3 := three_none (s := s) (by rw [hw]; simp)
      rw [hw] at hlen
      have la := hlen a (by simp)
      have e1 : (((r.length : Int) + 1 + 1 + 1) == 2) = false := by simp only [beq_eq_false_iff_ne, ne_eq]; omega
      have e2 : decide (2 < ((r.length : Int) + 1 + 1 + 1)) = true := by simp; omega
      cases hff : fullText s with
      | none => simp [texts, eltS, e1, k_paParse _ a (by omega), okReadS, e2, okSign]
      | some f => simp [texts, eltS, e1, k_paParse _ a (by omega), okReadS, e2, okSign, h3 f hff]
end Go.Proofs.YtajjinfjfiacbaaGreatDoor
end

section
/- A sign is itself, in the laws' own words. -/
set_option linter.unusedSimpArgs false
set_option linter.unusedVariables false
namespace Go.Proofs.YtajjinfjfiacbaaGreatDoor
open Go Go.Evp
attribute [-simp] cond_true cond_false

theorem k_eqShape (m : Nat) (x : Shape) : Call (m + 1) 51 [.agg x.cells, .agg x.cells] = some [B true] := by
  apply c51
  simp [s51]
theorem k_eqOrient (m : Nat) (x : Orient) : Call (m + 1) 52 [.agg x.cells, .agg x.cells] = some [B true] := by
  apply c52
  simp [s52]
theorem k_eqPlace (m : Nat) (x : Plc) : Call (m + 1) 53 [.agg x.cells, .agg x.cells] = some [B true] := by
  apply c53
  simp [s53]
theorem k_eqMove (m : Nat) (x : Mov) : Call (m + 1) 54 [.agg x.cells, .agg x.cells] = some [B true] := by
  apply c54
  simp [s54]
theorem k_eqHand (m : Nat) (x : Hand) : Call (m + 2) 22 [.agg x.cells, .agg x.cells] = some [B true] := by
  apply c22
  simp [s22, k_eqShape, k_eqOrient, k_eqPlace, k_eqMove]
theorem k_eqSign (m : Nat) (x : Sign) : Call (m + 3) 8 [.agg x.cells, .agg x.cells] = some [B true] := by
  apply c8
  simp [s8, k_eqHand]
end Go.Proofs.YtajjinfjfiacbaaGreatDoor
end

section
/- FnExactParseShort. -/
set_option linter.unusedSimpArgs false
set_option linter.unusedVariables false
namespace Go.Proofs.YtajjinfjfiacbaaGreatDoor
open Go Go.Evp
attribute [-simp] cond_true cond_false

theorem law_ParseShort (m : Nat) (s : List UInt8) : Call (m + 31) 4 [Sg (bs s)] = some [B true] := by
  apply c4
  simp [s4]
  cases h : decide ((1048576 : Int) < s.length)
  · have hs : s.length < 4294967281 := by simp at h; omega
    rw [cond_false]
    have h1 := fun m => k_spParseShort m s hs
    have h2 := fun m => k_ParseShort m s hs
    simp [h1, h2]
    cases parseShort s with
    | none => simp [okSign, k_eqSign]
    | some x => simp [okSign, k_eqSign]
  · rfl
end Go.Proofs.YtajjinfjfiacbaaGreatDoor
end
