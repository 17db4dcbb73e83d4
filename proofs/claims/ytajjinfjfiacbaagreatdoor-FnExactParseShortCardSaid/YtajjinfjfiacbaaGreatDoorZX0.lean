/- impl.decimal, and what is known of the package-level variables. -/
import Derived.Test.YtajjinfjfiacbaaGreatDoorZE36
import Derived.Test.YtajjinfjfiacbaaGreatDoorZL
import Derived.Test.YtajjinfjfiacbaaGreatDoorZS1
import Derived.Test.YtajjinfjfiacbaaGreatDoorZM0
import Derived.Test.YtajjinfjfiacbaaGreatDoorZE37
import Derived.Test.YtajjinfjfiacbaaGreatDoorZE25
import Derived.Test.YtajjinfjfiacbaaGreatDoorZE38
import Derived.Lib.AtoiAllCases
import Derived.KernelRfl
import Derived.Tactics
import Derived.Tactics2
import Derived.Handy
import Derived.RegionTactic
import Derived.RegionCalls
import Derived.Test.YtajjinfjfiacbaaGreatDoorRows
import Derived.ProofKit
import Derived.LaidMore
import Derived.LaidHandle
import Derived.Lay
import Derived.OpenShut
import Derived.Stop.Joined
import Derived.JoinedCond
import Derived.Deep.DeepHandedRow
import Derived.Deep.DeepWitnessRowRef
set_option linter.unusedSectionVars false
set_option linter.unusedVariables false
set_option linter.unusedSimpArgs false
set_option linter.unnecessarySimpa false
section
/- impl.decimal, and what is known of the package-level variables. -/
set_option linter.unusedSimpArgs false
set_option linter.unusedVariables false
namespace Go.Proofs.YtajjinfjfiacbaaGreatDoor
open Go Go.Evp

/-- What is known of the package-level variables. -/
structure Tabs (w : World) : Prop where
  max : ∃ m, w.cell? ⟨0, 0, none⟩ = some (.int .i64 m)
  pow : Lib.TabIs Tryz.prog w "internal/strconv.uint64pow10" .u64 Lib.pow10Tab
  syn : ∃ t e, w.cell? ⟨3, 0, none⟩ = some (.iface t e)
  rng : ∃ t e, w.cell? ⟨4, 0, none⟩ = some (.iface t e)

theorem gPow : Tryz.prog.globalNamed "internal/strconv.uint64pow10" = some 5 := by kernel_rfl

/-- The blocks in which they lie. -/
def tabBlk (b : Nat) : Prop := b = 0 ∨ b = 5 ∨ b = 3 ∨ b = 4

theorem Tabs.congr {w w' : World} (h : ∀ b, tabBlk b → w'.heap[b]? = w.heap[b]?) (t : Tabs w) : Tabs w' where
  max := by rw [cell_of_block (h _ (.inl rfl))]; exact t.max
  pow := by
    have := t.pow
    unfold Lib.TabIs World.var? at this ⊢
    rw [gPow] at this ⊢
    rw [Option.bind_some] at this ⊢
    rw [h _ (.inr (.inl rfl))]
    exact this
  syn := by rw [cell_of_block (h _ (.inr (.inr (.inl rfl))))]; exact t.syn
  rng := by rw [cell_of_block (h _ (.inr (.inr (.inr rfl))))]; exact t.rng

theorem size_lt {w : World} {b o : Nat} {v : Value} (h : w.cell? ⟨b, o, none⟩ = some v) : b < w.heap.size := by
  rcases Nat.lt_or_ge b w.heap.size with h' | h'
  · exact h'
  · simp [World.cell?, Array.getElem?_eq_none h'] at h

theorem Tabs.quiet {w w' : World} (q : Quiet w w') (t : Tabs w) : Tabs w' where
  max := by
    obtain ⟨m, hm⟩ := t.max
    exact ⟨m, (cell_of_block (q.old _ (size_lt hm)) _).trans hm⟩
  pow := by
    have := t.pow
    unfold Lib.TabIs World.var? at this ⊢
    rw [gPow] at this ⊢
    rw [Option.bind_some] at this ⊢
    rcases Nat.lt_or_ge 5 w.heap.size with h' | h'
    · rw [q.old _ h']; exact this
    · rw [Array.getElem?_eq_none h'] at this; cases this
  syn := by
    obtain ⟨a, b, hm⟩ := t.syn
    exact ⟨a, b, (cell_of_block (q.old _ (size_lt hm)) _).trans hm⟩
  rng := by
    obtain ⟨a, b, hm⟩ := t.rng
    exact ⟨a, b, (cell_of_block (q.old _ (size_lt hm)) _).trans hm⟩

theorem Tabs.lt {w : World} (t : Tabs w) (b : Nat) (hb : tabBlk b) : b < w.heap.size := by
  rcases hb with rfl | rfl | rfl | rfl
  · obtain ⟨_, h⟩ := t.max; exact size_lt h
  · have := t.pow
    unfold Lib.TabIs World.var? at this
    rw [gPow, Option.bind_some] at this
    rcases Nat.lt_or_ge 5 w.heap.size with h' | h'
    · exact h'
    · rw [Array.getElem?_eq_none h'] at this; cases this
  · obtain ⟨_, _, h⟩ := t.syn; exact size_lt h
  · obtain ⟨_, _, h⟩ := t.rng; exact size_lt h

instance : Globs where
  blk := tabBlk
  ok := Tabs
  congr _ _ h t := t.congr h

theorem itoa_calls (n : Int) (w : World) (t : Tabs w) (h0 : -9223372036854775808 ≤ n) (h1 : n ≤ 9223372036854775807) :
    Calls Tryz.prog 130 #[.int .i64 n] w fun e w' => e = .returned (.string ⟨(Lib.itoa n).toArray⟩) ∧ Quiet w w' :=
  (Tryz.strconv_Itoa n h0 h1 w t.pow).mono fun e w' ⟨he, k, os, hw⟩ => ⟨he, by
    subst hw
    exact ⟨by simp [Go.Sort.grow, World.drewN], fun i hi => by simp only [Go.Sort.grow, World.drewN]; exact Array.getElem?_append_left hi, rfl, rfl, rfl⟩⟩

theorem below_bytes (w : World) (e : TypeId) (t : ByteArray) : Go.RowKit.Below w.heap.size w (Lib.bytesWorld w e t) := by
  refine ⟨rfl, rfl, rfl, by rw [Lib.bytesWorld_size]; exact Nat.le_succ _, fun k hk => Lib.bytesWorld_at_old w e t k hk⟩

theorem atoi_calls (s : ByteArray) (w : World) (t : Tabs w) (hs : s.size ≤ 281474976710656) :
    Calls Tryz.prog 131 #[.string s] w fun e w' => Quiet w w' ∧
      ((∃ v, Lib.atoiAll s.data.toList = .ok v ∧ e = .returned (.tuple #[.int .i64 v, .nilIface])) ∨ ((∀ v, Lib.atoiAll s.data.toList ≠ .ok v) ∧ ∃ n ty, ∃ p : Value, e = .returned (.tuple #[.int .i64 n, .iface ty p]))) := by
  rcases h : Lib.atoiAll s.data.toList with v | _ | _
  · refine (Tryz.strconv_Atoi_ok s (by omega) v h w).mono ?_
    rintro e w' ⟨rfl, hw⟩
    refine ⟨?_, .inl ⟨v, rfl, rfl⟩⟩
    rcases hw with rfl | ⟨t, rfl⟩
    · exact .rfl' _
    · exact .of_below (below_bytes w _ t)
  · obtain ⟨ty, p, hc⟩ := t.syn
    refine (Any.strconv_Atoi_syntax Tryz.laysC172 s hs h _ w hc (.inr ⟨_, _, rfl⟩)).mono ?_
    rintro e w' ⟨N, rfl, _, _, hb⟩
    exact ⟨.of_below hb, .inr ⟨(fun v hv => by cases hv), _, _, _, rfl⟩⟩
  · obtain ⟨ty, p, hc⟩ := t.rng
    refine (Any.strconv_Atoi_range Tryz.laysC172 s hs h _ w hc (.inr ⟨_, _, rfl⟩)).mono ?_
    rintro e w' ⟨N, rfl, _, _, hb⟩
    exact ⟨.of_below hb, .inr ⟨(fun v hv => by cases hv), _, _, _, rfl⟩⟩

set_option maxRecDepth 100000 in
theorem decimal_calls (s : ByteArray) (w : World) (t : Tabs w) (hs : s.size ≤ 281474976710656) :
    Calls Tryz.prog 92 #[.string s] w fun e w' => e = .returned (.tuple #[.int .i64 (decimalL s.data.toList).1, .bool (decimalL s.data.toList).2]) ∧ Quiet w w' := by
  go_enter Tryz.func92, Tryz.ntmps92
  go_wp2_with fail
  refine (atoi_calls _ _ t hs).mono ?_
  rintro e w' ⟨hq, ⟨v, hv, rfl⟩ | ⟨hv, n, ty, p, rfl⟩⟩
  · go_wp2_with fail
    have hb := Lib.atoiAll_bounds hv
    refine (itoa_calls v w' (t.quiet hq) hb.1 hb.2).mono ?_
    rintro e w'' ⟨rfl, hq2⟩
    go_wp2
    all_goals
      have hsl : s.toList = s.data.toList := by rw [← bs_data s, bs_toList, bs_dl]
      have hd : decimalL s.data.toList = bif Lib.itoa v == s.data.toList then (v, true) else (0, false) := by unfold decimalL; rw [hv]
      rw [hd]
    · rename_i h
      rw [hsl] at h
      rw [show (Lib.itoa v == s.data.toList) = false by simpa using h, cond_false]
      go_returns
      exact ⟨rfl, hq.trans hq2⟩
    · rename_i h
      rw [hsl] at h
      rw [show (Lib.itoa v == s.data.toList) = true by simpa using h, cond_true]
      go_returns
      exact ⟨rfl, hq.trans hq2⟩
  · go_wp2_with fail
    have hd : decimalL s.data.toList = (0, false) := by
      unfold decimalL
      split
      · rename_i v h; exact absurd h (hv v)
      · rfl
    rw [hd]
    go_returns
    exact ⟨rfl, hq⟩
end Go.Proofs.YtajjinfjfiacbaaGreatDoor
end

section
/- What the library's functions compute, and that the evaluator's tables fit the program. Printed by a program of ours (ext.py). -/
set_option linter.unusedVariables false
namespace Go.Proofs.YtajjinfjfiacbaaGreatDoor
open Go Go.Evp

/-- strings.Split -/
theorem x28 (sg : FSig) (ps rs : List PV) (hS : Bk.S 28 = some sg) (h : xSplit ps = some rs) : CallOK Bk.P sg 28 ps rs := by
  have hs : Bk.S 28 = some i28.sg := by kernel_rfl
  rw [hs] at hS
  have hsg : sg = i28.sg := (Option.some.inj hS).symm
  exact callOK_split hsg h 9 fun s c w t hl => by
    obtain ⟨m, hm⟩ := (show Tabs w from t).max
    exact Tryz.strings_Split s ⟨#[c]⟩ m w (by omega) hm (Nat.le_refl 1)
/-- strings.Join -/
theorem x29 (sg : FSig) (ps rs : List PV) (hS : Bk.S 29 = some sg) (h : xJoin ps = some rs) : CallOK Bk.P sg 29 ps rs := by
  have hs : Bk.S 29 = some i29.sg := by kernel_rfl
  rw [hs] at hS
  have hsg : sg = i29.sg := (Option.some.inj hS).symm
  exact callOK_join hsg h (fun a c sep w => Tryz.strings_Join_none a c sep w) (fun bk o c xs sep w h1 h2 h3 h4 h5 => Tryz.strings_Join bk o c xs sep w h1 h2 h3 h4 h5)
/-- strings.Count -/
theorem x63 (sg : FSig) (ps rs : List PV) (hS : Bk.S 63 = some sg) (h : xCount ps = some rs) : CallOK Bk.P sg 63 ps rs := by
  have hs : Bk.S 63 = some i63.sg := by kernel_rfl
  rw [hs] at hS
  have hsg : sg = i63.sg := (Option.some.inj hS).symm
  exact callOK_count hsg h (fun s c w => Tryz.strings_Count_one s c w)
/-- strings.IndexByte -/
theorem x68 (sg : FSig) (ps rs : List PV) (hS : Bk.S 68 = some sg) (h : xIndexByte ps = some rs) : CallOK Bk.P sg 68 ps rs := by
  have hs : Bk.S 68 = some i68.sg := by kernel_rfl
  rw [hs] at hS
  have hsg : sg = i68.sg := (Option.some.inj hS).symm
  exact callOK_indexByte hsg h (fun s c w => Tryz.strings_IndexByte s c w)
/-- impl.decimal -/
theorem x92 (sg : FSig) (ps rs : List PV) (hS : Bk.S 92 = some sg) (h : xDecimal ps = some rs) : CallOK Bk.P sg 92 ps rs := by
  have hs : Bk.S 92 = some i92.sg := by kernel_rfl
  rw [hs] at hS
  have hsg : sg = i92.sg := (Option.some.inj hS).symm
  exact callOK_decimal hsg h (fun s w t hs => decimal_calls s w t hs)
/-- internal/stringslite.Index -/
theorem x100 (sg : FSig) (ps rs : List PV) (hS : Bk.S 100 = some sg) (h : xIndex ps = some rs) : CallOK Bk.P sg 100 ps rs := by
  have hs : Bk.S 100 = some i100.sg := by kernel_rfl
  rw [hs] at hS
  have hsg : sg = i100.sg := (Option.some.inj hS).symm
  exact callOK_index hsg h (fun s c w => Tryz.stringslite_Index_one s c w)
/-- (impl.Move).mirrored -/
theorem x112 (sg : FSig) (ps rs : List PV) (hS : Bk.S 112 = some sg) (h : xMirrored ps = some rs) : CallOK Bk.P sg 112 ps rs := by
  have hs : Bk.S 112 = some i112.sg := by kernel_rfl
  rw [hs] at hS
  have hsg : sg = i112.sg := (Option.some.inj hS).symm
  exact callOK_mirrored hsg h (fun s r w hs => (Mir.mir_ok s r w hs).mono fun e w' h => ⟨h.1, h.2.1, h.2.2.1, h.2.2.2.1, h.2.2.2.2.1, h.2.2.2.2.2⟩)
/-- strconv.Itoa -/
theorem x130 (sg : FSig) (ps rs : List PV) (hS : Bk.S 130 = some sg) (h : xItoa ps = some rs) : CallOK Bk.P sg 130 ps rs := by
  have hs : Bk.S 130 = some i130.sg := by kernel_rfl
  rw [hs] at hS
  have hsg : sg = i130.sg := (Option.some.inj hS).symm
  exact callOK_itoa hsg h (fun n w t h0 h1 => itoa_calls n w t h0 h1)
/-- strings.Repeat -/
theorem x142 (sg : FSig) (ps rs : List PV) (hS : Bk.S 142 = some sg) (h : xRepeat ps = some rs) : CallOK Bk.P sg 142 ps rs := by
  have hs : Bk.S 142 = some i142.sg := by kernel_rfl
  rw [hs] at hS
  have hsg : sg = i142.sg := (Option.some.inj hS).symm
  exact callOK_repeat hsg h (fun s c w h1 h2 => Tryz.strings_Repeat s c w h1 h2)

theorem ext_ok : ∀ f e sg ps rs, Bk.ext f = some e → Bk.S f = some sg → e ps = some rs → CallOK Bk.P sg f ps rs := by
  intro f e sg ps rs he hS h
  have hm : (f, e) ∈ Bk.exts := findN_mem he
  simp only [Bk, List.mem_cons, List.not_mem_nil, or_false, Prod.mk.injEq] at hm
  rcases hm with ⟨rfl, rfl⟩ | ⟨rfl, rfl⟩ | ⟨rfl, rfl⟩ | ⟨rfl, rfl⟩ | ⟨rfl, rfl⟩ | ⟨rfl, rfl⟩ | ⟨rfl, rfl⟩ | ⟨rfl, rfl⟩ | ⟨rfl, rfl⟩
  · exact x28 sg ps rs hS h
  · exact x29 sg ps rs hS h
  · exact x63 sg ps rs hS h
  · exact x68 sg ps rs hS h
  · exact x92 sg ps rs hS h
  · exact x100 sg ps rs hS h
  · exact x112 sg ps rs hS h
  · exact x130 sg ps rs hS h
  · exact x142 sg ps rs hS h

theorem env : EnvOK Bk.P (Bk.env FU0) :=
  env_ok (tok_of (by kernel_rfl)) (eqok_of (tok_of (by kernel_rfl)) (by kernel_rfl)) (by kernel_rfl) (by kernel_rfl) ext_ok

/-- What the evaluator says of a call is what the machine does. -/
theorem call_ok {m f : Nat} {sg : FSig} {ps rs : List PV} (hS : Bk.S f = some sg) (h : callN (Bk.env FU0) m f ps = some rs) : CallOK Tryz.prog sg f ps rs :=
  (callN_sound env m).call f sg ps rs hS h
end Go.Proofs.YtajjinfjfiacbaaGreatDoor
end

section
/- From the rows' conditions to what the walks know. -/
set_option linter.unusedVariables false
namespace Go.Proofs.YtajjinfjfiacbaaGreatDoor
open Go Go.Evp Go.ChangeShapes Go.WideShapes Go.ChangeAt Go.RowKit

theorem laidOut : laidOutB Tryz.prog = true := by kernel_rfl
theorem own : ownKnob Tryz.prog.godebug = none := by kernel_rfl
theorem gSyn : Tryz.prog.globalNamed "strconv.ErrSyntax" = some 3 := by kernel_rfl
theorem gRng : Tryz.prog.globalNamed "strconv.ErrRange" = some 4 := by kernel_rfl
theorem tSyn : (Tryz.prog.globals[3]?).map (·.type) = some 93 := by kernel_rfl
theorem tRng : (Tryz.prog.globals[4]?).map (·.type) = some 93 := by kernel_rfl
theorem tPow : (Tryz.prog.globals[5]?).map (·.type) = some 217 := by kernel_rfl

theorem tabs_of_laid {l : List (String × DataW Unit)} {W : World} (h : laidMet Tryz.prog l W) (hsh : W.ShapedOpen Tryz.prog) (m1 : ("internal/strconv.uint64pow10", Rows.laid_internal_strconv_uint64pow10) ∈ l)
    (m2 : ("strconv.ErrSyntax", Rows.laid_strconv_ErrSyntax) ∈ l) (m3 : ("strconv.ErrRange", Rows.laid_strconv_ErrRange) ∈ l) : Tabs W := by
  obtain ⟨ps, hl, _⟩ := h
  refine ⟨?_, ?_, ?_, ?_⟩
  · exact Go.Proofs.cell_of_shapedOpen_int (zero := #[.int .i64 0]) (t := 3) hsh (of_decide_eq_true (by kernel_rfl)) (by kernel_rfl) rfl (by kernel_rfl) (by kernel_rfl) Tryz.underlying3
  · obtain ⟨g, t, cs, fuel, p, hg, ht, hv, hd⟩ := laidVars_mem hl m1
    obtain rfl := Option.some.inj (gPow.symm.trans hg)
    obtain rfl := Option.some.inj (tPow.symm.trans ht)
    have e : (Rows.laid_internal_strconv_uint64pow10 : DataW Unit) = Lib.tabData .u64 Lib.pow10Tab := by kernel_rfl
    rw [e] at hd
    have hc := Lib.cells_of_tab (n := 20) Tryz.underlying217 Tryz.underlying187 (by kernel_rfl) (by kernel_rfl) hd
    unfold Lib.TabIs
    rw [hv, ← hc]
  · obtain ⟨g, t, cs, fuel, p, hg, ht, hv, hd⟩ := laidVars_mem hl m2
    obtain rfl := Option.some.inj (gSyn.symm.trans hg)
    obtain rfl := Option.some.inj (tSyn.symm.trans ht)
    obtain ⟨_, u, v, hc, _⟩ := iface_of_trod Tryz.underlying93 hd
    have := World.var?_cell gSyn hv 0
    rw [← Array.getElem?_toList, hc] at this
    exact ⟨u, v, this⟩
  · obtain ⟨g, t, cs, fuel, p, hg, ht, hv, hd⟩ := laidVars_mem hl m3
    obtain rfl := Option.some.inj (gRng.symm.trans hg)
    obtain rfl := Option.some.inj (tRng.symm.trans ht)
    obtain ⟨_, u, v, hc, _⟩ := iface_of_trod Tryz.underlying93 hd
    have := World.var?_cell gRng hv 0
    rw [← Array.getElem?_toList, hc] at this
    exact ⟨u, v, this⟩

end Go.Proofs.YtajjinfjfiacbaaGreatDoor
end
