/- Own text. -/
import Derived.Test.YtajjinfjfiacbaaGreatDoorProg
import Derived.KernelRfl
import Derived.Tactics
import Derived.Tactics2
import Derived.Defers
import Derived.Laws.Pointers
import Derived.Laws.LoneSync
import Derived.RegionTactic
import Derived.RegionCalls
import Derived.ChangeAlike
import Derived.LoopTactic
import Derived.LoopN
import Derived.Below
import Derived.Laws.NewBlocks
import Derived.WalkKit
import Derived.Laws.Alloc2
import Derived.Deep.WholeRow
import Derived.Lib.ConvBytes
import Derived.Laws.IdiomStrings
import Derived.Lib.LazyBuf
import Derived.Laws.Rows
import Derived.Deep.RegionWith
set_option linter.unusedSectionVars false
set_option linter.unusedVariables false
set_option linter.unusedSimpArgs false
set_option linter.unnecessarySimpa false
section
/- Own text. -/
namespace Go.Proofs.YtajjinfjfiacbaaGreatDoor
namespace Mir

theorem disable (w : World) : (callFunc 201 #[]).run Tryz.prog w = .ok (.value (.tuple #[])) w := run_call_mark0 Tryz.func201 (by kernel_rfl) (by kernel_rfl) (by kernel_rfl) .disable (by kernel_rfl) w
theorem enable (w : World) : (callFunc 203 #[]).run Tryz.prog w = .ok (.value (.tuple #[])) w := run_call_mark0 Tryz.func203 (by kernel_rfl) (by kernel_rfl) (by kernel_rfl) .enable (by kernel_rfl) w
theorem acquire (a : Addr) (w : World) : (callFunc 204 #[.pointer (some a)]).run Tryz.prog w = .ok (.value (.tuple #[])) w := run_call_marked Tryz.func204 (by kernel_rfl) (by kernel_rfl) (by kernel_rfl) .acquire (by kernel_rfl) a w
theorem releaseMerge (a : Addr) (w : World) : (callFunc 206 #[.pointer (some a)]).run Tryz.prog w = .ok (.value (.tuple #[])) w := run_call_marked Tryz.func206 (by kernel_rfl) (by kernel_rfl) (by kernel_rfl) .releaseMerge (by kernel_rfl) a w

set_option maxRecDepth 100000 in
theorem store_deferred (a : Addr) (x : Value) (u : FrameMode) (w : World) (hc : w.cell? a = some x) (hz : w.frozen? a = false) :
    CallsD Tryz.prog 183 #[.pointer (some a), .bool true] u w fun e u' w' => u' = u ∧ (e = .returned (.tuple #[]) ∧ w' = w.drew.setCell a (.int .u32 1)) := by
  have hc' : w.drew.cell? a = some x := by go_simp
  have hz' : w.drew.frozen? a = false := by go_simp
  have hst := run_call_store (P := Tryz.prog) Tryz.func195 (by kernel_rfl) (by kernel_rfl) (by kernel_rfl) (by kernel_rfl) (k := .u32) (y := 1) hc' hz'
  go_enter_d Tryz.func183, Tryz.ntmps183
  go_wp2
  go_region_calls
  all_goals (go_end0; exact ⟨rfl, rfl⟩)

set_option maxRecDepth 100000 in
theorem unlock_deferred (a : Addr) (u : FrameMode) (w : World) (hc : w.cell? a = some (.int .i32 1)) (hz : w.frozen? a = false) :
    CallsD Tryz.prog 182 #[.pointer (some a)] u w fun e u' w' => u' = u ∧ (e = .returned (.tuple #[]) ∧ w' = w.setCell a (.int .i32 0)) := by
  have hd := disable
  have he := enable
  have hr := releaseMerge
  have hadd := run_call_add (P := Tryz.prog) Tryz.func207 (by kernel_rfl) (by kernel_rfl) (by kernel_rfl) .i32 (by kernel_rfl) (y := -1) (s := 0) hc hz (by simp [go_sem]; rfl)
  have hcv := run_convert_to_unsafe (P := Tryz.prog) (src := 239) (dst := 143) Tryz.underlying239 Tryz.underlying143 (by kernel_rfl) hc
  go_enter_d Tryz.func182, Tryz.ntmps182
  go_wp2
  go_end0
  go_wp2
  go_end0
  exact ⟨rfl, rfl⟩

set_option maxRecDepth 100000 in
theorem lock_free (a : Addr) (w : World) (hc : w.cell? a = some (.int .i32 0)) (hz : w.frozen? a = false) :
    Calls Tryz.prog 181 #[.pointer (some a)] w fun e w' => e = .returned (.tuple #[]) ∧ w' = w.setCell a (.int .i32 1) := by
  have hd := disable
  have he := enable
  have ha := acquire
  have hcas := run_call_cas_hit (P := Tryz.prog) Tryz.func202 (by kernel_rfl) (by kernel_rfl) (by kernel_rfl) .i32 (by kernel_rfl) (y := 1) hc hz
  have hc' : (w.setCell a (.int .i32 1)).cell? a = some (.int .i32 1) := World.cell?_setCell_same w a _ hc
  have hcv := run_convert_to_unsafe (P := Tryz.prog) (src := 239) (dst := 143) Tryz.underlying239 Tryz.underlying143 (by kernel_rfl) hc'
  go_enter Tryz.func181, Tryz.ntmps181
  go_wp2
  first | go_end0 | (simp only [Exit.inBlock, Exit.then]; refine bodyPost_ret (results_none rfl _ _ _) rfl ?_) | refine bodyPost_ret (results_none rfl _ _ _) rfl ?_
  go_wp2
  go_end0
  exact ⟨rfl, rfl⟩
end Mir
end Go.Proofs.YtajjinfjfiacbaaGreatDoor
end

section
/- Own text. -/
namespace Go.Proofs.YtajjinfjfiacbaaGreatDoor
namespace Mir
open Go.RowKit

def swapNat (i : Nat) : Nat := if i = 108 then 114 else if i = 114 then 108 else i
def tab : Array Value := (Array.range 256).map fun i => .int .u8 (swapNat i : Nat)
def part (k : Nat) : Array Value := (Array.range 256).map fun i => .int .u8 (if i < k then (i : Nat) else 0)

theorem lt_of_cell {w : World} {b j : Nat} {v : Value} (h : w.cell? ⟨b, j, none⟩ = some v) : b < w.heap.size := by
  rcases Nat.lt_or_ge b w.heap.size with h2 | h2
  · exact h2
  · simp [World.cell?, h2] at h

set_option maxRecDepth 100000 in
set_option maxHeartbeats 4000000 in
theorem build_ok (b o cap : Nat) (w : World) (h4 : w.cell? ⟨b, 4, none⟩ = some (.slice (some ⟨o, 0, none⟩) 4 cap))
    (s0 : w.cell? ⟨o, 0, none⟩ = some (.string ⟨#[108]⟩)) (s1 : w.cell? ⟨o, 1, none⟩ = some (.string ⟨#[114]⟩)) (s2 : w.cell? ⟨o, 2, none⟩ = some (.string ⟨#[114]⟩)) (s3 : w.cell? ⟨o, 3, none⟩ = some (.string ⟨#[108]⟩)) :
    Calls Tryz.prog 172 #[.pointer (some ⟨b, 0, none⟩)] w fun e w' => e = .returned (.iface 211 (.pointer (some ⟨w.heap.size, 0, none⟩))) ∧ w' = w.alloc (.cells tab 210) := by
  have hst : (storeCells ⟨w.heap.size, 0, none⟩ Tryz.zeroCells210.toList).run Tryz.prog (w.alloc (.cells Tryz.zeroCells210 210)) = .ok () (w.alloc (.cells Tryz.zeroCells210 210)) := run_storeCells_new w 210 _ _ (by kernel_rfl) rfl (by kernel_rfl)
  go_enter Tryz.func172, Tryz.ntmps172
  go_wp2
  refine wp_loop_rounds 3 ?_
  rw [rounds_succ]; go_wp2
  rw [rounds_succ]; go_wp2
  rw [rounds_succ]; go_wp2
  go_wp2
  go_loopw [61] (fun i wr => ∃ k : Nat, k ≤ 256 ∧ i = .int .i64 k ∧ wr = w.alloc (.cells (part k) 210)) (fun i _ => 256 - (intOf i).toNat)
  case atStart => exact ⟨0, Nat.zero_le _, rfl, by kernel_rfl⟩
  case round =>
    obtain ⟨k, hk, rfl, rfl⟩ := hrel
    have hcell : k < 256 → (part k)[k]? = some (.int .u8 0) := fun h => by simp [part, h]
    have hnext : k < 256 → (part k).setIfInBounds k (.int .u8 k) = part (k + 1) := fun h => by
      apply Array.ext_getElem?
      intro j
      rw [Array.getElem?_setIfInBounds]
      by_cases hj : k = j
      · subst hj; simp [part, h]
      · rw [if_neg hj]
        rcases Nat.lt_or_ge j 256 with h2 | h2
        · simp [part, h2]; by_cases h3 : j < k
          · rw [if_pos h3, if_pos (by omega)]
          · rw [if_neg h3, if_neg (by omega)]
        · simp [part, h2]
    rcases Nat.lt_or_ge k 256 with hlt | hge
    · have g := hcell hlt
      have hn := hnext hlt
      go_wp2
      · go_roundw
        case rel => exact ⟨k + 1, by omega, by go_num, rfl⟩
        case measure => simp [intOf]; omega
    · have hk2 : k = 256 := by omega
      subst hk2
      have ho : o < w.heap.size := lt_of_cell s0
      have past : ∀ (c : Array Value) (j : Nat), (w.alloc (.cells c 210)).cell? ⟨o, j, none⟩ = w.cell? ⟨o, j, none⟩ := fun c j => World.cell?_alloc_past _ _ _ ho
      clear hcell hnext hst
      have e1 : ((⟨#[114]⟩ : ByteArray)[0]).toNat = 114 := rfl
      have e2 : ((⟨#[108]⟩ : ByteArray)[0]).toNat = 108 := rfl
      have g1 : (part 256)[114]? = some (.int .u8 114) := by kernel_rfl
      have g2 : ((part 256).setIfInBounds 114 (.int .u8 108))[108]? = some (.int .u8 108) := by kernel_rfl
      go_wp2
      refine wp_loop_rounds 3 ?_
      rw [rounds_succ]; go_wp2
      rw [rounds_succ]; go_wp2
      rw [rounds_succ]; go_wp2
      go_ret
      refine ⟨rfl, ?_⟩
      refine congrArg (fun c => w.alloc (.cells c 210)) ?_
      kernel_rfl
end Mir
end Go.Proofs.YtajjinfjfiacbaaGreatDoor
end

section
/- Own text. -/
namespace Go.Proofs.YtajjinfjfiacbaaGreatDoor
namespace Mir
open Go.RowKit

def byteAt (s : ByteArray) (j : Nat) : Nat := (s.data.toList.getD j 0).toNat
def swapB (b : UInt8) : UInt8 := UInt8.ofNat (swapNat b.toNat)
def swapL (l : List UInt8) : List UInt8 := l.map swapB

/-- The world in the loop, once the copy is made. -/
structure BufW (w wr : World) (s : ByteArray) (i : Nat) : Prop where
  old : ∀ b, b < w.heap.size → wr.heap[b]? = w.heap[b]?
  size : wr.heap.size = w.heap.size + 1
  os : wr.os = w.os
  tape : wr.tape = w.tape
  output : wr.output = w.output
  cell : ∀ j, j < s.size → wr.cell? ⟨w.heap.size, j, none⟩ = some (.int .u8 ((if j < i then swapNat (byteAt s j) else byteAt s j : Nat) : Int))
  frz : ∀ j, j < s.size → wr.frozen? ⟨w.heap.size, j, none⟩ = false

theorem byteAt_lt (s : ByteArray) (j : Nat) : byteAt s j < 256 := UInt8.toNat_lt _
theorem swapNat_lt {n : Nat} (h : n < 256) : swapNat n < 256 := by unfold swapNat; split <;> (try split) <;> omega

theorem byteAt_eq (s : ByteArray) (j : Nat) (h : j < s.size) : byteAt s j = (s[j]).toNat := by
  have h2 : j < s.data.size := h
  simp only [byteAt, List.getD_eq_getElem?_getD]
  rw [List.getElem?_eq_getElem (by simpa using h2)]
  rfl

theorem BufW.first (w : World) (s : ByteArray) : BufW w (Lib.bytesWorld w 5 s) s 0 where
  old b hb := Lib.bytesWorld_at_old w 5 s b hb
  size := Lib.bytesWorld_size w 5 s
  os := rfl
  tape := rfl
  output := rfl
  cell j hj := by rw [Lib.bytesWorld_cell w 5 s j hj]; simp [byteAt]
  frz j hj := by
    have h1 : s.size ≤ (Lib.bytesCells w 5 s).size := by
      have : s.data.size = s.size := rfl
      simp [Lib.bytesCells, this]
    simp only [World.frozen?, Lib.bytesWorld_at_new]
    simp
    omega

theorem BufW.step {w wr : World} {s : ByteArray} {k : Nat} (h : BufW w wr s k) (hk : k < s.size) : BufW w (wr.setCell ⟨w.heap.size, k, none⟩ (.int .u8 (swapNat (s[k]).toNat : Nat))) s (k + 1) where
  old b hb := (heap_setCell_other wr ⟨w.heap.size, k, none⟩ b _ (by simp; omega)).trans (h.old b hb)
  size := by rw [World.size_setCell, h.size]
  os := h.os
  tape := h.tape
  output := h.output
  cell j hj := by
    by_cases hjk : j = k
    · subst hjk
      rw [World.cell?_setCell_same wr _ _ (h.cell j hj), if_pos (by omega), byteAt_eq s j hk]
    · rw [World.cell?_setCell_other wr ⟨w.heap.size, k, none⟩ ⟨w.heap.size, j, none⟩ _ (by simpa using Ne.symm hjk), h.cell j hj]
      by_cases h2 : j < k
      · rw [if_pos h2, if_pos (by omega)]
      · rw [if_neg h2, if_neg (by omega)]
  frz j hj := by rw [World.frozen?_setCell]; exact h.frz j hj

theorem BufW.same {w wr : World} {s : ByteArray} {k : Nat} (h : BufW w wr s k) (hk : k < s.size) (he : swapNat (s[k]).toNat = (s[k]).toNat) : BufW w wr s (k + 1) where
  old := h.old
  size := h.size
  os := h.os
  tape := h.tape
  output := h.output
  cell j hj := by
    rw [h.cell j hj]
    by_cases hjk : j = k
    · subst hjk
      rw [if_neg (by omega), if_pos (by omega), byteAt_eq s j hk, he]
    · by_cases h2 : j < k
      · rw [if_pos h2, if_pos (by omega)]
      · rw [if_neg h2, if_neg (by omega)]
  frz := h.frz

theorem BufW.zero {w wr : World} {s : ByteArray} (h : BufW w wr s 0) : ∀ (k : Nat), (∀ j, j < k → swapNat (byteAt s j) = byteAt s j) → BufW w wr s k := fun k hk =>
  { old := h.old, size := h.size, os := h.os, tape := h.tape, output := h.output, frz := h.frz
    cell := fun j hj => by
      rw [h.cell j hj, if_neg (Nat.not_lt_zero _)]
      by_cases h2 : j < k
      · rw [if_pos h2, hk j h2]
      · rw [if_neg h2] }

theorem swapL_same (s : ByteArray) (h : ∀ j, j < s.size → swapNat (byteAt s j) = byteAt s j) : (⟨(swapL s.data.toList).toArray⟩ : ByteArray) = s := by
  have : swapL s.data.toList = s.data.toList := by
    apply List.ext_getElem (by simp [swapL])
    intro j h1 h2
    have hj : j < s.size := by simpa using h2
    have := h j hj
    rw [byteAt_eq s j hj] at this
    simp only [swapL, List.getElem_map, swapB]
    have e : (s.data.toList[j]) = s[j] := rfl
    rw [e, this, UInt8.ofNat_toNat]
  rw [this]

def Rel (w : World) (s : ByteArray) (buf i : Value) (wr : World) : Prop :=
  ∃ k : Nat, k ≤ s.size ∧ i = .int .i64 k ∧ ((buf = .slice none 0 0 ∧ wr = w ∧ ∀ j, j < k → swapNat (byteAt s j) = byteAt s j) ∨
    (∃ cap, buf = .slice (some ⟨w.heap.size, 0, none⟩) s.size cap ∧ BufW w wr s k))

set_option maxRecDepth 100000 in
set_option maxHeartbeats 4000000 in
theorem rep_ok (t : Nat) (s : ByteArray) (w : World) (hs : s.size ≤ 9223372036854775807) (ht : ∀ b : Nat, b < 256 → w.cell? ⟨t, b, none⟩ = some (.int .u8 (swapNat b : Nat))) :
    Calls Tryz.prog 244 #[.pointer (some ⟨t, 0, none⟩), .string s] w fun e w' => e = .returned (.string ⟨(swapL s.data.toList).toArray⟩) ∧
      (w' = w ∨ BufW w w' s s.size) := by
  have htl : t < w.heap.size := lt_of_cell (ht 0 (by omega))
  have hn0 : ∀ W : World, Sem.run Tryz.prog (binOp BinOp.eql 88 (Value.slice none 0 0) (Value.slice none 0 0)) W = .ok (.bool true) W := fun W =>
    run_eql_slice_nil (P := Tryz.prog) W 88 5 none 0 0 Tryz.underlying88
  have hn1 : ∀ (W : World) (a : Addr) (n c : Nat), Sem.run Tryz.prog (binOp BinOp.eql 88 (Value.slice (some a) n c) (Value.slice none 0 0)) W = .ok (.bool false) W := fun W a n c =>
    run_eql_slice_nil (P := Tryz.prog) W 88 5 (some a) n c Tryz.underlying88
  go_enter Tryz.func244, Tryz.ntmps244
  go_wp2
  go_loopw [5, 6] (fun buf i wr => Rel w s buf i wr) (fun _ i _ => s.size - (intOf i).toNat)
  case atStart => exact ⟨0, Nat.zero_le _, rfl, .inl ⟨rfl, rfl, fun j hj => absurd hj (Nat.not_lt_zero _)⟩⟩
  case round =>
    obtain ⟨k, hk, rfl, ⟨rfl, rfl, hsame⟩ | ⟨cap, rfl, hB⟩⟩ := hrel
    · rcases Nat.lt_or_ge k s.size with hlt | hge
      · have hb : (s[k]).toNat < 256 := UInt8.toNat_lt _
        have hb2 : ((s[k]).toNat : Int) < 256 := by omega
        have g : wr.cell? ⟨t, (s[k]).toNat, none⟩ = some (.int .u8 (swapNat (s[k]).toNat : Nat)) := ht _ (UInt8.toNat_lt _)
        by_cases hsw : swapNat (s[k]).toNat = (s[k]).toNat
        · rw [hsw] at g
          go_wp2
          go_roundw
          case rel => exact ⟨k + 1, by omega, by go_num, .inl ⟨rfl, rfl, fun j hj => by
            rcases Nat.lt_or_ge j k with h | h
            · exact hsame j h
            · have : j = k := by omega
              subst this
              rw [byteAt_eq s j hlt]; exact hsw⟩⟩
          case measure => simp [intOf]; omega
        · have hcv := Lib.run_convert_string_bytes (P := Tryz.prog) wr 9 88 5 s (u := .string) Tryz.underlying9 Tryz.underlying88 Tryz.underlying5
          have hB0 := BufW.first wr s
          have g2 : (Lib.bytesWorld wr 5 s).cell? ⟨t, (s[k]).toNat, none⟩ = some (.int .u8 (swapNat (s[k]).toNat : Nat)) := (Lib.bytesWorld_old wr 5 s _ htl).trans g
          have g3 := hB0.cell k hlt
          have g4 := hB0.frz k hlt
          have hsw2 : ((swapNat (s[k]).toNat : Int) != ((s[k]).toNat : Int)) = true := by
            simp only [bne_iff_ne, ne_eq]; omega
          go_wp2
          go_roundw
          case rel =>
            exact ⟨k + 1, by omega, by go_num, .inr ⟨_, rfl, BufW.step (BufW.zero hB0 k (fun j hj => hsame j hj)) hlt⟩⟩
          case measure => simp [intOf]; omega
      · have hk2 : k = s.size := by omega
        subst hk2
        go_wp2
        go_ret
        refine ⟨?_, .inl rfl⟩
        rw [swapL_same s hsame]
        rfl
    · rcases Nat.lt_or_ge k s.size with hlt | hge
      · have hb : (s[k]).toNat < 256 := UInt8.toNat_lt _
        have hb2 : ((s[k]).toNat : Int) < 256 := by omega
        have g : w.cell? ⟨t, (s[k]).toNat, none⟩ = some (.int .u8 (swapNat (s[k]).toNat : Nat)) := ht _ (UInt8.toNat_lt _)
        have g2 : wr.cell? ⟨t, (s[k]).toNat, none⟩ = some (.int .u8 (swapNat (s[k]).toNat : Nat)) := (by simp only [World.cell?, hB.old t htl] : wr.cell? ⟨t, (s[k]).toNat, none⟩ = w.cell? ⟨t, (s[k]).toNat, none⟩).trans g
        have g3 := hB.cell k hlt
        have g4 := hB.frz k hlt
        by_cases hsw : swapNat (s[k]).toNat = (s[k]).toNat
        · rw [hsw] at g2
          go_wp2
          go_roundw
          case rel => exact ⟨k + 1, by omega, by go_num, .inr ⟨_, rfl, hB.same hlt hsw⟩⟩
          case measure => simp [intOf]; omega
        · have hsw2 : ((swapNat (s[k]).toNat : Int) != ((s[k]).toNat : Int)) = true := by
            simp only [bne_iff_ne, ne_eq]; omega
          go_wp2
          go_roundw
          case rel => exact ⟨k + 1, by omega, by go_num, .inr ⟨_, rfl, hB.step hlt⟩⟩
          case measure => simp [intOf]; omega
      · have hk2 : k = s.size := by omega
        subst hk2
        have hl : (swapL s.data.toList).length = s.size := by simp [swapL]
        have hbk := run_convert_bytes_back (P := Tryz.prog) wr 88 9 5 ⟨w.heap.size, 0, none⟩ cap (swapL s.data.toList) Tryz.underlying88 Tryz.underlying5 Tryz.underlying9 (fun j hj => by
          have hj2 : j < s.size := by omega
          have := hB.cell j hj2
          rw [if_pos hj2] at this
          rw [show (⟨w.heap.size, 0, none⟩ : Addr).add j = ⟨w.heap.size, j, none⟩ by unfold Addr.add; split <;> simp_all, this, byteAt_eq s j hj2]
          simp only [swapL, List.getElem_map, swapB]
          rw [show ((UInt8.ofNat (swapNat (s.data.toList[j]'(by simpa [swapL] using hj)).toNat)).toNat) = swapNat (s.data.toList[j]'(by simpa [swapL] using hj)).toNat from by
            rw [UInt8.toNat_ofNat']; exact Nat.mod_eq_of_lt (swapNat_lt (UInt8.toNat_lt _))]
          rfl)
        rw [hl] at hbk
        go_wp2
        go_ret
        exact ⟨rfl, .inr hB⟩
end Mir
end Go.Proofs.YtajjinfjfiacbaaGreatDoor
end

section
/- Own text. -/
namespace Go.Proofs.YtajjinfjfiacbaaGreatDoor
namespace Mir
open Go.RowKit

abbrev repI (n : Nat) : Value := .iface 211 (.pointer (some ⟨n, 0, none⟩))

/-- What a replacer that is not yet built holds. -/
structure Fresh (b o cap : Nat) (w : World) : Prop where
  c0 : w.cell? ⟨b, 0, none⟩ = some (.int .u32 0)
  c1 : w.cell? ⟨b, 1, none⟩ = some (.int .i32 0)
  c3 : w.cell? ⟨b, 3, none⟩ = some .nilIface
  c4 : w.cell? ⟨b, 4, none⟩ = some (.slice (some ⟨o, 0, none⟩) 4 cap)
  f : ∀ j, w.frozen? ⟨b, j, none⟩ = false
  s0 : w.cell? ⟨o, 0, none⟩ = some (.string ⟨#[108]⟩)
  s1 : w.cell? ⟨o, 1, none⟩ = some (.string ⟨#[114]⟩)
  s2 : w.cell? ⟨o, 2, none⟩ = some (.string ⟨#[114]⟩)
  s3 : w.cell? ⟨o, 3, none⟩ = some (.string ⟨#[108]⟩)
  ne : b ≠ o

set_option maxRecDepth 100000 in
set_option maxHeartbeats 4000000 in
theorem once_ok (b o cap : Nat) (w : World) (c3 : w.cell? ⟨b, 3, none⟩ = some .nilIface) (c4 : w.cell? ⟨b, 4, none⟩ = some (.slice (some ⟨o, 0, none⟩) 4 cap)) (f : ∀ j, w.frozen? ⟨b, j, none⟩ = false)
    (s0 : w.cell? ⟨o, 0, none⟩ = some (.string ⟨#[108]⟩)) (s1 : w.cell? ⟨o, 1, none⟩ = some (.string ⟨#[114]⟩)) (s2 : w.cell? ⟨o, 2, none⟩ = some (.string ⟨#[114]⟩)) (s3 : w.cell? ⟨o, 3, none⟩ = some (.string ⟨#[108]⟩)) :
    Calls Tryz.prog 158 #[.pointer (some ⟨b, 0, none⟩)] w fun e w' => e = .returned (.tuple #[]) ∧
      w' = ((w.setCell ⟨b, 3, none⟩ (repI w.heap.size)).setCell ⟨b, 4, none⟩ (.slice none 0 0)).alloc (.cells tab 210) := by
  have hb : b < w.heap.size := lt_of_cell c3
  have f3 := f 3
  have f4 := f 4
  go_enter Tryz.func158, Tryz.ntmps158
  go_wp2_with (first | (go_at_call 172; refine (build_ok b o cap _ c4 s0 s1 s2 s3).mono ?_; rintro e w' ⟨rfl, rfl⟩) | go_in)
  go_end0
  exact ⟨rfl, rfl⟩

theorem ne_off {b i j : Nat} (h : i ≠ j) : (⟨b, i, none⟩ : Addr) ≠ ⟨b, j, none⟩ := fun e => h (by injection e)
theorem ne_blk {b c i j : Nat} (h : b ≠ c) : (⟨b, i, none⟩ : Addr) ≠ ⟨c, j, none⟩ := fun e => h (by injection e)

theorem cell_heap {w w' : World} {k j : Nat} (h : w'.heap[k]? = w.heap[k]?) : w'.cell? ⟨k, j, none⟩ = w.cell? ⟨k, j, none⟩ := by simp only [World.cell?, h]

theorem frz_heap {w w' : World} {k j : Nat} (h : w'.heap[k]? = w.heap[k]?) : w'.frozen? ⟨k, j, none⟩ = w.frozen? ⟨k, j, none⟩ := by simp only [World.frozen?, h]

def slowW (b : Nat) (w : World) : World :=
  ((((((w.setCell ⟨b, 1, none⟩ (.int .i32 1)).setCell ⟨b, 3, none⟩ (repI w.heap.size)).setCell ⟨b, 4, none⟩ (.slice none 0 0)).alloc (.cells tab 210)).drew.setCell ⟨b, 0, none⟩ (.int .u32 1)).setCell ⟨b, 1, none⟩ (.int .i32 0))

set_option maxRecDepth 100000 in
set_option maxHeartbeats 4000000 in
theorem slow_ok (b o cap : Nat) (w : World) (F : Fresh b o cap w) :
    Calls Tryz.prog 171 #[.pointer (some ⟨b, 0, none⟩), .func (.func 158) #[.pointer (some ⟨b, 0, none⟩)] #[]] w fun e w' => e = .returned (.tuple #[]) ∧ w' = slowW b w := by
  have hb : b < w.heap.size := lt_of_cell F.c3
  have hl := run_call_load (P := Tryz.prog) Tryz.func180 (by kernel_rfl) (by kernel_rfl) (by kernel_rfl) .u32 (by kernel_rfl) (w := w.setCell ⟨b, 1, none⟩ (.int .i32 1)) (a := ⟨b, 0, none⟩) (x := 0) ((World.cell?_setCell_other _ ⟨b, 1, none⟩ ⟨b, 0, none⟩ _ (ne_off (by decide))).trans F.c0)
  have hnot : ∀ (x : Bool) (w : World), (Op.unary .not (.bool x)).run Tryz.prog w = .ok (.bool (!x)) w := fun _ _ => rfl
  have d3 : (w.setCell ⟨b, 1, none⟩ (.int .i32 1)).cell? ⟨b, 3, none⟩ = some .nilIface := (World.cell?_setCell_other _ ⟨b, 1, none⟩ ⟨b, 3, none⟩ _ (ne_off (by decide))).trans F.c3
  have d4 : (w.setCell ⟨b, 1, none⟩ (.int .i32 1)).cell? ⟨b, 4, none⟩ = some (.slice (some ⟨o, 0, none⟩) 4 cap) := (World.cell?_setCell_other _ ⟨b, 1, none⟩ ⟨b, 4, none⟩ _ (ne_off (by decide))).trans F.c4
  have ds : ∀ j, (w.setCell ⟨b, 1, none⟩ (.int .i32 1)).cell? ⟨o, j, none⟩ = w.cell? ⟨o, j, none⟩ := fun j => World.cell?_setCell_other _ ⟨b, 1, none⟩ ⟨o, j, none⟩ _ (ne_blk F.ne)
  have df : ∀ j, (w.setCell ⟨b, 1, none⟩ (.int .i32 1)).frozen? ⟨b, j, none⟩ = false := fun j => by rw [World.frozen?_setCell]; exact F.f j
  have f1 := F.f 1
  have f0 := F.f 0
  go_enter_defers Tryz.func171, Tryz.ntmps171
  go_wp2_with (first
    | (go_at_call 181; refine (lock_free ⟨b, 1, none⟩ _ F.c1 f1).mono ?_; rintro e w' ⟨rfl, rfl⟩)
    | (go_at_call 158; refine (once_ok b o cap _ d3 d4 df ((ds 0).trans F.s0) ((ds 1).trans F.s1) ((ds 2).trans F.s2) ((ds 3).trans F.s3)).mono ?_; rintro e w' ⟨rfl, rfl⟩)
    | (go_at_call 170; go_in))
  have x0 : ((((w.setCell ⟨b, 1, none⟩ (.int .i32 1)).setCell ⟨b, 3, none⟩ (repI w.heap.size)).setCell ⟨b, 4, none⟩ (.slice none 0 0)).alloc (.cells tab 210)).cell? ⟨b, 0, none⟩ = some (.int .u32 0) := by
    rw [World.cell?_alloc_past _ _ _ (by simpa using hb), World.cell?_setCell_other _ _ _ _ (ne_off (by decide)), World.cell?_setCell_other _ _ _ _ (ne_off (by decide)), World.cell?_setCell_other _ _ _ _ (ne_off (by decide))]
    exact F.c0
  have x1 : ((((w.setCell ⟨b, 1, none⟩ (.int .i32 1)).setCell ⟨b, 3, none⟩ (repI w.heap.size)).setCell ⟨b, 4, none⟩ (.slice none 0 0)).alloc (.cells tab 210)).cell? ⟨b, 1, none⟩ = some (.int .i32 1) := by
    rw [World.cell?_alloc_past _ _ _ (by simpa using hb), World.cell?_setCell_other _ _ _ _ (ne_off (by decide)), World.cell?_setCell_other _ _ _ _ (ne_off (by decide))]
    exact World.cell?_setCell_same w _ _ F.c1
  have xf : ∀ j, ((((w.setCell ⟨b, 1, none⟩ (.int .i32 1)).setCell ⟨b, 3, none⟩ (repI w.heap.size)).setCell ⟨b, 4, none⟩ (.slice none 0 0)).alloc (.cells tab 210)).frozen? ⟨b, j, none⟩ = false := fun j => by
    rw [World.frozen?_alloc_past _ _ _ (by simpa using hb), World.frozen?_setCell, World.frozen?_setCell, World.frozen?_setCell]
    exact F.f j
  refine leaves_cons (f := 183) (args := #[.pointer (some ⟨b, 0, none⟩), .bool true]) (by simp) (by simp [go_sem]) ?_
  refine (store_deferred ⟨b, 0, none⟩ (.int .u32 0) .returning _ x0 (xf 0)).mono ?_
  rintro e u' w'' ⟨rfl, rfl, rfl⟩
  refine leaves_cons (f := 182) (args := #[.pointer (some ⟨b, 1, none⟩)]) (by simp [settle]) (by simp [go_sem]) ?_
  refine (unlock_deferred ⟨b, 1, none⟩ _ _ ?_ ?_).mono ?_
  · rw [World.cell?_setCell_other _ ⟨b, 0, none⟩ ⟨b, 1, none⟩ _ (ne_off (by decide)), World.cell?_drew]
    exact x1
  · rw [World.frozen?_setCell]
    exact xf 1
  rintro e u' w'' ⟨rfl, rfl, rfl⟩
  simp [Leaves, settle, results, Tryz.results171, slowW]

set_option maxRecDepth 100000 in
set_option maxHeartbeats 4000000 in
theorem do_ok (b o cap : Nat) (w : World) (F : Fresh b o cap w) :
    Calls Tryz.prog 157 #[.pointer (some ⟨b, 0, none⟩), .func (.func 158) #[.pointer (some ⟨b, 0, none⟩)] #[]] w fun e w' => e = .returned (.tuple #[]) ∧ w' = slowW b w := by
  have hl := run_call_load (P := Tryz.prog) Tryz.func180 (by kernel_rfl) (by kernel_rfl) (by kernel_rfl) .u32 (by kernel_rfl) F.c0
  have hnot : ∀ (x : Bool) (w : World), (Op.unary .not (.bool x)).run Tryz.prog w = .ok (.bool (!x)) w := fun _ _ => rfl
  go_enter Tryz.func157, Tryz.ntmps157
  go_wp2_with (first | (go_at_call 171; refine (slow_ok b o cap _ F).mono ?_; rintro e w' ⟨rfl, rfl⟩) | (go_at_call 170; go_in))
  go_end0
  exact ⟨rfl, rfl⟩

theorem slowW_os (b : Nat) (w : World) : (slowW b w).os = w.os := by unfold slowW; rfl
theorem slowW_tape (b : Nat) (w : World) : (slowW b w).tape = w.tape := by unfold slowW; rfl
theorem slowW_output (b : Nat) (w : World) : (slowW b w).output = w.output := by unfold slowW; rfl
theorem slowW_size (b : Nat) (w : World) : (slowW b w).heap.size = w.heap.size + 1 := by simp [slowW]

theorem slowW_old (b : Nat) (w : World) (k : Nat) (hk : k < w.heap.size) (hb : k ≠ b) : (slowW b w).heap[k]? = w.heap[k]? := by
  unfold slowW
  rw [heap_setCell_other _ _ _ _ hb, heap_setCell_other _ _ _ _ hb]
  have h1 : ((((w.setCell ⟨b, 1, none⟩ (.int .i32 1)).setCell ⟨b, 3, none⟩ (repI w.heap.size)).setCell ⟨b, 4, none⟩ (.slice none 0 0)).alloc (.cells tab 210)).drew.heap[k]? = (((w.setCell ⟨b, 1, none⟩ (.int .i32 1)).setCell ⟨b, 3, none⟩ (repI w.heap.size)).setCell ⟨b, 4, none⟩ (.slice none 0 0)).heap[k]? := by
    show ((((w.setCell ⟨b, 1, none⟩ (.int .i32 1)).setCell ⟨b, 3, none⟩ (repI w.heap.size)).setCell ⟨b, 4, none⟩ (.slice none 0 0)).heap.push (.cells tab 210))[k]? = _
    rw [Array.getElem?_push, if_neg (by simp; omega)]
  rw [h1, heap_setCell_other _ _ _ _ hb, heap_setCell_other _ _ _ _ hb, heap_setCell_other _ _ _ _ hb]

theorem slowW_r {b : Nat} {w : World} {v : Value} (h : w.cell? ⟨b, 3, none⟩ = some v) : (slowW b w).cell? ⟨b, 3, none⟩ = some (repI w.heap.size) := by
  have hb := lt_of_cell h
  unfold slowW
  rw [World.cell?_setCell_other _ _ _ _ (ne_off (by decide)), World.cell?_setCell_other _ _ _ _ (ne_off (by decide)), World.cell?_drew, World.cell?_alloc_past _ _ _ (by simpa using hb), World.cell?_setCell_other _ _ _ _ (ne_off (by decide))]
  exact World.cell?_setCell_same _ _ _ ((World.cell?_setCell_other w ⟨b, 1, none⟩ ⟨b, 3, none⟩ _ (ne_off (by decide))).trans h)

theorem slowW_tab {b : Nat} {w : World} (hb : b < w.heap.size) (j : Nat) (hj : j < 256) : (slowW b w).cell? ⟨w.heap.size, j, none⟩ = some (.int .u8 (swapNat j : Nat)) := by
  have hne : b ≠ w.heap.size := by omega
  have hs : (((w.setCell ⟨b, 1, none⟩ (.int .i32 1)).setCell ⟨b, 3, none⟩ (repI w.heap.size)).setCell ⟨b, 4, none⟩ (.slice none 0 0)).heap.size = w.heap.size := by simp
  unfold slowW
  rw [World.cell?_setCell_other _ _ _ _ (ne_blk hne), World.cell?_setCell_other _ _ _ _ (ne_blk hne), World.cell?_drew]
  have := World.cell?_alloc_new (w := (((w.setCell ⟨b, 1, none⟩ (.int .i32 1)).setCell ⟨b, 3, none⟩ (repI w.heap.size)).setCell ⟨b, 4, none⟩ (.slice none 0 0))) tab 210 j
  rw [hs] at this
  rw [this]
  simp [tab, hj]

set_option maxRecDepth 100000 in
set_option maxHeartbeats 4000000 in
theorem replace_ok (b o cap : Nat) (s : ByteArray) (w : World) (hs : s.size ≤ 9223372036854775807) (F : Fresh b o cap w) :
    Calls Tryz.prog 144 #[.pointer (some ⟨b, 0, none⟩), .string s] w fun e w' => e = .returned (.string ⟨(swapL s.data.toList).toArray⟩) ∧ (w' = slowW b w ∨ BufW (slowW b w) w' s s.size) := by
  have hb : b < w.heap.size := lt_of_cell F.c3
  have hmf : ∀ (fn : Fn) (first cap : Array Value) (w : World), (Instr.makeFunc fn first cap).run Tryz.prog w = .ok (.func fn first cap) w := fun _ _ _ _ => rfl
  have hr := slowW_r F.c3
  have hm : ∀ (v : Value) (W : World), Sem.run Tryz.prog (method 379 211 v "Replace") W = .ok (244, v) W := fun v W => by kernel_rfl
  go_enter Tryz.func144, Tryz.ntmps144
  go_wp2_with (first | (go_at_call 157; refine (do_ok b o cap _ F).mono ?_; rintro e w' ⟨rfl, rfl⟩) | (go_at_call 244; refine (rep_ok w.heap.size s _ hs (fun j hj => slowW_tab hb j hj)).mono ?_; rintro e w' ⟨rfl, hw⟩))
  go_ret
  exact ⟨rfl, hw⟩

theorem two_old (w : World) (o1 o2 : Obj) (k : Nat) (hk : k < w.heap.size) : ((w.alloc o1).alloc o2).drew.heap[k]? = w.heap[k]? := by
  show ((w.heap.push o1).push o2)[k]? = _
  rw [Array.getElem?_push, if_neg (by simp; omega), Array.getElem?_push, if_neg (by omega)]

theorem fresh_of (w : World) (tl : Array Value) (cap : Nat) :
    Fresh (w.heap.size + 1) w.heap.size cap (((w.alloc (.cells (#[.string ⟨#[108]⟩, .string ⟨#[114]⟩, .string ⟨#[114]⟩, .string ⟨#[108]⟩] ++ tl) 9)).alloc
      (.cells #[.int .u32 0, .int .i32 0, .int .u32 0, .nilIface, .slice (some ⟨w.heap.size, 0, none⟩) 4 cap] 172)).drew) := by
  have h1 : ∀ (R : Obj) (c : Array Value) (t : TypeId) (j : Nat), (((w.alloc R).alloc (.cells c t)).drew).cell? ⟨w.heap.size + 1, j, none⟩ = c[j]? := fun R c t j => by
    have := World.cell?_alloc_new (w := w.alloc R) c t j
    rw [World.size_alloc] at this
    exact this
  have h2 : ∀ (c : Array Value) (t : TypeId) (R : Obj) (j : Nat), (((w.alloc (.cells c t)).alloc R).drew).cell? ⟨w.heap.size, j, none⟩ = c[j]? := fun c t R j => by
    rw [World.cell?_drew, World.cell?_alloc_past _ _ _ (by simp)]
    exact World.cell?_alloc_new w c t j
  refine ⟨?_, ?_, ?_, ?_, fun j => ?_, ?_, ?_, ?_, ?_, by omega⟩
  · rw [h1]; rfl
  · rw [h1]; rfl
  · rw [h1]; rfl
  · rw [h1]; rfl
  · have : (((w.alloc (.cells (#[.string ⟨#[108]⟩, .string ⟨#[114]⟩, .string ⟨#[114]⟩, .string ⟨#[108]⟩] ++ tl) 9)).alloc
      (.cells #[.int .u32 0, .int .i32 0, .int .u32 0, .nilIface, .slice (some ⟨w.heap.size, 0, none⟩) 4 cap] 172)).drew).heap[w.heap.size + 1]? = some (.cells #[.int .u32 0, .int .i32 0, .int .u32 0, .nilIface, .slice (some ⟨w.heap.size, 0, none⟩) 4 cap] 172) := by
      show ((w.heap.push _).push _)[w.heap.size + 1]? = _
      rw [Array.getElem?_push, if_pos (by simp)]
    simp only [World.frozen?, this]
    simp
  · rw [h2, Array.getElem?_append_left (by decide)]; rfl
  · rw [h2, Array.getElem?_append_left (by decide)]; rfl
  · rw [h2, Array.getElem?_append_left (by decide)]; rfl
  · rw [h2, Array.getElem?_append_left (by decide)]; rfl

set_option maxRecDepth 100000 in
set_option maxHeartbeats 4000000 in
theorem new_ok (o cap : Nat) (w : World)
    (s0 : w.cell? ⟨o, 0, none⟩ = some (.string ⟨#[108]⟩)) (s1 : w.cell? ⟨o, 1, none⟩ = some (.string ⟨#[114]⟩)) (s2 : w.cell? ⟨o, 2, none⟩ = some (.string ⟨#[114]⟩)) (s3 : w.cell? ⟨o, 3, none⟩ = some (.string ⟨#[108]⟩)) :
    Calls Tryz.prog 143 #[.slice (some ⟨o, 0, none⟩) 4 cap] w fun e w' => ∃ b o2 cap2, e = .returned (.pointer (some ⟨b, 0, none⟩)) ∧ Fresh b o2 cap2 w' ∧ w.heap.size ≤ b ∧ w.heap.size ≤ w'.heap.size ∧ (∀ k, k < w.heap.size → w'.heap[k]? = w.heap[k]?) ∧ w'.os = w.os ∧ w'.tape = w.tape ∧ w'.output = w.output := by
  go_enter Tryz.func143, Tryz.ntmps143
  go_wp2
  go_ret
  exact ⟨w.heap.size + 1, w.heap.size, _, rfl, fresh_of w _ _, by omega, by simp; omega, two_old w _ _, rfl, rfl, rfl⟩

theorem replace_ok2 (b o cap : Nat) (s : ByteArray) (w : World) (hs : s.size ≤ 9223372036854775807) (F : Fresh b o cap w) :
    Calls Tryz.prog 144 #[.pointer (some ⟨b, 0, none⟩), .string s] w fun e w' => e = .returned (.string ⟨(swapL s.data.toList).toArray⟩) ∧ w.heap.size ≤ w'.heap.size ∧ (∀ k, k < w.heap.size → k ≠ b → w'.heap[k]? = w.heap[k]?) ∧ w'.os = w.os ∧ w'.tape = w.tape ∧ w'.output = w.output := by
  refine (replace_ok b o cap s w hs F).mono ?_
  rintro e w' ⟨he, rfl | h⟩
  · exact ⟨he, by rw [slowW_size]; exact Nat.le_succ _, fun k hk hb => slowW_old b w k hk hb, slowW_os b w, slowW_tape b w, slowW_output b w⟩
  · exact ⟨he, by rw [h.size, slowW_size]; exact Nat.le_add_right _ 2, fun k hk hb => (h.old k (by rw [slowW_size]; exact Nat.lt_succ_of_lt hk)).trans (slowW_old b w k hk hb), h.os.trans (slowW_os b w), h.tape.trans (slowW_tape b w), h.output.trans (slowW_output b w)⟩

set_option maxRecDepth 100000 in
set_option maxHeartbeats 4000000 in
theorem mir_ok (s : ByteArray) (r : Int) (w : World) (hs : s.size ≤ 9223372036854775807) :
    Calls Tryz.prog 112 #[.agg #[.string s, .int .i64 r]] w fun e w' => e = .returned (.agg #[.string ⟨(swapL s.data.toList).toArray⟩, .int .i64 r]) ∧ w.heap.size ≤ w'.heap.size ∧ (∀ k, k < w.heap.size → w'.heap[k]? = w.heap[k]?) ∧ w'.os = w.os ∧ w'.tape = w.tape ∧ w'.output = w.output := by
  go_enter Tryz.func112, Tryz.ntmps112
  go_wp2
  go_region_with (first
    | (go_at_call 143
       refine (new_ok _ _ _ (by go_simp) (by go_simp) (by go_simp) (by go_simp)).mono ?_
       rintro e w' ⟨b, o2, cap2, rfl, F, hb, hsz, hold, e1, e2, e3⟩
       have k0 : w'.cell? ⟨w.heap.size, 0, none⟩ = some (.string s) := (cell_heap (hold _ (by simp; omega))).trans (by go_simp)
       have k1 : w'.cell? ⟨w.heap.size, 1, none⟩ = some (.int .i64 r) := (cell_heap (hold _ (by simp; omega))).trans (by go_simp))
    | (go_at_call 144
       refine (replace_ok2 _ _ _ s _ hs F).mono ?_
       rintro e w'' ⟨rfl, hsz2, hold2, e4, e5, e6⟩
       have k2 : w''.cell? ⟨w.heap.size, 1, none⟩ = some (.int .i64 r) := (cell_heap (hold2 _ (by simp at hsz; omega) (by simp at hb; omega))).trans k1
       have k3 : w''.cell? ⟨w.heap.size + 1, 0, none⟩ = some (.string ⟨#[]⟩) := (cell_heap (hold2 _ (by simp at hsz; omega) (by simp at hb; omega))).trans ((cell_heap (hold _ (by simp))).trans (by go_simp))
       have k4 : w''.cell? ⟨w.heap.size + 1, 1, none⟩ = some (.int .i64 0) := (cell_heap (hold2 _ (by simp at hsz; omega) (by simp at hb; omega))).trans ((cell_heap (hold _ (by simp))).trans (by go_simp))
       have k5 : ∀ j, w''.frozen? ⟨w.heap.size + 1, j, none⟩ = false := fun j => (frz_heap (hold2 _ (by simp at hsz; omega) (by simp at hb; omega))).trans ((frz_heap (hold _ (by simp))).trans (by go_simp))))
  all_goals
    have b0 : w''.heap[w.heap.size + 1]? = some (.cells #[.string ⟨#[]⟩, .int .i64 0] 29) := by
      rw [hold2 _ (by simp at hsz; omega) (by simp at hb; omega), hold _ (by simp)]
      show (((w.heap.push _).push _).push _)[w.heap.size + 1]? = _
      rw [Array.getElem?_push, if_neg (by simp), Array.getElem?_push, if_pos (by simp)]
    have b1 := heap_setCell_same w'' (w.heap.size + 1) 0 _ 29 (.string ⟨(swapL s.data.toList).toArray⟩) b0
    have b2 := heap_setCell_same _ (w.heap.size + 1) 1 _ 29 (.int .i64 r) b1
    have hold3 : ∀ k, k < w.heap.size → ((w''.setCell ⟨w.heap.size + 1, 0, none⟩ (.string ⟨(swapL s.data.toList).toArray⟩)).setCell ⟨w.heap.size + 1, 1, none⟩ (.int .i64 r)).heap[k]? = w.heap[k]? := fun k hk => by
      rw [heap_setCell_other _ ⟨w.heap.size + 1, 1, none⟩ k _ (by simp; omega), heap_setCell_other _ ⟨w.heap.size + 1, 0, none⟩ k _ (by simp; omega), hold2 k (by simp at hsz; omega) (by simp at hb; omega), hold k (by simp; omega)]
      show (((w.heap.push _).push _).push _)[k]? = _
      rw [Array.getElem?_push, if_neg (by simp; omega), Array.getElem?_push, if_neg (by simp; omega), Array.getElem?_push, if_neg (by omega)]
    have hsz3 : w.heap.size ≤ ((w''.setCell ⟨w.heap.size + 1, 0, none⟩ (.string ⟨(swapL s.data.toList).toArray⟩)).setCell ⟨w.heap.size + 1, 1, none⟩ (.int .i64 r)).heap.size := by
      rw [World.size_setCell, World.size_setCell]
      simp at hsz
      omega
    clear hs F k0 k1 k2 k3 k4 k5 hsz hb hold hold2 hsz2
    go_wp2
    exact bodyPost_ret (results_cell_row Tryz.results112 _ _ _ 29 _ _ _ rfl b2 Tryz.underlying29 rfl (by kernel_rfl)) rfl ⟨rfl, hsz3, hold3, e4.trans e1, e5.trans e2, e6.trans e3⟩
end Mir
end Go.Proofs.YtajjinfjfiacbaaGreatDoor
end
