/- What functions compute, and that their code says so. Made by a program of ours (emit.py). -/
import Derived.Test.YtajjinfjfiacbaaGreatDoorZB
import Derived.KernelRfl
set_option linter.unusedSectionVars false
set_option linter.unusedVariables false
set_option linter.unusedSimpArgs false
set_option linter.unnecessarySimpa false
section
/- What functions compute, and that their code says so. Made by a program of ours (emit.py). -/
namespace Go.Proofs.YtajjinfjfiacbaaGreatDoor
open Go Go.Evp
set_option maxRecDepth 100000

/-- laws.FnExactImportSign -/
noncomputable def s3 (_FU : Nat) (C : Oracle) (ps : List PV) : R :=
  popS ps fun s2 r1 =>
  popS r1 fun s4 r3 =>
  popN r3 <|
  cond (decide (((s2.size : Int) : Int) > 1048576)) (
    some [(B true)]) <|
  cond (decide (((s4.size : Int) : Int) > 1048576)) (
    some [(B true)]) <|
  optC (C 6 [(Sg s2), (Sg s4)]) fun rs5 =>
  popA rs5 fun cs7 r6 =>
  popB r6 fun b9 r8 =>
  popN r8 <|
  optC (putPart [I 0, I 0, I 0, I 0, I 0, B false, I 0, I 0, I 0, I 0, B false, Sg (bs []), I 0, B false, I 0, I 0, I 0, I 0, I 0, B false, I 0, I 0, I 0, I 0, B false, Sg (bs []), I 0] 0 27 (.agg cs7)) fun cs10 =>
  optC (C 7 [(Sg s2), (Sg s4)]) fun rs11 =>
  popA rs11 fun cs13 r12 =>
  popB r12 fun b15 r14 =>
  popN r14 <|
  optC (putPart [I 0, I 0, I 0, I 0, I 0, B false, I 0, I 0, I 0, I 0, B false, Sg (bs []), I 0, B false, I 0, I 0, I 0, I 0, I 0, B false, I 0, I 0, I 0, I 0, B false, Sg (bs []), I 0] 0 27 (.agg cs13)) fun cs16 =>
  optA (partA cs16 0 27) fun cs17 =>
  optA (partA cs10 0 27) fun cs18 =>
  optC (C 8 [(.agg cs17), (.agg cs18)]) fun rs19 =>
  popB rs19 fun b21 r20 =>
  popN r20 <|
  cond (!b21) (
    some [(B false)]) <|
  cond (!(b15 == b9)) (
    some [(B false)]) <|
  some [(B true)]
theorem t3 (FU : Nat) (C : Oracle) (ps : List PV) : bodyK Bk FU C Tryz.f3 i3 ps = s3 FU C ps := by kernel_rfl
theorem c3 {FU m : Nat} {ps rs : List PV} (h : s3 FU (callN (Bk.env FU) m) ps = some rs) : callN (Bk.env FU) (m + 1) 3 ps = some rs :=
  call_of (i := i3) (fn := Tryz.f3) (by kernel_rfl) (by kernel_rfl) (by kernel_rfl) ((t3 _ _ _).trans h)

/-- laws.FnExactParseShort -/
noncomputable def s4 (_FU : Nat) (C : Oracle) (ps : List PV) : R :=
  popS ps fun s2 r1 =>
  popN r1 <|
  cond (decide (((s2.size : Int) : Int) > 1048576)) (
    some [(B true)]) <|
  optC (C 9 [(Sg s2)]) fun rs3 =>
  popA rs3 fun cs5 r4 =>
  popB r4 fun b7 r6 =>
  popN r6 <|
  optC (putPart [I 0, I 0, I 0, I 0, I 0, B false, I 0, I 0, I 0, I 0, B false, Sg (bs []), I 0, B false, I 0, I 0, I 0, I 0, I 0, B false, I 0, I 0, I 0, I 0, B false, Sg (bs []), I 0] 0 27 (.agg cs5)) fun cs8 =>
  optC (C 10 [(Sg s2)]) fun rs9 =>
  popA rs9 fun cs11 r10 =>
  popB r10 fun b13 r12 =>
  popN r12 <|
  optC (putPart [I 0, I 0, I 0, I 0, I 0, B false, I 0, I 0, I 0, I 0, B false, Sg (bs []), I 0, B false, I 0, I 0, I 0, I 0, I 0, B false, I 0, I 0, I 0, I 0, B false, Sg (bs []), I 0] 0 27 (.agg cs11)) fun cs14 =>
  optA (partA cs14 0 27) fun cs15 =>
  optA (partA cs8 0 27) fun cs16 =>
  optC (C 8 [(.agg cs15), (.agg cs16)]) fun rs17 =>
  popB rs17 fun b19 r18 =>
  popN r18 <|
  cond (!b19) (
    some [(B false)]) <|
  cond (!(b13 == b7)) (
    some [(B false)]) <|
  some [(B true)]
theorem t4 (FU : Nat) (C : Oracle) (ps : List PV) : bodyK Bk FU C Tryz.f4 i4 ps = s4 FU C ps := by kernel_rfl
theorem c4 {FU m : Nat} {ps rs : List PV} (h : s4 FU (callN (Bk.env FU) m) ps = some rs) : callN (Bk.env FU) (m + 1) 4 ps = some rs :=
  call_of (i := i4) (fn := Tryz.f4) (by kernel_rfl) (by kernel_rfl) (by kernel_rfl) ((t4 _ _ _).trans h)

/-- laws.FnExactParseSigns -/
noncomputable def s5 (_FU : Nat) (C : Oracle) (ps : List PV) : R :=
  popS ps fun s2 r1 =>
  popN r1 <|
  cond (decide (((s2.size : Int) : Int) > 1048576)) (
    some [(B true)]) <|
  optC (C 11 [(Sg s2)]) fun rs3 =>
  popLz 27 rs3 fun xs5 r4 =>
  popB r4 fun b7 r6 =>
  popN r6 <|
  optC (C 12 [(Sg s2)]) fun rs8 =>
  popLz 27 rs8 fun xs10 r9 =>
  popB r9 fun b12 r11 =>
  popN r11 <|
  optC (C 13 [(.sl 27 xs10), (.sl 27 xs5)]) fun rs13 =>
  popB rs13 fun b15 r14 =>
  popN r14 <|
  cond (!b15) (
    some [(B false)]) <|
  cond (!(b12 == b7)) (
    some [(B false)]) <|
  optC (C 14 [(.sl 27 xs10), (I 1)]) fun rs16 =>
  popI .i64 rs16 fun n18 r17 =>
  popLz 27 r17 fun xs20 r19 =>
  popN r19 <|
  optC (C 15 [(.sl 27 xs20), (I 1)]) fun rs21 =>
  popI .i64 rs21 fun n23 r22 =>
  popN r22 <|
  cond (decide ((n23 : Int) < 0)) (
    some [(B false)]) <|
  cond ((n23 : Int) != n18) (
    some [(B false)]) <|
  optC (C 12 [(Sg s2)]) fun rs24 =>
  popLz 27 rs24 fun xs26 r25 =>
  popB r25 fun b28 r27 =>
  popN r27 <|
  optC (C 13 [(.sl 27 xs26), (.sl 27 xs5)]) fun rs29 =>
  popB rs29 fun b31 r30 =>
  popN r30 <|
  cond (!b31) (
    some [(B false)]) <|
  cond (!(b28 == b7)) (
    some [(B false)]) <|
  optC (C 15 [(.sl 27 xs20), (I 1)]) fun rs32 =>
  popI .i64 rs32 fun n34 r33 =>
  popN r33 <|
  cond (decide ((n34 : Int) < 0)) (
    some [(B false)]) <|
  cond ((n34 : Int) != n18) (
    some [(B false)]) <|
  some [(B true)]
theorem t5 (FU : Nat) (C : Oracle) (ps : List PV) : bodyK Bk FU C Tryz.f5 i5 ps = s5 FU C ps := by kernel_rfl
theorem c5 {FU m : Nat} {ps rs : List PV} (h : s5 FU (callN (Bk.env FU) m) ps = some rs) : callN (Bk.env FU) (m + 1) 5 ps = some rs :=
  call_of (i := i5) (fn := Tryz.f5) (by kernel_rfl) (by kernel_rfl) (by kernel_rfl) ((t5 _ _ _).trans h)

/-- spec.ImportSign -/
noncomputable def s6 (_FU : Nat) (C : Oracle) (ps : List PV) : R :=
  popS ps fun s2 r1 =>
  popS r1 fun s4 r3 =>
  popN r3 <|
  optC (C 16 [(Sg s2)]) fun rs5 =>
  popB rs5 fun b7 r6 =>
  popN r6 <|
  cond (!b7) (
    optC (fillL [] [I 0, I 0, I 0, I 0, I 0, B false, I 0, I 0, I 0, I 0, B false, Sg (bs []), I 0, B false, I 0, I 0, I 0, I 0, I 0, B false, I 0, I 0, I 0, I 0, B false, Sg (bs []), I 0]) fun cs8 =>
    optC (putPart [I 0, I 0, I 0, I 0, I 0, B false, I 0, I 0, I 0, I 0, B false, Sg (bs []), I 0, B false, I 0, I 0, I 0, I 0, I 0, B false, I 0, I 0, I 0, I 0, B false, Sg (bs []), I 0] 0 27 (.agg cs8)) fun cs9 =>
    optA (partA cs9 0 27) fun cs10 =>
    chk (List.all cs10 PV.isV) <|
    some [(.agg cs10), (B false)]) <|
  optC (C 16 [(Sg s4)]) fun rs11 =>
  popB rs11 fun b13 r12 =>
  popN r12 <|
  cond (!b13) (
    optC (fillL [] [I 0, I 0, I 0, I 0, I 0, B false, I 0, I 0, I 0, I 0, B false, Sg (bs []), I 0, B false, I 0, I 0, I 0, I 0, I 0, B false, I 0, I 0, I 0, I 0, B false, Sg (bs []), I 0]) fun cs14 =>
    optC (putPart [I 0, I 0, I 0, I 0, I 0, B false, I 0, I 0, I 0, I 0, B false, Sg (bs []), I 0, B false, I 0, I 0, I 0, I 0, I 0, B false, I 0, I 0, I 0, I 0, B false, Sg (bs []), I 0] 0 27 (.agg cs14)) fun cs15 =>
    optA (partA cs15 0 27) fun cs16 =>
    chk (List.all cs16 PV.isV) <|
    some [(.agg cs16), (B false)]) <|
  optC (C 17 [(Sg s2)]) fun rs17 =>
  popA rs17 fun cs19 r18 =>
  popI .i64 r18 fun n21 r20 =>
  popN r20 <|
  optC (putPart [I 0, I 0, I 0, I 0, I 0, B false, I 0, I 0, I 0, I 0, B false, Sg (bs []), I 0] 0 13 (.agg cs19)) fun cs22 =>
  optA (partA cs22 0 13) fun cs23 =>
  optC (fillL [(0, 13, (.agg cs23))] [I 0, I 0, I 0, I 0, I 0, B false, I 0, I 0, I 0, I 0, B false, Sg (bs []), I 0, B false, I 0, I 0, I 0, I 0, I 0, B false, I 0, I 0, I 0, I 0, B false, Sg (bs []), I 0]) fun cs24 =>
  optC (putPart [I 0, I 0, I 0, I 0, I 0, B false, I 0, I 0, I 0, I 0, B false, Sg (bs []), I 0, B false, I 0, I 0, I 0, I 0, I 0, B false, I 0, I 0, I 0, I 0, B false, Sg (bs []), I 0] 0 27 (.agg cs24)) fun cs25 =>
  joinK (fun vs =>
    popA vs fun cs37 r36 =>
    popA r36 fun cs39 r38 =>
    popN r38 <|
    optA (partA cs39 0 27) fun cs40 =>
    optC (C 18 [(.agg cs40)]) fun rs41 =>
    popB rs41 fun b43 r42 =>
    popN r42 <|
    cond (!b43) (
      optC (fillL [] [I 0, I 0, I 0, I 0, I 0, B false, I 0, I 0, I 0, I 0, B false, Sg (bs []), I 0, B false, I 0, I 0, I 0, I 0, I 0, B false, I 0, I 0, I 0, I 0, B false, Sg (bs []), I 0]) fun cs44 =>
      optC (putPart cs37 0 27 (.agg cs44)) fun cs45 =>
      optA (partA cs45 0 27) fun cs46 =>
      chk (List.all cs46 PV.isV) <|
      some [(.agg cs46), (B false)]) <|
    optA (partA cs39 0 27) fun cs47 =>
    optC (putPart cs37 0 27 (.agg cs47)) fun cs48 =>
    optA (partA cs48 0 27) fun cs49 =>
    chk (List.all cs49 PV.isV) <|
    some [(.agg cs49), (B true)]) fun j26 =>
  cond (!(s4.toList == (bs []).toList)) (
    optC (C 17 [(Sg s4)]) fun rs27 =>
    popA rs27 fun cs29 r28 =>
    popI .i64 r28 fun n31 r30 =>
    popN r30 <|
    optC (putPart [I 0, I 0, I 0, I 0, I 0, B false, I 0, I 0, I 0, I 0, B false, Sg (bs []), I 0] 0 13 (.agg cs29)) fun cs32 =>
    optC (putPart cs25 13 1 (B true)) fun cs33 =>
    optA (partA cs32 0 13) fun cs34 =>
    optC (putPart cs33 14 13 (.agg cs34)) fun cs35 =>
    j26 [(.agg [I 0, I 0, I 0, I 0, I 0, B false, I 0, I 0, I 0, I 0, B false, Sg (bs []), I 0, B false, I 0, I 0, I 0, I 0, I 0, B false, I 0, I 0, I 0, I 0, B false, Sg (bs []), I 0]), (.agg cs35)]) <|
  j26 [(.agg [I 0, I 0, I 0, I 0, I 0, B false, I 0, I 0, I 0, I 0, B false, Sg (bs []), I 0, B false, I 0, I 0, I 0, I 0, I 0, B false, I 0, I 0, I 0, I 0, B false, Sg (bs []), I 0]), (.agg cs25)]
theorem t6 (FU : Nat) (C : Oracle) (ps : List PV) : bodyK Bk FU C Tryz.f6 i6 ps = s6 FU C ps := by kernel_rfl
theorem c6 {FU m : Nat} {ps rs : List PV} (h : s6 FU (callN (Bk.env FU) m) ps = some rs) : callN (Bk.env FU) (m + 1) 6 ps = some rs :=
  call_of (i := i6) (fn := Tryz.f6) (by kernel_rfl) (by kernel_rfl) (by kernel_rfl) ((t6 _ _ _).trans h)

/-- impl.ImportSign -/
noncomputable def s7 (_FU : Nat) (C : Oracle) (ps : List PV) : R :=
  popS ps fun s2 r1 =>
  popS r1 fun s4 r3 =>
  popN r3 <|
  cond (decide (((s2.size : Int) : Int) > 100)) (
    optC (fillL [] [I 0, I 0, I 0, I 0, I 0, B false, I 0, I 0, I 0, I 0, B false, Sg (bs []), I 0, B false, I 0, I 0, I 0, I 0, I 0, B false, I 0, I 0, I 0, I 0, B false, Sg (bs []), I 0]) fun cs5 =>
    optC (putPart [I 0, I 0, I 0, I 0, I 0, B false, I 0, I 0, I 0, I 0, B false, Sg (bs []), I 0, B false, I 0, I 0, I 0, I 0, I 0, B false, I 0, I 0, I 0, I 0, B false, Sg (bs []), I 0] 0 27 (.agg cs5)) fun cs6 =>
    optA (partA cs6 0 27) fun cs7 =>
    chk (List.all cs7 PV.isV) <|
    some [(.agg cs7), (B false)]) <|
  cond (decide (((s4.size : Int) : Int) > 100)) (
    optC (fillL [] [I 0, I 0, I 0, I 0, I 0, B false, I 0, I 0, I 0, I 0, B false, Sg (bs []), I 0, B false, I 0, I 0, I 0, I 0, I 0, B false, I 0, I 0, I 0, I 0, B false, Sg (bs []), I 0]) fun cs8 =>
    optC (putPart [I 0, I 0, I 0, I 0, I 0, B false, I 0, I 0, I 0, I 0, B false, Sg (bs []), I 0, B false, I 0, I 0, I 0, I 0, I 0, B false, I 0, I 0, I 0, I 0, B false, Sg (bs []), I 0] 0 27 (.agg cs8)) fun cs9 =>
    optA (partA cs9 0 27) fun cs10 =>
    chk (List.all cs10 PV.isV) <|
    some [(.agg cs10), (B false)]) <|
  optC (C 19 [(Sg s2)]) fun rs11 =>
  popA rs11 fun cs13 r12 =>
  popI .i64 r12 fun n15 r14 =>
  popN r14 <|
  optC (putPart [I 0, I 0, I 0, I 0, I 0, B false, I 0, I 0, I 0, I 0, B false, Sg (bs []), I 0] 0 13 (.agg cs13)) fun cs16 =>
  cond (s4.toList == (bs []).toList) (
    optA (partA cs16 0 13) fun cs17 =>
    optC (C 20 [(.agg cs17)]) fun rs18 =>
    popA rs18 fun cs20 r19 =>
    popB r19 fun b22 r21 =>
    popN r21 <|
    optC (putPart [I 0, I 0, I 0, I 0, I 0, B false, I 0, I 0, I 0, I 0, B false, Sg (bs []), I 0, B false, I 0, I 0, I 0, I 0, I 0, B false, I 0, I 0, I 0, I 0, B false, Sg (bs []), I 0] 0 27 (.agg cs20)) fun cs23 =>
    optA (partA cs23 0 27) fun cs24 =>
    chk (List.all cs24 PV.isV) <|
    some [(.agg cs24), (B b22)]) <|
  optC (C 19 [(Sg s4)]) fun rs25 =>
  popA rs25 fun cs27 r26 =>
  popI .i64 r26 fun n29 r28 =>
  popN r28 <|
  optC (putPart [I 0, I 0, I 0, I 0, I 0, B false, I 0, I 0, I 0, I 0, B false, Sg (bs []), I 0] 0 13 (.agg cs27)) fun cs30 =>
  optA (partA cs16 0 13) fun cs31 =>
  optA (partA cs30 0 13) fun cs32 =>
  optC (C 21 [(.agg cs31), (.agg cs32)]) fun rs33 =>
  popA rs33 fun cs35 r34 =>
  popB r34 fun b37 r36 =>
  popN r36 <|
  optC (putPart [I 0, I 0, I 0, I 0, I 0, B false, I 0, I 0, I 0, I 0, B false, Sg (bs []), I 0, B false, I 0, I 0, I 0, I 0, I 0, B false, I 0, I 0, I 0, I 0, B false, Sg (bs []), I 0] 0 27 (.agg cs35)) fun cs38 =>
  optA (partA cs38 0 27) fun cs39 =>
  chk (List.all cs39 PV.isV) <|
  some [(.agg cs39), (B b37)]
theorem t7 (FU : Nat) (C : Oracle) (ps : List PV) : bodyK Bk FU C Tryz.f7 i7 ps = s7 FU C ps := by kernel_rfl
theorem c7 {FU m : Nat} {ps rs : List PV} (h : s7 FU (callN (Bk.env FU) m) ps = some rs) : callN (Bk.env FU) (m + 1) 7 ps = some rs :=
  call_of (i := i7) (fn := Tryz.f7) (by kernel_rfl) (by kernel_rfl) (by kernel_rfl) ((t7 _ _ _).trans h)

/-- laws.eqSign -/
noncomputable def s8 (_FU : Nat) (C : Oracle) (ps : List PV) : R :=
  popA ps fun cs2 r1 =>
  popA r1 fun cs4 r3 =>
  popN r3 <|
  optA (partA cs2 0 13) fun cs5 =>
  optA (partA cs4 0 13) fun cs6 =>
  optC (C 22 [(.agg cs5), (.agg cs6)]) fun rs7 =>
  popB rs7 fun b9 r8 =>
  popN r8 <|
  cond (!b9) (
    some [(B false)]) <|
  optB (cs2[13]?) fun b10 =>
  optB (cs4[13]?) fun b11 =>
  cond (!(b10 == b11)) (
    some [(B false)]) <|
  optA (partA cs2 14 13) fun cs12 =>
  optA (partA cs4 14 13) fun cs13 =>
  optC (C 22 [(.agg cs12), (.agg cs13)]) fun rs14 =>
  popB rs14 fun b16 r15 =>
  popN r15 <|
  cond (!b16) (
    some [(B false)]) <|
  some [(B true)]
theorem t8 (FU : Nat) (C : Oracle) (ps : List PV) : bodyK Bk FU C Tryz.f8 i8 ps = s8 FU C ps := by kernel_rfl
theorem c8 {FU m : Nat} {ps rs : List PV} (h : s8 FU (callN (Bk.env FU) m) ps = some rs) : callN (Bk.env FU) (m + 1) 8 ps = some rs :=
  call_of (i := i8) (fn := Tryz.f8) (by kernel_rfl) (by kernel_rfl) (by kernel_rfl) ((t8 _ _ _).trans h)

/-- spec.ParseShort -/
noncomputable def s9 (FU : Nat) (C : Oracle) (ps : List PV) : R :=
  popS ps fun s2 r1 =>
  popN r1 <|
  optC (C 23 [(Sg s2)]) fun rs3 =>
  popB rs3 fun b5 r4 =>
  popN r4 <|
  cond (!b5) (
    optC (fillL [] [I 0, I 0, I 0, I 0, I 0, B false, I 0, I 0, I 0, I 0, B false, Sg (bs []), I 0, B false, I 0, I 0, I 0, I 0, I 0, B false, I 0, I 0, I 0, I 0, B false, Sg (bs []), I 0]) fun cs6 =>
    optC (putPart [I 0, I 0, I 0, I 0, I 0, B false, I 0, I 0, I 0, I 0, B false, Sg (bs []), I 0, B false, I 0, I 0, I 0, I 0, I 0, B false, I 0, I 0, I 0, I 0, B false, Sg (bs []), I 0] 0 27 (.agg cs6)) fun cs7 =>
    optA (partA cs7 0 27) fun cs8 =>
    chk (List.all cs8 PV.isV) <|
    some [(.agg cs8), (B false)]) <|
  optC (C 24 [(Sg s2), (.v (.int .u8 43))]) fun rs9 =>
  popLz 1 rs9 fun xs11 r10 =>
  popN r10 <|
  chk ((1 == 1) && (decide ((0 : Int) ≤ 0) && decide ((0 : Int) < (@List.length PV xs11 : Int)))) <|
  optS (eltS xs11 (Int.toNat 0) 0) fun s12 =>
  joinK (fun vs =>
    popS vs fun s99 r98 =>
    popA r98 fun cs101 r100 =>
    popLz 1 r100 fun xs103 r102 =>
    popS r102 fun s105 r104 =>
    popN r104 <|
    optC (C 25 [(Sg s105)]) fun rs106 =>
    popA rs106 fun cs108 r107 =>
    popI .i64 r107 fun n110 r109 =>
    popI .i64 r109 fun n112 r111 =>
    popN r111 <|
    optC (putPart [I 0, I 0, I 0, I 0, I 0, B false, I 0, I 0, I 0, I 0, B false, Sg (bs []), I 0, B false, I 0, I 0, I 0, I 0, I 0, B false, I 0, I 0, I 0, I 0, B false, Sg (bs []), I 0] 0 27 (.agg cs108)) fun cs113 =>
    cond (decide (((@List.length PV xs103 : Int) : Int) > 2)) (
      optC (fillL [] [I 0, I 0, I 0, I 0, I 0, B false, I 0, I 0, I 0, I 0, B false, Sg (bs []), I 0, B false, I 0, I 0, I 0, I 0, I 0, B false, I 0, I 0, I 0, I 0, B false, Sg (bs []), I 0]) fun cs114 =>
      optC (putPart cs101 0 27 (.agg cs114)) fun cs115 =>
      optA (partA cs115 0 27) fun cs116 =>
      chk (List.all cs116 PV.isV) <|
      some [(.agg cs116), (B false)]) <|
    cond ((n110 : Int) != 0) (
      optC (fillL [] [I 0, I 0, I 0, I 0, I 0, B false, I 0, I 0, I 0, I 0, B false, Sg (bs []), I 0, B false, I 0, I 0, I 0, I 0, I 0, B false, I 0, I 0, I 0, I 0, B false, Sg (bs []), I 0]) fun cs117 =>
      optC (putPart cs101 0 27 (.agg cs117)) fun cs118 =>
      optA (partA cs118 0 27) fun cs119 =>
      chk (List.all cs119 PV.isV) <|
      some [(.agg cs119), (B false)]) <|
    optA (partA cs113 0 27) fun cs120 =>
    optC (C 26 [(.agg cs120)]) fun rs121 =>
    popS rs121 fun s123 r122 =>
    popN r122 <|
    cond (!(s123.toList == s99.toList)) (
      optC (fillL [] [I 0, I 0, I 0, I 0, I 0, B false, I 0, I 0, I 0, I 0, B false, Sg (bs []), I 0, B false, I 0, I 0, I 0, I 0, I 0, B false, I 0, I 0, I 0, I 0, B false, Sg (bs []), I 0]) fun cs124 =>
      optC (putPart cs101 0 27 (.agg cs124)) fun cs125 =>
      optA (partA cs125 0 27) fun cs126 =>
      chk (List.all cs126 PV.isV) <|
      some [(.agg cs126), (B false)]) <|
    optA (partA cs113 0 27) fun cs127 =>
    optC (putPart cs101 0 27 (.agg cs127)) fun cs128 =>
    optA (partA cs128 0 27) fun cs129 =>
    chk (List.all cs129 PV.isV) <|
    some [(.agg cs129), (B true)]) fun j13 =>
  cond (((@List.length PV xs11 : Int) : Int) == 2) (
    chk ((1 == 1) && (decide ((0 : Int) ≤ 0) && decide ((0 : Int) < (@List.length PV xs11 : Int)))) <|
    optS (eltS xs11 (Int.toNat 0) 0) fun s14 =>
    optC (C 24 [(Sg s14), (.v (.int .u8 47))]) fun rs15 =>
    popLz 1 rs15 fun xs17 r16 =>
    popN r16 <|
    chk ((1 == 1) && (decide ((0 : Int) ≤ 1) && decide ((1 : Int) < (@List.length PV xs11 : Int)))) <|
    optS (eltS xs11 (Int.toNat 1) 0) fun s18 =>
    optC (C 24 [(Sg s18), (.v (.int .u8 47))]) fun rs19 =>
    popLz 1 rs19 fun xs21 r20 =>
    popN r20 <|
    cond (((@List.length PV xs17 : Int) : Int) != 4) (
      optC (fillL [] [I 0, I 0, I 0, I 0, I 0, B false, I 0, I 0, I 0, I 0, B false, Sg (bs []), I 0, B false, I 0, I 0, I 0, I 0, I 0, B false, I 0, I 0, I 0, I 0, B false, Sg (bs []), I 0]) fun cs22 =>
      optC (putPart [I 0, I 0, I 0, I 0, I 0, B false, I 0, I 0, I 0, I 0, B false, Sg (bs []), I 0, B false, I 0, I 0, I 0, I 0, I 0, B false, I 0, I 0, I 0, I 0, B false, Sg (bs []), I 0] 0 27 (.agg cs22)) fun cs23 =>
      optA (partA cs23 0 27) fun cs24 =>
      chk (List.all cs24 PV.isV) <|
      some [(.agg cs24), (B false)]) <|
    cond (((@List.length PV xs21 : Int) : Int) != 4) (
      optC (fillL [] [I 0, I 0, I 0, I 0, I 0, B false, I 0, I 0, I 0, I 0, B false, Sg (bs []), I 0, B false, I 0, I 0, I 0, I 0, I 0, B false, I 0, I 0, I 0, I 0, B false, Sg (bs []), I 0]) fun cs25 =>
      optC (putPart [I 0, I 0, I 0, I 0, I 0, B false, I 0, I 0, I 0, I 0, B false, Sg (bs []), I 0, B false, I 0, I 0, I 0, I 0, I 0, B false, I 0, I 0, I 0, I 0, B false, Sg (bs []), I 0] 0 27 (.agg cs25)) fun cs26 =>
      optA (partA cs26 0 27) fun cs27 =>
      chk (List.all cs27 PV.isV) <|
      some [(.agg cs27), (B false)]) <|
    iterK FU (fun rec46 vs =>
      popS vs fun s29 r28 =>
      popA r28 fun cs31 r30 =>
      popLz 1 r30 fun xs33 r32 =>
      popS r32 fun s35 r34 =>
      popLz 1 r34 fun xs37 r36 =>
      popLz 1 r36 fun xs39 r38 =>
      popB r38 fun b41 r40 =>
      chk b41 <|
      popI .i64 r40 fun n43 r42 =>
      popI .i64 r42 fun n45 r44 =>
      popN r44 <|
      cond (decide ((n45 : Int) < n43)) (
        chk ((1 == 1) && (decide ((0 : Int) ≤ n45) && decide ((n45 : Int) < (@List.length PV xs39 : Int)))) <|
        optS (eltS xs39 (Int.toNat n45) 0) fun s47 =>
        cond (s47.toList == (bs [61]).toList) (
          chk ((1 == 1) && (decide ((0 : Int) ≤ n45) && decide ((n45 : Int) < (@List.length PV xs37 : Int)))) <|
          optS (eltS xs37 (Int.toNat n45) 0) fun s48 =>
          chk ((1 == 1) && (decide ((0 : Int) ≤ n45) && decide ((n45 : Int) < (@List.length PV xs39 : Int)))) <|
          optP xs39[(Int.toNat n45)]? fun x49 =>
          chk ((PV.cells (Sg s48)).length == 1 && 0 == 0) <|
          rec46 [(Sg s29), (.agg cs31), (.sl 1 xs33), (Sg s35), (.sl 1 xs37), (.sl 1 (xs39.set (Int.toNat n45) (Sg s48))), (B true), (I n43), (I (wr (n45 + 1)))]) <|
        rec46 [(Sg s29), (.agg cs31), (.sl 1 xs33), (Sg s35), (.sl 1 xs37), (.sl 1 xs39), (B true), (I n43), (I (wr (n45 + 1)))]) <|
      chk ((1 == 1) && (decide ((0 : Int) ≤ 0) && decide ((0 : Int) < (@List.length PV xs39 : Int)))) <|
      optS (eltS xs39 (Int.toNat 0) 0) fun s86 =>
      optS (binPV none false .add (Sg (bs [43])) (Sg s86)) fun s87 =>
      optS (binPV none false .add (Sg s87) (Sg (bs [47]))) fun s88 =>
      chk ((1 == 1) && (decide ((0 : Int) ≤ 1) && decide ((1 : Int) < (@List.length PV xs39 : Int)))) <|
      optS (eltS xs39 (Int.toNat 1) 0) fun s89 =>
      optS (binPV none false .add (Sg s88) (Sg s89)) fun s90 =>
      optS (binPV none false .add (Sg s90) (Sg (bs [47]))) fun s91 =>
      chk ((1 == 1) && (decide ((0 : Int) ≤ 2) && decide ((2 : Int) < (@List.length PV xs39 : Int)))) <|
      optS (eltS xs39 (Int.toNat 2) 0) fun s92 =>
      optS (binPV none false .add (Sg s91) (Sg s92)) fun s93 =>
      optS (binPV none false .add (Sg s93) (Sg (bs [47]))) fun s94 =>
      chk ((1 == 1) && (decide ((0 : Int) ≤ 3) && decide ((3 : Int) < (@List.length PV xs39 : Int)))) <|
      optS (eltS xs39 (Int.toNat 3) 0) fun s95 =>
      optS (binPV none false .add (Sg s94) (Sg s95)) fun s96 =>
      optS (binPV none false .add (Sg s35) (Sg s96)) fun s97 =>
      j13 [(Sg s29), (.agg cs31), (.sl 1 xs33), (Sg s97)]) [(Sg s2), (.agg [I 0, I 0, I 0, I 0, I 0, B false, I 0, I 0, I 0, I 0, B false, Sg (bs []), I 0, B false, I 0, I 0, I 0, I 0, I 0, B false, I 0, I 0, I 0, I 0, B false, Sg (bs []), I 0]), (.sl 1 xs11), (Sg s12), (.sl 1 xs17), (.sl 1 xs21), (B true), (I (@List.length PV xs21 : Int)), (I 0)]) <|
  j13 [(Sg s2), (.agg [I 0, I 0, I 0, I 0, I 0, B false, I 0, I 0, I 0, I 0, B false, Sg (bs []), I 0, B false, I 0, I 0, I 0, I 0, I 0, B false, I 0, I 0, I 0, I 0, B false, Sg (bs []), I 0]), (.sl 1 xs11), (Sg s12)]
theorem t9 (FU : Nat) (C : Oracle) (ps : List PV) : bodyK Bk FU C Tryz.f9 i9 ps = s9 FU C ps := by kernel_rfl
theorem c9 {FU m : Nat} {ps rs : List PV} (h : s9 FU (callN (Bk.env FU) m) ps = some rs) : callN (Bk.env FU) (m + 1) 9 ps = some rs :=
  call_of (i := i9) (fn := Tryz.f9) (by kernel_rfl) (by kernel_rfl) (by kernel_rfl) ((t9 _ _ _).trans h)

/-- impl.ParseShort -/
noncomputable def s10 (FU : Nat) (C : Oracle) (ps : List PV) : R :=
  popS ps fun s2 r1 =>
  popN r1 <|
  cond (decide (((s2.size : Int) : Int) > 200)) (
    optC (fillL [] [I 0, I 0, I 0, I 0, I 0, B false, I 0, I 0, I 0, I 0, B false, Sg (bs []), I 0, B false, I 0, I 0, I 0, I 0, I 0, B false, I 0, I 0, I 0, I 0, B false, Sg (bs []), I 0]) fun cs3 =>
    optC (putPart [I 0, I 0, I 0, I 0, I 0, B false, I 0, I 0, I 0, I 0, B false, Sg (bs []), I 0, B false, I 0, I 0, I 0, I 0, I 0, B false, I 0, I 0, I 0, I 0, B false, Sg (bs []), I 0] 0 27 (.agg cs3)) fun cs4 =>
    optA (partA cs4 0 27) fun cs5 =>
    chk (List.all cs5 PV.isV) <|
    some [(.agg cs5), (B false)]) <|
  optC (C 27 [(Sg s2), (Sg (bs [43]))]) fun rs6 =>
  popS rs6 fun s8 r7 =>
  popS r7 fun s10 r9 =>
  popB r9 fun b12 r11 =>
  popN r11 <|
  joinK (fun vs =>
    popS vs fun s84 r83 =>
    popA r83 fun cs86 r85 =>
    popS r85 fun s88 r87 =>
    popN r87 <|
    optC (C 30 [(Sg s88)]) fun rs89 =>
    popA rs89 fun cs91 r90 =>
    popI .i64 r90 fun n93 r92 =>
    popI .i64 r92 fun n95 r94 =>
    popN r94 <|
    optC (putPart [I 0, I 0, I 0, I 0, I 0, B false, I 0, I 0, I 0, I 0, B false, Sg (bs []), I 0, B false, I 0, I 0, I 0, I 0, I 0, B false, I 0, I 0, I 0, I 0, B false, Sg (bs []), I 0] 0 27 (.agg cs91)) fun cs96 =>
    cond ((n93 : Int) != 0) (
      optC (fillL [] [I 0, I 0, I 0, I 0, I 0, B false, I 0, I 0, I 0, I 0, B false, Sg (bs []), I 0, B false, I 0, I 0, I 0, I 0, I 0, B false, I 0, I 0, I 0, I 0, B false, Sg (bs []), I 0]) fun cs97 =>
      optC (putPart cs86 0 27 (.agg cs97)) fun cs98 =>
      optA (partA cs98 0 27) fun cs99 =>
      chk (List.all cs99 PV.isV) <|
      some [(.agg cs99), (B false)]) <|
    optA (partA cs96 0 27) fun cs100 =>
    optC (C 31 [(.agg cs100)]) fun rs101 =>
    popS rs101 fun s103 r102 =>
    popN r102 <|
    cond (!(s103.toList == s84.toList)) (
      optC (fillL [] [I 0, I 0, I 0, I 0, I 0, B false, I 0, I 0, I 0, I 0, B false, Sg (bs []), I 0, B false, I 0, I 0, I 0, I 0, I 0, B false, I 0, I 0, I 0, I 0, B false, Sg (bs []), I 0]) fun cs104 =>
      optC (putPart cs86 0 27 (.agg cs104)) fun cs105 =>
      optA (partA cs105 0 27) fun cs106 =>
      chk (List.all cs106 PV.isV) <|
      some [(.agg cs106), (B false)]) <|
    optA (partA cs96 0 27) fun cs107 =>
    optC (putPart cs86 0 27 (.agg cs107)) fun cs108 =>
    optA (partA cs108 0 27) fun cs109 =>
    chk (List.all cs109 PV.isV) <|
    some [(.agg cs109), (B true)]) fun j13 =>
  cond b12 (
    optC (C 28 [(Sg s10), (Sg (bs [47]))]) fun rs14 =>
    popLz 1 rs14 fun xs16 r15 =>
    popN r15 <|
    optC (C 28 [(Sg s8), (Sg (bs [47]))]) fun rs17 =>
    popLz 1 rs17 fun xs19 r18 =>
    popN r18 <|
    cond (((@List.length PV xs16 : Int) : Int) != 4) (
      optC (fillL [] [I 0, I 0, I 0, I 0, I 0, B false, I 0, I 0, I 0, I 0, B false, Sg (bs []), I 0, B false, I 0, I 0, I 0, I 0, I 0, B false, I 0, I 0, I 0, I 0, B false, Sg (bs []), I 0]) fun cs20 =>
      optC (putPart [I 0, I 0, I 0, I 0, I 0, B false, I 0, I 0, I 0, I 0, B false, Sg (bs []), I 0, B false, I 0, I 0, I 0, I 0, I 0, B false, I 0, I 0, I 0, I 0, B false, Sg (bs []), I 0] 0 27 (.agg cs20)) fun cs21 =>
      optA (partA cs21 0 27) fun cs22 =>
      chk (List.all cs22 PV.isV) <|
      some [(.agg cs22), (B false)]) <|
    cond (((@List.length PV xs19 : Int) : Int) != 4) (
      optC (fillL [] [I 0, I 0, I 0, I 0, I 0, B false, I 0, I 0, I 0, I 0, B false, Sg (bs []), I 0, B false, I 0, I 0, I 0, I 0, I 0, B false, I 0, I 0, I 0, I 0, B false, Sg (bs []), I 0]) fun cs23 =>
      optC (putPart [I 0, I 0, I 0, I 0, I 0, B false, I 0, I 0, I 0, I 0, B false, Sg (bs []), I 0, B false, I 0, I 0, I 0, I 0, I 0, B false, I 0, I 0, I 0, I 0, B false, Sg (bs []), I 0] 0 27 (.agg cs23)) fun cs24 =>
      optA (partA cs24 0 27) fun cs25 =>
      chk (List.all cs25 PV.isV) <|
      some [(.agg cs25), (B false)]) <|
    iterK FU (fun rec42 vs =>
      popS vs fun s27 r26 =>
      popA r26 fun cs29 r28 =>
      popS r28 fun s31 r30 =>
      popLz 1 r30 fun xs33 r32 =>
      popLz 1 r32 fun xs35 r34 =>
      popB r34 fun b37 r36 =>
      chk b37 <|
      popI .i64 r36 fun n39 r38 =>
      popI .i64 r38 fun n41 r40 =>
      popN r40 <|
      cond (decide ((n41 : Int) < n39)) (
        chk ((1 == 1) && (decide ((0 : Int) ≤ n41) && decide ((n41 : Int) < (@List.length PV xs33 : Int)))) <|
        optS (eltS xs33 (Int.toNat n41) 0) fun s43 =>
        cond (s43.toList == (bs [61]).toList) (
          chk ((1 == 1) && (decide ((0 : Int) ≤ n41) && decide ((n41 : Int) < (@List.length PV xs35 : Int)))) <|
          optS (eltS xs35 (Int.toNat n41) 0) fun s44 =>
          chk ((1 == 1) && (decide ((0 : Int) ≤ n41) && decide ((n41 : Int) < (@List.length PV xs33 : Int)))) <|
          optP xs33[(Int.toNat n41)]? fun x45 =>
          chk ((PV.cells (Sg s44)).length == 1 && 0 == 0) <|
          rec42 [(Sg s27), (.agg cs29), (Sg s31), (.sl 1 (xs33.set (Int.toNat n41) (Sg s44))), (.sl 1 xs35), (B true), (I n39), (I (wr (n41 + 1)))]) <|
        rec42 [(Sg s27), (.agg cs29), (Sg s31), (.sl 1 xs33), (.sl 1 xs35), (B true), (I n39), (I (wr (n41 + 1)))]) <|
      optC (C 29 [(.sl 1 xs33), (Sg (bs [47]))]) fun rs78 =>
      popS rs78 fun s80 r79 =>
      popN r79 <|
      optS (binPV none false .add (Sg (bs [43])) (Sg s80)) fun s81 =>
      optS (binPV none false .add (Sg s31) (Sg s81)) fun s82 =>
      j13 [(Sg s27), (.agg cs29), (Sg s82)]) [(Sg s2), (.agg [I 0, I 0, I 0, I 0, I 0, B false, I 0, I 0, I 0, I 0, B false, Sg (bs []), I 0, B false, I 0, I 0, I 0, I 0, I 0, B false, I 0, I 0, I 0, I 0, B false, Sg (bs []), I 0]), (Sg s8), (.sl 1 xs16), (.sl 1 xs19), (B true), (I (@List.length PV xs16 : Int)), (I 0)]) <|
  j13 [(Sg s2), (.agg [I 0, I 0, I 0, I 0, I 0, B false, I 0, I 0, I 0, I 0, B false, Sg (bs []), I 0, B false, I 0, I 0, I 0, I 0, I 0, B false, I 0, I 0, I 0, I 0, B false, Sg (bs []), I 0]), (Sg s8)]
theorem t10 (FU : Nat) (C : Oracle) (ps : List PV) : bodyK Bk FU C Tryz.f10 i10 ps = s10 FU C ps := by kernel_rfl
theorem c10 {FU m : Nat} {ps rs : List PV} (h : s10 FU (callN (Bk.env FU) m) ps = some rs) : callN (Bk.env FU) (m + 1) 10 ps = some rs :=
  call_of (i := i10) (fn := Tryz.f10) (by kernel_rfl) (by kernel_rfl) (by kernel_rfl) ((t10 _ _ _).trans h)

/-- spec.ParseSigns -/
noncomputable def s11 (FU : Nat) (C : Oracle) (ps : List PV) : R :=
  popS ps fun s2 r1 =>
  popN r1 <|
  optC (C 24 [(Sg s2), (.v (.int .u8 10))]) fun rs3 =>
  popLz 1 rs3 fun xs5 r4 =>
  popN r4 <|
  cond (decide (((s2.size : Int) : Int) > 2000)) (
    chk (List.all ([] : List PV) PV.flat) <|
    some [(.sl 27 []), (B false)]) <|
  cond (decide (((@List.length PV xs5 : Int) : Int) > 21)) (
    chk (List.all ([] : List PV) PV.flat) <|
    some [(.sl 27 []), (B false)]) <|
  chk ((1 == 1) && (decide ((0 : Int) ≤ (wr ((@List.length PV xs5 : Int) - 1))) && decide (((wr ((@List.length PV xs5 : Int) - 1)) : Int) < (@List.length PV xs5 : Int)))) <|
  optS (eltS xs5 (Int.toNat (wr ((@List.length PV xs5 : Int) - 1))) 0) fun s6 =>
  cond (!(s6.toList == (bs []).toList)) (
    chk (List.all ([] : List PV) PV.flat) <|
    some [(.sl 27 []), (B false)]) <|
  chk ((some 1 == some 1) && within 0 (wr ((@List.length PV xs5 : Int) - 1)) (@List.length PV xs5)) <|
  iterK FU (fun rec15 vs =>
    popLz 27 vs fun xs8 r7 =>
    popLz 1 r7 fun xs10 r9 =>
    popI .i64 r9 fun n12 r11 =>
    popI .i64 r11 fun n14 r13 =>
    popN r13 <|
    cond (decide ((n14 : Int) < n12)) (
      chk ((1 == 1) && decide ((0 : Int) ≤ n14)) <|
      optP xs10[Int.toNat n14]? fun x16 =>
      optS (x16.cells[0]?) fun s17 =>
      optC (C 25 [(Sg s17)]) fun rs18 =>
      popA rs18 fun cs20 r19 =>
      popI .i64 r19 fun n22 r21 =>
      popI .i64 r21 fun n24 r23 =>
      popN r23 <|
      optC (putPart [I 0, I 0, I 0, I 0, I 0, B false, I 0, I 0, I 0, I 0, B false, Sg (bs []), I 0, B false, I 0, I 0, I 0, I 0, I 0, B false, I 0, I 0, I 0, I 0, B false, Sg (bs []), I 0] 0 27 (.agg cs20)) fun cs25 =>
      cond ((n22 : Int) != 0) (
        chk (List.all ([] : List PV) PV.flat) <|
        some [(.sl 27 []), (B false)]) <|
      optA (partA cs25 0 27) fun cs26 =>
      chk (List.all ([(.agg cs26)] : List PV) (fun p : PV => p.cells.length == 27)) <|
      chk ((27 == 27) && (27 == 27) && !(false) && roomy (@List.length PV xs8 + @List.length PV [(.agg cs26)]) 232 && !(232 == 0)) <|
      rec15 [(.sl 27 (xs8 ++ [(.agg cs26)])), (.sl 1 xs10), (I n12), (I (wr (n14 + 1)))]) <|
    chk (List.all (xs8 : List PV) PV.flat) <|
    some [(.sl 27 xs8), (B true)]) [(.sl 27 []), (.sl 1 (List.drop (Int.toNat 0) (List.take (Int.toNat (wr ((@List.length PV xs5 : Int) - 1))) xs5))), (I (@List.length PV (List.drop (Int.toNat 0) (List.take (Int.toNat (wr ((@List.length PV xs5 : Int) - 1))) xs5)) : Int)), (I 0)]
theorem t11 (FU : Nat) (C : Oracle) (ps : List PV) : bodyK Bk FU C Tryz.f11 i11 ps = s11 FU C ps := by kernel_rfl
theorem c11 {FU m : Nat} {ps rs : List PV} (h : s11 FU (callN (Bk.env FU) m) ps = some rs) : callN (Bk.env FU) (m + 1) 11 ps = some rs :=
  call_of (i := i11) (fn := Tryz.f11) (by kernel_rfl) (by kernel_rfl) (by kernel_rfl) ((t11 _ _ _).trans h)

/-- laws.eqSignS -/
noncomputable def s13 (FU : Nat) (C : Oracle) (ps : List PV) : R :=
  popLz 27 ps fun xs2 r1 =>
  popLz 27 r1 fun xs4 r3 =>
  popN r3 <|
  cond (((@List.length PV xs2 : Int) : Int) != (@List.length PV xs4 : Int)) (
    some [(B false)]) <|
  iterK FU (fun rec11 vs =>
    popLz 27 vs fun xs6 r5 =>
    popLz 27 r5 fun xs8 r7 =>
    popI .i64 r7 fun n10 r9 =>
    popN r9 <|
    cond (decide ((n10 : Int) < (@List.length PV xs6 : Int))) (
      chk ((27 == 27) && decide ((0 : Int) ≤ n10)) <|
      optP xs6[Int.toNat n10]? fun x12 =>
      optA (partA x12.cells 0 27) fun cs13 =>
      chk ((27 == 27) && decide ((0 : Int) ≤ n10)) <|
      optP xs8[Int.toNat n10]? fun x14 =>
      optA (partA x14.cells 0 27) fun cs15 =>
      optC (C 8 [(.agg cs13), (.agg cs15)]) fun rs16 =>
      popB rs16 fun b18 r17 =>
      popN r17 <|
      cond (!b18) (
        some [(B false)]) <|
      rec11 [(.sl 27 xs6), (.sl 27 xs8), (I (wr (n10 + 1)))]) <|
    some [(B true)]) [(.sl 27 xs2), (.sl 27 xs4), (I 0)]
theorem t13 (FU : Nat) (C : Oracle) (ps : List PV) : bodyK Bk FU C Tryz.f13 i13 ps = s13 FU C ps := by kernel_rfl
theorem c13 {FU m : Nat} {ps rs : List PV} (h : s13 FU (callN (Bk.env FU) m) ps = some rs) : callN (Bk.env FU) (m + 1) 13 ps = some rs :=
  call_of (i := i13) (fn := Tryz.f13) (by kernel_rfl) (by kernel_rfl) (by kernel_rfl) ((t13 _ _ _).trans h)

/-- laws.markSignS -/
noncomputable def s14 (FU : Nat) (C : Oracle) (ps : List PV) : R :=
  popLz 27 ps fun xs2 r1 =>
  popI .i64 r1 fun n4 r3 =>
  popN r3 <|
  iterK FU (fun rec11 vs =>
    popLz 27 vs fun xs6 r5 =>
    popI .i64 r5 fun n8 r7 =>
    popI .i64 r7 fun n10 r9 =>
    popN r9 <|
    cond (decide ((n10 : Int) < (@List.length PV xs6 : Int))) (
      chk ((27 == 27) && (decide ((0 : Int) ≤ n10) && decide ((n10 : Int) < (@List.length PV xs6 : Int)))) <|
      optP xs6[(Int.toNat n10)]? fun x12 =>
      optC (putPart x12.cells 0 1 (I n8)) fun cs13 =>
      chk ((27 == 27) && (decide ((0 : Int) ≤ n10) && decide ((n10 : Int) < (@List.length PV (xs6.set (Int.toNat n10) (.agg cs13)) : Int)))) <|
      optP (xs6.set (Int.toNat n10) (.agg cs13))[(Int.toNat n10)]? fun x14 =>
      optC (putPart x14.cells 1 1 (I (wr (n8 + 1)))) fun cs15 =>
      chk ((27 == 27) && (decide ((0 : Int) ≤ n10) && decide ((n10 : Int) < (@List.length PV ((xs6.set (Int.toNat n10) (.agg cs13)).set (Int.toNat n10) (.agg cs15)) : Int)))) <|
      optP ((xs6.set (Int.toNat n10) (.agg cs13)).set (Int.toNat n10) (.agg cs15))[(Int.toNat n10)]? fun x16 =>
      optC (putPart x16.cells 2 1 (I (wr ((wr (n8 + 1)) + 1)))) fun cs17 =>
      chk ((27 == 27) && (decide ((0 : Int) ≤ n10) && decide ((n10 : Int) < (@List.length PV (((xs6.set (Int.toNat n10) (.agg cs13)).set (Int.toNat n10) (.agg cs15)).set (Int.toNat n10) (.agg cs17)) : Int)))) <|
      optP (((xs6.set (Int.toNat n10) (.agg cs13)).set (Int.toNat n10) (.agg cs15)).set (Int.toNat n10) (.agg cs17))[(Int.toNat n10)]? fun x18 =>
      optC (putPart x18.cells 3 1 (I (wr ((wr ((wr (n8 + 1)) + 1)) + 1)))) fun cs19 =>
      chk ((27 == 27) && (decide ((0 : Int) ≤ n10) && decide ((n10 : Int) < (@List.length PV ((((xs6.set (Int.toNat n10) (.agg cs13)).set (Int.toNat n10) (.agg cs15)).set (Int.toNat n10) (.agg cs17)).set (Int.toNat n10) (.agg cs19)) : Int)))) <|
      optP ((((xs6.set (Int.toNat n10) (.agg cs13)).set (Int.toNat n10) (.agg cs15)).set (Int.toNat n10) (.agg cs17)).set (Int.toNat n10) (.agg cs19))[(Int.toNat n10)]? fun x20 =>
      optC (putPart x20.cells 4 1 (I (wr ((wr ((wr ((wr (n8 + 1)) + 1)) + 1)) + 1)))) fun cs21 =>
      optI .i64 (binPV none false .rem (I (wr ((wr ((wr ((wr ((wr (n8 + 1)) + 1)) + 1)) + 1)) + 1))) (I 3)) fun n22 =>
      chk ((27 == 27) && (decide ((0 : Int) ≤ n10) && decide ((n10 : Int) < (@List.length PV (((((xs6.set (Int.toNat n10) (.agg cs13)).set (Int.toNat n10) (.agg cs15)).set (Int.toNat n10) (.agg cs17)).set (Int.toNat n10) (.agg cs19)).set (Int.toNat n10) (.agg cs21)) : Int)))) <|
      optP (((((xs6.set (Int.toNat n10) (.agg cs13)).set (Int.toNat n10) (.agg cs15)).set (Int.toNat n10) (.agg cs17)).set (Int.toNat n10) (.agg cs19)).set (Int.toNat n10) (.agg cs21))[(Int.toNat n10)]? fun x23 =>
      optC (putPart x23.cells 5 1 (B ((n22 : Int) == 0))) fun cs24 =>
      chk ((27 == 27) && (decide ((0 : Int) ≤ n10) && decide ((n10 : Int) < (@List.length PV ((((((xs6.set (Int.toNat n10) (.agg cs13)).set (Int.toNat n10) (.agg cs15)).set (Int.toNat n10) (.agg cs17)).set (Int.toNat n10) (.agg cs19)).set (Int.toNat n10) (.agg cs21)).set (Int.toNat n10) (.agg cs24)) : Int)))) <|
      optP ((((((xs6.set (Int.toNat n10) (.agg cs13)).set (Int.toNat n10) (.agg cs15)).set (Int.toNat n10) (.agg cs17)).set (Int.toNat n10) (.agg cs19)).set (Int.toNat n10) (.agg cs21)).set (Int.toNat n10) (.agg cs24))[(Int.toNat n10)]? fun x25 =>
      optC (putPart x25.cells 6 1 (I (wr ((wr ((wr ((wr ((wr ((wr (n8 + 1)) + 1)) + 1)) + 1)) + 1)) + 1)))) fun cs26 =>
      chk ((27 == 27) && (decide ((0 : Int) ≤ n10) && decide ((n10 : Int) < (@List.length PV (((((((xs6.set (Int.toNat n10) (.agg cs13)).set (Int.toNat n10) (.agg cs15)).set (Int.toNat n10) (.agg cs17)).set (Int.toNat n10) (.agg cs19)).set (Int.toNat n10) (.agg cs21)).set (Int.toNat n10) (.agg cs24)).set (Int.toNat n10) (.agg cs26)) : Int)))) <|
      optP (((((((xs6.set (Int.toNat n10) (.agg cs13)).set (Int.toNat n10) (.agg cs15)).set (Int.toNat n10) (.agg cs17)).set (Int.toNat n10) (.agg cs19)).set (Int.toNat n10) (.agg cs21)).set (Int.toNat n10) (.agg cs24)).set (Int.toNat n10) (.agg cs26))[(Int.toNat n10)]? fun x27 =>
      optC (putPart x27.cells 7 1 (I (wr ((wr ((wr ((wr ((wr ((wr ((wr (n8 + 1)) + 1)) + 1)) + 1)) + 1)) + 1)) + 1)))) fun cs28 =>
      chk ((27 == 27) && (decide ((0 : Int) ≤ n10) && decide ((n10 : Int) < (@List.length PV ((((((((xs6.set (Int.toNat n10) (.agg cs13)).set (Int.toNat n10) (.agg cs15)).set (Int.toNat n10) (.agg cs17)).set (Int.toNat n10) (.agg cs19)).set (Int.toNat n10) (.agg cs21)).set (Int.toNat n10) (.agg cs24)).set (Int.toNat n10) (.agg cs26)).set (Int.toNat n10) (.agg cs28)) : Int)))) <|
      optP ((((((((xs6.set (Int.toNat n10) (.agg cs13)).set (Int.toNat n10) (.agg cs15)).set (Int.toNat n10) (.agg cs17)).set (Int.toNat n10) (.agg cs19)).set (Int.toNat n10) (.agg cs21)).set (Int.toNat n10) (.agg cs24)).set (Int.toNat n10) (.agg cs26)).set (Int.toNat n10) (.agg cs28))[(Int.toNat n10)]? fun x29 =>
      optC (putPart x29.cells 8 1 (I (wr ((wr ((wr ((wr ((wr ((wr ((wr ((wr (n8 + 1)) + 1)) + 1)) + 1)) + 1)) + 1)) + 1)) + 1)))) fun cs30 =>
      chk ((27 == 27) && (decide ((0 : Int) ≤ n10) && decide ((n10 : Int) < (@List.length PV (((((((((xs6.set (Int.toNat n10) (.agg cs13)).set (Int.toNat n10) (.agg cs15)).set (Int.toNat n10) (.agg cs17)).set (Int.toNat n10) (.agg cs19)).set (Int.toNat n10) (.agg cs21)).set (Int.toNat n10) (.agg cs24)).set (Int.toNat n10) (.agg cs26)).set (Int.toNat n10) (.agg cs28)).set (Int.toNat n10) (.agg cs30)) : Int)))) <|
      optP (((((((((xs6.set (Int.toNat n10) (.agg cs13)).set (Int.toNat n10) (.agg cs15)).set (Int.toNat n10) (.agg cs17)).set (Int.toNat n10) (.agg cs19)).set (Int.toNat n10) (.agg cs21)).set (Int.toNat n10) (.agg cs24)).set (Int.toNat n10) (.agg cs26)).set (Int.toNat n10) (.agg cs28)).set (Int.toNat n10) (.agg cs30))[(Int.toNat n10)]? fun x31 =>
      optC (putPart x31.cells 9 1 (I (wr ((wr ((wr ((wr ((wr ((wr ((wr ((wr ((wr (n8 + 1)) + 1)) + 1)) + 1)) + 1)) + 1)) + 1)) + 1)) + 1)))) fun cs32 =>
      optI .i64 (binPV none false .rem (I (wr ((wr ((wr ((wr ((wr ((wr ((wr ((wr ((wr ((wr (n8 + 1)) + 1)) + 1)) + 1)) + 1)) + 1)) + 1)) + 1)) + 1)) + 1))) (I 3)) fun n33 =>
      chk ((27 == 27) && (decide ((0 : Int) ≤ n10) && decide ((n10 : Int) < (@List.length PV ((((((((((xs6.set (Int.toNat n10) (.agg cs13)).set (Int.toNat n10) (.agg cs15)).set (Int.toNat n10) (.agg cs17)).set (Int.toNat n10) (.agg cs19)).set (Int.toNat n10) (.agg cs21)).set (Int.toNat n10) (.agg cs24)).set (Int.toNat n10) (.agg cs26)).set (Int.toNat n10) (.agg cs28)).set (Int.toNat n10) (.agg cs30)).set (Int.toNat n10) (.agg cs32)) : Int)))) <|
      optP ((((((((((xs6.set (Int.toNat n10) (.agg cs13)).set (Int.toNat n10) (.agg cs15)).set (Int.toNat n10) (.agg cs17)).set (Int.toNat n10) (.agg cs19)).set (Int.toNat n10) (.agg cs21)).set (Int.toNat n10) (.agg cs24)).set (Int.toNat n10) (.agg cs26)).set (Int.toNat n10) (.agg cs28)).set (Int.toNat n10) (.agg cs30)).set (Int.toNat n10) (.agg cs32))[(Int.toNat n10)]? fun x34 =>
      optC (putPart x34.cells 10 1 (B ((n33 : Int) == 0))) fun cs35 =>
      optC (C 36 [(I (wr ((wr ((wr ((wr ((wr ((wr ((wr ((wr ((wr ((wr ((wr (n8 + 1)) + 1)) + 1)) + 1)) + 1)) + 1)) + 1)) + 1)) + 1)) + 1)) + 1)))]) fun rs36 =>
      popS rs36 fun s38 r37 =>
      popN r37 <|
      chk ((27 == 27) && (decide ((0 : Int) ≤ n10) && decide ((n10 : Int) < (@List.length PV (((((((((((xs6.set (Int.toNat n10) (.agg cs13)).set (Int.toNat n10) (.agg cs15)).set (Int.toNat n10) (.agg cs17)).set (Int.toNat n10) (.agg cs19)).set (Int.toNat n10) (.agg cs21)).set (Int.toNat n10) (.agg cs24)).set (Int.toNat n10) (.agg cs26)).set (Int.toNat n10) (.agg cs28)).set (Int.toNat n10) (.agg cs30)).set (Int.toNat n10) (.agg cs32)).set (Int.toNat n10) (.agg cs35)) : Int)))) <|
      optP (((((((((((xs6.set (Int.toNat n10) (.agg cs13)).set (Int.toNat n10) (.agg cs15)).set (Int.toNat n10) (.agg cs17)).set (Int.toNat n10) (.agg cs19)).set (Int.toNat n10) (.agg cs21)).set (Int.toNat n10) (.agg cs24)).set (Int.toNat n10) (.agg cs26)).set (Int.toNat n10) (.agg cs28)).set (Int.toNat n10) (.agg cs30)).set (Int.toNat n10) (.agg cs32)).set (Int.toNat n10) (.agg cs35))[(Int.toNat n10)]? fun x39 =>
      optC (putPart x39.cells 11 1 (Sg s38)) fun cs40 =>
      chk ((27 == 27) && (decide ((0 : Int) ≤ n10) && decide ((n10 : Int) < (@List.length PV ((((((((((((xs6.set (Int.toNat n10) (.agg cs13)).set (Int.toNat n10) (.agg cs15)).set (Int.toNat n10) (.agg cs17)).set (Int.toNat n10) (.agg cs19)).set (Int.toNat n10) (.agg cs21)).set (Int.toNat n10) (.agg cs24)).set (Int.toNat n10) (.agg cs26)).set (Int.toNat n10) (.agg cs28)).set (Int.toNat n10) (.agg cs30)).set (Int.toNat n10) (.agg cs32)).set (Int.toNat n10) (.agg cs35)).set (Int.toNat n10) (.agg cs40)) : Int)))) <|
      optP ((((((((((((xs6.set (Int.toNat n10) (.agg cs13)).set (Int.toNat n10) (.agg cs15)).set (Int.toNat n10) (.agg cs17)).set (Int.toNat n10) (.agg cs19)).set (Int.toNat n10) (.agg cs21)).set (Int.toNat n10) (.agg cs24)).set (Int.toNat n10) (.agg cs26)).set (Int.toNat n10) (.agg cs28)).set (Int.toNat n10) (.agg cs30)).set (Int.toNat n10) (.agg cs32)).set (Int.toNat n10) (.agg cs35)).set (Int.toNat n10) (.agg cs40))[(Int.toNat n10)]? fun x41 =>
      optC (putPart x41.cells 12 1 (I (wr ((wr ((wr ((wr ((wr ((wr ((wr ((wr ((wr ((wr ((wr ((wr (n8 + 1)) + 1)) + 1)) + 1)) + 1)) + 1)) + 1)) + 1)) + 1)) + 1)) + 1)) + 1)))) fun cs42 =>
      optI .i64 (binPV none false .rem (I (wr ((wr ((wr ((wr ((wr ((wr ((wr ((wr ((wr ((wr ((wr ((wr ((wr (n8 + 1)) + 1)) + 1)) + 1)) + 1)) + 1)) + 1)) + 1)) + 1)) + 1)) + 1)) + 1)) + 1))) (I 3)) fun n43 =>
      chk ((27 == 27) && (decide ((0 : Int) ≤ n10) && decide ((n10 : Int) < (@List.length PV (((((((((((((xs6.set (Int.toNat n10) (.agg cs13)).set (Int.toNat n10) (.agg cs15)).set (Int.toNat n10) (.agg cs17)).set (Int.toNat n10) (.agg cs19)).set (Int.toNat n10) (.agg cs21)).set (Int.toNat n10) (.agg cs24)).set (Int.toNat n10) (.agg cs26)).set (Int.toNat n10) (.agg cs28)).set (Int.toNat n10) (.agg cs30)).set (Int.toNat n10) (.agg cs32)).set (Int.toNat n10) (.agg cs35)).set (Int.toNat n10) (.agg cs40)).set (Int.toNat n10) (.agg cs42)) : Int)))) <|
      optP (((((((((((((xs6.set (Int.toNat n10) (.agg cs13)).set (Int.toNat n10) (.agg cs15)).set (Int.toNat n10) (.agg cs17)).set (Int.toNat n10) (.agg cs19)).set (Int.toNat n10) (.agg cs21)).set (Int.toNat n10) (.agg cs24)).set (Int.toNat n10) (.agg cs26)).set (Int.toNat n10) (.agg cs28)).set (Int.toNat n10) (.agg cs30)).set (Int.toNat n10) (.agg cs32)).set (Int.toNat n10) (.agg cs35)).set (Int.toNat n10) (.agg cs40)).set (Int.toNat n10) (.agg cs42))[(Int.toNat n10)]? fun x44 =>
      optC (putPart x44.cells 13 1 (B ((n43 : Int) == 0))) fun cs45 =>
      chk ((27 == 27) && (decide ((0 : Int) ≤ n10) && decide ((n10 : Int) < (@List.length PV ((((((((((((((xs6.set (Int.toNat n10) (.agg cs13)).set (Int.toNat n10) (.agg cs15)).set (Int.toNat n10) (.agg cs17)).set (Int.toNat n10) (.agg cs19)).set (Int.toNat n10) (.agg cs21)).set (Int.toNat n10) (.agg cs24)).set (Int.toNat n10) (.agg cs26)).set (Int.toNat n10) (.agg cs28)).set (Int.toNat n10) (.agg cs30)).set (Int.toNat n10) (.agg cs32)).set (Int.toNat n10) (.agg cs35)).set (Int.toNat n10) (.agg cs40)).set (Int.toNat n10) (.agg cs42)).set (Int.toNat n10) (.agg cs45)) : Int)))) <|
      optP ((((((((((((((xs6.set (Int.toNat n10) (.agg cs13)).set (Int.toNat n10) (.agg cs15)).set (Int.toNat n10) (.agg cs17)).set (Int.toNat n10) (.agg cs19)).set (Int.toNat n10) (.agg cs21)).set (Int.toNat n10) (.agg cs24)).set (Int.toNat n10) (.agg cs26)).set (Int.toNat n10) (.agg cs28)).set (Int.toNat n10) (.agg cs30)).set (Int.toNat n10) (.agg cs32)).set (Int.toNat n10) (.agg cs35)).set (Int.toNat n10) (.agg cs40)).set (Int.toNat n10) (.agg cs42)).set (Int.toNat n10) (.agg cs45))[(Int.toNat n10)]? fun x46 =>
      optC (putPart x46.cells 14 1 (I (wr ((wr ((wr ((wr ((wr ((wr ((wr ((wr ((wr ((wr ((wr ((wr ((wr ((wr (n8 + 1)) + 1)) + 1)) + 1)) + 1)) + 1)) + 1)) + 1)) + 1)) + 1)) + 1)) + 1)) + 1)) + 1)))) fun cs47 =>
      chk ((27 == 27) && (decide ((0 : Int) ≤ n10) && decide ((n10 : Int) < (@List.length PV (((((((((((((((xs6.set (Int.toNat n10) (.agg cs13)).set (Int.toNat n10) (.agg cs15)).set (Int.toNat n10) (.agg cs17)).set (Int.toNat n10) (.agg cs19)).set (Int.toNat n10) (.agg cs21)).set (Int.toNat n10) (.agg cs24)).set (Int.toNat n10) (.agg cs26)).set (Int.toNat n10) (.agg cs28)).set (Int.toNat n10) (.agg cs30)).set (Int.toNat n10) (.agg cs32)).set (Int.toNat n10) (.agg cs35)).set (Int.toNat n10) (.agg cs40)).set (Int.toNat n10) (.agg cs42)).set (Int.toNat n10) (.agg cs45)).set (Int.toNat n10) (.agg cs47)) : Int)))) <|
      optP (((((((((((((((xs6.set (Int.toNat n10) (.agg cs13)).set (Int.toNat n10) (.agg cs15)).set (Int.toNat n10) (.agg cs17)).set (Int.toNat n10) (.agg cs19)).set (Int.toNat n10) (.agg cs21)).set (Int.toNat n10) (.agg cs24)).set (Int.toNat n10) (.agg cs26)).set (Int.toNat n10) (.agg cs28)).set (Int.toNat n10) (.agg cs30)).set (Int.toNat n10) (.agg cs32)).set (Int.toNat n10) (.agg cs35)).set (Int.toNat n10) (.agg cs40)).set (Int.toNat n10) (.agg cs42)).set (Int.toNat n10) (.agg cs45)).set (Int.toNat n10) (.agg cs47))[(Int.toNat n10)]? fun x48 =>
      optC (putPart x48.cells 15 1 (I (wr ((wr ((wr ((wr ((wr ((wr ((wr ((wr ((wr ((wr ((wr ((wr ((wr ((wr ((wr (n8 + 1)) + 1)) + 1)) + 1)) + 1)) + 1)) + 1)) + 1)) + 1)) + 1)) + 1)) + 1)) + 1)) + 1)) + 1)))) fun cs49 =>
      chk ((27 == 27) && (decide ((0 : Int) ≤ n10) && decide ((n10 : Int) < (@List.length PV ((((((((((((((((xs6.set (Int.toNat n10) (.agg cs13)).set (Int.toNat n10) (.agg cs15)).set (Int.toNat n10) (.agg cs17)).set (Int.toNat n10) (.agg cs19)).set (Int.toNat n10) (.agg cs21)).set (Int.toNat n10) (.agg cs24)).set (Int.toNat n10) (.agg cs26)).set (Int.toNat n10) (.agg cs28)).set (Int.toNat n10) (.agg cs30)).set (Int.toNat n10) (.agg cs32)).set (Int.toNat n10) (.agg cs35)).set (Int.toNat n10) (.agg cs40)).set (Int.toNat n10) (.agg cs42)).set (Int.toNat n10) (.agg cs45)).set (Int.toNat n10) (.agg cs47)).set (Int.toNat n10) (.agg cs49)) : Int)))) <|
      optP ((((((((((((((((xs6.set (Int.toNat n10) (.agg cs13)).set (Int.toNat n10) (.agg cs15)).set (Int.toNat n10) (.agg cs17)).set (Int.toNat n10) (.agg cs19)).set (Int.toNat n10) (.agg cs21)).set (Int.toNat n10) (.agg cs24)).set (Int.toNat n10) (.agg cs26)).set (Int.toNat n10) (.agg cs28)).set (Int.toNat n10) (.agg cs30)).set (Int.toNat n10) (.agg cs32)).set (Int.toNat n10) (.agg cs35)).set (Int.toNat n10) (.agg cs40)).set (Int.toNat n10) (.agg cs42)).set (Int.toNat n10) (.agg cs45)).set (Int.toNat n10) (.agg cs47)).set (Int.toNat n10) (.agg cs49))[(Int.toNat n10)]? fun x50 =>
      optC (putPart x50.cells 16 1 (I (wr ((wr ((wr ((wr ((wr ((wr ((wr ((wr ((wr ((wr ((wr ((wr ((wr ((wr ((wr ((wr (n8 + 1)) + 1)) + 1)) + 1)) + 1)) + 1)) + 1)) + 1)) + 1)) + 1)) + 1)) + 1)) + 1)) + 1)) + 1)) + 1)))) fun cs51 =>
      chk ((27 == 27) && (decide ((0 : Int) ≤ n10) && decide ((n10 : Int) < (@List.length PV (((((((((((((((((xs6.set (Int.toNat n10) (.agg cs13)).set (Int.toNat n10) (.agg cs15)).set (Int.toNat n10) (.agg cs17)).set (Int.toNat n10) (.agg cs19)).set (Int.toNat n10) (.agg cs21)).set (Int.toNat n10) (.agg cs24)).set (Int.toNat n10) (.agg cs26)).set (Int.toNat n10) (.agg cs28)).set (Int.toNat n10) (.agg cs30)).set (Int.toNat n10) (.agg cs32)).set (Int.toNat n10) (.agg cs35)).set (Int.toNat n10) (.agg cs40)).set (Int.toNat n10) (.agg cs42)).set (Int.toNat n10) (.agg cs45)).set (Int.toNat n10) (.agg cs47)).set (Int.toNat n10) (.agg cs49)).set (Int.toNat n10) (.agg cs51)) : Int)))) <|
      optP (((((((((((((((((xs6.set (Int.toNat n10) (.agg cs13)).set (Int.toNat n10) (.agg cs15)).set (Int.toNat n10) (.agg cs17)).set (Int.toNat n10) (.agg cs19)).set (Int.toNat n10) (.agg cs21)).set (Int.toNat n10) (.agg cs24)).set (Int.toNat n10) (.agg cs26)).set (Int.toNat n10) (.agg cs28)).set (Int.toNat n10) (.agg cs30)).set (Int.toNat n10) (.agg cs32)).set (Int.toNat n10) (.agg cs35)).set (Int.toNat n10) (.agg cs40)).set (Int.toNat n10) (.agg cs42)).set (Int.toNat n10) (.agg cs45)).set (Int.toNat n10) (.agg cs47)).set (Int.toNat n10) (.agg cs49)).set (Int.toNat n10) (.agg cs51))[(Int.toNat n10)]? fun x52 =>
      optC (putPart x52.cells 17 1 (I (wr ((wr ((wr ((wr ((wr ((wr ((wr ((wr ((wr ((wr ((wr ((wr ((wr ((wr ((wr ((wr ((wr (n8 + 1)) + 1)) + 1)) + 1)) + 1)) + 1)) + 1)) + 1)) + 1)) + 1)) + 1)) + 1)) + 1)) + 1)) + 1)) + 1)) + 1)))) fun cs53 =>
      chk ((27 == 27) && (decide ((0 : Int) ≤ n10) && decide ((n10 : Int) < (@List.length PV ((((((((((((((((((xs6.set (Int.toNat n10) (.agg cs13)).set (Int.toNat n10) (.agg cs15)).set (Int.toNat n10) (.agg cs17)).set (Int.toNat n10) (.agg cs19)).set (Int.toNat n10) (.agg cs21)).set (Int.toNat n10) (.agg cs24)).set (Int.toNat n10) (.agg cs26)).set (Int.toNat n10) (.agg cs28)).set (Int.toNat n10) (.agg cs30)).set (Int.toNat n10) (.agg cs32)).set (Int.toNat n10) (.agg cs35)).set (Int.toNat n10) (.agg cs40)).set (Int.toNat n10) (.agg cs42)).set (Int.toNat n10) (.agg cs45)).set (Int.toNat n10) (.agg cs47)).set (Int.toNat n10) (.agg cs49)).set (Int.toNat n10) (.agg cs51)).set (Int.toNat n10) (.agg cs53)) : Int)))) <|
      optP ((((((((((((((((((xs6.set (Int.toNat n10) (.agg cs13)).set (Int.toNat n10) (.agg cs15)).set (Int.toNat n10) (.agg cs17)).set (Int.toNat n10) (.agg cs19)).set (Int.toNat n10) (.agg cs21)).set (Int.toNat n10) (.agg cs24)).set (Int.toNat n10) (.agg cs26)).set (Int.toNat n10) (.agg cs28)).set (Int.toNat n10) (.agg cs30)).set (Int.toNat n10) (.agg cs32)).set (Int.toNat n10) (.agg cs35)).set (Int.toNat n10) (.agg cs40)).set (Int.toNat n10) (.agg cs42)).set (Int.toNat n10) (.agg cs45)).set (Int.toNat n10) (.agg cs47)).set (Int.toNat n10) (.agg cs49)).set (Int.toNat n10) (.agg cs51)).set (Int.toNat n10) (.agg cs53))[(Int.toNat n10)]? fun x54 =>
      optC (putPart x54.cells 18 1 (I (wr ((wr ((wr ((wr ((wr ((wr ((wr ((wr ((wr ((wr ((wr ((wr ((wr ((wr ((wr ((wr ((wr ((wr (n8 + 1)) + 1)) + 1)) + 1)) + 1)) + 1)) + 1)) + 1)) + 1)) + 1)) + 1)) + 1)) + 1)) + 1)) + 1)) + 1)) + 1)) + 1)))) fun cs55 =>
      optI .i64 (binPV none false .rem (I (wr ((wr ((wr ((wr ((wr ((wr ((wr ((wr ((wr ((wr ((wr ((wr ((wr ((wr ((wr ((wr ((wr ((wr ((wr (n8 + 1)) + 1)) + 1)) + 1)) + 1)) + 1)) + 1)) + 1)) + 1)) + 1)) + 1)) + 1)) + 1)) + 1)) + 1)) + 1)) + 1)) + 1)) + 1))) (I 3)) fun n56 =>
      chk ((27 == 27) && (decide ((0 : Int) ≤ n10) && decide ((n10 : Int) < (@List.length PV (((((((((((((((((((xs6.set (Int.toNat n10) (.agg cs13)).set (Int.toNat n10) (.agg cs15)).set (Int.toNat n10) (.agg cs17)).set (Int.toNat n10) (.agg cs19)).set (Int.toNat n10) (.agg cs21)).set (Int.toNat n10) (.agg cs24)).set (Int.toNat n10) (.agg cs26)).set (Int.toNat n10) (.agg cs28)).set (Int.toNat n10) (.agg cs30)).set (Int.toNat n10) (.agg cs32)).set (Int.toNat n10) (.agg cs35)).set (Int.toNat n10) (.agg cs40)).set (Int.toNat n10) (.agg cs42)).set (Int.toNat n10) (.agg cs45)).set (Int.toNat n10) (.agg cs47)).set (Int.toNat n10) (.agg cs49)).set (Int.toNat n10) (.agg cs51)).set (Int.toNat n10) (.agg cs53)).set (Int.toNat n10) (.agg cs55)) : Int)))) <|
      optP (((((((((((((((((((xs6.set (Int.toNat n10) (.agg cs13)).set (Int.toNat n10) (.agg cs15)).set (Int.toNat n10) (.agg cs17)).set (Int.toNat n10) (.agg cs19)).set (Int.toNat n10) (.agg cs21)).set (Int.toNat n10) (.agg cs24)).set (Int.toNat n10) (.agg cs26)).set (Int.toNat n10) (.agg cs28)).set (Int.toNat n10) (.agg cs30)).set (Int.toNat n10) (.agg cs32)).set (Int.toNat n10) (.agg cs35)).set (Int.toNat n10) (.agg cs40)).set (Int.toNat n10) (.agg cs42)).set (Int.toNat n10) (.agg cs45)).set (Int.toNat n10) (.agg cs47)).set (Int.toNat n10) (.agg cs49)).set (Int.toNat n10) (.agg cs51)).set (Int.toNat n10) (.agg cs53)).set (Int.toNat n10) (.agg cs55))[(Int.toNat n10)]? fun x57 =>
      optC (putPart x57.cells 19 1 (B ((n56 : Int) == 0))) fun cs58 =>
      chk ((27 == 27) && (decide ((0 : Int) ≤ n10) && decide ((n10 : Int) < (@List.length PV ((((((((((((((((((((xs6.set (Int.toNat n10) (.agg cs13)).set (Int.toNat n10) (.agg cs15)).set (Int.toNat n10) (.agg cs17)).set (Int.toNat n10) (.agg cs19)).set (Int.toNat n10) (.agg cs21)).set (Int.toNat n10) (.agg cs24)).set (Int.toNat n10) (.agg cs26)).set (Int.toNat n10) (.agg cs28)).set (Int.toNat n10) (.agg cs30)).set (Int.toNat n10) (.agg cs32)).set (Int.toNat n10) (.agg cs35)).set (Int.toNat n10) (.agg cs40)).set (Int.toNat n10) (.agg cs42)).set (Int.toNat n10) (.agg cs45)).set (Int.toNat n10) (.agg cs47)).set (Int.toNat n10) (.agg cs49)).set (Int.toNat n10) (.agg cs51)).set (Int.toNat n10) (.agg cs53)).set (Int.toNat n10) (.agg cs55)).set (Int.toNat n10) (.agg cs58)) : Int)))) <|
      optP ((((((((((((((((((((xs6.set (Int.toNat n10) (.agg cs13)).set (Int.toNat n10) (.agg cs15)).set (Int.toNat n10) (.agg cs17)).set (Int.toNat n10) (.agg cs19)).set (Int.toNat n10) (.agg cs21)).set (Int.toNat n10) (.agg cs24)).set (Int.toNat n10) (.agg cs26)).set (Int.toNat n10) (.agg cs28)).set (Int.toNat n10) (.agg cs30)).set (Int.toNat n10) (.agg cs32)).set (Int.toNat n10) (.agg cs35)).set (Int.toNat n10) (.agg cs40)).set (Int.toNat n10) (.agg cs42)).set (Int.toNat n10) (.agg cs45)).set (Int.toNat n10) (.agg cs47)).set (Int.toNat n10) (.agg cs49)).set (Int.toNat n10) (.agg cs51)).set (Int.toNat n10) (.agg cs53)).set (Int.toNat n10) (.agg cs55)).set (Int.toNat n10) (.agg cs58))[(Int.toNat n10)]? fun x59 =>
      optC (putPart x59.cells 20 1 (I (wr ((wr ((wr ((wr ((wr ((wr ((wr ((wr ((wr ((wr ((wr ((wr ((wr ((wr ((wr ((wr ((wr ((wr ((wr ((wr (n8 + 1)) + 1)) + 1)) + 1)) + 1)) + 1)) + 1)) + 1)) + 1)) + 1)) + 1)) + 1)) + 1)) + 1)) + 1)) + 1)) + 1)) + 1)) + 1)) + 1)))) fun cs60 =>
      chk ((27 == 27) && (decide ((0 : Int) ≤ n10) && decide ((n10 : Int) < (@List.length PV (((((((((((((((((((((xs6.set (Int.toNat n10) (.agg cs13)).set (Int.toNat n10) (.agg cs15)).set (Int.toNat n10) (.agg cs17)).set (Int.toNat n10) (.agg cs19)).set (Int.toNat n10) (.agg cs21)).set (Int.toNat n10) (.agg cs24)).set (Int.toNat n10) (.agg cs26)).set (Int.toNat n10) (.agg cs28)).set (Int.toNat n10) (.agg cs30)).set (Int.toNat n10) (.agg cs32)).set (Int.toNat n10) (.agg cs35)).set (Int.toNat n10) (.agg cs40)).set (Int.toNat n10) (.agg cs42)).set (Int.toNat n10) (.agg cs45)).set (Int.toNat n10) (.agg cs47)).set (Int.toNat n10) (.agg cs49)).set (Int.toNat n10) (.agg cs51)).set (Int.toNat n10) (.agg cs53)).set (Int.toNat n10) (.agg cs55)).set (Int.toNat n10) (.agg cs58)).set (Int.toNat n10) (.agg cs60)) : Int)))) <|
      optP (((((((((((((((((((((xs6.set (Int.toNat n10) (.agg cs13)).set (Int.toNat n10) (.agg cs15)).set (Int.toNat n10) (.agg cs17)).set (Int.toNat n10) (.agg cs19)).set (Int.toNat n10) (.agg cs21)).set (Int.toNat n10) (.agg cs24)).set (Int.toNat n10) (.agg cs26)).set (Int.toNat n10) (.agg cs28)).set (Int.toNat n10) (.agg cs30)).set (Int.toNat n10) (.agg cs32)).set (Int.toNat n10) (.agg cs35)).set (Int.toNat n10) (.agg cs40)).set (Int.toNat n10) (.agg cs42)).set (Int.toNat n10) (.agg cs45)).set (Int.toNat n10) (.agg cs47)).set (Int.toNat n10) (.agg cs49)).set (Int.toNat n10) (.agg cs51)).set (Int.toNat n10) (.agg cs53)).set (Int.toNat n10) (.agg cs55)).set (Int.toNat n10) (.agg cs58)).set (Int.toNat n10) (.agg cs60))[(Int.toNat n10)]? fun x61 =>
      optC (putPart x61.cells 21 1 (I (wr ((wr ((wr ((wr ((wr ((wr ((wr ((wr ((wr ((wr ((wr ((wr ((wr ((wr ((wr ((wr ((wr ((wr ((wr ((wr ((wr (n8 + 1)) + 1)) + 1)) + 1)) + 1)) + 1)) + 1)) + 1)) + 1)) + 1)) + 1)) + 1)) + 1)) + 1)) + 1)) + 1)) + 1)) + 1)) + 1)) + 1)) + 1)))) fun cs62 =>
      chk ((27 == 27) && (decide ((0 : Int) ≤ n10) && decide ((n10 : Int) < (@List.length PV ((((((((((((((((((((((xs6.set (Int.toNat n10) (.agg cs13)).set (Int.toNat n10) (.agg cs15)).set (Int.toNat n10) (.agg cs17)).set (Int.toNat n10) (.agg cs19)).set (Int.toNat n10) (.agg cs21)).set (Int.toNat n10) (.agg cs24)).set (Int.toNat n10) (.agg cs26)).set (Int.toNat n10) (.agg cs28)).set (Int.toNat n10) (.agg cs30)).set (Int.toNat n10) (.agg cs32)).set (Int.toNat n10) (.agg cs35)).set (Int.toNat n10) (.agg cs40)).set (Int.toNat n10) (.agg cs42)).set (Int.toNat n10) (.agg cs45)).set (Int.toNat n10) (.agg cs47)).set (Int.toNat n10) (.agg cs49)).set (Int.toNat n10) (.agg cs51)).set (Int.toNat n10) (.agg cs53)).set (Int.toNat n10) (.agg cs55)).set (Int.toNat n10) (.agg cs58)).set (Int.toNat n10) (.agg cs60)).set (Int.toNat n10) (.agg cs62)) : Int)))) <|
      optP ((((((((((((((((((((((xs6.set (Int.toNat n10) (.agg cs13)).set (Int.toNat n10) (.agg cs15)).set (Int.toNat n10) (.agg cs17)).set (Int.toNat n10) (.agg cs19)).set (Int.toNat n10) (.agg cs21)).set (Int.toNat n10) (.agg cs24)).set (Int.toNat n10) (.agg cs26)).set (Int.toNat n10) (.agg cs28)).set (Int.toNat n10) (.agg cs30)).set (Int.toNat n10) (.agg cs32)).set (Int.toNat n10) (.agg cs35)).set (Int.toNat n10) (.agg cs40)).set (Int.toNat n10) (.agg cs42)).set (Int.toNat n10) (.agg cs45)).set (Int.toNat n10) (.agg cs47)).set (Int.toNat n10) (.agg cs49)).set (Int.toNat n10) (.agg cs51)).set (Int.toNat n10) (.agg cs53)).set (Int.toNat n10) (.agg cs55)).set (Int.toNat n10) (.agg cs58)).set (Int.toNat n10) (.agg cs60)).set (Int.toNat n10) (.agg cs62))[(Int.toNat n10)]? fun x63 =>
      optC (putPart x63.cells 22 1 (I (wr ((wr ((wr ((wr ((wr ((wr ((wr ((wr ((wr ((wr ((wr ((wr ((wr ((wr ((wr ((wr ((wr ((wr ((wr ((wr ((wr ((wr (n8 + 1)) + 1)) + 1)) + 1)) + 1)) + 1)) + 1)) + 1)) + 1)) + 1)) + 1)) + 1)) + 1)) + 1)) + 1)) + 1)) + 1)) + 1)) + 1)) + 1)) + 1)) + 1)))) fun cs64 =>
      chk ((27 == 27) && (decide ((0 : Int) ≤ n10) && decide ((n10 : Int) < (@List.length PV (((((((((((((((((((((((xs6.set (Int.toNat n10) (.agg cs13)).set (Int.toNat n10) (.agg cs15)).set (Int.toNat n10) (.agg cs17)).set (Int.toNat n10) (.agg cs19)).set (Int.toNat n10) (.agg cs21)).set (Int.toNat n10) (.agg cs24)).set (Int.toNat n10) (.agg cs26)).set (Int.toNat n10) (.agg cs28)).set (Int.toNat n10) (.agg cs30)).set (Int.toNat n10) (.agg cs32)).set (Int.toNat n10) (.agg cs35)).set (Int.toNat n10) (.agg cs40)).set (Int.toNat n10) (.agg cs42)).set (Int.toNat n10) (.agg cs45)).set (Int.toNat n10) (.agg cs47)).set (Int.toNat n10) (.agg cs49)).set (Int.toNat n10) (.agg cs51)).set (Int.toNat n10) (.agg cs53)).set (Int.toNat n10) (.agg cs55)).set (Int.toNat n10) (.agg cs58)).set (Int.toNat n10) (.agg cs60)).set (Int.toNat n10) (.agg cs62)).set (Int.toNat n10) (.agg cs64)) : Int)))) <|
      optP (((((((((((((((((((((((xs6.set (Int.toNat n10) (.agg cs13)).set (Int.toNat n10) (.agg cs15)).set (Int.toNat n10) (.agg cs17)).set (Int.toNat n10) (.agg cs19)).set (Int.toNat n10) (.agg cs21)).set (Int.toNat n10) (.agg cs24)).set (Int.toNat n10) (.agg cs26)).set (Int.toNat n10) (.agg cs28)).set (Int.toNat n10) (.agg cs30)).set (Int.toNat n10) (.agg cs32)).set (Int.toNat n10) (.agg cs35)).set (Int.toNat n10) (.agg cs40)).set (Int.toNat n10) (.agg cs42)).set (Int.toNat n10) (.agg cs45)).set (Int.toNat n10) (.agg cs47)).set (Int.toNat n10) (.agg cs49)).set (Int.toNat n10) (.agg cs51)).set (Int.toNat n10) (.agg cs53)).set (Int.toNat n10) (.agg cs55)).set (Int.toNat n10) (.agg cs58)).set (Int.toNat n10) (.agg cs60)).set (Int.toNat n10) (.agg cs62)).set (Int.toNat n10) (.agg cs64))[(Int.toNat n10)]? fun x65 =>
      optC (putPart x65.cells 23 1 (I (wr ((wr ((wr ((wr ((wr ((wr ((wr ((wr ((wr ((wr ((wr ((wr ((wr ((wr ((wr ((wr ((wr ((wr ((wr ((wr ((wr ((wr ((wr (n8 + 1)) + 1)) + 1)) + 1)) + 1)) + 1)) + 1)) + 1)) + 1)) + 1)) + 1)) + 1)) + 1)) + 1)) + 1)) + 1)) + 1)) + 1)) + 1)) + 1)) + 1)) + 1)) + 1)))) fun cs66 =>
      optI .i64 (binPV none false .rem (I (wr ((wr ((wr ((wr ((wr ((wr ((wr ((wr ((wr ((wr ((wr ((wr ((wr ((wr ((wr ((wr ((wr ((wr ((wr ((wr ((wr ((wr ((wr ((wr (n8 + 1)) + 1)) + 1)) + 1)) + 1)) + 1)) + 1)) + 1)) + 1)) + 1)) + 1)) + 1)) + 1)) + 1)) + 1)) + 1)) + 1)) + 1)) + 1)) + 1)) + 1)) + 1)) + 1)) + 1))) (I 3)) fun n67 =>
      chk ((27 == 27) && (decide ((0 : Int) ≤ n10) && decide ((n10 : Int) < (@List.length PV ((((((((((((((((((((((((xs6.set (Int.toNat n10) (.agg cs13)).set (Int.toNat n10) (.agg cs15)).set (Int.toNat n10) (.agg cs17)).set (Int.toNat n10) (.agg cs19)).set (Int.toNat n10) (.agg cs21)).set (Int.toNat n10) (.agg cs24)).set (Int.toNat n10) (.agg cs26)).set (Int.toNat n10) (.agg cs28)).set (Int.toNat n10) (.agg cs30)).set (Int.toNat n10) (.agg cs32)).set (Int.toNat n10) (.agg cs35)).set (Int.toNat n10) (.agg cs40)).set (Int.toNat n10) (.agg cs42)).set (Int.toNat n10) (.agg cs45)).set (Int.toNat n10) (.agg cs47)).set (Int.toNat n10) (.agg cs49)).set (Int.toNat n10) (.agg cs51)).set (Int.toNat n10) (.agg cs53)).set (Int.toNat n10) (.agg cs55)).set (Int.toNat n10) (.agg cs58)).set (Int.toNat n10) (.agg cs60)).set (Int.toNat n10) (.agg cs62)).set (Int.toNat n10) (.agg cs64)).set (Int.toNat n10) (.agg cs66)) : Int)))) <|
      optP ((((((((((((((((((((((((xs6.set (Int.toNat n10) (.agg cs13)).set (Int.toNat n10) (.agg cs15)).set (Int.toNat n10) (.agg cs17)).set (Int.toNat n10) (.agg cs19)).set (Int.toNat n10) (.agg cs21)).set (Int.toNat n10) (.agg cs24)).set (Int.toNat n10) (.agg cs26)).set (Int.toNat n10) (.agg cs28)).set (Int.toNat n10) (.agg cs30)).set (Int.toNat n10) (.agg cs32)).set (Int.toNat n10) (.agg cs35)).set (Int.toNat n10) (.agg cs40)).set (Int.toNat n10) (.agg cs42)).set (Int.toNat n10) (.agg cs45)).set (Int.toNat n10) (.agg cs47)).set (Int.toNat n10) (.agg cs49)).set (Int.toNat n10) (.agg cs51)).set (Int.toNat n10) (.agg cs53)).set (Int.toNat n10) (.agg cs55)).set (Int.toNat n10) (.agg cs58)).set (Int.toNat n10) (.agg cs60)).set (Int.toNat n10) (.agg cs62)).set (Int.toNat n10) (.agg cs64)).set (Int.toNat n10) (.agg cs66))[(Int.toNat n10)]? fun x68 =>
      optC (putPart x68.cells 24 1 (B ((n67 : Int) == 0))) fun cs69 =>
      optC (C 36 [(I (wr ((wr ((wr ((wr ((wr ((wr ((wr ((wr ((wr ((wr ((wr ((wr ((wr ((wr ((wr ((wr ((wr ((wr ((wr ((wr ((wr ((wr ((wr ((wr ((wr (n8 + 1)) + 1)) + 1)) + 1)) + 1)) + 1)) + 1)) + 1)) + 1)) + 1)) + 1)) + 1)) + 1)) + 1)) + 1)) + 1)) + 1)) + 1)) + 1)) + 1)) + 1)) + 1)) + 1)) + 1)) + 1)))]) fun rs70 =>
      popS rs70 fun s72 r71 =>
      popN r71 <|
      chk ((27 == 27) && (decide ((0 : Int) ≤ n10) && decide ((n10 : Int) < (@List.length PV (((((((((((((((((((((((((xs6.set (Int.toNat n10) (.agg cs13)).set (Int.toNat n10) (.agg cs15)).set (Int.toNat n10) (.agg cs17)).set (Int.toNat n10) (.agg cs19)).set (Int.toNat n10) (.agg cs21)).set (Int.toNat n10) (.agg cs24)).set (Int.toNat n10) (.agg cs26)).set (Int.toNat n10) (.agg cs28)).set (Int.toNat n10) (.agg cs30)).set (Int.toNat n10) (.agg cs32)).set (Int.toNat n10) (.agg cs35)).set (Int.toNat n10) (.agg cs40)).set (Int.toNat n10) (.agg cs42)).set (Int.toNat n10) (.agg cs45)).set (Int.toNat n10) (.agg cs47)).set (Int.toNat n10) (.agg cs49)).set (Int.toNat n10) (.agg cs51)).set (Int.toNat n10) (.agg cs53)).set (Int.toNat n10) (.agg cs55)).set (Int.toNat n10) (.agg cs58)).set (Int.toNat n10) (.agg cs60)).set (Int.toNat n10) (.agg cs62)).set (Int.toNat n10) (.agg cs64)).set (Int.toNat n10) (.agg cs66)).set (Int.toNat n10) (.agg cs69)) : Int)))) <|
      optP (((((((((((((((((((((((((xs6.set (Int.toNat n10) (.agg cs13)).set (Int.toNat n10) (.agg cs15)).set (Int.toNat n10) (.agg cs17)).set (Int.toNat n10) (.agg cs19)).set (Int.toNat n10) (.agg cs21)).set (Int.toNat n10) (.agg cs24)).set (Int.toNat n10) (.agg cs26)).set (Int.toNat n10) (.agg cs28)).set (Int.toNat n10) (.agg cs30)).set (Int.toNat n10) (.agg cs32)).set (Int.toNat n10) (.agg cs35)).set (Int.toNat n10) (.agg cs40)).set (Int.toNat n10) (.agg cs42)).set (Int.toNat n10) (.agg cs45)).set (Int.toNat n10) (.agg cs47)).set (Int.toNat n10) (.agg cs49)).set (Int.toNat n10) (.agg cs51)).set (Int.toNat n10) (.agg cs53)).set (Int.toNat n10) (.agg cs55)).set (Int.toNat n10) (.agg cs58)).set (Int.toNat n10) (.agg cs60)).set (Int.toNat n10) (.agg cs62)).set (Int.toNat n10) (.agg cs64)).set (Int.toNat n10) (.agg cs66)).set (Int.toNat n10) (.agg cs69))[(Int.toNat n10)]? fun x73 =>
      optC (putPart x73.cells 25 1 (Sg s72)) fun cs74 =>
      chk ((27 == 27) && (decide ((0 : Int) ≤ n10) && decide ((n10 : Int) < (@List.length PV ((((((((((((((((((((((((((xs6.set (Int.toNat n10) (.agg cs13)).set (Int.toNat n10) (.agg cs15)).set (Int.toNat n10) (.agg cs17)).set (Int.toNat n10) (.agg cs19)).set (Int.toNat n10) (.agg cs21)).set (Int.toNat n10) (.agg cs24)).set (Int.toNat n10) (.agg cs26)).set (Int.toNat n10) (.agg cs28)).set (Int.toNat n10) (.agg cs30)).set (Int.toNat n10) (.agg cs32)).set (Int.toNat n10) (.agg cs35)).set (Int.toNat n10) (.agg cs40)).set (Int.toNat n10) (.agg cs42)).set (Int.toNat n10) (.agg cs45)).set (Int.toNat n10) (.agg cs47)).set (Int.toNat n10) (.agg cs49)).set (Int.toNat n10) (.agg cs51)).set (Int.toNat n10) (.agg cs53)).set (Int.toNat n10) (.agg cs55)).set (Int.toNat n10) (.agg cs58)).set (Int.toNat n10) (.agg cs60)).set (Int.toNat n10) (.agg cs62)).set (Int.toNat n10) (.agg cs64)).set (Int.toNat n10) (.agg cs66)).set (Int.toNat n10) (.agg cs69)).set (Int.toNat n10) (.agg cs74)) : Int)))) <|
      optP ((((((((((((((((((((((((((xs6.set (Int.toNat n10) (.agg cs13)).set (Int.toNat n10) (.agg cs15)).set (Int.toNat n10) (.agg cs17)).set (Int.toNat n10) (.agg cs19)).set (Int.toNat n10) (.agg cs21)).set (Int.toNat n10) (.agg cs24)).set (Int.toNat n10) (.agg cs26)).set (Int.toNat n10) (.agg cs28)).set (Int.toNat n10) (.agg cs30)).set (Int.toNat n10) (.agg cs32)).set (Int.toNat n10) (.agg cs35)).set (Int.toNat n10) (.agg cs40)).set (Int.toNat n10) (.agg cs42)).set (Int.toNat n10) (.agg cs45)).set (Int.toNat n10) (.agg cs47)).set (Int.toNat n10) (.agg cs49)).set (Int.toNat n10) (.agg cs51)).set (Int.toNat n10) (.agg cs53)).set (Int.toNat n10) (.agg cs55)).set (Int.toNat n10) (.agg cs58)).set (Int.toNat n10) (.agg cs60)).set (Int.toNat n10) (.agg cs62)).set (Int.toNat n10) (.agg cs64)).set (Int.toNat n10) (.agg cs66)).set (Int.toNat n10) (.agg cs69)).set (Int.toNat n10) (.agg cs74))[(Int.toNat n10)]? fun x75 =>
      optC (putPart x75.cells 26 1 (I (wr ((wr ((wr ((wr ((wr ((wr ((wr ((wr ((wr ((wr ((wr ((wr ((wr ((wr ((wr ((wr ((wr ((wr ((wr ((wr ((wr ((wr ((wr ((wr ((wr ((wr (n8 + 1)) + 1)) + 1)) + 1)) + 1)) + 1)) + 1)) + 1)) + 1)) + 1)) + 1)) + 1)) + 1)) + 1)) + 1)) + 1)) + 1)) + 1)) + 1)) + 1)) + 1)) + 1)) + 1)) + 1)) + 1)) + 1)))) fun cs76 =>
      rec11 [(.sl 27 (((((((((((((((((((((((((((xs6.set (Int.toNat n10) (.agg cs13)).set (Int.toNat n10) (.agg cs15)).set (Int.toNat n10) (.agg cs17)).set (Int.toNat n10) (.agg cs19)).set (Int.toNat n10) (.agg cs21)).set (Int.toNat n10) (.agg cs24)).set (Int.toNat n10) (.agg cs26)).set (Int.toNat n10) (.agg cs28)).set (Int.toNat n10) (.agg cs30)).set (Int.toNat n10) (.agg cs32)).set (Int.toNat n10) (.agg cs35)).set (Int.toNat n10) (.agg cs40)).set (Int.toNat n10) (.agg cs42)).set (Int.toNat n10) (.agg cs45)).set (Int.toNat n10) (.agg cs47)).set (Int.toNat n10) (.agg cs49)).set (Int.toNat n10) (.agg cs51)).set (Int.toNat n10) (.agg cs53)).set (Int.toNat n10) (.agg cs55)).set (Int.toNat n10) (.agg cs58)).set (Int.toNat n10) (.agg cs60)).set (Int.toNat n10) (.agg cs62)).set (Int.toNat n10) (.agg cs64)).set (Int.toNat n10) (.agg cs66)).set (Int.toNat n10) (.agg cs69)).set (Int.toNat n10) (.agg cs74)).set (Int.toNat n10) (.agg cs76))), (I (wr ((wr ((wr ((wr ((wr ((wr ((wr ((wr ((wr ((wr ((wr ((wr ((wr ((wr ((wr ((wr ((wr ((wr ((wr ((wr ((wr ((wr ((wr ((wr ((wr ((wr ((wr (n8 + 1)) + 1)) + 1)) + 1)) + 1)) + 1)) + 1)) + 1)) + 1)) + 1)) + 1)) + 1)) + 1)) + 1)) + 1)) + 1)) + 1)) + 1)) + 1)) + 1)) + 1)) + 1)) + 1)) + 1)) + 1)) + 1)) + 1))), (I (wr (n10 + 1)))]) <|
    some [(I n8), (.sl 27 xs6)]) [(.sl 27 xs2), (I n4), (I 0)]
theorem t14 (FU : Nat) (C : Oracle) (ps : List PV) : bodyK Bk FU C Tryz.f14 i14 ps = s14 FU C ps := by kernel_rfl
theorem c14 {FU m : Nat} {ps rs : List PV} (h : s14 FU (callN (Bk.env FU) m) ps = some rs) : callN (Bk.env FU) (m + 1) 14 ps = some rs :=
  call_of (i := i14) (fn := Tryz.f14) (by kernel_rfl) (by kernel_rfl) (by kernel_rfl) ((t14 _ _ _).trans h)

end Go.Proofs.YtajjinfjfiacbaaGreatDoor
end

section
/- What functions compute, and that their code says so. Made by a program of ours (emit.py). -/
namespace Go.Proofs.YtajjinfjfiacbaaGreatDoor
open Go Go.Evp
set_option maxRecDepth 100000

/-- laws.heldSignS -/
noncomputable def s15 (FU : Nat) (C : Oracle) (ps : List PV) : R :=
  popLz 27 ps fun xs2 r1 =>
  popI .i64 r1 fun n4 r3 =>
  popN r3 <|
  iterK FU (fun rec11 vs =>
    popLz 27 vs fun xs6 r5 =>
    popI .i64 r5 fun n8 r7 =>
    popI .i64 r7 fun n10 r9 =>
    popN r9 <|
    cond (decide ((n10 : Int) < (@List.length PV xs6 : Int))) (
      chk ((27 == 27) && decide ((0 : Int) ≤ n10)) <|
      optP xs6[Int.toNat n10]? fun x12 =>
      optI .i64 (x12.cells[0]?) fun n13 =>
      cond ((n13 : Int) != n8) (
        some [(I (-1))]) <|
      chk ((27 == 27) && decide ((0 : Int) ≤ n10)) <|
      optP xs6[Int.toNat n10]? fun x14 =>
      optI .i64 (x14.cells[1]?) fun n15 =>
      cond ((n15 : Int) != (wr (n8 + 1))) (
        some [(I (-1))]) <|
      chk ((27 == 27) && decide ((0 : Int) ≤ n10)) <|
      optP xs6[Int.toNat n10]? fun x16 =>
      optI .i64 (x16.cells[2]?) fun n17 =>
      cond ((n17 : Int) != (wr ((wr (n8 + 1)) + 1))) (
        some [(I (-1))]) <|
      chk ((27 == 27) && decide ((0 : Int) ≤ n10)) <|
      optP xs6[Int.toNat n10]? fun x18 =>
      optI .i64 (x18.cells[3]?) fun n19 =>
      cond ((n19 : Int) != (wr ((wr ((wr (n8 + 1)) + 1)) + 1))) (
        some [(I (-1))]) <|
      chk ((27 == 27) && decide ((0 : Int) ≤ n10)) <|
      optP xs6[Int.toNat n10]? fun x20 =>
      optI .i64 (x20.cells[4]?) fun n21 =>
      cond ((n21 : Int) != (wr ((wr ((wr ((wr (n8 + 1)) + 1)) + 1)) + 1))) (
        some [(I (-1))]) <|
      chk ((27 == 27) && decide ((0 : Int) ≤ n10)) <|
      optP xs6[Int.toNat n10]? fun x22 =>
      optB (x22.cells[5]?) fun b23 =>
      optI .i64 (binPV none false .rem (I (wr ((wr ((wr ((wr ((wr (n8 + 1)) + 1)) + 1)) + 1)) + 1))) (I 3)) fun n24 =>
      cond (!(b23 == ((n24 : Int) == 0))) (
        some [(I (-1))]) <|
      chk ((27 == 27) && decide ((0 : Int) ≤ n10)) <|
      optP xs6[Int.toNat n10]? fun x25 =>
      optI .i64 (x25.cells[6]?) fun n26 =>
      cond ((n26 : Int) != (wr ((wr ((wr ((wr ((wr ((wr (n8 + 1)) + 1)) + 1)) + 1)) + 1)) + 1))) (
        some [(I (-1))]) <|
      chk ((27 == 27) && decide ((0 : Int) ≤ n10)) <|
      optP xs6[Int.toNat n10]? fun x27 =>
      optI .i64 (x27.cells[7]?) fun n28 =>
      cond ((n28 : Int) != (wr ((wr ((wr ((wr ((wr ((wr ((wr (n8 + 1)) + 1)) + 1)) + 1)) + 1)) + 1)) + 1))) (
        some [(I (-1))]) <|
      chk ((27 == 27) && decide ((0 : Int) ≤ n10)) <|
      optP xs6[Int.toNat n10]? fun x29 =>
      optI .i64 (x29.cells[8]?) fun n30 =>
      cond ((n30 : Int) != (wr ((wr ((wr ((wr ((wr ((wr ((wr ((wr (n8 + 1)) + 1)) + 1)) + 1)) + 1)) + 1)) + 1)) + 1))) (
        some [(I (-1))]) <|
      chk ((27 == 27) && decide ((0 : Int) ≤ n10)) <|
      optP xs6[Int.toNat n10]? fun x31 =>
      optI .i64 (x31.cells[9]?) fun n32 =>
      cond ((n32 : Int) != (wr ((wr ((wr ((wr ((wr ((wr ((wr ((wr ((wr (n8 + 1)) + 1)) + 1)) + 1)) + 1)) + 1)) + 1)) + 1)) + 1))) (
        some [(I (-1))]) <|
      chk ((27 == 27) && decide ((0 : Int) ≤ n10)) <|
      optP xs6[Int.toNat n10]? fun x33 =>
      optB (x33.cells[10]?) fun b34 =>
      optI .i64 (binPV none false .rem (I (wr ((wr ((wr ((wr ((wr ((wr ((wr ((wr ((wr ((wr (n8 + 1)) + 1)) + 1)) + 1)) + 1)) + 1)) + 1)) + 1)) + 1)) + 1))) (I 3)) fun n35 =>
      cond (!(b34 == ((n35 : Int) == 0))) (
        some [(I (-1))]) <|
      chk ((27 == 27) && decide ((0 : Int) ≤ n10)) <|
      optP xs6[Int.toNat n10]? fun x36 =>
      optS (x36.cells[11]?) fun s37 =>
      optC (C 36 [(I (wr ((wr ((wr ((wr ((wr ((wr ((wr ((wr ((wr ((wr ((wr (n8 + 1)) + 1)) + 1)) + 1)) + 1)) + 1)) + 1)) + 1)) + 1)) + 1)) + 1)))]) fun rs38 =>
      popS rs38 fun s40 r39 =>
      popN r39 <|
      cond (!(s37.toList == s40.toList)) (
        some [(I (-1))]) <|
      chk ((27 == 27) && decide ((0 : Int) ≤ n10)) <|
      optP xs6[Int.toNat n10]? fun x41 =>
      optI .i64 (x41.cells[12]?) fun n42 =>
      cond ((n42 : Int) != (wr ((wr ((wr ((wr ((wr ((wr ((wr ((wr ((wr ((wr ((wr ((wr (n8 + 1)) + 1)) + 1)) + 1)) + 1)) + 1)) + 1)) + 1)) + 1)) + 1)) + 1)) + 1))) (
        some [(I (-1))]) <|
      chk ((27 == 27) && decide ((0 : Int) ≤ n10)) <|
      optP xs6[Int.toNat n10]? fun x43 =>
      optB (x43.cells[13]?) fun b44 =>
      optI .i64 (binPV none false .rem (I (wr ((wr ((wr ((wr ((wr ((wr ((wr ((wr ((wr ((wr ((wr ((wr ((wr (n8 + 1)) + 1)) + 1)) + 1)) + 1)) + 1)) + 1)) + 1)) + 1)) + 1)) + 1)) + 1)) + 1))) (I 3)) fun n45 =>
      cond (!(b44 == ((n45 : Int) == 0))) (
        some [(I (-1))]) <|
      chk ((27 == 27) && decide ((0 : Int) ≤ n10)) <|
      optP xs6[Int.toNat n10]? fun x46 =>
      optI .i64 (x46.cells[14]?) fun n47 =>
      cond ((n47 : Int) != (wr ((wr ((wr ((wr ((wr ((wr ((wr ((wr ((wr ((wr ((wr ((wr ((wr ((wr (n8 + 1)) + 1)) + 1)) + 1)) + 1)) + 1)) + 1)) + 1)) + 1)) + 1)) + 1)) + 1)) + 1)) + 1))) (
        some [(I (-1))]) <|
      chk ((27 == 27) && decide ((0 : Int) ≤ n10)) <|
      optP xs6[Int.toNat n10]? fun x48 =>
      optI .i64 (x48.cells[15]?) fun n49 =>
      cond ((n49 : Int) != (wr ((wr ((wr ((wr ((wr ((wr ((wr ((wr ((wr ((wr ((wr ((wr ((wr ((wr ((wr (n8 + 1)) + 1)) + 1)) + 1)) + 1)) + 1)) + 1)) + 1)) + 1)) + 1)) + 1)) + 1)) + 1)) + 1)) + 1))) (
        some [(I (-1))]) <|
      chk ((27 == 27) && decide ((0 : Int) ≤ n10)) <|
      optP xs6[Int.toNat n10]? fun x50 =>
      optI .i64 (x50.cells[16]?) fun n51 =>
      cond ((n51 : Int) != (wr ((wr ((wr ((wr ((wr ((wr ((wr ((wr ((wr ((wr ((wr ((wr ((wr ((wr ((wr ((wr (n8 + 1)) + 1)) + 1)) + 1)) + 1)) + 1)) + 1)) + 1)) + 1)) + 1)) + 1)) + 1)) + 1)) + 1)) + 1)) + 1))) (
        some [(I (-1))]) <|
      chk ((27 == 27) && decide ((0 : Int) ≤ n10)) <|
      optP xs6[Int.toNat n10]? fun x52 =>
      optI .i64 (x52.cells[17]?) fun n53 =>
      cond ((n53 : Int) != (wr ((wr ((wr ((wr ((wr ((wr ((wr ((wr ((wr ((wr ((wr ((wr ((wr ((wr ((wr ((wr ((wr (n8 + 1)) + 1)) + 1)) + 1)) + 1)) + 1)) + 1)) + 1)) + 1)) + 1)) + 1)) + 1)) + 1)) + 1)) + 1)) + 1)) + 1))) (
        some [(I (-1))]) <|
      chk ((27 == 27) && decide ((0 : Int) ≤ n10)) <|
      optP xs6[Int.toNat n10]? fun x54 =>
      optI .i64 (x54.cells[18]?) fun n55 =>
      cond ((n55 : Int) != (wr ((wr ((wr ((wr ((wr ((wr ((wr ((wr ((wr ((wr ((wr ((wr ((wr ((wr ((wr ((wr ((wr ((wr (n8 + 1)) + 1)) + 1)) + 1)) + 1)) + 1)) + 1)) + 1)) + 1)) + 1)) + 1)) + 1)) + 1)) + 1)) + 1)) + 1)) + 1)) + 1))) (
        some [(I (-1))]) <|
      chk ((27 == 27) && decide ((0 : Int) ≤ n10)) <|
      optP xs6[Int.toNat n10]? fun x56 =>
      optB (x56.cells[19]?) fun b57 =>
      optI .i64 (binPV none false .rem (I (wr ((wr ((wr ((wr ((wr ((wr ((wr ((wr ((wr ((wr ((wr ((wr ((wr ((wr ((wr ((wr ((wr ((wr ((wr (n8 + 1)) + 1)) + 1)) + 1)) + 1)) + 1)) + 1)) + 1)) + 1)) + 1)) + 1)) + 1)) + 1)) + 1)) + 1)) + 1)) + 1)) + 1)) + 1))) (I 3)) fun n58 =>
      cond (!(b57 == ((n58 : Int) == 0))) (
        some [(I (-1))]) <|
      chk ((27 == 27) && decide ((0 : Int) ≤ n10)) <|
      optP xs6[Int.toNat n10]? fun x59 =>
      optI .i64 (x59.cells[20]?) fun n60 =>
      cond ((n60 : Int) != (wr ((wr ((wr ((wr ((wr ((wr ((wr ((wr ((wr ((wr ((wr ((wr ((wr ((wr ((wr ((wr ((wr ((wr ((wr ((wr (n8 + 1)) + 1)) + 1)) + 1)) + 1)) + 1)) + 1)) + 1)) + 1)) + 1)) + 1)) + 1)) + 1)) + 1)) + 1)) + 1)) + 1)) + 1)) + 1)) + 1))) (
        some [(I (-1))]) <|
      chk ((27 == 27) && decide ((0 : Int) ≤ n10)) <|
      optP xs6[Int.toNat n10]? fun x61 =>
      optI .i64 (x61.cells[21]?) fun n62 =>
      cond ((n62 : Int) != (wr ((wr ((wr ((wr ((wr ((wr ((wr ((wr ((wr ((wr ((wr ((wr ((wr ((wr ((wr ((wr ((wr ((wr ((wr ((wr ((wr (n8 + 1)) + 1)) + 1)) + 1)) + 1)) + 1)) + 1)) + 1)) + 1)) + 1)) + 1)) + 1)) + 1)) + 1)) + 1)) + 1)) + 1)) + 1)) + 1)) + 1)) + 1))) (
        some [(I (-1))]) <|
      chk ((27 == 27) && decide ((0 : Int) ≤ n10)) <|
      optP xs6[Int.toNat n10]? fun x63 =>
      optI .i64 (x63.cells[22]?) fun n64 =>
      cond ((n64 : Int) != (wr ((wr ((wr ((wr ((wr ((wr ((wr ((wr ((wr ((wr ((wr ((wr ((wr ((wr ((wr ((wr ((wr ((wr ((wr ((wr ((wr ((wr (n8 + 1)) + 1)) + 1)) + 1)) + 1)) + 1)) + 1)) + 1)) + 1)) + 1)) + 1)) + 1)) + 1)) + 1)) + 1)) + 1)) + 1)) + 1)) + 1)) + 1)) + 1)) + 1))) (
        some [(I (-1))]) <|
      chk ((27 == 27) && decide ((0 : Int) ≤ n10)) <|
      optP xs6[Int.toNat n10]? fun x65 =>
      optI .i64 (x65.cells[23]?) fun n66 =>
      cond ((n66 : Int) != (wr ((wr ((wr ((wr ((wr ((wr ((wr ((wr ((wr ((wr ((wr ((wr ((wr ((wr ((wr ((wr ((wr ((wr ((wr ((wr ((wr ((wr ((wr (n8 + 1)) + 1)) + 1)) + 1)) + 1)) + 1)) + 1)) + 1)) + 1)) + 1)) + 1)) + 1)) + 1)) + 1)) + 1)) + 1)) + 1)) + 1)) + 1)) + 1)) + 1)) + 1)) + 1))) (
        some [(I (-1))]) <|
      chk ((27 == 27) && decide ((0 : Int) ≤ n10)) <|
      optP xs6[Int.toNat n10]? fun x67 =>
      optB (x67.cells[24]?) fun b68 =>
      optI .i64 (binPV none false .rem (I (wr ((wr ((wr ((wr ((wr ((wr ((wr ((wr ((wr ((wr ((wr ((wr ((wr ((wr ((wr ((wr ((wr ((wr ((wr ((wr ((wr ((wr ((wr ((wr (n8 + 1)) + 1)) + 1)) + 1)) + 1)) + 1)) + 1)) + 1)) + 1)) + 1)) + 1)) + 1)) + 1)) + 1)) + 1)) + 1)) + 1)) + 1)) + 1)) + 1)) + 1)) + 1)) + 1)) + 1))) (I 3)) fun n69 =>
      cond (!(b68 == ((n69 : Int) == 0))) (
        some [(I (-1))]) <|
      chk ((27 == 27) && decide ((0 : Int) ≤ n10)) <|
      optP xs6[Int.toNat n10]? fun x70 =>
      optS (x70.cells[25]?) fun s71 =>
      optC (C 36 [(I (wr ((wr ((wr ((wr ((wr ((wr ((wr ((wr ((wr ((wr ((wr ((wr ((wr ((wr ((wr ((wr ((wr ((wr ((wr ((wr ((wr ((wr ((wr ((wr ((wr (n8 + 1)) + 1)) + 1)) + 1)) + 1)) + 1)) + 1)) + 1)) + 1)) + 1)) + 1)) + 1)) + 1)) + 1)) + 1)) + 1)) + 1)) + 1)) + 1)) + 1)) + 1)) + 1)) + 1)) + 1)) + 1)))]) fun rs72 =>
      popS rs72 fun s74 r73 =>
      popN r73 <|
      cond (!(s71.toList == s74.toList)) (
        some [(I (-1))]) <|
      chk ((27 == 27) && decide ((0 : Int) ≤ n10)) <|
      optP xs6[Int.toNat n10]? fun x75 =>
      optI .i64 (x75.cells[26]?) fun n76 =>
      cond ((n76 : Int) != (wr ((wr ((wr ((wr ((wr ((wr ((wr ((wr ((wr ((wr ((wr ((wr ((wr ((wr ((wr ((wr ((wr ((wr ((wr ((wr ((wr ((wr ((wr ((wr ((wr ((wr (n8 + 1)) + 1)) + 1)) + 1)) + 1)) + 1)) + 1)) + 1)) + 1)) + 1)) + 1)) + 1)) + 1)) + 1)) + 1)) + 1)) + 1)) + 1)) + 1)) + 1)) + 1)) + 1)) + 1)) + 1)) + 1)) + 1))) (
        some [(I (-1))]) <|
      rec11 [(.sl 27 xs6), (I (wr ((wr ((wr ((wr ((wr ((wr ((wr ((wr ((wr ((wr ((wr ((wr ((wr ((wr ((wr ((wr ((wr ((wr ((wr ((wr ((wr ((wr ((wr ((wr ((wr ((wr ((wr (n8 + 1)) + 1)) + 1)) + 1)) + 1)) + 1)) + 1)) + 1)) + 1)) + 1)) + 1)) + 1)) + 1)) + 1)) + 1)) + 1)) + 1)) + 1)) + 1)) + 1)) + 1)) + 1)) + 1)) + 1)) + 1)) + 1)) + 1))), (I (wr (n10 + 1)))]) <|
    some [(I n8)]) [(.sl 27 xs2), (I n4), (I 0)]
theorem t15 (FU : Nat) (C : Oracle) (ps : List PV) : bodyK Bk FU C Tryz.f15 i15 ps = s15 FU C ps := by kernel_rfl
theorem c15 {FU m : Nat} {ps rs : List PV} (h : s15 FU (callN (Bk.env FU) m) ps = some rs) : callN (Bk.env FU) (m + 1) 15 ps = some rs :=
  call_of (i := i15) (fn := Tryz.f15) (by kernel_rfl) (by kernel_rfl) (by kernel_rfl) ((t15 _ _ _).trans h)

/-- spec.imGiven -/
noncomputable def s16 (_FU : Nat) (_C : Oracle) (ps : List PV) : R :=
  popS ps fun s2 r1 =>
  popN r1 <|
  some [(B (decide (((s2.size : Int) : Int) ≤ 100)))]
theorem t16 (FU : Nat) (C : Oracle) (ps : List PV) : bodyK Bk FU C Tryz.f16 i16 ps = s16 FU C ps := by kernel_rfl
theorem c16 {FU m : Nat} {ps rs : List PV} (h : s16 FU (callN (Bk.env FU) m) ps = some rs) : callN (Bk.env FU) (m + 1) 16 ps = some rs :=
  call_of (i := i16) (fn := Tryz.f16) (by kernel_rfl) (by kernel_rfl) (by kernel_rfl) ((t16 _ _ _).trans h)

/-- spec.imRead -/
noncomputable def s17 (FU : Nat) (C : Oracle) (ps : List PV) : R :=
  popS ps fun s2 r1 =>
  popN r1 <|
  optC (C 37 [(Sg (bs [48, 48, 48, 48, 48]))]) fun rs3 =>
  popA rs3 fun cs5 r4 =>
  popB r4 fun b7 r6 =>
  popN r6 <|
  optC (putPart [I 0, I 0, I 0, I 0, I 0, B false] 0 6 (.agg cs5)) fun cs8 =>
  optC (C 38 [(Sg (bs [102, 117]))]) fun rs9 =>
  popA rs9 fun cs11 r10 =>
  popB r10 fun b13 r12 =>
  popN r12 <|
  optC (putPart [I 0, I 0] 0 2 (.agg cs11)) fun cs14 =>
  optA (partA cs8 0 6) fun cs15 =>
  optA (partA cs14 0 2) fun cs16 =>
  optC (fillL [(1, 1, (I 1))] [Sg (bs []), I 0]) fun cs17 =>
  optC (fillL [(0, 6, (.agg cs15)), (6, 2, (.agg cs16)), (11, 2, (.agg cs17))] [I 0, I 0, I 0, I 0, I 0, B false, I 0, I 0, I 0, I 0, B false, Sg (bs []), I 0]) fun cs18 =>
  optC (putPart [I 0, I 0, I 0, I 0, I 0, B false, I 0, I 0, I 0, I 0, B false, Sg (bs []), I 0] 0 13 (.agg cs18)) fun cs19 =>
  optC (C 24 [(Sg s2), (.v (.int .u8 59))]) fun rs20 =>
  popLz 1 rs20 fun xs22 r21 =>
  popN r21 <|
  iterK FU (fun rec35 vs =>
    popA vs fun cs24 r23 =>
    popA r23 fun cs26 r25 =>
    popI .i64 r25 fun n28 r27 =>
    popLz 1 r27 fun xs30 r29 =>
    popI .i64 r29 fun n32 r31 =>
    popI .i64 r31 fun n34 r33 =>
    popN r33 <|
    cond (decide ((n34 : Int) < n32)) (
      chk ((1 == 1) && (decide ((0 : Int) ≤ n34) && decide ((n34 : Int) < (@List.length PV xs30 : Int)))) <|
      optS (eltS xs30 (Int.toNat n34) 0) fun s36 =>
      cond (s36.toList == (bs []).toList) (
        rec35 [(.agg cs24), (.agg cs26), (I n28), (.sl 1 xs30), (I n32), (I (wr (n34 + 1)))]) <|
      optC (C 39 [(.agg cs26), (Sg s36)]) fun rs49 =>
      popI .i64 rs49 fun n51 r50 =>
      popA r50 fun cs53 r52 =>
      popN r52 <|
      rec35 [(.agg cs24), (.agg cs53), (I (IntKind.wrap .i64 (BitVec.ofInt (IntKind.bits .i64) n28 ||| BitVec.ofInt (IntKind.bits .i64) n51).toNat)), (.sl 1 xs30), (I n32), (I (wr (n34 + 1)))]) <|
    optA (partA cs26 0 13) fun cs66 =>
    optC (putPart cs24 0 13 (.agg cs66)) fun cs67 =>
    optA (partA cs67 0 13) fun cs68 =>
    chk (List.all cs68 PV.isV) <|
    some [(.agg cs68), (I n28)]) [(.agg [I 0, I 0, I 0, I 0, I 0, B false, I 0, I 0, I 0, I 0, B false, Sg (bs []), I 0]), (.agg cs19), (I 0), (.sl 1 xs22), (I (@List.length PV xs22 : Int)), (I 0)]
theorem t17 (FU : Nat) (C : Oracle) (ps : List PV) : bodyK Bk FU C Tryz.f17 i17 ps = s17 FU C ps := by kernel_rfl
theorem c17 {FU m : Nat} {ps rs : List PV} (h : s17 FU (callN (Bk.env FU) m) ps = some rs) : callN (Bk.env FU) (m + 1) 17 ps = some rs :=
  call_of (i := i17) (fn := Tryz.f17) (by kernel_rfl) (by kernel_rfl) (by kernel_rfl) ((t17 _ _ _).trans h)

/-- spec.siGood -/
noncomputable def s18 (_FU : Nat) (C : Oracle) (ps : List PV) : R :=
  popA ps fun cs2 r1 =>
  popN r1 <|
  optA (partA cs2 0 13) fun cs3 =>
  optC (C 40 [(.agg cs3)]) fun rs4 =>
  popB rs4 fun b6 r5 =>
  popN r5 <|
  cond (!b6) (
    some [(B false)]) <|
  optB (cs2[13]?) fun b7 =>
  cond (!b7) (
    optA (partA cs2 14 13) fun cs8 =>
    optC (fillL [] [I 0, I 0, I 0, I 0, I 0, B false, I 0, I 0, I 0, I 0, B false, Sg (bs []), I 0]) fun cs9 =>
    optB (binPV (Bk.EQ 31) false .eql (.agg cs8) (.agg cs9)) fun b10 =>
    some [(B b10)]) <|
  optA (partA cs2 14 13) fun cs11 =>
  optC (C 40 [(.agg cs11)]) fun rs12 =>
  popB rs12 fun b14 r13 =>
  popN r13 <|
  cond b14 (
    optA (partA cs2 0 13) fun cs15 =>
    optA (partA cs2 14 13) fun cs16 =>
    optC (C 41 [(.agg cs15), (.agg cs16)]) fun rs17 =>
    popI .i64 rs17 fun n19 r18 =>
    popN r18 <|
    some [(B ((n19 : Int) == 0))]) <|
  some [(B false)]
theorem t18 (FU : Nat) (C : Oracle) (ps : List PV) : bodyK Bk FU C Tryz.f18 i18 ps = s18 FU C ps := by kernel_rfl
theorem c18 {FU m : Nat} {ps rs : List PV} (h : s18 FU (callN (Bk.env FU) m) ps = some rs) : callN (Bk.env FU) (m + 1) 18 ps = some rs :=
  call_of (i := i18) (fn := Tryz.f18) (by kernel_rfl) (by kernel_rfl) (by kernel_rfl) ((t18 _ _ _).trans h)

/-- impl.OneHand -/
noncomputable def s20 (_FU : Nat) (C : Oracle) (ps : List PV) : R :=
  popA ps fun cs2 r1 =>
  popN r1 <|
  optA (partA cs2 0 13) fun cs3 =>
  optC (C 49 [(.agg cs3)]) fun rs4 =>
  popB rs4 fun b6 r5 =>
  popN r5 <|
  cond (!b6) (
    optC (fillL [] [I 0, I 0, I 0, I 0, I 0, B false, I 0, I 0, I 0, I 0, B false, Sg (bs []), I 0, B false, I 0, I 0, I 0, I 0, I 0, B false, I 0, I 0, I 0, I 0, B false, Sg (bs []), I 0]) fun cs7 =>
    optC (putPart [I 0, I 0, I 0, I 0, I 0, B false, I 0, I 0, I 0, I 0, B false, Sg (bs []), I 0, B false, I 0, I 0, I 0, I 0, I 0, B false, I 0, I 0, I 0, I 0, B false, Sg (bs []), I 0] 0 27 (.agg cs7)) fun cs8 =>
    optA (partA cs8 0 27) fun cs9 =>
    chk (List.all cs9 PV.isV) <|
    some [(.agg cs9), (B false)]) <|
  optA (partA cs2 0 13) fun cs10 =>
  optC (fillL [(0, 13, (.agg cs10))] [I 0, I 0, I 0, I 0, I 0, B false, I 0, I 0, I 0, I 0, B false, Sg (bs []), I 0, B false, I 0, I 0, I 0, I 0, I 0, B false, I 0, I 0, I 0, I 0, B false, Sg (bs []), I 0]) fun cs11 =>
  optC (putPart [I 0, I 0, I 0, I 0, I 0, B false, I 0, I 0, I 0, I 0, B false, Sg (bs []), I 0, B false, I 0, I 0, I 0, I 0, I 0, B false, I 0, I 0, I 0, I 0, B false, Sg (bs []), I 0] 0 27 (.agg cs11)) fun cs12 =>
  optA (partA cs12 0 27) fun cs13 =>
  chk (List.all cs13 PV.isV) <|
  some [(.agg cs13), (B true)]
theorem t20 (FU : Nat) (C : Oracle) (ps : List PV) : bodyK Bk FU C Tryz.f20 i20 ps = s20 FU C ps := by kernel_rfl
theorem c20 {FU m : Nat} {ps rs : List PV} (h : s20 FU (callN (Bk.env FU) m) ps = some rs) : callN (Bk.env FU) (m + 1) 20 ps = some rs :=
  call_of (i := i20) (fn := Tryz.f20) (by kernel_rfl) (by kernel_rfl) (by kernel_rfl) ((t20 _ _ _).trans h)

/-- impl.TwoHands -/
noncomputable def s21 (_FU : Nat) (C : Oracle) (ps : List PV) : R :=
  popA ps fun cs2 r1 =>
  popA r1 fun cs4 r3 =>
  popN r3 <|
  optA (partA cs2 0 13) fun cs5 =>
  optA (partA cs4 0 13) fun cs6 =>
  optC (fillL [(0, 13, (.agg cs5)), (13, 1, (B true)), (14, 13, (.agg cs6))] [I 0, I 0, I 0, I 0, I 0, B false, I 0, I 0, I 0, I 0, B false, Sg (bs []), I 0, B false, I 0, I 0, I 0, I 0, I 0, B false, I 0, I 0, I 0, I 0, B false, Sg (bs []), I 0]) fun cs7 =>
  optC (putPart [I 0, I 0, I 0, I 0, I 0, B false, I 0, I 0, I 0, I 0, B false, Sg (bs []), I 0, B false, I 0, I 0, I 0, I 0, I 0, B false, I 0, I 0, I 0, I 0, B false, Sg (bs []), I 0] 0 27 (.agg cs7)) fun cs8 =>
  optA (partA cs8 0 27) fun cs9 =>
  optC (C 50 [(.agg cs9)]) fun rs10 =>
  popB rs10 fun b12 r11 =>
  popN r11 <|
  cond (!b12) (
    optC (fillL [] [I 0, I 0, I 0, I 0, I 0, B false, I 0, I 0, I 0, I 0, B false, Sg (bs []), I 0, B false, I 0, I 0, I 0, I 0, I 0, B false, I 0, I 0, I 0, I 0, B false, Sg (bs []), I 0]) fun cs13 =>
    optC (putPart [I 0, I 0, I 0, I 0, I 0, B false, I 0, I 0, I 0, I 0, B false, Sg (bs []), I 0, B false, I 0, I 0, I 0, I 0, I 0, B false, I 0, I 0, I 0, I 0, B false, Sg (bs []), I 0] 0 27 (.agg cs13)) fun cs14 =>
    optA (partA cs14 0 27) fun cs15 =>
    chk (List.all cs15 PV.isV) <|
    some [(.agg cs15), (B false)]) <|
  optA (partA cs8 0 27) fun cs16 =>
  optC (putPart [I 0, I 0, I 0, I 0, I 0, B false, I 0, I 0, I 0, I 0, B false, Sg (bs []), I 0, B false, I 0, I 0, I 0, I 0, I 0, B false, I 0, I 0, I 0, I 0, B false, Sg (bs []), I 0] 0 27 (.agg cs16)) fun cs17 =>
  optA (partA cs17 0 27) fun cs18 =>
  chk (List.all cs18 PV.isV) <|
  some [(.agg cs18), (B true)]
theorem t21 (FU : Nat) (C : Oracle) (ps : List PV) : bodyK Bk FU C Tryz.f21 i21 ps = s21 FU C ps := by kernel_rfl
theorem c21 {FU m : Nat} {ps rs : List PV} (h : s21 FU (callN (Bk.env FU) m) ps = some rs) : callN (Bk.env FU) (m + 1) 21 ps = some rs :=
  call_of (i := i21) (fn := Tryz.f21) (by kernel_rfl) (by kernel_rfl) (by kernel_rfl) ((t21 _ _ _).trans h)

/-- laws.eqHand -/
noncomputable def s22 (_FU : Nat) (C : Oracle) (ps : List PV) : R :=
  popA ps fun cs2 r1 =>
  popA r1 fun cs4 r3 =>
  popN r3 <|
  optA (partA cs2 0 6) fun cs5 =>
  optA (partA cs4 0 6) fun cs6 =>
  optC (C 51 [(.agg cs5), (.agg cs6)]) fun rs7 =>
  popB rs7 fun b9 r8 =>
  popN r8 <|
  cond (!b9) (
    some [(B false)]) <|
  optA (partA cs2 6 2) fun cs10 =>
  optA (partA cs4 6 2) fun cs11 =>
  optC (C 52 [(.agg cs10), (.agg cs11)]) fun rs12 =>
  popB rs12 fun b14 r13 =>
  popN r13 <|
  cond (!b14) (
    some [(B false)]) <|
  optA (partA cs2 8 3) fun cs15 =>
  optA (partA cs4 8 3) fun cs16 =>
  optC (C 53 [(.agg cs15), (.agg cs16)]) fun rs17 =>
  popB rs17 fun b19 r18 =>
  popN r18 <|
  cond (!b19) (
    some [(B false)]) <|
  optA (partA cs2 11 2) fun cs20 =>
  optA (partA cs4 11 2) fun cs21 =>
  optC (C 54 [(.agg cs20), (.agg cs21)]) fun rs22 =>
  popB rs22 fun b24 r23 =>
  popN r23 <|
  cond (!b24) (
    some [(B false)]) <|
  some [(B true)]
theorem t22 (FU : Nat) (C : Oracle) (ps : List PV) : bodyK Bk FU C Tryz.f22 i22 ps = s22 FU C ps := by kernel_rfl
theorem c22 {FU m : Nat} {ps rs : List PV} (h : s22 FU (callN (Bk.env FU) m) ps = some rs) : callN (Bk.env FU) (m + 1) 22 ps = some rs :=
  call_of (i := i22) (fn := Tryz.f22) (by kernel_rfl) (by kernel_rfl) (by kernel_rfl) ((t22 _ _ _).trans h)

/-- spec.paGiven -/
noncomputable def s23 (_FU : Nat) (_C : Oracle) (ps : List PV) : R :=
  popS ps fun s2 r1 =>
  popN r1 <|
  some [(B (decide (((s2.size : Int) : Int) ≤ 200)))]
theorem t23 (FU : Nat) (C : Oracle) (ps : List PV) : bodyK Bk FU C Tryz.f23 i23 ps = s23 FU C ps := by kernel_rfl
theorem c23 {FU m : Nat} {ps rs : List PV} (h : s23 FU (callN (Bk.env FU) m) ps = some rs) : callN (Bk.env FU) (m + 1) 23 ps = some rs :=
  call_of (i := i23) (fn := Tryz.f23) (by kernel_rfl) (by kernel_rfl) (by kernel_rfl) ((t23 _ _ _).trans h)

/-- spec.l1Split -/
noncomputable def s24 (FU : Nat) (_C : Oracle) (ps : List PV) : R :=
  popS ps fun s2 r1 =>
  popI .u8 r1 fun n4 r3 =>
  popN r3 <|
  iterK FU (fun rec15 vs =>
    popS vs fun s6 r5 =>
    popI .u8 r5 fun n8 r7 =>
    popLz 1 r7 fun xs10 r9 =>
    popI .i64 r9 fun n12 r11 =>
    popI .i64 r11 fun n14 r13 =>
    popN r13 <|
    cond (decide ((n14 : Int) < (s6.size : Int))) (
      optI .u8 (strAt s6 n14) fun n16 =>
      cond ((n16 : Int) == n8) (
        chk (within n12 n14 s6.size) <|
        chk ((1 == 1) && (1 == 1) && !(false) && roomy (@List.length PV xs10 + @List.length PV [(Sg (ByteArray.extract s6 (Int.toNat n12) (Int.toNat n14)))]) 16 && !(16 == 0)) <|
        rec15 [(Sg s6), (.v (.int .u8 n8)), (.sl 1 (xs10 ++ [(Sg (ByteArray.extract s6 (Int.toNat n12) (Int.toNat n14)))])), (I (wr (n14 + 1))), (I (wr (n14 + 1)))]) <|
      rec15 [(Sg s6), (.v (.int .u8 n8)), (.sl 1 xs10), (I n12), (I (wr (n14 + 1)))]) <|
    chk (within n12 s6.size s6.size) <|
    chk ((1 == 1) && (1 == 1) && !(false) && roomy (@List.length PV xs10 + @List.length PV [(Sg (ByteArray.extract s6 (Int.toNat n12) (Int.toNat s6.size)))]) 16 && !(16 == 0)) <|
    chk (List.all ((xs10 ++ [(Sg (ByteArray.extract s6 (Int.toNat n12) (Int.toNat s6.size)))]) : List PV) PV.flat) <|
    some [(.sl 1 (xs10 ++ [(Sg (ByteArray.extract s6 (Int.toNat n12) (Int.toNat s6.size)))]))]) [(Sg s2), (.v (.int .u8 n4)), (.sl 1 []), (I 0), (I 0)]
theorem t24 (FU : Nat) (C : Oracle) (ps : List PV) : bodyK Bk FU C Tryz.f24 i24 ps = s24 FU C ps := by kernel_rfl
theorem c24 {FU m : Nat} {ps rs : List PV} (h : s24 FU (callN (Bk.env FU) m) ps = some rs) : callN (Bk.env FU) (m + 1) 24 ps = some rs :=
  call_of (i := i24) (fn := Tryz.f24) (by kernel_rfl) (by kernel_rfl) (by kernel_rfl) ((t24 _ _ _).trans h)

/-- spec.paParse -/
noncomputable def s25 (_FU : Nat) (C : Oracle) (ps : List PV) : R :=
  popS ps fun s2 r1 =>
  popN r1 <|
  optC (C 24 [(Sg s2), (.v (.int .u8 43))]) fun rs3 =>
  popLz 1 rs3 fun xs5 r4 =>
  popN r4 <|
  cond (decide (((@List.length PV xs5 : Int) : Int) > 2)) (
    optC (fillL [] [I 0, I 0, I 0, I 0, I 0, B false, I 0, I 0, I 0, I 0, B false, Sg (bs []), I 0, B false, I 0, I 0, I 0, I 0, I 0, B false, I 0, I 0, I 0, I 0, B false, Sg (bs []), I 0]) fun cs6 =>
    optC (putPart [I 0, I 0, I 0, I 0, I 0, B false, I 0, I 0, I 0, I 0, B false, Sg (bs []), I 0, B false, I 0, I 0, I 0, I 0, I 0, B false, I 0, I 0, I 0, I 0, B false, Sg (bs []), I 0] 0 27 (.agg cs6)) fun cs7 =>
    optA (partA cs7 0 27) fun cs8 =>
    chk (List.all cs8 PV.isV) <|
    some [(.agg cs8), (I 1), (I 0)]) <|
  chk ((1 == 1) && (decide ((0 : Int) ≤ 0) && decide ((0 : Int) < (@List.length PV xs5 : Int)))) <|
  optS (eltS xs5 (Int.toNat 0) 0) fun s9 =>
  optC (C 55 [(Sg s9)]) fun rs10 =>
  popA rs10 fun cs12 r11 =>
  popI .i64 r11 fun n14 r13 =>
  popI .i64 r13 fun n16 r15 =>
  popN r15 <|
  optC (putPart [I 0, I 0, I 0, I 0, I 0, B false, I 0, I 0, I 0, I 0, B false, Sg (bs []), I 0] 0 13 (.agg cs12)) fun cs17 =>
  cond ((n14 : Int) != 0) (
    optC (fillL [] [I 0, I 0, I 0, I 0, I 0, B false, I 0, I 0, I 0, I 0, B false, Sg (bs []), I 0, B false, I 0, I 0, I 0, I 0, I 0, B false, I 0, I 0, I 0, I 0, B false, Sg (bs []), I 0]) fun cs18 =>
    optC (putPart [I 0, I 0, I 0, I 0, I 0, B false, I 0, I 0, I 0, I 0, B false, Sg (bs []), I 0, B false, I 0, I 0, I 0, I 0, I 0, B false, I 0, I 0, I 0, I 0, B false, Sg (bs []), I 0] 0 27 (.agg cs18)) fun cs19 =>
    optA (partA cs19 0 27) fun cs20 =>
    chk (List.all cs20 PV.isV) <|
    some [(.agg cs20), (I n14), (I n16)]) <|
  cond (((@List.length PV xs5 : Int) : Int) == 1) (
    optA (partA cs17 0 13) fun cs21 =>
    optC (fillL [(0, 13, (.agg cs21))] [I 0, I 0, I 0, I 0, I 0, B false, I 0, I 0, I 0, I 0, B false, Sg (bs []), I 0, B false, I 0, I 0, I 0, I 0, I 0, B false, I 0, I 0, I 0, I 0, B false, Sg (bs []), I 0]) fun cs22 =>
    optC (putPart [I 0, I 0, I 0, I 0, I 0, B false, I 0, I 0, I 0, I 0, B false, Sg (bs []), I 0, B false, I 0, I 0, I 0, I 0, I 0, B false, I 0, I 0, I 0, I 0, B false, Sg (bs []), I 0] 0 27 (.agg cs22)) fun cs23 =>
    optA (partA cs23 0 27) fun cs24 =>
    chk (List.all cs24 PV.isV) <|
    some [(.agg cs24), (I 0), (I 0)]) <|
  chk ((1 == 1) && (decide ((0 : Int) ≤ 0) && decide ((0 : Int) < (@List.length PV xs5 : Int)))) <|
  optS (eltS xs5 (Int.toNat 0) 0) fun s25 =>
  chk ((1 == 1) && (decide ((0 : Int) ≤ 1) && decide ((1 : Int) < (@List.length PV xs5 : Int)))) <|
  optS (eltS xs5 (Int.toNat 1) 0) fun s26 =>
  optC (C 55 [(Sg s26)]) fun rs27 =>
  popA rs27 fun cs29 r28 =>
  popI .i64 r28 fun n31 r30 =>
  popI .i64 r30 fun n33 r32 =>
  popN r32 <|
  optC (putPart [I 0, I 0, I 0, I 0, I 0, B false, I 0, I 0, I 0, I 0, B false, Sg (bs []), I 0] 0 13 (.agg cs29)) fun cs34 =>
  cond ((n31 : Int) != 0) (
    optC (fillL [] [I 0, I 0, I 0, I 0, I 0, B false, I 0, I 0, I 0, I 0, B false, Sg (bs []), I 0, B false, I 0, I 0, I 0, I 0, I 0, B false, I 0, I 0, I 0, I 0, B false, Sg (bs []), I 0]) fun cs35 =>
    optC (putPart [I 0, I 0, I 0, I 0, I 0, B false, I 0, I 0, I 0, I 0, B false, Sg (bs []), I 0, B false, I 0, I 0, I 0, I 0, I 0, B false, I 0, I 0, I 0, I 0, B false, Sg (bs []), I 0] 0 27 (.agg cs35)) fun cs36 =>
    optA (partA cs36 0 27) fun cs37 =>
    chk (List.all cs37 PV.isV) <|
    some [(.agg cs37), (I n31), (I (wr ((wr ((s25.size : Int) + 1)) + n33)))]) <|
  optA (partA cs17 0 13) fun cs38 =>
  optA (partA cs34 0 13) fun cs39 =>
  optC (C 41 [(.agg cs38), (.agg cs39)]) fun rs40 =>
  popI .i64 rs40 fun n42 r41 =>
  popN r41 <|
  cond ((n42 : Int) != 0) (
    optC (fillL [] [I 0, I 0, I 0, I 0, I 0, B false, I 0, I 0, I 0, I 0, B false, Sg (bs []), I 0, B false, I 0, I 0, I 0, I 0, I 0, B false, I 0, I 0, I 0, I 0, B false, Sg (bs []), I 0]) fun cs43 =>
    optC (putPart [I 0, I 0, I 0, I 0, I 0, B false, I 0, I 0, I 0, I 0, B false, Sg (bs []), I 0, B false, I 0, I 0, I 0, I 0, I 0, B false, I 0, I 0, I 0, I 0, B false, Sg (bs []), I 0] 0 27 (.agg cs43)) fun cs44 =>
    optA (partA cs44 0 27) fun cs45 =>
    chk (List.all cs45 PV.isV) <|
    some [(.agg cs45), (I 7), (I (wr ((s25.size : Int) + 1)))]) <|
  optA (partA cs17 0 13) fun cs46 =>
  optA (partA cs34 0 13) fun cs47 =>
  optC (fillL [(0, 13, (.agg cs46)), (13, 1, (B true)), (14, 13, (.agg cs47))] [I 0, I 0, I 0, I 0, I 0, B false, I 0, I 0, I 0, I 0, B false, Sg (bs []), I 0, B false, I 0, I 0, I 0, I 0, I 0, B false, I 0, I 0, I 0, I 0, B false, Sg (bs []), I 0]) fun cs48 =>
  optC (putPart [I 0, I 0, I 0, I 0, I 0, B false, I 0, I 0, I 0, I 0, B false, Sg (bs []), I 0, B false, I 0, I 0, I 0, I 0, I 0, B false, I 0, I 0, I 0, I 0, B false, Sg (bs []), I 0] 0 27 (.agg cs48)) fun cs49 =>
  optA (partA cs49 0 27) fun cs50 =>
  chk (List.all cs50 PV.isV) <|
  some [(.agg cs50), (I 0), (I 0)]
theorem t25 (FU : Nat) (C : Oracle) (ps : List PV) : bodyK Bk FU C Tryz.f25 i25 ps = s25 FU C ps := by kernel_rfl
theorem c25 {FU m : Nat} {ps rs : List PV} (h : s25 FU (callN (Bk.env FU) m) ps = some rs) : callN (Bk.env FU) (m + 1) 25 ps = some rs :=
  call_of (i := i25) (fn := Tryz.f25) (by kernel_rfl) (by kernel_rfl) (by kernel_rfl) ((t25 _ _ _).trans h)

/-- spec.paShort -/
noncomputable def s26 (FU : Nat) (C : Oracle) (ps : List PV) : R :=
  popA ps fun cs2 r1 =>
  popN r1 <|
  optB (cs2[13]?) fun b3 =>
  cond (!b3) (
    optA (partA cs2 0 27) fun cs4 =>
    optC (C 56 [(.agg cs4)]) fun rs5 =>
    popS rs5 fun s7 r6 =>
    popN r6 <|
    some [(Sg s7)]) <|
  optA (partA cs2 0 13) fun cs8 =>
  optC (C 57 [(.agg cs8)]) fun rs9 =>
  popS rs9 fun s11 r10 =>
  popN r10 <|
  optC (C 24 [(Sg s11), (.v (.int .u8 47))]) fun rs12 =>
  popLz 1 rs12 fun xs14 r13 =>
  popN r13 <|
  optA (partA cs2 14 13) fun cs15 =>
  optC (C 57 [(.agg cs15)]) fun rs16 =>
  popS rs16 fun s18 r17 =>
  popN r17 <|
  optC (C 24 [(Sg s18), (.v (.int .u8 47))]) fun rs19 =>
  popLz 1 rs19 fun xs21 r20 =>
  popN r20 <|
  optA (partA cs2 0 13) fun cs22 =>
  optC (C 57 [(.agg cs22)]) fun rs23 =>
  popS rs23 fun s25 r24 =>
  popN r24 <|
  optS (binPV none false .add (Sg s25) (Sg (bs [43]))) fun s26 =>
  iterK FU (fun rec37 vs =>
    popLz 1 vs fun xs28 r27 =>
    popS r27 fun s30 r29 =>
    popLz 1 r29 fun xs32 r31 =>
    popI .i64 r31 fun n34 r33 =>
    popI .i64 r33 fun n36 r35 =>
    popN r35 <|
    cond (decide ((n36 : Int) < n34)) (
      chk ((1 == 1) && (decide ((0 : Int) ≤ n36) && decide ((n36 : Int) < (@List.length PV xs32 : Int)))) <|
      optS (eltS xs32 (Int.toNat n36) 0) fun s38 =>
      joinK (fun vs =>
        popLz 1 vs fun xs42 r41 =>
        popS r41 fun s44 r43 =>
        popI .i64 r43 fun n46 r45 =>
        popS r45 fun s48 r47 =>
        popLz 1 r47 fun xs50 r49 =>
        popI .i64 r49 fun n52 r51 =>
        popI .i64 r51 fun n54 r53 =>
        popN r53 <|
        joinK (fun vs =>
          popLz 1 vs fun xs58 r57 =>
          popS r57 fun s60 r59 =>
          popS r59 fun s62 r61 =>
          popLz 1 r61 fun xs64 r63 =>
          popI .i64 r63 fun n66 r65 =>
          popI .i64 r65 fun n68 r67 =>
          popN r67 <|
          optS (binPV none false .add (Sg s60) (Sg s62)) fun s69 =>
          rec37 [(.sl 1 xs58), (Sg s69), (.sl 1 xs64), (I n66), (I (wr (n68 + 1)))]) fun j55 =>
        chk ((1 == 1) && (decide ((0 : Int) ≤ n46) && decide ((n46 : Int) < (@List.length PV xs42 : Int)))) <|
        optS (eltS xs42 (Int.toNat n46) 0) fun s56 =>
        cond (s48.toList == s56.toList) (
          j55 [(.sl 1 xs42), (Sg s44), (Sg (bs [61])), (.sl 1 xs50), (I n52), (I n54)]) <|
        j55 [(.sl 1 xs42), (Sg s44), (Sg s48), (.sl 1 xs50), (I n52), (I n54)]) fun j39 =>
      cond (decide ((n36 : Int) > 0)) (
        optS (binPV none false .add (Sg s30) (Sg (bs [47]))) fun s40 =>
        j39 [(.sl 1 xs28), (Sg s40), (I n36), (Sg s38), (.sl 1 xs32), (I n34), (I n36)]) <|
      j39 [(.sl 1 xs28), (Sg s30), (I n36), (Sg s38), (.sl 1 xs32), (I n34), (I n36)]) <|
    some [(Sg s30)]) [(.sl 1 xs14), (Sg s26), (.sl 1 xs21), (I (@List.length PV xs21 : Int)), (I 0)]
theorem t26 (FU : Nat) (C : Oracle) (ps : List PV) : bodyK Bk FU C Tryz.f26 i26 ps = s26 FU C ps := by kernel_rfl
theorem c26 {FU m : Nat} {ps rs : List PV} (h : s26 FU (callN (Bk.env FU) m) ps = some rs) : callN (Bk.env FU) (m + 1) 26 ps = some rs :=
  call_of (i := i26) (fn := Tryz.f26) (by kernel_rfl) (by kernel_rfl) (by kernel_rfl) ((t26 _ _ _).trans h)

/-- strings.Cut -/
noncomputable def s27 (_FU : Nat) (C : Oracle) (ps : List PV) : R :=
  popS ps fun s2 r1 =>
  popS r1 fun s4 r3 =>
  popN r3 <|
  optC (C 58 [(Sg s2), (Sg s4)]) fun rs5 =>
  popS rs5 fun s7 r6 =>
  popS r6 fun s9 r8 =>
  popB r8 fun b11 r10 =>
  popN r10 <|
  some [(Sg s7), (Sg s9), (B b11)]
theorem t27 (FU : Nat) (C : Oracle) (ps : List PV) : bodyK Bk FU C Tryz.f27 i27 ps = s27 FU C ps := by kernel_rfl
theorem c27 {FU m : Nat} {ps rs : List PV} (h : s27 FU (callN (Bk.env FU) m) ps = some rs) : callN (Bk.env FU) (m + 1) 27 ps = some rs :=
  call_of (i := i27) (fn := Tryz.f27) (by kernel_rfl) (by kernel_rfl) (by kernel_rfl) ((t27 _ _ _).trans h)

/-- impl.readSign -/
noncomputable def s30 (_FU : Nat) (C : Oracle) (ps : List PV) : R :=
  popS ps fun s2 r1 =>
  popN r1 <|
  optC (C 63 [(Sg s2), (Sg (bs [43]))]) fun rs3 =>
  popI .i64 rs3 fun n5 r4 =>
  popN r4 <|
  cond (decide ((n5 : Int) > 1)) (
    optC (fillL [] [I 0, I 0, I 0, I 0, I 0, B false, I 0, I 0, I 0, I 0, B false, Sg (bs []), I 0, B false, I 0, I 0, I 0, I 0, I 0, B false, I 0, I 0, I 0, I 0, B false, Sg (bs []), I 0]) fun cs6 =>
    optC (putPart [I 0, I 0, I 0, I 0, I 0, B false, I 0, I 0, I 0, I 0, B false, Sg (bs []), I 0, B false, I 0, I 0, I 0, I 0, I 0, B false, I 0, I 0, I 0, I 0, B false, Sg (bs []), I 0] 0 27 (.agg cs6)) fun cs7 =>
    optA (partA cs7 0 27) fun cs8 =>
    chk (List.all cs8 PV.isV) <|
    some [(.agg cs8), (I 1), (I 0)]) <|
  optC (C 27 [(Sg s2), (Sg (bs [43]))]) fun rs9 =>
  popS rs9 fun s11 r10 =>
  popS r10 fun s13 r12 =>
  popB r12 fun b15 r14 =>
  popN r14 <|
  optC (C 42 [(Sg s11)]) fun rs16 =>
  popA rs16 fun cs18 r17 =>
  popI .i64 r17 fun n20 r19 =>
  popI .i64 r19 fun n22 r21 =>
  popN r21 <|
  optC (putPart [I 0, I 0, I 0, I 0, I 0, B false, I 0, I 0, I 0, I 0, B false, Sg (bs []), I 0] 0 13 (.agg cs18)) fun cs23 =>
  cond ((n20 : Int) != 0) (
    optC (fillL [] [I 0, I 0, I 0, I 0, I 0, B false, I 0, I 0, I 0, I 0, B false, Sg (bs []), I 0, B false, I 0, I 0, I 0, I 0, I 0, B false, I 0, I 0, I 0, I 0, B false, Sg (bs []), I 0]) fun cs24 =>
    optC (putPart [I 0, I 0, I 0, I 0, I 0, B false, I 0, I 0, I 0, I 0, B false, Sg (bs []), I 0, B false, I 0, I 0, I 0, I 0, I 0, B false, I 0, I 0, I 0, I 0, B false, Sg (bs []), I 0] 0 27 (.agg cs24)) fun cs25 =>
    optA (partA cs25 0 27) fun cs26 =>
    chk (List.all cs26 PV.isV) <|
    some [(.agg cs26), (I n20), (I n22)]) <|
  cond (!b15) (
    optA (partA cs23 0 13) fun cs27 =>
    optC (fillL [(0, 13, (.agg cs27))] [I 0, I 0, I 0, I 0, I 0, B false, I 0, I 0, I 0, I 0, B false, Sg (bs []), I 0, B false, I 0, I 0, I 0, I 0, I 0, B false, I 0, I 0, I 0, I 0, B false, Sg (bs []), I 0]) fun cs28 =>
    optC (putPart [I 0, I 0, I 0, I 0, I 0, B false, I 0, I 0, I 0, I 0, B false, Sg (bs []), I 0, B false, I 0, I 0, I 0, I 0, I 0, B false, I 0, I 0, I 0, I 0, B false, Sg (bs []), I 0] 0 27 (.agg cs28)) fun cs29 =>
    optA (partA cs29 0 27) fun cs30 =>
    chk (List.all cs30 PV.isV) <|
    some [(.agg cs30), (I 0), (I 0)]) <|
  optC (C 42 [(Sg s13)]) fun rs31 =>
  popA rs31 fun cs33 r32 =>
  popI .i64 r32 fun n35 r34 =>
  popI .i64 r34 fun n37 r36 =>
  popN r36 <|
  optC (putPart [I 0, I 0, I 0, I 0, I 0, B false, I 0, I 0, I 0, I 0, B false, Sg (bs []), I 0] 0 13 (.agg cs33)) fun cs38 =>
  cond ((n35 : Int) != 0) (
    optC (fillL [] [I 0, I 0, I 0, I 0, I 0, B false, I 0, I 0, I 0, I 0, B false, Sg (bs []), I 0, B false, I 0, I 0, I 0, I 0, I 0, B false, I 0, I 0, I 0, I 0, B false, Sg (bs []), I 0]) fun cs39 =>
    optC (putPart [I 0, I 0, I 0, I 0, I 0, B false, I 0, I 0, I 0, I 0, B false, Sg (bs []), I 0, B false, I 0, I 0, I 0, I 0, I 0, B false, I 0, I 0, I 0, I 0, B false, Sg (bs []), I 0] 0 27 (.agg cs39)) fun cs40 =>
    optA (partA cs40 0 27) fun cs41 =>
    chk (List.all cs41 PV.isV) <|
    some [(.agg cs41), (I n35), (I (wr ((wr ((s11.size : Int) + 1)) + n37)))]) <|
  optA (partA cs23 0 13) fun cs42 =>
  optA (partA cs38 0 13) fun cs43 =>
  optC (C 64 [(.agg cs42), (.agg cs43)]) fun rs44 =>
  popB rs44 fun b46 r45 =>
  popN r45 <|
  cond (!b46) (
    optC (fillL [] [I 0, I 0, I 0, I 0, I 0, B false, I 0, I 0, I 0, I 0, B false, Sg (bs []), I 0, B false, I 0, I 0, I 0, I 0, I 0, B false, I 0, I 0, I 0, I 0, B false, Sg (bs []), I 0]) fun cs47 =>
    optC (putPart [I 0, I 0, I 0, I 0, I 0, B false, I 0, I 0, I 0, I 0, B false, Sg (bs []), I 0, B false, I 0, I 0, I 0, I 0, I 0, B false, I 0, I 0, I 0, I 0, B false, Sg (bs []), I 0] 0 27 (.agg cs47)) fun cs48 =>
    optA (partA cs48 0 27) fun cs49 =>
    chk (List.all cs49 PV.isV) <|
    some [(.agg cs49), (I 7), (I (wr ((s11.size : Int) + 1)))]) <|
  optA (partA cs23 0 13) fun cs50 =>
  optA (partA cs38 0 13) fun cs51 =>
  optC (fillL [(0, 13, (.agg cs50)), (13, 1, (B true)), (14, 13, (.agg cs51))] [I 0, I 0, I 0, I 0, I 0, B false, I 0, I 0, I 0, I 0, B false, Sg (bs []), I 0, B false, I 0, I 0, I 0, I 0, I 0, B false, I 0, I 0, I 0, I 0, B false, Sg (bs []), I 0]) fun cs52 =>
  optC (putPart [I 0, I 0, I 0, I 0, I 0, B false, I 0, I 0, I 0, I 0, B false, Sg (bs []), I 0, B false, I 0, I 0, I 0, I 0, I 0, B false, I 0, I 0, I 0, I 0, B false, Sg (bs []), I 0] 0 27 (.agg cs52)) fun cs53 =>
  optA (partA cs53 0 27) fun cs54 =>
  chk (List.all cs54 PV.isV) <|
  some [(.agg cs54), (I 0), (I 0)]
theorem t30 (FU : Nat) (C : Oracle) (ps : List PV) : bodyK Bk FU C Tryz.f30 i30 ps = s30 FU C ps := by kernel_rfl
theorem c30 {FU m : Nat} {ps rs : List PV} (h : s30 FU (callN (Bk.env FU) m) ps = some rs) : callN (Bk.env FU) (m + 1) 30 ps = some rs :=
  call_of (i := i30) (fn := Tryz.f30) (by kernel_rfl) (by kernel_rfl) (by kernel_rfl) ((t30 _ _ _).trans h)

/-- (impl.Sign).short -/
noncomputable def s31 (FU : Nat) (C : Oracle) (ps : List PV) : R :=
  popA ps fun cs2 r1 =>
  popN r1 <|
  optB (cs2[13]?) fun b3 =>
  cond (!b3) (
    optA (partA cs2 0 13) fun cs4 =>
    optC (C 65 [(.agg cs4)]) fun rs5 =>
    popS rs5 fun s7 r6 =>
    popN r6 <|
    some [(Sg s7)]) <|
  optA (partA cs2 14 13) fun cs8 =>
  optC (C 65 [(.agg cs8)]) fun rs9 =>
  popS rs9 fun s11 r10 =>
  popN r10 <|
  optC (C 28 [(Sg s11), (Sg (bs [47]))]) fun rs12 =>
  popLz 1 rs12 fun xs14 r13 =>
  popN r13 <|
  optA (partA cs2 0 13) fun cs15 =>
  optA (partA cs2 14 13) fun cs16 =>
  optC (C 66 [(.agg cs15), (.agg cs16)]) fun rs17 =>
  popLz 1 rs17 fun xs19 r18 =>
  popN r18 <|
  iterK FU (fun rec30 vs =>
    popA vs fun cs21 r20 =>
    popLz 1 r20 fun xs23 r22 =>
    popLz 1 r22 fun xs25 r24 =>
    popI .i64 r24 fun n27 r26 =>
    popI .i64 r26 fun n29 r28 =>
    popN r28 <|
    cond (decide ((n29 : Int) < n27)) (
      chk ((1 == 1) && (decide ((0 : Int) ≤ n29) && decide ((n29 : Int) < (@List.length PV xs25 : Int)))) <|
      optB (eltS xs25 (Int.toNat n29) 0) fun b31 =>
      cond b31 (
        chk ((1 == 1) && (decide ((0 : Int) ≤ n29) && decide ((n29 : Int) < (@List.length PV xs23 : Int)))) <|
        optP xs23[(Int.toNat n29)]? fun x32 =>
        chk ((PV.cells (Sg (bs [61]))).length == 1 && 0 == 0) <|
        rec30 [(.agg cs21), (.sl 1 (xs23.set (Int.toNat n29) (Sg (bs [61])))), (.sl 1 xs25), (I n27), (I (wr (n29 + 1)))]) <|
      rec30 [(.agg cs21), (.sl 1 xs23), (.sl 1 xs25), (I n27), (I (wr (n29 + 1)))]) <|
    optA (partA cs21 0 13) fun cs53 =>
    optC (C 65 [(.agg cs53)]) fun rs54 =>
    popS rs54 fun s56 r55 =>
    popN r55 <|
    optS (binPV none false .add (Sg s56) (Sg (bs [43]))) fun s57 =>
    optC (C 29 [(.sl 1 xs23), (Sg (bs [47]))]) fun rs58 =>
    popS rs58 fun s60 r59 =>
    popN r59 <|
    optS (binPV none false .add (Sg s57) (Sg s60)) fun s61 =>
    some [(Sg s61)]) [(.agg cs2), (.sl 1 xs14), (.sl 1 xs19), (I (@List.length PV xs19 : Int)), (I 0)]
theorem t31 (FU : Nat) (C : Oracle) (ps : List PV) : bodyK Bk FU C Tryz.f31 i31 ps = s31 FU C ps := by kernel_rfl
theorem c31 {FU m : Nat} {ps rs : List PV} (h : s31 FU (callN (Bk.env FU) m) ps = some rs) : callN (Bk.env FU) (m + 1) 31 ps = some rs :=
  call_of (i := i31) (fn := Tryz.f31) (by kernel_rfl) (by kernel_rfl) (by kernel_rfl) ((t31 _ _ _).trans h)

/-- laws.markText -/
noncomputable def s36 (FU : Nat) (_C : Oracle) (ps : List PV) : R :=
  popI .i64 ps fun n2 r1 =>
  popN r1 <|
  cond (decide ((n2 : Int) ≤ 0)) (
    some [(Sg (bs [109, 48]))]) <|
  iterK FU (fun rec7 vs =>
    popI .i64 vs fun n4 r3 =>
    popS r3 fun s6 r5 =>
    popN r5 <|
    cond (decide ((n4 : Int) > 0)) (
      optI .i64 (binPV none false .rem (I n4) (I 10)) fun n8 =>
      optC (bytesOf [(.v (.int .u8 (IntKind.wrap .u8 (wr (48 + n8)))))]) fun s9 =>
      optS (binPV none false .add (Sg s9) (Sg s6)) fun s10 =>
      optI .i64 (binPV none false .quo (I n4) (I 10)) fun n11 =>
      rec7 [(I n11), (Sg s10)]) <|
    optS (binPV none false .add (Sg (bs [109])) (Sg s6)) fun s16 =>
    some [(Sg s16)]) [(I n2), (Sg (bs []))]
theorem t36 (FU : Nat) (C : Oracle) (ps : List PV) : bodyK Bk FU C Tryz.f36 i36 ps = s36 FU C ps := by kernel_rfl
theorem c36 {FU m : Nat} {ps rs : List PV} (h : s36 FU (callN (Bk.env FU) m) ps = some rs) : callN (Bk.env FU) (m + 1) 36 ps = some rs :=
  call_of (i := i36) (fn := Tryz.f36) (by kernel_rfl) (by kernel_rfl) (by kernel_rfl) ((t36 _ _ _).trans h)

/-- spec.shParse -/
noncomputable def s37 (FU : Nat) (C : Oracle) (ps : List PV) : R :=
  popS ps fun s2 r1 =>
  popN r1 <|
  joinK (fun vs =>
    popS vs fun s15 r14 =>
    popA r14 fun cs17 r16 =>
    popN r16 <|
    iterK FU (fun rec26 vs =>
      popS vs fun s19 r18 =>
      popA r18 fun cs21 r20 =>
      popLz 1 r20 fun xs23 r22 =>
      popI .i64 r22 fun n25 r24 =>
      popN r24 <|
      cond (decide ((n25 : Int) < 5)) (
        optI .u8 (strAt s19 n25) fun n27 =>
        chk ((1 == 1) && (1 == 1) && !(false) && roomy (@List.length PV xs23 + @List.length PV [(I (wr ((IntKind.wrap .i64 n27) - 48)))]) 8 && !(8 == 0)) <|
        rec26 [(Sg s19), (.agg cs21), (.sl 1 (xs23 ++ [(I (wr ((IntKind.wrap .i64 n27) - 48)))])), (I (wr (n25 + 1)))]) <|
      chk ((1 == 1) && (decide ((0 : Int) ≤ 0) && decide ((0 : Int) < (@List.length PV xs23 : Int)))) <|
      optI .i64 (eltS xs23 (Int.toNat 0) 0) fun n36 =>
      chk ((1 == 1) && (decide ((0 : Int) ≤ 1) && decide ((1 : Int) < (@List.length PV xs23 : Int)))) <|
      optI .i64 (eltS xs23 (Int.toNat 1) 0) fun n37 =>
      chk ((1 == 1) && (decide ((0 : Int) ≤ 2) && decide ((2 : Int) < (@List.length PV xs23 : Int)))) <|
      optI .i64 (eltS xs23 (Int.toNat 2) 0) fun n38 =>
      chk ((1 == 1) && (decide ((0 : Int) ≤ 3) && decide ((3 : Int) < (@List.length PV xs23 : Int)))) <|
      optI .i64 (eltS xs23 (Int.toNat 3) 0) fun n39 =>
      chk ((1 == 1) && (decide ((0 : Int) ≤ 4) && decide ((4 : Int) < (@List.length PV xs23 : Int)))) <|
      optI .i64 (eltS xs23 (Int.toNat 4) 0) fun n40 =>
      optC (fillL [(0, 1, (I n36)), (1, 1, (I n37)), (2, 1, (I n38)), (3, 1, (I n39)), (4, 1, (I n40)), (5, 1, (B (((s19.size : Int) : Int) == 6)))] [I 0, I 0, I 0, I 0, I 0, B false]) fun cs41 =>
      optC (putPart [I 0, I 0, I 0, I 0, I 0, B false] 0 6 (.agg cs41)) fun cs42 =>
      optA (partA cs42 0 6) fun cs43 =>
      optC (C 72 [(.agg cs43)]) fun rs44 =>
      popB rs44 fun b46 r45 =>
      popN r45 <|
      cond (!b46) (
        optC (fillL [] [I 0, I 0, I 0, I 0, I 0, B false]) fun cs47 =>
        optC (putPart cs21 0 6 (.agg cs47)) fun cs48 =>
        optA (partA cs48 0 6) fun cs49 =>
        chk (List.all cs49 PV.isV) <|
        some [(.agg cs49), (B false)]) <|
      optA (partA cs42 0 6) fun cs50 =>
      optC (putPart cs21 0 6 (.agg cs50)) fun cs51 =>
      optA (partA cs51 0 6) fun cs52 =>
      chk (List.all cs52 PV.isV) <|
      some [(.agg cs52), (B true)]) [(Sg s15), (.agg cs17), (.sl 1 []), (I 0)]) fun j3 =>
  optC (C 71 [(I (s2.size : Int)), (I 5), (I 6)]) fun rs4 =>
  popB rs4 fun b6 r5 =>
  popN r5 <|
  cond (!b6) (
    optC (fillL [] [I 0, I 0, I 0, I 0, I 0, B false]) fun cs7 =>
    optC (putPart [I 0, I 0, I 0, I 0, I 0, B false] 0 6 (.agg cs7)) fun cs8 =>
    optA (partA cs8 0 6) fun cs9 =>
    chk (List.all cs9 PV.isV) <|
    some [(.agg cs9), (B false)]) <|
  cond (((s2.size : Int) : Int) == 6) (
    optI .u8 (strAt s2 5) fun n10 =>
    cond ((n10 : Int) != 115) (
      optC (fillL [] [I 0, I 0, I 0, I 0, I 0, B false]) fun cs11 =>
      optC (putPart [I 0, I 0, I 0, I 0, I 0, B false] 0 6 (.agg cs11)) fun cs12 =>
      optA (partA cs12 0 6) fun cs13 =>
      chk (List.all cs13 PV.isV) <|
      some [(.agg cs13), (B false)]) <|
    j3 [(Sg s2), (.agg [I 0, I 0, I 0, I 0, I 0, B false])]) <|
  j3 [(Sg s2), (.agg [I 0, I 0, I 0, I 0, I 0, B false])]
theorem t37 (FU : Nat) (C : Oracle) (ps : List PV) : bodyK Bk FU C Tryz.f37 i37 ps = s37 FU C ps := by kernel_rfl
theorem c37 {FU m : Nat} {ps rs : List PV} (h : s37 FU (callN (Bk.env FU) m) ps = some rs) : callN (Bk.env FU) (m + 1) 37 ps = some rs :=
  call_of (i := i37) (fn := Tryz.f37) (by kernel_rfl) (by kernel_rfl) (by kernel_rfl) ((t37 _ _ _).trans h)

/-- spec.orParse -/
noncomputable def s38 (_FU : Nat) (C : Oracle) (ps : List PV) : R :=
  popS ps fun s2 r1 =>
  popN r1 <|
  cond (((s2.size : Int) : Int) != 2) (
    optC (fillL [] [I 0, I 0]) fun cs3 =>
    optC (putPart [I 0, I 0] 0 2 (.agg cs3)) fun cs4 =>
    optA (partA cs4 0 2) fun cs5 =>
    chk (List.all cs5 PV.isV) <|
    some [(.agg cs5), (B false)]) <|
  optI .u8 (strAt s2 0) fun n6 =>
  optC (C 73 [(.v (.int .u8 n6))]) fun rs7 =>
  popI .i64 rs7 fun n9 r8 =>
  popN r8 <|
  optI .u8 (strAt s2 1) fun n10 =>
  optC (C 73 [(.v (.int .u8 n10))]) fun rs11 =>
  popI .i64 rs11 fun n13 r12 =>
  popN r12 <|
  optC (fillL [(0, 1, (I n9)), (1, 1, (I n13))] [I 0, I 0]) fun cs14 =>
  optC (putPart [I 0, I 0] 0 2 (.agg cs14)) fun cs15 =>
  optA (partA cs15 0 2) fun cs16 =>
  optC (C 74 [(.agg cs16)]) fun rs17 =>
  popB rs17 fun b19 r18 =>
  popN r18 <|
  cond (!b19) (
    optC (fillL [] [I 0, I 0]) fun cs20 =>
    optC (putPart [I 0, I 0] 0 2 (.agg cs20)) fun cs21 =>
    optA (partA cs21 0 2) fun cs22 =>
    chk (List.all cs22 PV.isV) <|
    some [(.agg cs22), (B false)]) <|
  optA (partA cs15 0 2) fun cs23 =>
  optC (putPart [I 0, I 0] 0 2 (.agg cs23)) fun cs24 =>
  optA (partA cs24 0 2) fun cs25 =>
  chk (List.all cs25 PV.isV) <|
  some [(.agg cs25), (B true)]
theorem t38 (FU : Nat) (C : Oracle) (ps : List PV) : bodyK Bk FU C Tryz.f38 i38 ps = s38 FU C ps := by kernel_rfl
theorem c38 {FU m : Nat} {ps rs : List PV} (h : s38 FU (callN (Bk.env FU) m) ps = some rs) : callN (Bk.env FU) (m + 1) 38 ps = some rs :=
  call_of (i := i38) (fn := Tryz.f38) (by kernel_rfl) (by kernel_rfl) (by kernel_rfl) ((t38 _ _ _).trans h)

/-- spec.imPart -/
noncomputable def s39 (_FU : Nat) (C : Oracle) (ps : List PV) : R :=
  popA ps fun cs2 r1 =>
  popS r1 fun s4 r3 =>
  popN r3 <|
  cond (decide (((s4.size : Int) : Int) < 2)) (
    some [(I 16), (.agg cs2)]) <|
  optI .u8 (strAt s4 1) fun n5 =>
  cond ((n5 : Int) != 61) (
    some [(I 16), (.agg cs2)]) <|
  chk (within 2 s4.size s4.size) <|
  optI .u8 (strAt s4 0) fun n6 =>
  cond ((n6 : Int) == 83) (
    optC (C 37 [(Sg (ByteArray.extract s4 (Int.toNat 2) (Int.toNat s4.size)))]) fun rs7 =>
    popA rs7 fun cs9 r8 =>
    popB r8 fun b11 r10 =>
    popN r10 <|
    optC (putPart [I 0, I 0, I 0, I 0, I 0, B false] 0 6 (.agg cs9)) fun cs12 =>
    cond b11 (
      optA (partA cs12 0 6) fun cs13 =>
      optC (putPart cs2 0 6 (.agg cs13)) fun cs14 =>
      some [(I 1), (.agg cs14)]) <|
    some [(I 16), (.agg cs2)]) <|
  cond ((n6 : Int) == 79) (
    optC (C 38 [(Sg (ByteArray.extract s4 (Int.toNat 2) (Int.toNat s4.size)))]) fun rs15 =>
    popA rs15 fun cs17 r16 =>
    popB r16 fun b19 r18 =>
    popN r18 <|
    optC (putPart [I 0, I 0] 0 2 (.agg cs17)) fun cs20 =>
    cond b19 (
      optA (partA cs20 0 2) fun cs21 =>
      optC (putPart cs2 6 2 (.agg cs21)) fun cs22 =>
      some [(I 2), (.agg cs22)]) <|
    some [(I 16), (.agg cs2)]) <|
  cond ((n6 : Int) == 80) (
    optC (C 75 [(Sg (ByteArray.extract s4 (Int.toNat 2) (Int.toNat s4.size)))]) fun rs23 =>
    popA rs23 fun cs25 r24 =>
    popB r24 fun b27 r26 =>
    popN r26 <|
    optC (putPart [I 0, I 0, B false] 0 3 (.agg cs25)) fun cs28 =>
    joinK (fun vs =>
      popA vs fun cs37 r36 =>
      popA r36 fun cs39 r38 =>
      popB r38 fun b41 r40 =>
      popN r40 <|
      cond b41 (
        optA (partA cs39 0 3) fun cs42 =>
        optC (putPart cs37 8 3 (.agg cs42)) fun cs43 =>
        some [(I 4), (.agg cs43)]) <|
      some [(I 16), (.agg cs37)]) fun j29 =>
    cond (!b27) (
      optC (C 76 [(Sg (ByteArray.extract s4 (Int.toNat 2) (Int.toNat s4.size)))]) fun rs30 =>
      popA rs30 fun cs32 r31 =>
      popB r31 fun b34 r33 =>
      popN r33 <|
      optC (putPart cs28 0 3 (.agg cs32)) fun cs35 =>
      j29 [(.agg cs2), (.agg cs35), (B b34)]) <|
    j29 [(.agg cs2), (.agg cs28), (B b27)]) <|
  cond ((n6 : Int) == 77) (
    optC (C 77 [(Sg (ByteArray.extract s4 (Int.toNat 2) (Int.toNat s4.size)))]) fun rs50 =>
    popA rs50 fun cs52 r51 =>
    popB r51 fun b54 r53 =>
    popN r53 <|
    optC (putPart [Sg (bs []), I 0] 0 2 (.agg cs52)) fun cs55 =>
    cond b54 (
      optA (partA cs55 0 2) fun cs56 =>
      optC (putPart cs2 11 2 (.agg cs56)) fun cs57 =>
      some [(I 8), (.agg cs57)]) <|
    some [(I 16), (.agg cs2)]) <|
  some [(I 16), (.agg cs2)]
theorem t39 (FU : Nat) (C : Oracle) (ps : List PV) : bodyK Bk FU C Tryz.f39 i39 ps = s39 FU C ps := by kernel_rfl
theorem c39 {FU m : Nat} {ps rs : List PV} (h : s39 FU (callN (Bk.env FU) m) ps = some rs) : callN (Bk.env FU) (m + 1) 39 ps = some rs :=
  call_of (i := i39) (fn := Tryz.f39) (by kernel_rfl) (by kernel_rfl) (by kernel_rfl) ((t39 _ _ _).trans h)

/-- spec.siHand -/
noncomputable def s40 (_FU : Nat) (C : Oracle) (ps : List PV) : R :=
  popA ps fun cs2 r1 =>
  popN r1 <|
  optA (partA cs2 0 6) fun cs3 =>
  optC (C 72 [(.agg cs3)]) fun rs4 =>
  popB rs4 fun b6 r5 =>
  popN r5 <|
  cond b6 (
    optA (partA cs2 6 2) fun cs7 =>
    optC (C 74 [(.agg cs7)]) fun rs8 =>
    popB rs8 fun b10 r9 =>
    popN r9 <|
    cond b10 (
      optA (partA cs2 8 3) fun cs11 =>
      optC (C 78 [(.agg cs11)]) fun rs12 =>
      popB rs12 fun b14 r13 =>
      popN r13 <|
      cond b14 (
        optA (partA cs2 11 2) fun cs15 =>
        optC (C 79 [(.agg cs15)]) fun rs16 =>
        popB rs16 fun b18 r17 =>
        popN r17 <|
        some [(B b18)]) <|
      some [(B false)]) <|
    some [(B false)]) <|
  some [(B false)]
theorem t40 (FU : Nat) (C : Oracle) (ps : List PV) : bodyK Bk FU C Tryz.f40 i40 ps = s40 FU C ps := by kernel_rfl
theorem c40 {FU m : Nat} {ps rs : List PV} (h : s40 FU (callN (Bk.env FU) m) ps = some rs) : callN (Bk.env FU) (m + 1) 40 ps = some rs :=
  call_of (i := i40) (fn := Tryz.f40) (by kernel_rfl) (by kernel_rfl) (by kernel_rfl) ((t40 _ _ _).trans h)

/-- spec.siBroken -/
noncomputable def s41 (FU : Nat) (C : Oracle) (ps : List PV) : R :=
  popA ps fun cs2 r1 =>
  popA r1 fun cs4 r3 =>
  popN r3 <|
  optS (cs4[11]?) fun s5 =>
  cond (s5.toList == (bs []).toList) (
    optA (partA cs2 0 6) fun cs6 =>
    optA (partA cs4 0 6) fun cs7 =>
    optB (binPV (Bk.EQ 23) false .eql (.agg cs6) (.agg cs7)) fun b8 =>
    cond b8 (
      some [(I 0)]) <|
    optC (C 80 []) fun rs9 =>
    popLz 6 rs9 fun xs11 r10 =>
    popN r10 <|
    iterK FU (fun rec20 vs =>
      popA vs fun cs13 r12 =>
      popLz 6 r12 fun xs15 r14 =>
      popI .i64 r14 fun n17 r16 =>
      popI .i64 r16 fun n19 r18 =>
      popN r18 <|
      cond (decide ((n19 : Int) < n17)) (
        chk ((6 == 6) && (decide ((0 : Int) ≤ n19) && decide ((n19 : Int) < (@List.length PV xs15 : Int)))) <|
        optA (eltA xs15 (Int.toNat n19) 0 6) fun cs21 =>
        optC (putPart [I 0, I 0, I 0, I 0, I 0, B false] 0 6 (.agg cs21)) fun cs22 =>
        optA (partA cs22 0 6) fun cs23 =>
        optA (partA cs13 0 6) fun cs24 =>
        optB (binPV (Bk.EQ 23) false .eql (.agg cs23) (.agg cs24)) fun b25 =>
        cond b25 (
          some [(I 0)]) <|
        rec20 [(.agg cs13), (.sl 6 xs15), (I n17), (I (wr (n19 + 1)))]) <|
      some [(I 4)]) [(.agg cs4), (.sl 6 xs11), (I (@List.length PV xs11 : Int)), (I 0)]) <|
  optS (cs2[11]?) fun s34 =>
  cond (s34.toList == (bs []).toList) (
    some [(I 3)]) <|
  optA (partA cs2 0 6) fun cs35 =>
  optA (partA cs4 0 6) fun cs36 =>
  optB (binPV (Bk.EQ 23) false .neq (.agg cs35) (.agg cs36)) fun b37 =>
  cond b37 (
    some [(I 1)]) <|
  optA (partA cs2 6 2) fun cs38 =>
  optA (partA cs4 6 2) fun cs39 =>
  optB (binPV (Bk.EQ 25) false .neq (.agg cs38) (.agg cs39)) fun b40 =>
  cond b40 (
    optA (partA cs2 6 2) fun cs41 =>
    optA (partA cs4 6 2) fun cs42 =>
    optC (C 81 [(.agg cs42)]) fun rs43 =>
    popA rs43 fun cs45 r44 =>
    popN r44 <|
    optB (binPV (Bk.EQ 25) false .neq (.agg cs41) (.agg cs45)) fun b46 =>
    cond b46 (
      some [(I 2)]) <|
    optA (partA cs2 11 2) fun cs47 =>
    optC (C 82 [(.agg cs47)]) fun rs48 =>
    popS rs48 fun s50 r49 =>
    popN r49 <|
    optA (partA cs4 11 2) fun cs51 =>
    optC (C 82 [(.agg cs51)]) fun rs52 =>
    popS rs52 fun s54 r53 =>
    popN r53 <|
    cond (!(s50.toList == s54.toList)) (
      optA (partA cs2 11 2) fun cs55 =>
      optC (C 83 [(.agg cs55)]) fun rs56 =>
      popA rs56 fun cs58 r57 =>
      popN r57 <|
      optC (C 82 [(.agg cs58)]) fun rs59 =>
      popS rs59 fun s61 r60 =>
      popN r60 <|
      optA (partA cs4 11 2) fun cs62 =>
      optC (C 82 [(.agg cs62)]) fun rs63 =>
      popS rs63 fun s65 r64 =>
      popN r64 <|
      cond (!(s61.toList == s65.toList)) (
        some [(I 3)]) <|
      some [(I 0)]) <|
    some [(I 0)]) <|
  optA (partA cs2 11 2) fun cs66 =>
  optC (C 82 [(.agg cs66)]) fun rs67 =>
  popS rs67 fun s69 r68 =>
  popN r68 <|
  optA (partA cs4 11 2) fun cs70 =>
  optC (C 82 [(.agg cs70)]) fun rs71 =>
  popS rs71 fun s73 r72 =>
  popN r72 <|
  cond (!(s69.toList == s73.toList)) (
    optA (partA cs2 11 2) fun cs74 =>
    optC (C 83 [(.agg cs74)]) fun rs75 =>
    popA rs75 fun cs77 r76 =>
    popN r76 <|
    optC (C 82 [(.agg cs77)]) fun rs78 =>
    popS rs78 fun s80 r79 =>
    popN r79 <|
    optA (partA cs4 11 2) fun cs81 =>
    optC (C 82 [(.agg cs81)]) fun rs82 =>
    popS rs82 fun s84 r83 =>
    popN r83 <|
    cond (!(s80.toList == s84.toList)) (
      some [(I 3)]) <|
    some [(I 0)]) <|
  some [(I 0)]
theorem t41 (FU : Nat) (C : Oracle) (ps : List PV) : bodyK Bk FU C Tryz.f41 i41 ps = s41 FU C ps := by kernel_rfl
theorem c41 {FU m : Nat} {ps rs : List PV} (h : s41 FU (callN (Bk.env FU) m) ps = some rs) : callN (Bk.env FU) (m + 1) 41 ps = some rs :=
  call_of (i := i41) (fn := Tryz.f41) (by kernel_rfl) (by kernel_rfl) (by kernel_rfl) ((t41 _ _ _).trans h)

/-- impl.readHand -/
noncomputable def s42 (FU : Nat) (C : Oracle) (ps : List PV) : R :=
  popS ps fun s2 r1 =>
  popN r1 <|
  optC (C 28 [(Sg s2), (Sg (bs [47]))]) fun rs3 =>
  popLz 1 rs3 fun xs5 r4 =>
  popN r4 <|
  cond (((@List.length PV xs5 : Int) : Int) != 4) (
    optC (fillL [] [I 0, I 0, I 0, I 0, I 0, B false, I 0, I 0, I 0, I 0, B false, Sg (bs []), I 0]) fun cs6 =>
    optC (putPart [I 0, I 0, I 0, I 0, I 0, B false, I 0, I 0, I 0, I 0, B false, Sg (bs []), I 0] 0 13 (.agg cs6)) fun cs7 =>
    optA (partA cs7 0 13) fun cs8 =>
    chk (List.all cs8 PV.isV) <|
    some [(.agg cs8), (I 2), (I 0)]) <|
  chk ((1 == 1) && (decide ((0 : Int) ≤ 0) && decide ((0 : Int) < (@List.length PV xs5 : Int)))) <|
  optS (eltS xs5 (Int.toNat 0) 0) fun s9 =>
  optC (C 44 [(Sg s9)]) fun rs10 =>
  popA rs10 fun cs12 r11 =>
  popB r11 fun b14 r13 =>
  popN r13 <|
  optC (putPart [I 0, I 0, I 0, I 0, I 0, B false, I 0, I 0, I 0, I 0, B false, Sg (bs []), I 0] 0 6 (.agg cs12)) fun cs15 =>
  chk (decide ((0 : Int) ≤ (0 : Int)) && decide ((0 : Int) < 4)) <|
  optC (putPart [B false, B false, B false, B false] (0 + Int.toNat 0 * 1) 1 (B b14)) fun cs16 =>
  chk ((1 == 1) && (decide ((0 : Int) ≤ 1) && decide ((1 : Int) < (@List.length PV xs5 : Int)))) <|
  optS (eltS xs5 (Int.toNat 1) 0) fun s17 =>
  optC (C 45 [(Sg s17)]) fun rs18 =>
  popA rs18 fun cs20 r19 =>
  popB r19 fun b22 r21 =>
  popN r21 <|
  optC (putPart cs15 6 2 (.agg cs20)) fun cs23 =>
  chk (decide ((0 : Int) ≤ (1 : Int)) && decide ((1 : Int) < 4)) <|
  optC (putPart cs16 (0 + Int.toNat 1 * 1) 1 (B b22)) fun cs24 =>
  chk ((1 == 1) && (decide ((0 : Int) ≤ 2) && decide ((2 : Int) < (@List.length PV xs5 : Int)))) <|
  optS (eltS xs5 (Int.toNat 2) 0) fun s25 =>
  optC (C 46 [(Sg s25)]) fun rs26 =>
  popA rs26 fun cs28 r27 =>
  popB r27 fun b30 r29 =>
  popN r29 <|
  optC (putPart cs23 8 3 (.agg cs28)) fun cs31 =>
  chk (decide ((0 : Int) ≤ (2 : Int)) && decide ((2 : Int) < 4)) <|
  optC (putPart cs24 (0 + Int.toNat 2 * 1) 1 (B b30)) fun cs32 =>
  chk ((1 == 1) && (decide ((0 : Int) ≤ 3) && decide ((3 : Int) < (@List.length PV xs5 : Int)))) <|
  optS (eltS xs5 (Int.toNat 3) 0) fun s33 =>
  optC (C 48 [(Sg s33)]) fun rs34 =>
  popA rs34 fun cs36 r35 =>
  popB r35 fun b38 r37 =>
  popN r37 <|
  optC (putPart cs31 11 2 (.agg cs36)) fun cs39 =>
  chk (decide ((0 : Int) ≤ (3 : Int)) && decide ((3 : Int) < 4)) <|
  optC (putPart cs32 (0 + Int.toNat 3 * 1) 1 (B b38)) fun cs40 =>
  optA (partA cs40 0 4) fun cs41 =>
  iterK FU (fun rec54 vs =>
    popA vs fun cs43 r42 =>
    popLz 1 r42 fun xs45 r44 =>
    popA r44 fun cs47 r46 =>
    popI .i64 r46 fun n49 r48 =>
    popA r48 fun cs51 r50 =>
    popI .i64 r50 fun n53 r52 =>
    popN r52 <|
    cond (decide ((n53 : Int) < 4)) (
      optB (arrS cs51 4 1 n53) fun b55 =>
      cond (!b55) (
        optC (fillL [] [I 0, I 0, I 0, I 0, I 0, B false, I 0, I 0, I 0, I 0, B false, Sg (bs []), I 0]) fun cs56 =>
        optC (putPart cs43 0 13 (.agg cs56)) fun cs57 =>
        optA (partA cs57 0 13) fun cs58 =>
        chk (List.all cs58 PV.isV) <|
        some [(.agg cs58), (I (wr (3 + n53))), (I n49)]) <|
      chk ((1 == 1) && (decide ((0 : Int) ≤ n53) && decide ((n53 : Int) < (@List.length PV xs45 : Int)))) <|
      optS (eltS xs45 (Int.toNat n53) 0) fun s59 =>
      rec54 [(.agg cs43), (.sl 1 xs45), (.agg cs47), (I (wr (n49 + (wr ((s59.size : Int) + 1))))), (.agg cs51), (I (wr (n53 + 1)))]) <|
    optA (partA cs47 0 13) fun cs72 =>
    optC (putPart cs43 0 13 (.agg cs72)) fun cs73 =>
    optA (partA cs73 0 13) fun cs74 =>
    chk (List.all cs74 PV.isV) <|
    some [(.agg cs74), (I 0), (I 0)]) [(.agg [I 0, I 0, I 0, I 0, I 0, B false, I 0, I 0, I 0, I 0, B false, Sg (bs []), I 0]), (.sl 1 xs5), (.agg cs39), (I 0), (.agg cs41), (I 0)]
theorem t42 (FU : Nat) (C : Oracle) (ps : List PV) : bodyK Bk FU C Tryz.f42 i42 ps = s42 FU C ps := by kernel_rfl
theorem c42 {FU m : Nat} {ps rs : List PV} (h : s42 FU (callN (Bk.env FU) m) ps = some rs) : callN (Bk.env FU) (m + 1) 42 ps = some rs :=
  call_of (i := i42) (fn := Tryz.f42) (by kernel_rfl) (by kernel_rfl) (by kernel_rfl) ((t42 _ _ _).trans h)

/-- impl.ParseShape -/
noncomputable def s44 (FU : Nat) (C : Oracle) (ps : List PV) : R :=
  popS ps fun s2 r1 =>
  popN r1 <|
  optC (C 85 [(I (s2.size : Int)), (I 5), (I 6)]) fun rs3 =>
  popB rs3 fun b5 r4 =>
  popN r4 <|
  cond (!b5) (
    optC (fillL [] [I 0, I 0, I 0, I 0, I 0, B false]) fun cs6 =>
    optC (putPart [I 0, I 0, I 0, I 0, I 0, B false] 0 6 (.agg cs6)) fun cs7 =>
    optA (partA cs7 0 6) fun cs8 =>
    chk (List.all cs8 PV.isV) <|
    some [(.agg cs8), (B false)]) <|
  iterK FU (fun rec17 vs =>
    popS vs fun s10 r9 =>
    popA r9 fun cs12 r11 =>
    popA r11 fun cs14 r13 =>
    popI .i64 r13 fun n16 r15 =>
    popN r15 <|
    cond (decide ((n16 : Int) < 5)) (
      optA (partA cs14 0 6) fun cs18 =>
      optI .u8 (strAt s10 n16) fun n19 =>
      optC (C 86 [(.agg cs18), (I n16), (I (wr ((IntKind.wrap .i64 n19) - 48)))]) fun rs20 =>
      popA rs20 fun cs22 r21 =>
      popN r21 <|
      optC (putPart cs14 0 6 (.agg cs22)) fun cs23 =>
      rec17 [(Sg s10), (.agg cs12), (.agg cs23), (I (wr (n16 + 1)))]) <|
    optC (putPart cs14 5 1 (B (((s10.size : Int) : Int) == 6))) fun cs32 =>
    optA (partA cs32 0 6) fun cs33 =>
    optC (C 87 [(.agg cs33)]) fun rs34 =>
    popB rs34 fun b36 r35 =>
    popN r35 <|
    cond (!b36) (
      optC (fillL [] [I 0, I 0, I 0, I 0, I 0, B false]) fun cs37 =>
      optC (putPart cs12 0 6 (.agg cs37)) fun cs38 =>
      optA (partA cs38 0 6) fun cs39 =>
      chk (List.all cs39 PV.isV) <|
      some [(.agg cs39), (B false)]) <|
    optA (partA cs32 0 6) fun cs40 =>
    optC (C 88 [(.agg cs40)]) fun rs41 =>
    popS rs41 fun s43 r42 =>
    popN r42 <|
    cond (!(s43.toList == s10.toList)) (
      optC (fillL [] [I 0, I 0, I 0, I 0, I 0, B false]) fun cs44 =>
      optC (putPart cs12 0 6 (.agg cs44)) fun cs45 =>
      optA (partA cs45 0 6) fun cs46 =>
      chk (List.all cs46 PV.isV) <|
      some [(.agg cs46), (B false)]) <|
    optA (partA cs32 0 6) fun cs47 =>
    optC (putPart cs12 0 6 (.agg cs47)) fun cs48 =>
    optA (partA cs48 0 6) fun cs49 =>
    chk (List.all cs49 PV.isV) <|
    some [(.agg cs49), (B true)]) [(Sg s2), (.agg [I 0, I 0, I 0, I 0, I 0, B false]), (.agg [I 0, I 0, I 0, I 0, I 0, B false]), (I 0)]
theorem t44 (FU : Nat) (C : Oracle) (ps : List PV) : bodyK Bk FU C Tryz.f44 i44 ps = s44 FU C ps := by kernel_rfl
theorem c44 {FU m : Nat} {ps rs : List PV} (h : s44 FU (callN (Bk.env FU) m) ps = some rs) : callN (Bk.env FU) (m + 1) 44 ps = some rs :=
  call_of (i := i44) (fn := Tryz.f44) (by kernel_rfl) (by kernel_rfl) (by kernel_rfl) ((t44 _ _ _).trans h)

end Go.Proofs.YtajjinfjfiacbaaGreatDoor
end
