/- What functions compute, and that their code says so. Made by a program of ours (emit.py). -/
import Derived.Test.YtajjinfjfiacbaaGreatDoorZB
import Derived.Test.YtajjinfjfiacbaaGreatDoorZS0
import Derived.KernelRfl
set_option linter.unusedSectionVars false
set_option linter.unusedVariables false
set_option linter.unusedSimpArgs false
set_option linter.unnecessarySimpa false
section
/- What functions compute, and that their code says so. Made by a program of ours (emit.py). -/
namespace Go.Proofs.YtajjinfjfiacbaaGreatDoor
open Go Go.Evp
set_option maxRecDepth 100000

/-- impl.ParseOrient -/
noncomputable def s45 (_FU : Nat) (C : Oracle) (ps : List PV) : R :=
  popS ps fun s2 r1 =>
  popN r1 <|
  cond (((s2.size : Int) : Int) != 2) (
    optC (fillL [] [I 0, I 0]) fun cs3 =>
    optC (putPart [I 0, I 0] 0 2 (.agg cs3)) fun cs4 =>
    optA (partA cs4 0 2) fun cs5 =>
    chk (List.all cs5 PV.isV) <|
    some [(.agg cs5), (B false)]) <|
  optI .u8 (strAt s2 0) fun n6 =>
  optC (C 68 [(Sg (bs [117, 100, 108, 114, 102, 98])), (.v (.int .u8 n6))]) fun rs7 =>
  popI .i64 rs7 fun n9 r8 =>
  popN r8 <|
  optI .u8 (strAt s2 1) fun n10 =>
  optC (C 68 [(Sg (bs [117, 100, 108, 114, 102, 98])), (.v (.int .u8 n10))]) fun rs11 =>
  popI .i64 rs11 fun n13 r12 =>
  popN r12 <|
  optC (fillL [(0, 1, (I n9)), (1, 1, (I n13))] [I 0, I 0]) fun cs14 =>
  optC (putPart [I 0, I 0] 0 2 (.agg cs14)) fun cs15 =>
  optA (partA cs15 0 2) fun cs16 =>
  optC (C 89 [(.agg cs16)]) fun rs17 =>
  popB rs17 fun b19 r18 =>
  popN r18 <|
  cond (!b19) (
    optC (fillL [] [I 0, I 0]) fun cs20 =>
    optC (putPart [I 0, I 0] 0 2 (.agg cs20)) fun cs21 =>
    optA (partA cs21 0 2) fun cs22 =>
    chk (List.all cs22 PV.isV) <|
    some [(.agg cs22), (B false)]) <|
  optA (partA cs15 0 2) fun cs23 =>
  optC (putPart [I 0, I 0] 0 2 (.agg cs23)) fun cs24 =>
  optA (partA cs24 0 2) fun cs25 =>
  chk (List.all cs25 PV.isV) <|
  some [(.agg cs25), (B true)]
theorem t45 (FU : Nat) (C : Oracle) (ps : List PV) : bodyK Bk FU C Tryz.f45 i45 ps = s45 FU C ps := by kernel_rfl
theorem c45 {FU m : Nat} {ps rs : List PV} (h : s45 FU (callN (Bk.env FU) m) ps = some rs) : callN (Bk.env FU) (m + 1) 45 ps = some rs :=
  call_of (i := i45) (fn := Tryz.f45) (by kernel_rfl) (by kernel_rfl) (by kernel_rfl) ((t45 _ _ _).trans h)

/-- impl.ParsePlace -/
noncomputable def s46 (FU : Nat) (C : Oracle) (ps : List PV) : R :=
  popS ps fun s2 r1 =>
  popN r1 <|
  iterK FU (fun rec9 vs =>
    popS vs fun s4 r3 =>
    popA r3 fun cs6 r5 =>
    popI .i64 r5 fun n8 r7 =>
    popN r7 <|
    cond (decide ((n8 : Int) < 60)) (
      optC (C 90 [(I n8)]) fun rs10 =>
      popA rs10 fun cs12 r11 =>
      popB r11 fun b14 r13 =>
      popN r13 <|
      optC (putPart [I 0, I 0, B false] 0 3 (.agg cs12)) fun cs15 =>
      cond b14 (
        optA (partA cs15 0 3) fun cs16 =>
        optC (C 91 [(.agg cs16)]) fun rs17 =>
        popS rs17 fun s19 r18 =>
        popN r18 <|
        cond (s19.toList == s4.toList) (
          optA (partA cs15 0 3) fun cs20 =>
          optC (putPart cs6 0 3 (.agg cs20)) fun cs21 =>
          optA (partA cs21 0 3) fun cs22 =>
          chk (List.all cs22 PV.isV) <|
          some [(.agg cs22), (B true)]) <|
        rec9 [(Sg s4), (.agg cs6), (I (wr (n8 + 1)))]) <|
      rec9 [(Sg s4), (.agg cs6), (I (wr (n8 + 1)))]) <|
    optC (fillL [] [I 0, I 0, B false]) fun cs35 =>
    optC (putPart cs6 0 3 (.agg cs35)) fun cs36 =>
    optA (partA cs36 0 3) fun cs37 =>
    chk (List.all cs37 PV.isV) <|
    some [(.agg cs37), (B false)]) [(Sg s2), (.agg [I 0, I 0, B false]), (I 0)]
theorem t46 (FU : Nat) (C : Oracle) (ps : List PV) : bodyK Bk FU C Tryz.f46 i46 ps = s46 FU C ps := by kernel_rfl
theorem c46 {FU m : Nat} {ps rs : List PV} (h : s46 FU (callN (Bk.env FU) m) ps = some rs) : callN (Bk.env FU) (m + 1) 46 ps = some rs :=
  call_of (i := i46) (fn := Tryz.f46) (by kernel_rfl) (by kernel_rfl) (by kernel_rfl) ((t46 _ _ _).trans h)

/-- impl.ParseMove -/
noncomputable def s48 (_FU : Nat) (C : Oracle) (ps : List PV) : R :=
  popS ps fun s2 r1 =>
  popN r1 <|
  optC (C 27 [(Sg s2), (Sg (bs [42]))]) fun rs3 =>
  popS rs3 fun s5 r4 =>
  popS r4 fun s7 r6 =>
  popB r6 fun b9 r8 =>
  popN r8 <|
  optC (fillL [(0, 1, (Sg s5)), (1, 1, (I 1))] [Sg (bs []), I 0]) fun cs10 =>
  optC (putPart [Sg (bs []), I 0] 0 2 (.agg cs10)) fun cs11 =>
  joinK (fun vs =>
    popS vs fun s20 r19 =>
    popA r19 fun cs22 r21 =>
    popA r21 fun cs24 r23 =>
    popN r23 <|
    joinK (fun vs =>
      popS vs fun s28 r27 =>
      popA r27 fun cs30 r29 =>
      popA r29 fun cs32 r31 =>
      popN r31 <|
      optA (partA cs32 0 2) fun cs33 =>
      optC (C 93 [(.agg cs33)]) fun rs34 =>
      popB rs34 fun b36 r35 =>
      popN r35 <|
      cond (!b36) (
        optC (fillL [] [Sg (bs []), I 0]) fun cs37 =>
        optC (putPart cs30 0 2 (.agg cs37)) fun cs38 =>
        optA (partA cs38 0 2) fun cs39 =>
        chk (List.all cs39 PV.isV) <|
        some [(.agg cs39), (B false)]) <|
      optA (partA cs32 0 2) fun cs40 =>
      optC (C 94 [(.agg cs40)]) fun rs41 =>
      popS rs41 fun s43 r42 =>
      popN r42 <|
      cond (!(s43.toList == s28.toList)) (
        optC (fillL [] [Sg (bs []), I 0]) fun cs44 =>
        optC (putPart cs30 0 2 (.agg cs44)) fun cs45 =>
        optA (partA cs45 0 2) fun cs46 =>
        chk (List.all cs46 PV.isV) <|
        some [(.agg cs46), (B false)]) <|
      optA (partA cs32 0 2) fun cs47 =>
      optC (putPart cs30 0 2 (.agg cs47)) fun cs48 =>
      optA (partA cs48 0 2) fun cs49 =>
      chk (List.all cs49 PV.isV) <|
      some [(.agg cs49), (B true)]) fun j25 =>
    cond (s20.toList == (bs [45]).toList) (
      optC (putPart cs24 0 1 (Sg (bs []))) fun cs26 =>
      j25 [(Sg s20), (.agg cs22), (.agg cs26)]) <|
    j25 [(Sg s20), (.agg cs22), (.agg cs24)]) fun j12 =>
  cond b9 (
    optC (C 92 [(Sg s7)]) fun rs13 =>
    popI .i64 rs13 fun n15 r14 =>
    popB r14 fun b17 r16 =>
    popN r16 <|
    optC (putPart cs11 1 1 (I n15)) fun cs18 =>
    j12 [(Sg s2), (.agg [Sg (bs []), I 0]), (.agg cs18)]) <|
  j12 [(Sg s2), (.agg [Sg (bs []), I 0]), (.agg cs11)]
theorem t48 (FU : Nat) (C : Oracle) (ps : List PV) : bodyK Bk FU C Tryz.f48 i48 ps = s48 FU C ps := by kernel_rfl
theorem c48 {FU m : Nat} {ps rs : List PV} (h : s48 FU (callN (Bk.env FU) m) ps = some rs) : callN (Bk.env FU) (m + 1) 48 ps = some rs :=
  call_of (i := i48) (fn := Tryz.f48) (by kernel_rfl) (by kernel_rfl) (by kernel_rfl) ((t48 _ _ _).trans h)

/-- impl.IsHand -/
noncomputable def s49 (_FU : Nat) (C : Oracle) (ps : List PV) : R :=
  popA ps fun cs2 r1 =>
  popN r1 <|
  optA (partA cs2 0 6) fun cs3 =>
  optC (C 87 [(.agg cs3)]) fun rs4 =>
  popB rs4 fun b6 r5 =>
  popN r5 <|
  cond b6 (
    optA (partA cs2 6 2) fun cs7 =>
    optC (C 89 [(.agg cs7)]) fun rs8 =>
    popB rs8 fun b10 r9 =>
    popN r9 <|
    cond b10 (
      optA (partA cs2 8 3) fun cs11 =>
      optC (C 95 [(.agg cs11)]) fun rs12 =>
      popB rs12 fun b14 r13 =>
      popN r13 <|
      cond b14 (
        optA (partA cs2 11 2) fun cs15 =>
        optC (C 93 [(.agg cs15)]) fun rs16 =>
        popB rs16 fun b18 r17 =>
        popN r17 <|
        some [(B b18)]) <|
      some [(B false)]) <|
    some [(B false)]) <|
  some [(B false)]
theorem t49 (FU : Nat) (C : Oracle) (ps : List PV) : bodyK Bk FU C Tryz.f49 i49 ps = s49 FU C ps := by kernel_rfl
theorem c49 {FU m : Nat} {ps rs : List PV} (h : s49 FU (callN (Bk.env FU) m) ps = some rs) : callN (Bk.env FU) (m + 1) 49 ps = some rs :=
  call_of (i := i49) (fn := Tryz.f49) (by kernel_rfl) (by kernel_rfl) (by kernel_rfl) ((t49 _ _ _).trans h)

/-- impl.IsSign -/
noncomputable def s50 (_FU : Nat) (C : Oracle) (ps : List PV) : R :=
  popA ps fun cs2 r1 =>
  popN r1 <|
  optA (partA cs2 0 13) fun cs3 =>
  optC (C 49 [(.agg cs3)]) fun rs4 =>
  popB rs4 fun b6 r5 =>
  popN r5 <|
  cond (!b6) (
    some [(B false)]) <|
  optB (cs2[13]?) fun b7 =>
  cond (!b7) (
    optA (partA cs2 14 13) fun cs8 =>
    optC (fillL [] [I 0, I 0, I 0, I 0, I 0, B false, I 0, I 0, I 0, I 0, B false, Sg (bs []), I 0]) fun cs9 =>
    optB (binPV (Bk.EQ 31) false .eql (.agg cs8) (.agg cs9)) fun b10 =>
    some [(B b10)]) <|
  optA (partA cs2 14 13) fun cs11 =>
  optC (C 49 [(.agg cs11)]) fun rs12 =>
  popB rs12 fun b14 r13 =>
  popN r13 <|
  cond b14 (
    optA (partA cs2 0 13) fun cs15 =>
    optA (partA cs2 14 13) fun cs16 =>
    optC (C 64 [(.agg cs15), (.agg cs16)]) fun rs17 =>
    popB rs17 fun b19 r18 =>
    popN r18 <|
    some [(B b19)]) <|
  some [(B false)]
theorem t50 (FU : Nat) (C : Oracle) (ps : List PV) : bodyK Bk FU C Tryz.f50 i50 ps = s50 FU C ps := by kernel_rfl
theorem c50 {FU m : Nat} {ps rs : List PV} (h : s50 FU (callN (Bk.env FU) m) ps = some rs) : callN (Bk.env FU) (m + 1) 50 ps = some rs :=
  call_of (i := i50) (fn := Tryz.f50) (by kernel_rfl) (by kernel_rfl) (by kernel_rfl) ((t50 _ _ _).trans h)

/-- laws.eqShape -/
noncomputable def s51 (_FU : Nat) (_C : Oracle) (ps : List PV) : R :=
  popA ps fun cs2 r1 =>
  popA r1 fun cs4 r3 =>
  popN r3 <|
  optI .i64 (cs2[0]?) fun n5 =>
  optI .i64 (cs4[0]?) fun n6 =>
  cond ((n5 : Int) != n6) (
    some [(B false)]) <|
  optI .i64 (cs2[1]?) fun n7 =>
  optI .i64 (cs4[1]?) fun n8 =>
  cond ((n7 : Int) != n8) (
    some [(B false)]) <|
  optI .i64 (cs2[2]?) fun n9 =>
  optI .i64 (cs4[2]?) fun n10 =>
  cond ((n9 : Int) != n10) (
    some [(B false)]) <|
  optI .i64 (cs2[3]?) fun n11 =>
  optI .i64 (cs4[3]?) fun n12 =>
  cond ((n11 : Int) != n12) (
    some [(B false)]) <|
  optI .i64 (cs2[4]?) fun n13 =>
  optI .i64 (cs4[4]?) fun n14 =>
  cond ((n13 : Int) != n14) (
    some [(B false)]) <|
  optB (cs2[5]?) fun b15 =>
  optB (cs4[5]?) fun b16 =>
  cond (!(b15 == b16)) (
    some [(B false)]) <|
  some [(B true)]
theorem t51 (FU : Nat) (C : Oracle) (ps : List PV) : bodyK Bk FU C Tryz.f51 i51 ps = s51 FU C ps := by kernel_rfl
theorem c51 {FU m : Nat} {ps rs : List PV} (h : s51 FU (callN (Bk.env FU) m) ps = some rs) : callN (Bk.env FU) (m + 1) 51 ps = some rs :=
  call_of (i := i51) (fn := Tryz.f51) (by kernel_rfl) (by kernel_rfl) (by kernel_rfl) ((t51 _ _ _).trans h)

/-- laws.eqOrient -/
noncomputable def s52 (_FU : Nat) (_C : Oracle) (ps : List PV) : R :=
  popA ps fun cs2 r1 =>
  popA r1 fun cs4 r3 =>
  popN r3 <|
  optI .i64 (cs2[0]?) fun n5 =>
  optI .i64 (cs4[0]?) fun n6 =>
  cond ((n5 : Int) != n6) (
    some [(B false)]) <|
  optI .i64 (cs2[1]?) fun n7 =>
  optI .i64 (cs4[1]?) fun n8 =>
  cond ((n7 : Int) != n8) (
    some [(B false)]) <|
  some [(B true)]
theorem t52 (FU : Nat) (C : Oracle) (ps : List PV) : bodyK Bk FU C Tryz.f52 i52 ps = s52 FU C ps := by kernel_rfl
theorem c52 {FU m : Nat} {ps rs : List PV} (h : s52 FU (callN (Bk.env FU) m) ps = some rs) : callN (Bk.env FU) (m + 1) 52 ps = some rs :=
  call_of (i := i52) (fn := Tryz.f52) (by kernel_rfl) (by kernel_rfl) (by kernel_rfl) ((t52 _ _ _).trans h)

/-- laws.eqPlace -/
noncomputable def s53 (_FU : Nat) (_C : Oracle) (ps : List PV) : R :=
  popA ps fun cs2 r1 =>
  popA r1 fun cs4 r3 =>
  popN r3 <|
  optI .i64 (cs2[0]?) fun n5 =>
  optI .i64 (cs4[0]?) fun n6 =>
  cond ((n5 : Int) != n6) (
    some [(B false)]) <|
  optI .i64 (cs2[1]?) fun n7 =>
  optI .i64 (cs4[1]?) fun n8 =>
  cond ((n7 : Int) != n8) (
    some [(B false)]) <|
  optB (cs2[2]?) fun b9 =>
  optB (cs4[2]?) fun b10 =>
  cond (!(b9 == b10)) (
    some [(B false)]) <|
  some [(B true)]
theorem t53 (FU : Nat) (C : Oracle) (ps : List PV) : bodyK Bk FU C Tryz.f53 i53 ps = s53 FU C ps := by kernel_rfl
theorem c53 {FU m : Nat} {ps rs : List PV} (h : s53 FU (callN (Bk.env FU) m) ps = some rs) : callN (Bk.env FU) (m + 1) 53 ps = some rs :=
  call_of (i := i53) (fn := Tryz.f53) (by kernel_rfl) (by kernel_rfl) (by kernel_rfl) ((t53 _ _ _).trans h)

/-- laws.eqMove -/
noncomputable def s54 (_FU : Nat) (_C : Oracle) (ps : List PV) : R :=
  popA ps fun cs2 r1 =>
  popA r1 fun cs4 r3 =>
  popN r3 <|
  optS (cs2[0]?) fun s5 =>
  optS (cs4[0]?) fun s6 =>
  cond (!(s5.toList == s6.toList)) (
    some [(B false)]) <|
  optI .i64 (cs2[1]?) fun n7 =>
  optI .i64 (cs4[1]?) fun n8 =>
  cond ((n7 : Int) != n8) (
    some [(B false)]) <|
  some [(B true)]
theorem t54 (FU : Nat) (C : Oracle) (ps : List PV) : bodyK Bk FU C Tryz.f54 i54 ps = s54 FU C ps := by kernel_rfl
theorem c54 {FU m : Nat} {ps rs : List PV} (h : s54 FU (callN (Bk.env FU) m) ps = some rs) : callN (Bk.env FU) (m + 1) 54 ps = some rs :=
  call_of (i := i54) (fn := Tryz.f54) (by kernel_rfl) (by kernel_rfl) (by kernel_rfl) ((t54 _ _ _).trans h)

/-- spec.paHand -/
noncomputable def s55 (_FU : Nat) (C : Oracle) (ps : List PV) : R :=
  popS ps fun s2 r1 =>
  popN r1 <|
  optC (C 24 [(Sg s2), (.v (.int .u8 47))]) fun rs3 =>
  popLz 1 rs3 fun xs5 r4 =>
  popN r4 <|
  cond (((@List.length PV xs5 : Int) : Int) != 4) (
    optC (fillL [] [I 0, I 0, I 0, I 0, I 0, B false, I 0, I 0, I 0, I 0, B false, Sg (bs []), I 0]) fun cs6 =>
    optC (putPart [I 0, I 0, I 0, I 0, I 0, B false, I 0, I 0, I 0, I 0, B false, Sg (bs []), I 0] 0 13 (.agg cs6)) fun cs7 =>
    optA (partA cs7 0 13) fun cs8 =>
    chk (List.all cs8 PV.isV) <|
    some [(.agg cs8), (I 2), (I 0)]) <|
  optC (fillL [] [I 0, I 0, I 0, I 0, I 0, B false, I 0, I 0, I 0, I 0, B false, Sg (bs []), I 0]) fun cs9 =>
  optC (putPart [I 0, I 0, I 0, I 0, I 0, B false, I 0, I 0, I 0, I 0, B false, Sg (bs []), I 0] 0 13 (.agg cs9)) fun cs10 =>
  chk ((1 == 1) && (decide ((0 : Int) ≤ 0) && decide ((0 : Int) < (@List.length PV xs5 : Int)))) <|
  optS (eltS xs5 (Int.toNat 0) 0) fun s11 =>
  optC (C 37 [(Sg s11)]) fun rs12 =>
  popA rs12 fun cs14 r13 =>
  popB r13 fun b16 r15 =>
  popN r15 <|
  optC (putPart [I 0, I 0, I 0, I 0, I 0, B false] 0 6 (.agg cs14)) fun cs17 =>
  cond (!b16) (
    optC (fillL [] [I 0, I 0, I 0, I 0, I 0, B false, I 0, I 0, I 0, I 0, B false, Sg (bs []), I 0]) fun cs18 =>
    optC (putPart [I 0, I 0, I 0, I 0, I 0, B false, I 0, I 0, I 0, I 0, B false, Sg (bs []), I 0] 0 13 (.agg cs18)) fun cs19 =>
    optA (partA cs19 0 13) fun cs20 =>
    chk (List.all cs20 PV.isV) <|
    some [(.agg cs20), (I 3), (I 0)]) <|
  chk ((1 == 1) && (decide ((0 : Int) ≤ 0) && decide ((0 : Int) < (@List.length PV xs5 : Int)))) <|
  optS (eltS xs5 (Int.toNat 0) 0) fun s21 =>
  chk ((1 == 1) && (decide ((0 : Int) ≤ 1) && decide ((1 : Int) < (@List.length PV xs5 : Int)))) <|
  optS (eltS xs5 (Int.toNat 1) 0) fun s22 =>
  optC (C 38 [(Sg s22)]) fun rs23 =>
  popA rs23 fun cs25 r24 =>
  popB r24 fun b27 r26 =>
  popN r26 <|
  optC (putPart [I 0, I 0] 0 2 (.agg cs25)) fun cs28 =>
  cond (!b27) (
    optC (fillL [] [I 0, I 0, I 0, I 0, I 0, B false, I 0, I 0, I 0, I 0, B false, Sg (bs []), I 0]) fun cs29 =>
    optC (putPart [I 0, I 0, I 0, I 0, I 0, B false, I 0, I 0, I 0, I 0, B false, Sg (bs []), I 0] 0 13 (.agg cs29)) fun cs30 =>
    optA (partA cs30 0 13) fun cs31 =>
    chk (List.all cs31 PV.isV) <|
    some [(.agg cs31), (I 4), (I (wr (0 + (wr ((s21.size : Int) + 1)))))]) <|
  chk ((1 == 1) && (decide ((0 : Int) ≤ 1) && decide ((1 : Int) < (@List.length PV xs5 : Int)))) <|
  optS (eltS xs5 (Int.toNat 1) 0) fun s32 =>
  chk ((1 == 1) && (decide ((0 : Int) ≤ 2) && decide ((2 : Int) < (@List.length PV xs5 : Int)))) <|
  optS (eltS xs5 (Int.toNat 2) 0) fun s33 =>
  optC (C 76 [(Sg s33)]) fun rs34 =>
  popA rs34 fun cs36 r35 =>
  popB r35 fun b38 r37 =>
  popN r37 <|
  optC (putPart [I 0, I 0, B false] 0 3 (.agg cs36)) fun cs39 =>
  cond (!b38) (
    optC (fillL [] [I 0, I 0, I 0, I 0, I 0, B false, I 0, I 0, I 0, I 0, B false, Sg (bs []), I 0]) fun cs40 =>
    optC (putPart [I 0, I 0, I 0, I 0, I 0, B false, I 0, I 0, I 0, I 0, B false, Sg (bs []), I 0] 0 13 (.agg cs40)) fun cs41 =>
    optA (partA cs41 0 13) fun cs42 =>
    chk (List.all cs42 PV.isV) <|
    some [(.agg cs42), (I 5), (I (wr ((wr (0 + (wr ((s21.size : Int) + 1)))) + (wr ((s32.size : Int) + 1)))))]) <|
  chk ((1 == 1) && (decide ((0 : Int) ≤ 2) && decide ((2 : Int) < (@List.length PV xs5 : Int)))) <|
  optS (eltS xs5 (Int.toNat 2) 0) fun s43 =>
  chk ((1 == 1) && (decide ((0 : Int) ≤ 3) && decide ((3 : Int) < (@List.length PV xs5 : Int)))) <|
  optS (eltS xs5 (Int.toNat 3) 0) fun s44 =>
  optC (C 77 [(Sg s44)]) fun rs45 =>
  popA rs45 fun cs47 r46 =>
  popB r46 fun b49 r48 =>
  popN r48 <|
  optC (putPart [Sg (bs []), I 0] 0 2 (.agg cs47)) fun cs50 =>
  cond (!b49) (
    optC (fillL [] [I 0, I 0, I 0, I 0, I 0, B false, I 0, I 0, I 0, I 0, B false, Sg (bs []), I 0]) fun cs51 =>
    optC (putPart [I 0, I 0, I 0, I 0, I 0, B false, I 0, I 0, I 0, I 0, B false, Sg (bs []), I 0] 0 13 (.agg cs51)) fun cs52 =>
    optA (partA cs52 0 13) fun cs53 =>
    chk (List.all cs53 PV.isV) <|
    some [(.agg cs53), (I 6), (I (wr ((wr ((wr (0 + (wr ((s21.size : Int) + 1)))) + (wr ((s32.size : Int) + 1)))) + (wr ((s43.size : Int) + 1)))))]) <|
  optA (partA cs17 0 6) fun cs54 =>
  optA (partA cs28 0 2) fun cs55 =>
  optA (partA cs39 0 3) fun cs56 =>
  optA (partA cs50 0 2) fun cs57 =>
  optC (fillL [(0, 6, (.agg cs54)), (6, 2, (.agg cs55)), (8, 3, (.agg cs56)), (11, 2, (.agg cs57))] [I 0, I 0, I 0, I 0, I 0, B false, I 0, I 0, I 0, I 0, B false, Sg (bs []), I 0]) fun cs58 =>
  optC (putPart cs10 0 13 (.agg cs58)) fun cs59 =>
  optA (partA cs59 0 13) fun cs60 =>
  optC (putPart [I 0, I 0, I 0, I 0, I 0, B false, I 0, I 0, I 0, I 0, B false, Sg (bs []), I 0] 0 13 (.agg cs60)) fun cs61 =>
  optA (partA cs61 0 13) fun cs62 =>
  chk (List.all cs62 PV.isV) <|
  some [(.agg cs62), (I 0), (I 0)]
theorem t55 (FU : Nat) (C : Oracle) (ps : List PV) : bodyK Bk FU C Tryz.f55 i55 ps = s55 FU C ps := by kernel_rfl
theorem c55 {FU m : Nat} {ps rs : List PV} (h : s55 FU (callN (Bk.env FU) m) ps = some rs) : callN (Bk.env FU) (m + 1) 55 ps = some rs :=
  call_of (i := i55) (fn := Tryz.f55) (by kernel_rfl) (by kernel_rfl) (by kernel_rfl) ((t55 _ _ _).trans h)

/-- spec.paText -/
noncomputable def s56 (_FU : Nat) (C : Oracle) (ps : List PV) : R :=
  popA ps fun cs2 r1 =>
  popN r1 <|
  optB (cs2[13]?) fun b3 =>
  cond b3 (
    optA (partA cs2 0 13) fun cs4 =>
    optC (C 57 [(.agg cs4)]) fun rs5 =>
    popS rs5 fun s7 r6 =>
    popN r6 <|
    optS (binPV none false .add (Sg s7) (Sg (bs [43]))) fun s8 =>
    optA (partA cs2 14 13) fun cs9 =>
    optC (C 57 [(.agg cs9)]) fun rs10 =>
    popS rs10 fun s12 r11 =>
    popN r11 <|
    optS (binPV none false .add (Sg s8) (Sg s12)) fun s13 =>
    some [(Sg s13)]) <|
  optA (partA cs2 0 13) fun cs14 =>
  optC (C 57 [(.agg cs14)]) fun rs15 =>
  popS rs15 fun s17 r16 =>
  popN r16 <|
  some [(Sg s17)]
theorem t56 (FU : Nat) (C : Oracle) (ps : List PV) : bodyK Bk FU C Tryz.f56 i56 ps = s56 FU C ps := by kernel_rfl
theorem c56 {FU m : Nat} {ps rs : List PV} (h : s56 FU (callN (Bk.env FU) m) ps = some rs) : callN (Bk.env FU) (m + 1) 56 ps = some rs :=
  call_of (i := i56) (fn := Tryz.f56) (by kernel_rfl) (by kernel_rfl) (by kernel_rfl) ((t56 _ _ _).trans h)

/-- spec.siText -/
noncomputable def s57 (_FU : Nat) (C : Oracle) (ps : List PV) : R :=
  popA ps fun cs2 r1 =>
  popN r1 <|
  optA (partA cs2 0 6) fun cs3 =>
  optC (C 96 [(.agg cs3)]) fun rs4 =>
  popS rs4 fun s6 r5 =>
  popN r5 <|
  optS (binPV none false .add (Sg s6) (Sg (bs [47]))) fun s7 =>
  optA (partA cs2 6 2) fun cs8 =>
  optC (C 97 [(.agg cs8)]) fun rs9 =>
  popS rs9 fun s11 r10 =>
  popN r10 <|
  optS (binPV none false .add (Sg s7) (Sg s11)) fun s12 =>
  optS (binPV none false .add (Sg s12) (Sg (bs [47]))) fun s13 =>
  optA (partA cs2 8 3) fun cs14 =>
  optC (C 98 [(.agg cs14)]) fun rs15 =>
  popS rs15 fun s17 r16 =>
  popN r16 <|
  optS (binPV none false .add (Sg s13) (Sg s17)) fun s18 =>
  optS (binPV none false .add (Sg s18) (Sg (bs [47]))) fun s19 =>
  optA (partA cs2 11 2) fun cs20 =>
  optC (C 99 [(.agg cs20)]) fun rs21 =>
  popS rs21 fun s23 r22 =>
  popN r22 <|
  optS (binPV none false .add (Sg s19) (Sg s23)) fun s24 =>
  some [(Sg s24)]
theorem t57 (FU : Nat) (C : Oracle) (ps : List PV) : bodyK Bk FU C Tryz.f57 i57 ps = s57 FU C ps := by kernel_rfl
theorem c57 {FU m : Nat} {ps rs : List PV} (h : s57 FU (callN (Bk.env FU) m) ps = some rs) : callN (Bk.env FU) (m + 1) 57 ps = some rs :=
  call_of (i := i57) (fn := Tryz.f57) (by kernel_rfl) (by kernel_rfl) (by kernel_rfl) ((t57 _ _ _).trans h)

/-- internal/stringslite.Cut -/
noncomputable def s58 (_FU : Nat) (C : Oracle) (ps : List PV) : R :=
  popS ps fun s2 r1 =>
  popS r1 fun s4 r3 =>
  popN r3 <|
  optC (C 100 [(Sg s2), (Sg s4)]) fun rs5 =>
  popI .i64 rs5 fun n7 r6 =>
  popN r6 <|
  cond (decide ((n7 : Int) ≥ 0)) (
    chk (within 0 n7 s2.size) <|
    chk (within (wr (n7 + (s4.size : Int))) s2.size s2.size) <|
    some [(Sg (ByteArray.extract s2 (Int.toNat 0) (Int.toNat n7))), (Sg (ByteArray.extract s2 (Int.toNat (wr (n7 + (s4.size : Int)))) (Int.toNat s2.size))), (B true)]) <|
  some [(Sg s2), (Sg (bs [])), (B false)]
theorem t58 (FU : Nat) (C : Oracle) (ps : List PV) : bodyK Bk FU C Tryz.f58 i58 ps = s58 FU C ps := by kernel_rfl
theorem c58 {FU m : Nat} {ps rs : List PV} (h : s58 FU (callN (Bk.env FU) m) ps = some rs) : callN (Bk.env FU) (m + 1) 58 ps = some rs :=
  call_of (i := i58) (fn := Tryz.f58) (by kernel_rfl) (by kernel_rfl) (by kernel_rfl) ((t58 _ _ _).trans h)

/-- impl.keepRules -/
noncomputable def s64 (_FU : Nat) (C : Oracle) (ps : List PV) : R :=
  popA ps fun cs2 r1 =>
  popA r1 fun cs4 r3 =>
  popN r3 <|
  optA (partA cs4 0 13) fun cs5 =>
  optC (C 107 [(.agg cs5)]) fun rs6 =>
  popB rs6 fun b8 r7 =>
  popN r7 <|
  cond (!b8) (
    optA (partA cs4 0 6) fun cs9 =>
    optA (partA cs2 0 6) fun cs10 =>
    optB (binPV (Bk.EQ 23) false .eql (.agg cs9) (.agg cs10)) fun b11 =>
    cond b11 (
      some [(B true)]) <|
    optC (C 109 []) fun rs12 =>
    popLz 6 rs12 fun xs14 r13 =>
    popN r13 <|
    optA (partA cs4 0 6) fun cs15 =>
    optC (C 108 [(.sl 6 xs14), (.agg cs15)]) fun rs16 =>
    popB rs16 fun b18 r17 =>
    popN r17 <|
    some [(B b18)]) <|
  joinK (fun vs =>
    popA vs fun cs24 r23 =>
    popA r23 fun cs26 r25 =>
    popB r25 fun b28 r27 =>
    popN r27 <|
    joinK (fun vs =>
      popA vs fun cs39 r38 =>
      popA r38 fun cs41 r40 =>
      popB r40 fun b43 r42 =>
      popB r42 fun b45 r44 =>
      popN r44 <|
      optA (partA cs39 0 13) fun cs46 =>
      optC (C 107 [(.agg cs46)]) fun rs47 =>
      popB rs47 fun b49 r48 =>
      popN r48 <|
      cond b49 (
        optA (partA cs39 0 6) fun cs50 =>
        optA (partA cs41 0 6) fun cs51 =>
        optB (binPV (Bk.EQ 23) false .eql (.agg cs50) (.agg cs51)) fun b52 =>
        cond b52 (
          cond b43 (
            some [(B b45)]) <|
          some [(B false)]) <|
        some [(B false)]) <|
      some [(B false)]) fun j29 =>
    optA (partA cs26 11 2) fun cs30 =>
    optC (C 111 [(.agg cs30)]) fun rs31 =>
    popS rs31 fun s33 r32 =>
    popN r32 <|
    optA (partA cs24 11 2) fun cs34 =>
    optC (C 111 [(.agg cs34)]) fun rs35 =>
    popS rs35 fun s37 r36 =>
    popN r36 <|
    cond (s33.toList == s37.toList) (
      j29 [(.agg cs24), (.agg cs26), (B b28), (B true)]) <|
    optA (partA cs26 11 2) fun cs53 =>
    optC (C 111 [(.agg cs53)]) fun rs54 =>
    popS rs54 fun s56 r55 =>
    popN r55 <|
    optA (partA cs24 11 2) fun cs57 =>
    optC (C 112 [(.agg cs57)]) fun rs58 =>
    popA rs58 fun cs60 r59 =>
    popN r59 <|
    optC (C 111 [(.agg cs60)]) fun rs61 =>
    popS rs61 fun s63 r62 =>
    popN r62 <|
    j29 [(.agg cs24), (.agg cs26), (B b28), (B (s56.toList == s63.toList))]) fun j19 =>
  optA (partA cs4 6 2) fun cs20 =>
  optA (partA cs2 6 2) fun cs21 =>
  optB (binPV (Bk.EQ 25) false .eql (.agg cs20) (.agg cs21)) fun b22 =>
  cond b22 (
    j19 [(.agg cs2), (.agg cs4), (B true)]) <|
  optA (partA cs4 6 2) fun cs72 =>
  optA (partA cs2 6 2) fun cs73 =>
  optC (C 110 [(.agg cs73)]) fun rs74 =>
  popA rs74 fun cs76 r75 =>
  popN r75 <|
  optB (binPV (Bk.EQ 25) false .eql (.agg cs72) (.agg cs76)) fun b77 =>
  j19 [(.agg cs2), (.agg cs4), (B b77)]
theorem t64 (FU : Nat) (C : Oracle) (ps : List PV) : bodyK Bk FU C Tryz.f64 i64 ps = s64 FU C ps := by kernel_rfl
theorem c64 {FU m : Nat} {ps rs : List PV} (h : s64 FU (callN (Bk.env FU) m) ps = some rs) : callN (Bk.env FU) (m + 1) 64 ps = some rs :=
  call_of (i := i64) (fn := Tryz.f64) (by kernel_rfl) (by kernel_rfl) (by kernel_rfl) ((t64 _ _ _).trans h)

/-- (impl.Hand).text -/
noncomputable def s65 (_FU : Nat) (C : Oracle) (ps : List PV) : R :=
  popA ps fun cs2 r1 =>
  popN r1 <|
  optA (partA cs2 0 6) fun cs3 =>
  optC (C 88 [(.agg cs3)]) fun rs4 =>
  popS rs4 fun s6 r5 =>
  popN r5 <|
  optA (partA cs2 6 2) fun cs7 =>
  optC (C 113 [(.agg cs7)]) fun rs8 =>
  popS rs8 fun s10 r9 =>
  popN r9 <|
  optA (partA cs2 8 3) fun cs11 =>
  optC (C 91 [(.agg cs11)]) fun rs12 =>
  popS rs12 fun s14 r13 =>
  popN r13 <|
  optA (partA cs2 11 2) fun cs15 =>
  optC (C 94 [(.agg cs15)]) fun rs16 =>
  popS rs16 fun s18 r17 =>
  popN r17 <|
  optC (C 29 [(.sl 1 [(Sg s6), (Sg s10), (Sg s14), (Sg s18)]), (Sg (bs [47]))]) fun rs19 =>
  popS rs19 fun s21 r20 =>
  popN r20 <|
  some [(Sg s21)]
theorem t65 (FU : Nat) (C : Oracle) (ps : List PV) : bodyK Bk FU C Tryz.f65 i65 ps = s65 FU C ps := by kernel_rfl
theorem c65 {FU m : Nat} {ps rs : List PV} (h : s65 FU (callN (Bk.env FU) m) ps = some rs) : callN (Bk.env FU) (m + 1) 65 ps = some rs :=
  call_of (i := i65) (fn := Tryz.f65) (by kernel_rfl) (by kernel_rfl) (by kernel_rfl) ((t65 _ _ _).trans h)

/-- (impl.Hand).same -/
noncomputable def s66 (_FU : Nat) (_C : Oracle) (ps : List PV) : R :=
  popA ps fun cs2 r1 =>
  popA r1 fun cs4 r3 =>
  popN r3 <|
  optA (partA cs2 0 6) fun cs5 =>
  optA (partA cs4 0 6) fun cs6 =>
  optB (binPV (Bk.EQ 23) false .eql (.agg cs5) (.agg cs6)) fun b7 =>
  optA (partA cs2 6 2) fun cs8 =>
  optA (partA cs4 6 2) fun cs9 =>
  optB (binPV (Bk.EQ 25) false .eql (.agg cs8) (.agg cs9)) fun b10 =>
  optA (partA cs2 8 3) fun cs11 =>
  optA (partA cs4 8 3) fun cs12 =>
  optB (binPV (Bk.EQ 27) false .eql (.agg cs11) (.agg cs12)) fun b13 =>
  optA (partA cs2 11 2) fun cs14 =>
  optA (partA cs4 11 2) fun cs15 =>
  optB (binPV (Bk.EQ 29) false .eql (.agg cs14) (.agg cs15)) fun b16 =>
  chk (List.all ([(B b7), (B b10), (B b13), (B b16)] : List PV) PV.flat) <|
  some [(.sl 1 [(B b7), (B b10), (B b13), (B b16)])]
theorem t66 (FU : Nat) (C : Oracle) (ps : List PV) : bodyK Bk FU C Tryz.f66 i66 ps = s66 FU C ps := by kernel_rfl
theorem c66 {FU m : Nat} {ps rs : List PV} (h : s66 FU (callN (Bk.env FU) m) ps = some rs) : callN (Bk.env FU) (m + 1) 66 ps = some rs :=
  call_of (i := i66) (fn := Tryz.f66) (by kernel_rfl) (by kernel_rfl) (by kernel_rfl) ((t66 _ _ _).trans h)

/-- spec.l1In -/
noncomputable def s71 (_FU : Nat) (_C : Oracle) (ps : List PV) : R :=
  popI .i64 ps fun n2 r1 =>
  popI .i64 r1 fun n4 r3 =>
  popI .i64 r3 fun n6 r5 =>
  popN r5 <|
  cond (decide ((n2 : Int) ≥ n4)) (
    some [(B (decide ((n2 : Int) ≤ n6)))]) <|
  some [(B false)]
theorem t71 (FU : Nat) (C : Oracle) (ps : List PV) : bodyK Bk FU C Tryz.f71 i71 ps = s71 FU C ps := by kernel_rfl
theorem c71 {FU m : Nat} {ps rs : List PV} (h : s71 FU (callN (Bk.env FU) m) ps = some rs) : callN (Bk.env FU) (m + 1) 71 ps = some rs :=
  call_of (i := i71) (fn := Tryz.f71) (by kernel_rfl) (by kernel_rfl) (by kernel_rfl) ((t71 _ _ _).trans h)

/-- spec.shGood -/
noncomputable def s72 (_FU : Nat) (C : Oracle) (ps : List PV) : R :=
  popA ps fun cs2 r1 =>
  popN r1 <|
  optI .i64 (cs2[0]?) fun n3 =>
  optC (C 71 [(I n3), (I 0), (I 2)]) fun rs4 =>
  popB rs4 fun b6 r5 =>
  popN r5 <|
  cond b6 (
    optA (partA cs2 0 6) fun cs7 =>
    optC (C 116 [(.agg cs7)]) fun rs8 =>
    popLz 1 rs8 fun xs10 r9 =>
    popN r9 <|
    optC (C 115 [(.sl 1 xs10), (I 0), (I 2)]) fun rs11 =>
    popB rs11 fun b13 r12 =>
    popN r12 <|
    cond b13 (
      optB (cs2[5]?) fun b14 =>
      cond (!b14) (
        some [(B true)]) <|
      optA (partA cs2 0 6) fun cs15 =>
      optC (C 117 [(.agg cs15)]) fun rs16 =>
      popB rs16 fun b18 r17 =>
      popN r17 <|
      some [(B b18)]) <|
    some [(B false)]) <|
  some [(B false)]
theorem t72 (FU : Nat) (C : Oracle) (ps : List PV) : bodyK Bk FU C Tryz.f72 i72 ps = s72 FU C ps := by kernel_rfl
theorem c72 {FU m : Nat} {ps rs : List PV} (h : s72 FU (callN (Bk.env FU) m) ps = some rs) : callN (Bk.env FU) (m + 1) 72 ps = some rs :=
  call_of (i := i72) (fn := Tryz.f72) (by kernel_rfl) (by kernel_rfl) (by kernel_rfl) ((t72 _ _ _).trans h)

/-- spec.orLetter -/
noncomputable def s73 (FU : Nat) (_C : Oracle) (ps : List PV) : R :=
  popI .u8 ps fun n2 r1 =>
  popN r1 <|
  iterK FU (fun rec7 vs =>
    popI .u8 vs fun n4 r3 =>
    popI .i64 r3 fun n6 r5 =>
    popN r5 <|
    cond (decide ((n6 : Int) < 6)) (
      optI .u8 (strAt (bs [117, 100, 108, 114, 102, 98]) n6) fun n8 =>
      cond ((n8 : Int) == n4) (
        some [(I n6)]) <|
      rec7 [(.v (.int .u8 n4)), (I (wr (n6 + 1)))]) <|
    some [(I (-1))]) [(.v (.int .u8 n2)), (I 0)]
theorem t73 (FU : Nat) (C : Oracle) (ps : List PV) : bodyK Bk FU C Tryz.f73 i73 ps = s73 FU C ps := by kernel_rfl
theorem c73 {FU m : Nat} {ps rs : List PV} (h : s73 FU (callN (Bk.env FU) m) ps = some rs) : callN (Bk.env FU) (m + 1) 73 ps = some rs :=
  call_of (i := i73) (fn := Tryz.f73) (by kernel_rfl) (by kernel_rfl) (by kernel_rfl) ((t73 _ _ _).trans h)

/-- spec.orGood -/
noncomputable def s74 (_FU : Nat) (C : Oracle) (ps : List PV) : R :=
  popA ps fun cs2 r1 =>
  popN r1 <|
  optI .i64 (cs2[0]?) fun n3 =>
  optC (C 118 [(I n3)]) fun rs4 =>
  popB rs4 fun b6 r5 =>
  popN r5 <|
  cond b6 (
    optI .i64 (cs2[1]?) fun n7 =>
    optC (C 118 [(I n7)]) fun rs8 =>
    popB rs8 fun b10 r9 =>
    popN r9 <|
    cond b10 (
      optI .i64 (cs2[0]?) fun n11 =>
      optI .i64 (cs2[1]?) fun n12 =>
      cond ((n11 : Int) != n12) (
        optI .i64 (cs2[0]?) fun n13 =>
        optI .i64 (cs2[1]?) fun n14 =>
        optC (C 119 [(I n14)]) fun rs15 =>
        popI .i64 rs15 fun n17 r16 =>
        popN r16 <|
        some [(B ((n13 : Int) != n17))]) <|
      some [(B false)]) <|
    some [(B false)]) <|
  some [(B false)]
theorem t74 (FU : Nat) (C : Oracle) (ps : List PV) : bodyK Bk FU C Tryz.f74 i74 ps = s74 FU C ps := by kernel_rfl
theorem c74 {FU m : Nat} {ps rs : List PV} (h : s74 FU (callN (Bk.env FU) m) ps = some rs) : callN (Bk.env FU) (m + 1) 74 ps = some rs :=
  call_of (i := i74) (fn := Tryz.f74) (by kernel_rfl) (by kernel_rfl) (by kernel_rfl) ((t74 _ _ _).trans h)

/-- spec.imPlaces -/
noncomputable def s75 (FU : Nat) (C : Oracle) (ps : List PV) : R :=
  popS ps fun s2 r1 =>
  popN r1 <|
  iterK FU (fun rec13 vs =>
    popS vs fun s4 r3 =>
    popA r3 fun cs6 r5 =>
    popLz 1 r5 fun xs8 r7 =>
    popI .i64 r7 fun n10 r9 =>
    popI .i64 r9 fun n12 r11 =>
    popN r11 <|
    cond (decide ((n12 : Int) < n10)) (
      chk ((1 == 1) && (decide ((0 : Int) ≤ n12) && decide ((n12 : Int) < (@List.length PV xs8 : Int)))) <|
      optS (eltS xs8 (Int.toNat n12) 0) fun s14 =>
      cond (s14.toList == s4.toList) (
        chk ((1 == 1) && (decide ((0 : Int) ≤ n12) && decide ((n12 : Int) < (@List.length PV [(Sg (bs [99, 104, 101, 115, 116, 42])), (Sg (bs [109, 111, 117, 116, 104])), (Sg (bs [101, 121, 101])), (Sg (bs [115, 112, 97, 99, 101]))] : Int)))) <|
        optS (eltS [(Sg (bs [99, 104, 101, 115, 116, 42])), (Sg (bs [109, 111, 117, 116, 104])), (Sg (bs [101, 121, 101])), (Sg (bs [115, 112, 97, 99, 101]))] (Int.toNat n12) 0) fun s15 =>
        optC (C 76 [(Sg s15)]) fun rs16 =>
        popA rs16 fun cs18 r17 =>
        popB r17 fun b20 r19 =>
        popN r19 <|
        optC (putPart cs6 0 3 (.agg cs18)) fun cs21 =>
        optA (partA cs21 0 3) fun cs22 =>
        chk (List.all cs22 PV.isV) <|
        some [(.agg cs22), (B b20)]) <|
      rec13 [(Sg s4), (.agg cs6), (.sl 1 xs8), (I n10), (I (wr (n12 + 1)))]) <|
    optC (fillL [] [I 0, I 0, B false]) fun cs33 =>
    optC (putPart cs6 0 3 (.agg cs33)) fun cs34 =>
    optA (partA cs34 0 3) fun cs35 =>
    chk (List.all cs35 PV.isV) <|
    some [(.agg cs35), (B false)]) [(Sg s2), (.agg [I 0, I 0, B false]), (.sl 1 [(Sg (bs [98, 111, 100, 121])), (Sg (bs [102, 97, 99, 101])), (Sg (bs [98, 114, 111, 119])), (Sg (bs [97, 105, 114]))]), (I (@List.length PV [(Sg (bs [98, 111, 100, 121])), (Sg (bs [102, 97, 99, 101])), (Sg (bs [98, 114, 111, 119])), (Sg (bs [97, 105, 114]))] : Int)), (I 0)]
theorem t75 (FU : Nat) (C : Oracle) (ps : List PV) : bodyK Bk FU C Tryz.f75 i75 ps = s75 FU C ps := by kernel_rfl
theorem c75 {FU m : Nat} {ps rs : List PV} (h : s75 FU (callN (Bk.env FU) m) ps = some rs) : callN (Bk.env FU) (m + 1) 75 ps = some rs :=
  call_of (i := i75) (fn := Tryz.f75) (by kernel_rfl) (by kernel_rfl) (by kernel_rfl) ((t75 _ _ _).trans h)

/-- spec.plParse -/
noncomputable def s76 (FU : Nat) (C : Oracle) (ps : List PV) : R :=
  popS ps fun s2 r1 =>
  popN r1 <|
  optC (C 120 []) fun rs3 =>
  popLz 3 rs3 fun xs5 r4 =>
  popN r4 <|
  iterK FU (fun rec16 vs =>
    popS vs fun s7 r6 =>
    popA r6 fun cs9 r8 =>
    popLz 3 r8 fun xs11 r10 =>
    popI .i64 r10 fun n13 r12 =>
    popI .i64 r12 fun n15 r14 =>
    popN r14 <|
    cond (decide ((n15 : Int) < n13)) (
      chk ((3 == 3) && (decide ((0 : Int) ≤ n15) && decide ((n15 : Int) < (@List.length PV xs11 : Int)))) <|
      optA (eltA xs11 (Int.toNat n15) 0 3) fun cs17 =>
      optC (putPart [I 0, I 0, B false] 0 3 (.agg cs17)) fun cs18 =>
      optA (partA cs18 0 3) fun cs19 =>
      optC (C 98 [(.agg cs19)]) fun rs20 =>
      popS rs20 fun s22 r21 =>
      popN r21 <|
      cond (s22.toList == s7.toList) (
        optA (partA cs18 0 3) fun cs23 =>
        optC (putPart cs9 0 3 (.agg cs23)) fun cs24 =>
        optA (partA cs24 0 3) fun cs25 =>
        chk (List.all cs25 PV.isV) <|
        some [(.agg cs25), (B true)]) <|
      rec16 [(Sg s7), (.agg cs9), (.sl 3 xs11), (I n13), (I (wr (n15 + 1)))]) <|
    optC (fillL [] [I 0, I 0, B false]) fun cs36 =>
    optC (putPart cs9 0 3 (.agg cs36)) fun cs37 =>
    optA (partA cs37 0 3) fun cs38 =>
    chk (List.all cs38 PV.isV) <|
    some [(.agg cs38), (B false)]) [(Sg s2), (.agg [I 0, I 0, B false]), (.sl 3 xs5), (I (@List.length PV xs5 : Int)), (I 0)]
theorem t76 (FU : Nat) (C : Oracle) (ps : List PV) : bodyK Bk FU C Tryz.f76 i76 ps = s76 FU C ps := by kernel_rfl
theorem c76 {FU m : Nat} {ps rs : List PV} (h : s76 FU (callN (Bk.env FU) m) ps = some rs) : callN (Bk.env FU) (m + 1) 76 ps = some rs :=
  call_of (i := i76) (fn := Tryz.f76) (by kernel_rfl) (by kernel_rfl) (by kernel_rfl) ((t76 _ _ _).trans h)

/-- spec.mvParse -/
noncomputable def s77 (_FU : Nat) (C : Oracle) (ps : List PV) : R :=
  popS ps fun s2 r1 =>
  popN r1 <|
  optC (C 24 [(Sg s2), (.v (.int .u8 42))]) fun rs3 =>
  popLz 1 rs3 fun xs5 r4 =>
  popN r4 <|
  chk ((1 == 1) && (decide ((0 : Int) ≤ 0) && decide ((0 : Int) < (@List.length PV xs5 : Int)))) <|
  optS (eltS xs5 (Int.toNat 0) 0) fun s6 =>
  optC (fillL [(0, 1, (Sg s6)), (1, 1, (I 1))] [Sg (bs []), I 0]) fun cs7 =>
  optC (putPart [Sg (bs []), I 0] 0 2 (.agg cs7)) fun cs8 =>
  joinK (fun vs =>
    popS vs fun s12 r11 =>
    popA r11 fun cs14 r13 =>
    popLz 1 r13 fun xs16 r15 =>
    popA r15 fun cs18 r17 =>
    popN r17 <|
    joinK (fun vs =>
      popS vs fun s26 r25 =>
      popA r25 fun cs28 r27 =>
      popLz 1 r27 fun xs30 r29 =>
      popA r29 fun cs32 r31 =>
      popN r31 <|
      cond (decide (((@List.length PV xs30 : Int) : Int) > 2)) (
        optC (fillL [] [Sg (bs []), I 0]) fun cs33 =>
        optC (putPart cs28 0 2 (.agg cs33)) fun cs34 =>
        optA (partA cs34 0 2) fun cs35 =>
        chk (List.all cs35 PV.isV) <|
        some [(.agg cs35), (B false)]) <|
      optA (partA cs32 0 2) fun cs36 =>
      optC (C 79 [(.agg cs36)]) fun rs37 =>
      popB rs37 fun b39 r38 =>
      popN r38 <|
      cond (!b39) (
        optC (fillL [] [Sg (bs []), I 0]) fun cs40 =>
        optC (putPart cs28 0 2 (.agg cs40)) fun cs41 =>
        optA (partA cs41 0 2) fun cs42 =>
        chk (List.all cs42 PV.isV) <|
        some [(.agg cs42), (B false)]) <|
      optA (partA cs32 0 2) fun cs43 =>
      optC (C 99 [(.agg cs43)]) fun rs44 =>
      popS rs44 fun s46 r45 =>
      popN r45 <|
      cond (!(s46.toList == s26.toList)) (
        optC (fillL [] [Sg (bs []), I 0]) fun cs47 =>
        optC (putPart cs28 0 2 (.agg cs47)) fun cs48 =>
        optA (partA cs48 0 2) fun cs49 =>
        chk (List.all cs49 PV.isV) <|
        some [(.agg cs49), (B false)]) <|
      optA (partA cs32 0 2) fun cs50 =>
      optC (putPart cs28 0 2 (.agg cs50)) fun cs51 =>
      optA (partA cs51 0 2) fun cs52 =>
      chk (List.all cs52 PV.isV) <|
      some [(.agg cs52), (B true)]) fun j19 =>
    cond (((@List.length PV xs16 : Int) : Int) == 2) (
      chk ((1 == 1) && (decide ((0 : Int) ≤ 1) && decide ((1 : Int) < (@List.length PV xs16 : Int)))) <|
      optS (eltS xs16 (Int.toNat 1) 0) fun s20 =>
      optC (C 121 [(Sg s20)]) fun rs21 =>
      popI .i64 rs21 fun n23 r22 =>
      popN r22 <|
      optC (putPart cs18 1 1 (I n23)) fun cs24 =>
      j19 [(Sg s12), (.agg cs14), (.sl 1 xs16), (.agg cs24)]) <|
    j19 [(Sg s12), (.agg cs14), (.sl 1 xs16), (.agg cs18)]) fun j9 =>
  cond (s2.toList == (bs [45]).toList) (
    optC (putPart cs8 0 1 (Sg (bs []))) fun cs10 =>
    j9 [(Sg s2), (.agg [Sg (bs []), I 0]), (.sl 1 xs5), (.agg cs10)]) <|
  j9 [(Sg s2), (.agg [Sg (bs []), I 0]), (.sl 1 xs5), (.agg cs8)]
theorem t77 (FU : Nat) (C : Oracle) (ps : List PV) : bodyK Bk FU C Tryz.f77 i77 ps = s77 FU C ps := by kernel_rfl
theorem c77 {FU m : Nat} {ps rs : List PV} (h : s77 FU (callN (Bk.env FU) m) ps = some rs) : callN (Bk.env FU) (m + 1) 77 ps = some rs :=
  call_of (i := i77) (fn := Tryz.f77) (by kernel_rfl) (by kernel_rfl) (by kernel_rfl) ((t77 _ _ _).trans h)

/-- spec.plGood -/
noncomputable def s78 (_FU : Nat) (C : Oracle) (ps : List PV) : R :=
  popA ps fun cs2 r1 =>
  popN r1 <|
  optI .i64 (cs2[0]?) fun n3 =>
  optC (C 71 [(I n3), (I 0), (I 9)]) fun rs4 =>
  popB rs4 fun b6 r5 =>
  popN r5 <|
  cond b6 (
    optI .i64 (cs2[1]?) fun n7 =>
    optC (C 71 [(I n7), (I (-1)), (I 1)]) fun rs8 =>
    popB rs8 fun b10 r9 =>
    popN r9 <|
    cond b10 (
      optI .i64 (cs2[0]?) fun n11 =>
      cond (decide ((n11 : Int) > 0)) (
        some [(B true)]) <|
      optB (cs2[2]?) fun b12 =>
      some [(B (!b12))]) <|
    some [(B false)]) <|
  some [(B false)]
theorem t78 (FU : Nat) (C : Oracle) (ps : List PV) : bodyK Bk FU C Tryz.f78 i78 ps = s78 FU C ps := by kernel_rfl
theorem c78 {FU m : Nat} {ps rs : List PV} (h : s78 FU (callN (Bk.env FU) m) ps = some rs) : callN (Bk.env FU) (m + 1) 78 ps = some rs :=
  call_of (i := i78) (fn := Tryz.f78) (by kernel_rfl) (by kernel_rfl) (by kernel_rfl) ((t78 _ _ _).trans h)

/-- spec.mvGood -/
noncomputable def s79 (_FU : Nat) (C : Oracle) (ps : List PV) : R :=
  popA ps fun cs2 r1 =>
  popN r1 <|
  optS (cs2[0]?) fun s3 =>
  cond (decide (((s3.size : Int) : Int) ≤ 6)) (
    optS (cs2[0]?) fun s4 =>
    optC (C 122 [(Sg s4)]) fun rs5 =>
    popB rs5 fun b7 r6 =>
    popN r6 <|
    cond b7 (
      optI .i64 (cs2[1]?) fun n8 =>
      optC (C 71 [(I n8), (I 1), (I 3)]) fun rs9 =>
      popB rs9 fun b11 r10 =>
      popN r10 <|
      cond b11 (
        optS (cs2[0]?) fun s12 =>
        cond (!(s12.toList == (bs []).toList)) (
          some [(B true)]) <|
        optI .i64 (cs2[1]?) fun n13 =>
        some [(B ((n13 : Int) == 1))]) <|
      some [(B false)]) <|
    some [(B false)]) <|
  some [(B false)]
theorem t79 (FU : Nat) (C : Oracle) (ps : List PV) : bodyK Bk FU C Tryz.f79 i79 ps = s79 FU C ps := by kernel_rfl
theorem c79 {FU m : Nat} {ps rs : List PV} (h : s79 FU (callN (Bk.env FU) m) ps = some rs) : callN (Bk.env FU) (m + 1) 79 ps = some rs :=
  call_of (i := i79) (fn := Tryz.f79) (by kernel_rfl) (by kernel_rfl) (by kernel_rfl) ((t79 _ _ _).trans h)

/-- spec.siPlain -/
noncomputable def s80 (FU : Nat) (C : Oracle) (ps : List PV) : R :=
  popN ps <|
  iterK FU (fun rec9 vs =>
    popLz 6 vs fun xs2 r1 =>
    popLz 1 r1 fun xs4 r3 =>
    popI .i64 r3 fun n6 r5 =>
    popI .i64 r5 fun n8 r7 =>
    popN r7 <|
    cond (decide ((n8 : Int) < n6)) (
      chk ((1 == 1) && (decide ((0 : Int) ≤ n8) && decide ((n8 : Int) < (@List.length PV xs4 : Int)))) <|
      optS (eltS xs4 (Int.toNat n8) 0) fun s10 =>
      optC (C 37 [(Sg s10)]) fun rs11 =>
      popA rs11 fun cs13 r12 =>
      popB r12 fun b15 r14 =>
      popN r14 <|
      optC (putPart [I 0, I 0, I 0, I 0, I 0, B false] 0 6 (.agg cs13)) fun cs16 =>
      optA (partA cs16 0 6) fun cs17 =>
      chk (List.all ([(.agg cs17)] : List PV) (fun p : PV => p.cells.length == 6)) <|
      chk ((6 == 6) && (6 == 6) && !(false) && roomy (@List.length PV xs2 + @List.length PV [(.agg cs17)]) 48 && !(48 == 0)) <|
      rec9 [(.sl 6 (xs2 ++ [(.agg cs17)])), (.sl 1 xs4), (I n6), (I (wr (n8 + 1)))]) <|
    chk (List.all (xs2 : List PV) PV.flat) <|
    some [(.sl 6 xs2)]) [(.sl 6 []), (.sl 1 [(Sg (bs [48, 48, 48, 48, 48])), (Sg (bs [48, 48, 48, 48, 48, 115])), (Sg (bs [50, 50, 50, 50, 50])), (Sg (bs [49, 48, 48, 48, 48])), (Sg (bs [49, 48, 50, 50, 50])), (Sg (bs [48, 48, 50, 50, 50]))]), (I (@List.length PV [(Sg (bs [48, 48, 48, 48, 48])), (Sg (bs [48, 48, 48, 48, 48, 115])), (Sg (bs [50, 50, 50, 50, 50])), (Sg (bs [49, 48, 48, 48, 48])), (Sg (bs [49, 48, 50, 50, 50])), (Sg (bs [48, 48, 50, 50, 50]))] : Int)), (I 0)]
theorem t80 (FU : Nat) (C : Oracle) (ps : List PV) : bodyK Bk FU C Tryz.f80 i80 ps = s80 FU C ps := by kernel_rfl
theorem c80 {FU m : Nat} {ps rs : List PV} (h : s80 FU (callN (Bk.env FU) m) ps = some rs) : callN (Bk.env FU) (m + 1) 80 ps = some rs :=
  call_of (i := i80) (fn := Tryz.f80) (by kernel_rfl) (by kernel_rfl) (by kernel_rfl) ((t80 _ _ _).trans h)

/-- spec.orMirror -/
noncomputable def s81 (_FU : Nat) (C : Oracle) (ps : List PV) : R :=
  popA ps fun cs2 r1 =>
  popN r1 <|
  optI .i64 (cs2[0]?) fun n3 =>
  optC (C 123 [(I n3)]) fun rs4 =>
  popI .i64 rs4 fun n6 r5 =>
  popN r5 <|
  optI .i64 (cs2[1]?) fun n7 =>
  optC (C 123 [(I n7)]) fun rs8 =>
  popI .i64 rs8 fun n10 r9 =>
  popN r9 <|
  optC (fillL [(0, 1, (I n6)), (1, 1, (I n10))] [I 0, I 0]) fun cs11 =>
  optC (putPart [I 0, I 0] 0 2 (.agg cs11)) fun cs12 =>
  optA (partA cs12 0 2) fun cs13 =>
  chk (List.all cs13 PV.isV) <|
  some [(.agg cs13)]
theorem t81 (FU : Nat) (C : Oracle) (ps : List PV) : bodyK Bk FU C Tryz.f81 i81 ps = s81 FU C ps := by kernel_rfl
theorem c81 {FU m : Nat} {ps rs : List PV} (h : s81 FU (callN (Bk.env FU) m) ps = some rs) : callN (Bk.env FU) (m + 1) 81 ps = some rs :=
  call_of (i := i81) (fn := Tryz.f81) (by kernel_rfl) (by kernel_rfl) (by kernel_rfl) ((t81 _ _ _).trans h)

/-- spec.mvAll -/
noncomputable def s82 (_FU : Nat) (C : Oracle) (ps : List PV) : R :=
  popA ps fun cs2 r1 =>
  popN r1 <|
  optS (cs2[0]?) fun s3 =>
  optI .i64 (cs2[1]?) fun n4 =>
  optC (C 124 [(Sg s3), (I n4)]) fun rs5 =>
  popS rs5 fun s7 r6 =>
  popN r6 <|
  some [(Sg s7)]
theorem t82 (FU : Nat) (C : Oracle) (ps : List PV) : bodyK Bk FU C Tryz.f82 i82 ps = s82 FU C ps := by kernel_rfl
theorem c82 {FU m : Nat} {ps rs : List PV} (h : s82 FU (callN (Bk.env FU) m) ps = some rs) : callN (Bk.env FU) (m + 1) 82 ps = some rs :=
  call_of (i := i82) (fn := Tryz.f82) (by kernel_rfl) (by kernel_rfl) (by kernel_rfl) ((t82 _ _ _).trans h)

/-- spec.mvMirror -/
noncomputable def s83 (FU : Nat) (_C : Oracle) (ps : List PV) : R :=
  popA ps fun cs2 r1 =>
  popN r1 <|
  iterK FU (fun rec11 vs =>
    popA vs fun cs4 r3 =>
    popA r3 fun cs6 r5 =>
    popS r5 fun s8 r7 =>
    popI .i64 r7 fun n10 r9 =>
    popN r9 <|
    optS (cs4[0]?) fun s12 =>
    cond (decide ((n10 : Int) < (s12.size : Int))) (
      optS (cs4[0]?) fun s13 =>
      optI .u8 (strAt s13 n10) fun n14 =>
      cond ((n14 : Int) == 108) (
        optS (binPV none false .add (Sg s8) (Sg (bs [114]))) fun s15 =>
        rec11 [(.agg cs4), (.agg cs6), (Sg s15), (I (wr (n10 + 1)))]) <|
      cond ((n14 : Int) == 114) (
        optS (binPV none false .add (Sg s8) (Sg (bs [108]))) fun s24 =>
        rec11 [(.agg cs4), (.agg cs6), (Sg s24), (I (wr (n10 + 1)))]) <|
      optS (cs4[0]?) fun s33 =>
      chk (within n10 (wr (n10 + 1)) s33.size) <|
      optS (binPV none false .add (Sg s8) (Sg (ByteArray.extract s33 (Int.toNat n10) (Int.toNat (wr (n10 + 1)))))) fun s34 =>
      rec11 [(.agg cs4), (.agg cs6), (Sg s34), (I (wr (n10 + 1)))]) <|
    optI .i64 (cs4[1]?) fun n43 =>
    optC (fillL [(0, 1, (Sg s8)), (1, 1, (I n43))] [Sg (bs []), I 0]) fun cs44 =>
    optC (putPart cs6 0 2 (.agg cs44)) fun cs45 =>
    optA (partA cs45 0 2) fun cs46 =>
    chk (List.all cs46 PV.isV) <|
    some [(.agg cs46)]) [(.agg cs2), (.agg [Sg (bs []), I 0]), (Sg (bs [])), (I 0)]
theorem t83 (FU : Nat) (C : Oracle) (ps : List PV) : bodyK Bk FU C Tryz.f83 i83 ps = s83 FU C ps := by kernel_rfl
theorem c83 {FU m : Nat} {ps rs : List PV} (h : s83 FU (callN (Bk.env FU) m) ps = some rs) : callN (Bk.env FU) (m + 1) 83 ps = some rs :=
  call_of (i := i83) (fn := Tryz.f83) (by kernel_rfl) (by kernel_rfl) (by kernel_rfl) ((t83 _ _ _).trans h)

/-- impl.within -/
noncomputable def s85 (_FU : Nat) (_C : Oracle) (ps : List PV) : R :=
  popI .i64 ps fun n2 r1 =>
  popI .i64 r1 fun n4 r3 =>
  popI .i64 r3 fun n6 r5 =>
  popN r5 <|
  cond (decide ((n2 : Int) ≥ n4)) (
    some [(B (decide ((n2 : Int) ≤ n6)))]) <|
  some [(B false)]
theorem t85 (FU : Nat) (C : Oracle) (ps : List PV) : bodyK Bk FU C Tryz.f85 i85 ps = s85 FU C ps := by kernel_rfl
theorem c85 {FU m : Nat} {ps rs : List PV} (h : s85 FU (callN (Bk.env FU) m) ps = some rs) : callN (Bk.env FU) (m + 1) 85 ps = some rs :=
  call_of (i := i85) (fn := Tryz.f85) (by kernel_rfl) (by kernel_rfl) (by kernel_rfl) ((t85 _ _ _).trans h)

/-- (impl.Shape).with -/
noncomputable def s86 (_FU : Nat) (C : Oracle) (ps : List PV) : R :=
  popA ps fun cs2 r1 =>
  popI .i64 r1 fun n4 r3 =>
  popI .i64 r3 fun n6 r5 =>
  popN r5 <|
  joinK (fun vs =>
    popA vs fun cs10 r9 =>
    popA r9 fun cs12 r11 =>
    popN r11 <|
    optB (cs10[5]?) fun b13 =>
    cond b13 (
      optA (partA cs10 0 6) fun cs14 =>
      optC (C 127 [(.agg cs14)]) fun rs15 =>
      popB rs15 fun b17 r16 =>
      popN r16 <|
      optC (putPart cs10 5 1 (B b17)) fun cs18 =>
      optA (partA cs18 0 6) fun cs19 =>
      optC (putPart cs12 0 6 (.agg cs19)) fun cs20 =>
      optA (partA cs20 0 6) fun cs21 =>
      chk (List.all cs21 PV.isV) <|
      some [(.agg cs21)]) <|
    optC (putPart cs10 5 1 (B false)) fun cs22 =>
    optA (partA cs22 0 6) fun cs23 =>
    optC (putPart cs12 0 6 (.agg cs23)) fun cs24 =>
    optA (partA cs24 0 6) fun cs25 =>
    chk (List.all cs25 PV.isV) <|
    some [(.agg cs25)]) fun j7 =>
  cond ((n4 : Int) == 0) (
    optC (putPart cs2 0 1 (I n6)) fun cs8 =>
    j7 [(.agg cs8), (.agg [I 0, I 0, I 0, I 0, I 0, B false])]) <|
  cond ((n4 : Int) == 1) (
    optC (putPart cs2 1 1 (I n6)) fun cs26 =>
    j7 [(.agg cs26), (.agg [I 0, I 0, I 0, I 0, I 0, B false])]) <|
  cond ((n4 : Int) == 2) (
    optC (putPart cs2 2 1 (I n6)) fun cs31 =>
    j7 [(.agg cs31), (.agg [I 0, I 0, I 0, I 0, I 0, B false])]) <|
  cond ((n4 : Int) == 3) (
    optC (putPart cs2 3 1 (I n6)) fun cs36 =>
    j7 [(.agg cs36), (.agg [I 0, I 0, I 0, I 0, I 0, B false])]) <|
  optC (putPart cs2 4 1 (I n6)) fun cs41 =>
  j7 [(.agg cs41), (.agg [I 0, I 0, I 0, I 0, I 0, B false])]
theorem t86 (FU : Nat) (C : Oracle) (ps : List PV) : bodyK Bk FU C Tryz.f86 i86 ps = s86 FU C ps := by kernel_rfl
theorem c86 {FU m : Nat} {ps rs : List PV} (h : s86 FU (callN (Bk.env FU) m) ps = some rs) : callN (Bk.env FU) (m + 1) 86 ps = some rs :=
  call_of (i := i86) (fn := Tryz.f86) (by kernel_rfl) (by kernel_rfl) (by kernel_rfl) ((t86 _ _ _).trans h)

/-- impl.IsShape -/
noncomputable def s87 (_FU : Nat) (C : Oracle) (ps : List PV) : R :=
  popA ps fun cs2 r1 =>
  popN r1 <|
  optI .i64 (cs2[0]?) fun n3 =>
  optA (partA cs2 0 6) fun cs4 =>
  optC (C 129 [(.agg cs4)]) fun rs5 =>
  popLz 1 rs5 fun xs7 r6 =>
  popN r6 <|
  chk ((1 == 1) && (1 == 1) && !(false) && roomy (@List.length PV [(I n3)] + @List.length PV xs7) 8 && !(8 == 0)) <|
  optC (C 128 [(.sl 1 ([(I n3)] ++ xs7)), (I 0), (I 2)]) fun rs8 =>
  popB rs8 fun b10 r9 =>
  popN r9 <|
  cond (!b10) (
    some [(B false)]) <|
  optB (cs2[5]?) fun b11 =>
  cond (!b11) (
    some [(B true)]) <|
  optA (partA cs2 0 6) fun cs12 =>
  optC (C 127 [(.agg cs12)]) fun rs13 =>
  popB rs13 fun b15 r14 =>
  popN r14 <|
  some [(B b15)]
theorem t87 (FU : Nat) (C : Oracle) (ps : List PV) : bodyK Bk FU C Tryz.f87 i87 ps = s87 FU C ps := by kernel_rfl
theorem c87 {FU m : Nat} {ps rs : List PV} (h : s87 FU (callN (Bk.env FU) m) ps = some rs) : callN (Bk.env FU) (m + 1) 87 ps = some rs :=
  call_of (i := i87) (fn := Tryz.f87) (by kernel_rfl) (by kernel_rfl) (by kernel_rfl) ((t87 _ _ _).trans h)

/-- (impl.Shape).text -/
noncomputable def s88 (FU : Nat) (C : Oracle) (ps : List PV) : R :=
  popA ps fun cs2 r1 =>
  popN r1 <|
  optI .i64 (cs2[0]?) fun n3 =>
  optC (C 130 [(I n3)]) fun rs4 =>
  popS rs4 fun s6 r5 =>
  popN r5 <|
  optA (partA cs2 0 6) fun cs7 =>
  optC (C 129 [(.agg cs7)]) fun rs8 =>
  popLz 1 rs8 fun xs10 r9 =>
  popN r9 <|
  iterK FU (fun rec21 vs =>
    popA vs fun cs12 r11 =>
    popS r11 fun s14 r13 =>
    popLz 1 r13 fun xs16 r15 =>
    popI .i64 r15 fun n18 r17 =>
    popI .i64 r17 fun n20 r19 =>
    popN r19 <|
    cond (decide ((n20 : Int) < n18)) (
      chk ((1 == 1) && (decide ((0 : Int) ≤ n20) && decide ((n20 : Int) < (@List.length PV xs16 : Int)))) <|
      optI .i64 (eltS xs16 (Int.toNat n20) 0) fun n22 =>
      optC (C 130 [(I n22)]) fun rs23 =>
      popS rs23 fun s25 r24 =>
      popN r24 <|
      optS (binPV none false .add (Sg s14) (Sg s25)) fun s26 =>
      rec21 [(.agg cs12), (Sg s26), (.sl 1 xs16), (I n18), (I (wr (n20 + 1)))]) <|
    optB (cs12[5]?) fun b37 =>
    cond b37 (
      optS (binPV none false .add (Sg s14) (Sg (bs [115]))) fun s38 =>
      some [(Sg s38)]) <|
    some [(Sg s14)]) [(.agg cs2), (Sg s6), (.sl 1 xs10), (I (@List.length PV xs10 : Int)), (I 0)]
theorem t88 (FU : Nat) (C : Oracle) (ps : List PV) : bodyK Bk FU C Tryz.f88 i88 ps = s88 FU C ps := by kernel_rfl
theorem c88 {FU m : Nat} {ps rs : List PV} (h : s88 FU (callN (Bk.env FU) m) ps = some rs) : callN (Bk.env FU) (m + 1) 88 ps = some rs :=
  call_of (i := i88) (fn := Tryz.f88) (by kernel_rfl) (by kernel_rfl) (by kernel_rfl) ((t88 _ _ _).trans h)

/-- impl.IsOrient -/
noncomputable def s89 (_FU : Nat) (C : Oracle) (ps : List PV) : R :=
  popA ps fun cs2 r1 =>
  popN r1 <|
  optI .i64 (cs2[0]?) fun n3 =>
  optC (C 85 [(I n3), (I 0), (I 5)]) fun rs4 =>
  popB rs4 fun b6 r5 =>
  popN r5 <|
  cond b6 (
    optI .i64 (cs2[1]?) fun n7 =>
    optC (C 85 [(I n7), (I 0), (I 5)]) fun rs8 =>
    popB rs8 fun b10 r9 =>
    popN r9 <|
    cond b10 (
      optI .i64 (cs2[0]?) fun n11 =>
      optI .i64 (binPV none false .quo (I n11) (I 2)) fun n12 =>
      optI .i64 (cs2[1]?) fun n13 =>
      optI .i64 (binPV none false .quo (I n13) (I 2)) fun n14 =>
      some [(B ((n12 : Int) != n14))]) <|
    some [(B false)]) <|
  some [(B false)]
theorem t89 (FU : Nat) (C : Oracle) (ps : List PV) : bodyK Bk FU C Tryz.f89 i89 ps = s89 FU C ps := by kernel_rfl
theorem c89 {FU m : Nat} {ps rs : List PV} (h : s89 FU (callN (Bk.env FU) m) ps = some rs) : callN (Bk.env FU) (m + 1) 89 ps = some rs :=
  call_of (i := i89) (fn := Tryz.f89) (by kernel_rfl) (by kernel_rfl) (by kernel_rfl) ((t89 _ _ _).trans h)

/-- impl.PlaceOfCode -/
noncomputable def s90 (_FU : Nat) (C : Oracle) (ps : List PV) : R :=
  popI .i64 ps fun n2 r1 =>
  popN r1 <|
  optC (C 85 [(I n2), (I 0), (I 59)]) fun rs3 =>
  popB rs3 fun b5 r4 =>
  popN r4 <|
  cond (!b5) (
    optC (fillL [] [I 0, I 0, B false]) fun cs6 =>
    optC (putPart [I 0, I 0, B false] 0 3 (.agg cs6)) fun cs7 =>
    optA (partA cs7 0 3) fun cs8 =>
    chk (List.all cs8 PV.isV) <|
    some [(.agg cs8), (B false)]) <|
  optI .i64 (binPV none false .quo (I n2) (I 6)) fun n9 =>
  optI .i64 (binPV none false .rem (I n2) (I 6)) fun n10 =>
  optI .i64 (binPV none false .quo (I n10) (I 2)) fun n11 =>
  optI .i64 (binPV none false .rem (I n2) (I 2)) fun n12 =>
  optC (fillL [(0, 1, (I n9)), (1, 1, (I (wr (n11 - 1)))), (2, 1, (B ((n12 : Int) == 1)))] [I 0, I 0, B false]) fun cs13 =>
  optC (putPart [I 0, I 0, B false] 0 3 (.agg cs13)) fun cs14 =>
  optA (partA cs14 0 3) fun cs15 =>
  optC (C 95 [(.agg cs15)]) fun rs16 =>
  popB rs16 fun b18 r17 =>
  popN r17 <|
  cond (!b18) (
    optC (fillL [] [I 0, I 0, B false]) fun cs19 =>
    optC (putPart [I 0, I 0, B false] 0 3 (.agg cs19)) fun cs20 =>
    optA (partA cs20 0 3) fun cs21 =>
    chk (List.all cs21 PV.isV) <|
    some [(.agg cs21), (B false)]) <|
  optA (partA cs14 0 3) fun cs22 =>
  optC (putPart [I 0, I 0, B false] 0 3 (.agg cs22)) fun cs23 =>
  optA (partA cs23 0 3) fun cs24 =>
  chk (List.all cs24 PV.isV) <|
  some [(.agg cs24), (B true)]
theorem t90 (FU : Nat) (C : Oracle) (ps : List PV) : bodyK Bk FU C Tryz.f90 i90 ps = s90 FU C ps := by kernel_rfl
theorem c90 {FU m : Nat} {ps rs : List PV} (h : s90 FU (callN (Bk.env FU) m) ps = some rs) : callN (Bk.env FU) (m + 1) 90 ps = some rs :=
  call_of (i := i90) (fn := Tryz.f90) (by kernel_rfl) (by kernel_rfl) (by kernel_rfl) ((t90 _ _ _).trans h)

/-- (impl.Place).text -/
noncomputable def s91 (_FU : Nat) (_C : Oracle) (ps : List PV) : R :=
  popA ps fun cs2 r1 =>
  popN r1 <|
  optC (fillL [(0, 1, (Sg (bs [115, 112, 97, 99, 101]))), (1, 1, (Sg (bs [104, 101, 97, 100]))), (2, 1, (Sg (bs [101, 121, 101]))), (3, 1, (Sg (bs [99, 104, 101, 101, 107]))), (4, 1, (Sg (bs [109, 111, 117, 116, 104]))), (5, 1, (Sg (bs [99, 104, 105, 110]))), (6, 1, (Sg (bs [110, 101, 99, 107]))), (7, 1, (Sg (bs [99, 104, 101, 115, 116]))), (8, 1, (Sg (bs [119, 97, 105, 115, 116]))), (9, 1, (Sg (bs [104, 105, 112])))] [Sg (bs []), Sg (bs []), Sg (bs []), Sg (bs []), Sg (bs []), Sg (bs []), Sg (bs []), Sg (bs []), Sg (bs []), Sg (bs [])]) fun cs3 =>
  optC (putPart [Sg (bs []), Sg (bs []), Sg (bs []), Sg (bs []), Sg (bs []), Sg (bs []), Sg (bs []), Sg (bs []), Sg (bs []), Sg (bs [])] 0 10 (.agg cs3)) fun cs4 =>
  optI .i64 (cs2[0]?) fun n5 =>
  chk (decide ((0 : Int) ≤ (n5 : Int)) && decide ((n5 : Int) < 10)) <|
  optS (cs4[(0 + Int.toNat n5 * 1)]?) fun s6 =>
  optC (fillL [(0, 1, (Sg (bs [60]))), (1, 1, (Sg (bs []))), (2, 1, (Sg (bs [62])))] [Sg (bs []), Sg (bs []), Sg (bs [])]) fun cs7 =>
  optI .i64 (cs2[1]?) fun n8 =>
  optS (arrS cs7 3 1 (wr (n8 + 1))) fun s9 =>
  optS (binPV none false .add (Sg s6) (Sg s9)) fun s10 =>
  optB (cs2[2]?) fun b11 =>
  cond b11 (
    optS (binPV none false .add (Sg s10) (Sg (bs [42]))) fun s12 =>
    some [(Sg s12)]) <|
  some [(Sg s10)]
theorem t91 (FU : Nat) (C : Oracle) (ps : List PV) : bodyK Bk FU C Tryz.f91 i91 ps = s91 FU C ps := by kernel_rfl
theorem c91 {FU m : Nat} {ps rs : List PV} (h : s91 FU (callN (Bk.env FU) m) ps = some rs) : callN (Bk.env FU) (m + 1) 91 ps = some rs :=
  call_of (i := i91) (fn := Tryz.f91) (by kernel_rfl) (by kernel_rfl) (by kernel_rfl) ((t91 _ _ _).trans h)

/-- impl.IsMove -/
noncomputable def s93 (_FU : Nat) (C : Oracle) (ps : List PV) : R :=
  popA ps fun cs2 r1 =>
  popN r1 <|
  optS (cs2[0]?) fun s3 =>
  cond (decide (((s3.size : Int) : Int) ≤ 6)) (
    optS (cs2[0]?) fun s4 =>
    optC (C 132 [(Sg s4), (Sg (bs [117, 100, 108, 114, 102, 98]))]) fun rs5 =>
    popB rs5 fun b7 r6 =>
    popN r6 <|
    cond b7 (
      optI .i64 (cs2[1]?) fun n8 =>
      optC (C 85 [(I n8), (I 1), (I 3)]) fun rs9 =>
      popB rs9 fun b11 r10 =>
      popN r10 <|
      cond b11 (
        optS (cs2[0]?) fun s12 =>
        cond (!(s12.toList == (bs []).toList)) (
          some [(B true)]) <|
        optI .i64 (cs2[1]?) fun n13 =>
        some [(B ((n13 : Int) == 1))]) <|
      some [(B false)]) <|
    some [(B false)]) <|
  some [(B false)]
theorem t93 (FU : Nat) (C : Oracle) (ps : List PV) : bodyK Bk FU C Tryz.f93 i93 ps = s93 FU C ps := by kernel_rfl
theorem c93 {FU m : Nat} {ps rs : List PV} (h : s93 FU (callN (Bk.env FU) m) ps = some rs) : callN (Bk.env FU) (m + 1) 93 ps = some rs :=
  call_of (i := i93) (fn := Tryz.f93) (by kernel_rfl) (by kernel_rfl) (by kernel_rfl) ((t93 _ _ _).trans h)

/-- (impl.Move).text -/
noncomputable def s94 (_FU : Nat) (C : Oracle) (ps : List PV) : R :=
  popA ps fun cs2 r1 =>
  popN r1 <|
  optS (cs2[0]?) fun s3 =>
  cond (s3.toList == (bs []).toList) (
    some [(Sg (bs [45]))]) <|
  optI .i64 (cs2[1]?) fun n4 =>
  cond ((n4 : Int) == 1) (
    optS (cs2[0]?) fun s5 =>
    some [(Sg s5)]) <|
  optS (cs2[0]?) fun s6 =>
  optS (binPV none false .add (Sg s6) (Sg (bs [42]))) fun s7 =>
  optI .i64 (cs2[1]?) fun n8 =>
  optC (C 130 [(I n8)]) fun rs9 =>
  popS rs9 fun s11 r10 =>
  popN r10 <|
  optS (binPV none false .add (Sg s7) (Sg s11)) fun s12 =>
  some [(Sg s12)]
theorem t94 (FU : Nat) (C : Oracle) (ps : List PV) : bodyK Bk FU C Tryz.f94 i94 ps = s94 FU C ps := by kernel_rfl
theorem c94 {FU m : Nat} {ps rs : List PV} (h : s94 FU (callN (Bk.env FU) m) ps = some rs) : callN (Bk.env FU) (m + 1) 94 ps = some rs :=
  call_of (i := i94) (fn := Tryz.f94) (by kernel_rfl) (by kernel_rfl) (by kernel_rfl) ((t94 _ _ _).trans h)

/-- impl.IsPlace -/
noncomputable def s95 (_FU : Nat) (C : Oracle) (ps : List PV) : R :=
  popA ps fun cs2 r1 =>
  popN r1 <|
  optI .i64 (cs2[0]?) fun n3 =>
  optC (C 85 [(I n3), (I 0), (I 9)]) fun rs4 =>
  popB rs4 fun b6 r5 =>
  popN r5 <|
  cond b6 (
    optI .i64 (cs2[1]?) fun n7 =>
    optC (C 85 [(I n7), (I (-1)), (I 1)]) fun rs8 =>
    popB rs8 fun b10 r9 =>
    popN r9 <|
    cond b10 (
      optB (cs2[2]?) fun b11 =>
      cond b11 (
        optI .i64 (cs2[0]?) fun n12 =>
        some [(B (!((n12 : Int) == 0)))]) <|
      some [(B true)]) <|
    some [(B false)]) <|
  some [(B false)]
theorem t95 (FU : Nat) (C : Oracle) (ps : List PV) : bodyK Bk FU C Tryz.f95 i95 ps = s95 FU C ps := by kernel_rfl
theorem c95 {FU m : Nat} {ps rs : List PV} (h : s95 FU (callN (Bk.env FU) m) ps = some rs) : callN (Bk.env FU) (m + 1) 95 ps = some rs :=
  call_of (i := i95) (fn := Tryz.f95) (by kernel_rfl) (by kernel_rfl) (by kernel_rfl) ((t95 _ _ _).trans h)

/-- spec.shText -/
noncomputable def s96 (FU : Nat) (C : Oracle) (ps : List PV) : R :=
  popA ps fun cs2 r1 =>
  popN r1 <|
  optI .i64 (cs2[0]?) fun n3 =>
  optC (C 133 [(I n3)]) fun rs4 =>
  popS rs4 fun s6 r5 =>
  popN r5 <|
  optA (partA cs2 0 6) fun cs7 =>
  optC (C 116 [(.agg cs7)]) fun rs8 =>
  popLz 1 rs8 fun xs10 r9 =>
  popN r9 <|
  iterK FU (fun rec21 vs =>
    popA vs fun cs12 r11 =>
    popS r11 fun s14 r13 =>
    popLz 1 r13 fun xs16 r15 =>
    popI .i64 r15 fun n18 r17 =>
    popI .i64 r17 fun n20 r19 =>
    popN r19 <|
    cond (decide ((n20 : Int) < n18)) (
      chk ((1 == 1) && (decide ((0 : Int) ≤ n20) && decide ((n20 : Int) < (@List.length PV xs16 : Int)))) <|
      optI .i64 (eltS xs16 (Int.toNat n20) 0) fun n22 =>
      optC (C 133 [(I n22)]) fun rs23 =>
      popS rs23 fun s25 r24 =>
      popN r24 <|
      optS (binPV none false .add (Sg s14) (Sg s25)) fun s26 =>
      rec21 [(.agg cs12), (Sg s26), (.sl 1 xs16), (I n18), (I (wr (n20 + 1)))]) <|
    optB (cs12[5]?) fun b37 =>
    cond b37 (
      optS (binPV none false .add (Sg s14) (Sg (bs [115]))) fun s38 =>
      some [(Sg s38)]) <|
    some [(Sg s14)]) [(.agg cs2), (Sg s6), (.sl 1 xs10), (I (@List.length PV xs10 : Int)), (I 0)]
theorem t96 (FU : Nat) (C : Oracle) (ps : List PV) : bodyK Bk FU C Tryz.f96 i96 ps = s96 FU C ps := by kernel_rfl
theorem c96 {FU m : Nat} {ps rs : List PV} (h : s96 FU (callN (Bk.env FU) m) ps = some rs) : callN (Bk.env FU) (m + 1) 96 ps = some rs :=
  call_of (i := i96) (fn := Tryz.f96) (by kernel_rfl) (by kernel_rfl) (by kernel_rfl) ((t96 _ _ _).trans h)

/-- spec.orText -/
noncomputable def s97 (_FU : Nat) (_C : Oracle) (ps : List PV) : R :=
  popA ps fun cs2 r1 =>
  popN r1 <|
  optI .i64 (cs2[0]?) fun n3 =>
  optI .i64 (cs2[0]?) fun n4 =>
  chk (within n3 (wr (n4 + 1)) (bs [117, 100, 108, 114, 102, 98]).size) <|
  optI .i64 (cs2[1]?) fun n5 =>
  optI .i64 (cs2[1]?) fun n6 =>
  chk (within n5 (wr (n6 + 1)) (bs [117, 100, 108, 114, 102, 98]).size) <|
  optS (binPV none false .add (Sg (ByteArray.extract (bs [117, 100, 108, 114, 102, 98]) (Int.toNat n3) (Int.toNat (wr (n4 + 1))))) (Sg (ByteArray.extract (bs [117, 100, 108, 114, 102, 98]) (Int.toNat n5) (Int.toNat (wr (n6 + 1)))))) fun s7 =>
  some [(Sg s7)]
theorem t97 (FU : Nat) (C : Oracle) (ps : List PV) : bodyK Bk FU C Tryz.f97 i97 ps = s97 FU C ps := by kernel_rfl
theorem c97 {FU m : Nat} {ps rs : List PV} (h : s97 FU (callN (Bk.env FU) m) ps = some rs) : callN (Bk.env FU) (m + 1) 97 ps = some rs :=
  call_of (i := i97) (fn := Tryz.f97) (by kernel_rfl) (by kernel_rfl) (by kernel_rfl) ((t97 _ _ _).trans h)

/-- spec.plText -/
noncomputable def s98 (_FU : Nat) (C : Oracle) (ps : List PV) : R :=
  popA ps fun cs2 r1 =>
  popN r1 <|
  optC (C 134 []) fun rs3 =>
  popLz 1 rs3 fun xs5 r4 =>
  popN r4 <|
  optI .i64 (cs2[0]?) fun n6 =>
  chk ((1 == 1) && (decide ((0 : Int) ≤ n6) && decide ((n6 : Int) < (@List.length PV xs5 : Int)))) <|
  optS (eltS xs5 (Int.toNat n6) 0) fun s7 =>
  joinK (fun vs =>
    popA vs fun cs12 r11 =>
    popS r11 fun s14 r13 =>
    popN r13 <|
    optB (cs12[2]?) fun b15 =>
    cond b15 (
      optS (binPV none false .add (Sg s14) (Sg (bs [42]))) fun s16 =>
      some [(Sg s16)]) <|
    some [(Sg s14)]) fun j8 =>
  optI .i64 (cs2[1]?) fun n9 =>
  cond ((n9 : Int) == (-1)) (
    optS (binPV none false .add (Sg s7) (Sg (bs [60]))) fun s10 =>
    j8 [(.agg cs2), (Sg s10)]) <|
  cond ((n9 : Int) == 1) (
    optS (binPV none false .add (Sg s7) (Sg (bs [62]))) fun s17 =>
    j8 [(.agg cs2), (Sg s17)]) <|
  j8 [(.agg cs2), (Sg s7)]
theorem t98 (FU : Nat) (C : Oracle) (ps : List PV) : bodyK Bk FU C Tryz.f98 i98 ps = s98 FU C ps := by kernel_rfl
theorem c98 {FU m : Nat} {ps rs : List PV} (h : s98 FU (callN (Bk.env FU) m) ps = some rs) : callN (Bk.env FU) (m + 1) 98 ps = some rs :=
  call_of (i := i98) (fn := Tryz.f98) (by kernel_rfl) (by kernel_rfl) (by kernel_rfl) ((t98 _ _ _).trans h)

end Go.Proofs.YtajjinfjfiacbaaGreatDoor
end

section
/- What functions compute, and that their code says so. Made by a program of ours (emit.py). -/
namespace Go.Proofs.YtajjinfjfiacbaaGreatDoor
open Go Go.Evp
set_option maxRecDepth 100000

/-- spec.mvText -/
noncomputable def s99 (_FU : Nat) (C : Oracle) (ps : List PV) : R :=
  popA ps fun cs2 r1 =>
  popN r1 <|
  optS (cs2[0]?) fun s3 =>
  cond (s3.toList == (bs []).toList) (
    some [(Sg (bs [45]))]) <|
  optI .i64 (cs2[1]?) fun n4 =>
  cond (decide ((n4 : Int) > 1)) (
    optS (cs2[0]?) fun s5 =>
    optS (binPV none false .add (Sg s5) (Sg (bs [42]))) fun s6 =>
    optI .i64 (cs2[1]?) fun n7 =>
    optC (C 133 [(I n7)]) fun rs8 =>
    popS rs8 fun s10 r9 =>
    popN r9 <|
    optS (binPV none false .add (Sg s6) (Sg s10)) fun s11 =>
    some [(Sg s11)]) <|
  optS (cs2[0]?) fun s12 =>
  some [(Sg s12)]
theorem t99 (FU : Nat) (C : Oracle) (ps : List PV) : bodyK Bk FU C Tryz.f99 i99 ps = s99 FU C ps := by kernel_rfl
theorem c99 {FU m : Nat} {ps rs : List PV} (h : s99 FU (callN (Bk.env FU) m) ps = some rs) : callN (Bk.env FU) (m + 1) 99 ps = some rs :=
  call_of (i := i99) (fn := Tryz.f99) (by kernel_rfl) (by kernel_rfl) (by kernel_rfl) ((t99 _ _ _).trans h)

/-- (impl.Hand).moves -/
noncomputable def s107 (_FU : Nat) (_C : Oracle) (ps : List PV) : R :=
  popA ps fun cs2 r1 =>
  popN r1 <|
  optS (cs2[11]?) fun s3 =>
  some [(B (!(s3.toList == (bs []).toList)))]
theorem t107 (FU : Nat) (C : Oracle) (ps : List PV) : bodyK Bk FU C Tryz.f107 i107 ps = s107 FU C ps := by kernel_rfl
theorem c107 {FU m : Nat} {ps rs : List PV} (h : s107 FU (callN (Bk.env FU) m) ps = some rs) : callN (Bk.env FU) (m + 1) 107 ps = some rs :=
  call_of (i := i107) (fn := Tryz.f107) (by kernel_rfl) (by kernel_rfl) (by kernel_rfl) ((t107 _ _ _).trans h)

/-- slices.Contains[[]impl.Shape,impl.Shape] -/
noncomputable def s108 (_FU : Nat) (C : Oracle) (ps : List PV) : R :=
  popLz 6 ps fun xs2 r1 =>
  popA r1 fun cs4 r3 =>
  popN r3 <|
  optA (partA cs4 0 6) fun cs5 =>
  optC (C 140 [(.sl 6 xs2), (.agg cs5)]) fun rs6 =>
  popI .i64 rs6 fun n8 r7 =>
  popN r7 <|
  some [(B (decide ((n8 : Int) ≥ 0)))]
theorem t108 (FU : Nat) (C : Oracle) (ps : List PV) : bodyK Bk FU C Tryz.f108 i108 ps = s108 FU C ps := by kernel_rfl
theorem c108 {FU m : Nat} {ps rs : List PV} (h : s108 FU (callN (Bk.env FU) m) ps = some rs) : callN (Bk.env FU) (m + 1) 108 ps = some rs :=
  call_of (i := i108) (fn := Tryz.f108) (by kernel_rfl) (by kernel_rfl) (by kernel_rfl) ((t108 _ _ _).trans h)

/-- impl.PlainShapes -/
noncomputable def s109 (FU : Nat) (C : Oracle) (ps : List PV) : R :=
  popN ps <|
  iterK FU (fun rec9 vs =>
    popLz 6 vs fun xs2 r1 =>
    popLz 1 r1 fun xs4 r3 =>
    popI .i64 r3 fun n6 r5 =>
    popI .i64 r5 fun n8 r7 =>
    popN r7 <|
    cond (decide ((n8 : Int) < n6)) (
      chk ((1 == 1) && (decide ((0 : Int) ≤ n8) && decide ((n8 : Int) < (@List.length PV xs4 : Int)))) <|
      optS (eltS xs4 (Int.toNat n8) 0) fun s10 =>
      optC (C 44 [(Sg s10)]) fun rs11 =>
      popA rs11 fun cs13 r12 =>
      popB r12 fun b15 r14 =>
      popN r14 <|
      optC (putPart [I 0, I 0, I 0, I 0, I 0, B false] 0 6 (.agg cs13)) fun cs16 =>
      optA (partA cs16 0 6) fun cs17 =>
      chk (List.all ([(.agg cs17)] : List PV) (fun p : PV => p.cells.length == 6)) <|
      chk ((6 == 6) && (6 == 6) && !(false) && roomy (@List.length PV xs2 + @List.length PV [(.agg cs17)]) 48 && !(48 == 0)) <|
      rec9 [(.sl 6 (xs2 ++ [(.agg cs17)])), (.sl 1 xs4), (I n6), (I (wr (n8 + 1)))]) <|
    chk (List.all (xs2 : List PV) PV.flat) <|
    some [(.sl 6 xs2)]) [(.sl 6 []), (.sl 1 [(Sg (bs [48, 48, 48, 48, 48])), (Sg (bs [48, 48, 48, 48, 48, 115])), (Sg (bs [50, 50, 50, 50, 50])), (Sg (bs [49, 48, 48, 48, 48])), (Sg (bs [49, 48, 50, 50, 50])), (Sg (bs [48, 48, 50, 50, 50]))]), (I (@List.length PV [(Sg (bs [48, 48, 48, 48, 48])), (Sg (bs [48, 48, 48, 48, 48, 115])), (Sg (bs [50, 50, 50, 50, 50])), (Sg (bs [49, 48, 48, 48, 48])), (Sg (bs [49, 48, 50, 50, 50])), (Sg (bs [48, 48, 50, 50, 50]))] : Int)), (I 0)]
theorem t109 (FU : Nat) (C : Oracle) (ps : List PV) : bodyK Bk FU C Tryz.f109 i109 ps = s109 FU C ps := by kernel_rfl
theorem c109 {FU m : Nat} {ps rs : List PV} (h : s109 FU (callN (Bk.env FU) m) ps = some rs) : callN (Bk.env FU) (m + 1) 109 ps = some rs :=
  call_of (i := i109) (fn := Tryz.f109) (by kernel_rfl) (by kernel_rfl) (by kernel_rfl) ((t109 _ _ _).trans h)

/-- (impl.Orient).mirrored -/
noncomputable def s110 (_FU : Nat) (C : Oracle) (ps : List PV) : R :=
  popA ps fun cs2 r1 =>
  popN r1 <|
  optI .i64 (cs2[0]?) fun n3 =>
  optI .i64 (applyPV C Bk.S (.fn 141 [] []) [(I n3)]) fun n4 =>
  optI .i64 (cs2[1]?) fun n5 =>
  optI .i64 (applyPV C Bk.S (.fn 141 [] []) [(I n5)]) fun n6 =>
  optC (fillL [(0, 1, (I n4)), (1, 1, (I n6))] [I 0, I 0]) fun cs7 =>
  optC (putPart [I 0, I 0] 0 2 (.agg cs7)) fun cs8 =>
  optA (partA cs8 0 2) fun cs9 =>
  chk (List.all cs9 PV.isV) <|
  some [(.agg cs9)]
theorem t110 (FU : Nat) (C : Oracle) (ps : List PV) : bodyK Bk FU C Tryz.f110 i110 ps = s110 FU C ps := by kernel_rfl
theorem c110 {FU m : Nat} {ps rs : List PV} (h : s110 FU (callN (Bk.env FU) m) ps = some rs) : callN (Bk.env FU) (m + 1) 110 ps = some rs :=
  call_of (i := i110) (fn := Tryz.f110) (by kernel_rfl) (by kernel_rfl) (by kernel_rfl) ((t110 _ _ _).trans h)

/-- (impl.Move).all -/
noncomputable def s111 (_FU : Nat) (C : Oracle) (ps : List PV) : R :=
  popA ps fun cs2 r1 =>
  popN r1 <|
  optS (cs2[0]?) fun s3 =>
  optI .i64 (cs2[1]?) fun n4 =>
  optC (C 142 [(Sg s3), (I n4)]) fun rs5 =>
  popS rs5 fun s7 r6 =>
  popN r6 <|
  some [(Sg s7)]
theorem t111 (FU : Nat) (C : Oracle) (ps : List PV) : bodyK Bk FU C Tryz.f111 i111 ps = s111 FU C ps := by kernel_rfl
theorem c111 {FU m : Nat} {ps rs : List PV} (h : s111 FU (callN (Bk.env FU) m) ps = some rs) : callN (Bk.env FU) (m + 1) 111 ps = some rs :=
  call_of (i := i111) (fn := Tryz.f111) (by kernel_rfl) (by kernel_rfl) (by kernel_rfl) ((t111 _ _ _).trans h)

/-- (impl.Orient).text -/
noncomputable def s113 (_FU : Nat) (_C : Oracle) (ps : List PV) : R :=
  popA ps fun cs2 r1 =>
  popN r1 <|
  optI .i64 (cs2[0]?) fun n3 =>
  optI .i64 (cs2[0]?) fun n4 =>
  chk (within n3 (wr (n4 + 1)) (bs [117, 100, 108, 114, 102, 98]).size) <|
  optI .i64 (cs2[1]?) fun n5 =>
  optI .i64 (cs2[1]?) fun n6 =>
  chk (within n5 (wr (n6 + 1)) (bs [117, 100, 108, 114, 102, 98]).size) <|
  optS (binPV none false .add (Sg (ByteArray.extract (bs [117, 100, 108, 114, 102, 98]) (Int.toNat n3) (Int.toNat (wr (n4 + 1))))) (Sg (ByteArray.extract (bs [117, 100, 108, 114, 102, 98]) (Int.toNat n5) (Int.toNat (wr (n6 + 1)))))) fun s7 =>
  some [(Sg s7)]
theorem t113 (FU : Nat) (C : Oracle) (ps : List PV) : bodyK Bk FU C Tryz.f113 i113 ps = s113 FU C ps := by kernel_rfl
theorem c113 {FU m : Nat} {ps rs : List PV} (h : s113 FU (callN (Bk.env FU) m) ps = some rs) : callN (Bk.env FU) (m + 1) 113 ps = some rs :=
  call_of (i := i113) (fn := Tryz.f113) (by kernel_rfl) (by kernel_rfl) (by kernel_rfl) ((t113 _ _ _).trans h)

/-- spec.l1All -/
noncomputable def s115 (FU : Nat) (C : Oracle) (ps : List PV) : R :=
  popLz 1 ps fun xs2 r1 =>
  popI .i64 r1 fun n4 r3 =>
  popI .i64 r3 fun n6 r5 =>
  popN r5 <|
  iterK FU (fun rec17 vs =>
    popI .i64 vs fun n8 r7 =>
    popI .i64 r7 fun n10 r9 =>
    popLz 1 r9 fun xs12 r11 =>
    popI .i64 r11 fun n14 r13 =>
    popI .i64 r13 fun n16 r15 =>
    popN r15 <|
    cond (decide ((n16 : Int) < n14)) (
      chk ((1 == 1) && decide ((0 : Int) ≤ n16)) <|
      optP xs12[Int.toNat n16]? fun x18 =>
      optI .i64 (x18.cells[0]?) fun n19 =>
      optC (C 71 [(I n19), (I n8), (I n10)]) fun rs20 =>
      popB rs20 fun b22 r21 =>
      popN r21 <|
      cond (!b22) (
        some [(B false)]) <|
      rec17 [(I n8), (I n10), (.sl 1 xs12), (I n14), (I (wr (n16 + 1)))]) <|
    some [(B true)]) [(I n4), (I n6), (.sl 1 xs2), (I (@List.length PV xs2 : Int)), (I 0)]
theorem t115 (FU : Nat) (C : Oracle) (ps : List PV) : bodyK Bk FU C Tryz.f115 i115 ps = s115 FU C ps := by kernel_rfl
theorem c115 {FU m : Nat} {ps rs : List PV} (h : s115 FU (callN (Bk.env FU) m) ps = some rs) : callN (Bk.env FU) (m + 1) 115 ps = some rs :=
  call_of (i := i115) (fn := Tryz.f115) (by kernel_rfl) (by kernel_rfl) (by kernel_rfl) ((t115 _ _ _).trans h)

/-- spec.shFingers -/
noncomputable def s116 (_FU : Nat) (_C : Oracle) (ps : List PV) : R :=
  popA ps fun cs2 r1 =>
  popN r1 <|
  optI .i64 (cs2[1]?) fun n3 =>
  optI .i64 (cs2[2]?) fun n4 =>
  optI .i64 (cs2[3]?) fun n5 =>
  optI .i64 (cs2[4]?) fun n6 =>
  chk (List.all ([(I n3), (I n4), (I n5), (I n6)] : List PV) PV.flat) <|
  some [(.sl 1 [(I n3), (I n4), (I n5), (I n6)])]
theorem t116 (FU : Nat) (C : Oracle) (ps : List PV) : bodyK Bk FU C Tryz.f116 i116 ps = s116 FU C ps := by kernel_rfl
theorem c116 {FU m : Nat} {ps rs : List PV} (h : s116 FU (callN (Bk.env FU) m) ps = some rs) : callN (Bk.env FU) (m + 1) 116 ps = some rs :=
  call_of (i := i116) (fn := Tryz.f116) (by kernel_rfl) (by kernel_rfl) (by kernel_rfl) ((t116 _ _ _).trans h)

/-- spec.shWide -/
noncomputable def s117 (FU : Nat) (C : Oracle) (ps : List PV) : R :=
  popA ps fun cs2 r1 =>
  popN r1 <|
  optA (partA cs2 0 6) fun cs3 =>
  optC (C 116 [(.agg cs3)]) fun rs4 =>
  popLz 1 rs4 fun xs6 r5 =>
  popN r5 <|
  iterK FU (fun rec11 vs =>
    popLz 1 vs fun xs8 r7 =>
    popI .i64 r7 fun n10 r9 =>
    popN r9 <|
    cond (decide ((n10 : Int) < 4)) (
      chk ((1 == 1) && (decide ((0 : Int) ≤ (wr (n10 - 1))) && decide (((wr (n10 - 1)) : Int) < (@List.length PV xs8 : Int)))) <|
      optI .i64 (eltS xs8 (Int.toNat (wr (n10 - 1))) 0) fun n12 =>
      cond ((n12 : Int) == 0) (
        chk ((1 == 1) && (decide ((0 : Int) ≤ n10) && decide ((n10 : Int) < (@List.length PV xs8 : Int)))) <|
        optI .i64 (eltS xs8 (Int.toNat n10) 0) fun n13 =>
        cond ((n13 : Int) == 0) (
          some [(B true)]) <|
        rec11 [(.sl 1 xs8), (I (wr (n10 + 1)))]) <|
      rec11 [(.sl 1 xs8), (I (wr (n10 + 1)))]) <|
    some [(B false)]) [(.sl 1 xs6), (I 1)]
theorem t117 (FU : Nat) (C : Oracle) (ps : List PV) : bodyK Bk FU C Tryz.f117 i117 ps = s117 FU C ps := by kernel_rfl
theorem c117 {FU m : Nat} {ps rs : List PV} (h : s117 FU (callN (Bk.env FU) m) ps = some rs) : callN (Bk.env FU) (m + 1) 117 ps = some rs :=
  call_of (i := i117) (fn := Tryz.f117) (by kernel_rfl) (by kernel_rfl) (by kernel_rfl) ((t117 _ _ _).trans h)

/-- spec.orDir -/
noncomputable def s118 (_FU : Nat) (C : Oracle) (ps : List PV) : R :=
  popI .i64 ps fun n2 r1 =>
  popN r1 <|
  optC (C 71 [(I n2), (I 0), (I 5)]) fun rs3 =>
  popB rs3 fun b5 r4 =>
  popN r4 <|
  some [(B b5)]
theorem t118 (FU : Nat) (C : Oracle) (ps : List PV) : bodyK Bk FU C Tryz.f118 i118 ps = s118 FU C ps := by kernel_rfl
theorem c118 {FU m : Nat} {ps rs : List PV} (h : s118 FU (callN (Bk.env FU) m) ps = some rs) : callN (Bk.env FU) (m + 1) 118 ps = some rs :=
  call_of (i := i118) (fn := Tryz.f118) (by kernel_rfl) (by kernel_rfl) (by kernel_rfl) ((t118 _ _ _).trans h)

/-- spec.orOpposite -/
noncomputable def s119 (_FU : Nat) (_C : Oracle) (ps : List PV) : R :=
  popI .i64 ps fun n2 r1 =>
  popN r1 <|
  optI .i64 (binPV none false .rem (I n2) (I 2)) fun n3 =>
  cond ((n3 : Int) == 0) (
    some [(I (wr (n2 + 1)))]) <|
  some [(I (wr (n2 - 1)))]
theorem t119 (FU : Nat) (C : Oracle) (ps : List PV) : bodyK Bk FU C Tryz.f119 i119 ps = s119 FU C ps := by kernel_rfl
theorem c119 {FU m : Nat} {ps rs : List PV} (h : s119 FU (callN (Bk.env FU) m) ps = some rs) : callN (Bk.env FU) (m + 1) 119 ps = some rs :=
  call_of (i := i119) (fn := Tryz.f119) (by kernel_rfl) (by kernel_rfl) (by kernel_rfl) ((t119 _ _ _).trans h)

/-- spec.plAll -/
noncomputable def s120 (FU : Nat) (C : Oracle) (ps : List PV) : R :=
  popN ps <|
  iterK FU (fun rec5 vs =>
    popLz 3 vs fun xs2 r1 =>
    popI .i64 r1 fun n4 r3 =>
    popN r3 <|
    cond (decide ((n4 : Int) < 10)) (
      iterK FU (fun rec12 vs =>
        popLz 3 vs fun xs7 r6 =>
        popI .i64 r6 fun n9 r8 =>
        popI .i64 r8 fun n11 r10 =>
        popN r10 <|
        cond (decide ((n11 : Int) ≤ 1)) (
          iterK FU (fun rec25 vs =>
            popLz 3 vs fun xs14 r13 =>
            popI .i64 r13 fun n16 r15 =>
            popI .i64 r15 fun n18 r17 =>
            popLz 1 r17 fun xs20 r19 =>
            popI .i64 r19 fun n22 r21 =>
            popI .i64 r21 fun n24 r23 =>
            popN r23 <|
            cond (decide ((n24 : Int) < n22)) (
              chk ((1 == 1) && (decide ((0 : Int) ≤ n24) && decide ((n24 : Int) < (@List.length PV xs20 : Int)))) <|
              optB (eltS xs20 (Int.toNat n24) 0) fun b26 =>
              optC (fillL [(0, 1, (I n16)), (1, 1, (I n18)), (2, 1, (B b26))] [I 0, I 0, B false]) fun cs27 =>
              optC (putPart [I 0, I 0, B false] 0 3 (.agg cs27)) fun cs28 =>
              optA (partA cs28 0 3) fun cs29 =>
              optC (C 78 [(.agg cs29)]) fun rs30 =>
              popB rs30 fun b32 r31 =>
              popN r31 <|
              cond b32 (
                optA (partA cs28 0 3) fun cs33 =>
                chk (List.all ([(.agg cs33)] : List PV) (fun p : PV => p.cells.length == 3)) <|
                chk ((3 == 3) && (3 == 3) && !(false) && roomy (@List.length PV xs14 + @List.length PV [(.agg cs33)]) 24 && !(24 == 0)) <|
                rec25 [(.sl 3 (xs14 ++ [(.agg cs33)])), (I n16), (I n18), (.sl 1 xs20), (I n22), (I (wr (n24 + 1)))]) <|
              rec25 [(.sl 3 xs14), (I n16), (I n18), (.sl 1 xs20), (I n22), (I (wr (n24 + 1)))]) <|
            rec12 [(.sl 3 xs14), (I n16), (I (wr (n18 + 1)))]) [(.sl 3 xs7), (I n9), (I n11), (.sl 1 [(B false), (B true)]), (I (@List.length PV [(B false), (B true)] : Int)), (I 0)]) <|
        rec5 [(.sl 3 xs7), (I (wr (n9 + 1)))]) [(.sl 3 xs2), (I n4), (I (-1))]) <|
    chk (List.all (xs2 : List PV) PV.flat) <|
    some [(.sl 3 xs2)]) [(.sl 3 []), (I 0)]
theorem t120 (FU : Nat) (C : Oracle) (ps : List PV) : bodyK Bk FU C Tryz.f120 i120 ps = s120 FU C ps := by kernel_rfl
theorem c120 {FU m : Nat} {ps rs : List PV} (h : s120 FU (callN (Bk.env FU) m) ps = some rs) : callN (Bk.env FU) (m + 1) 120 ps = some rs :=
  call_of (i := i120) (fn := Tryz.f120) (by kernel_rfl) (by kernel_rfl) (by kernel_rfl) ((t120 _ _ _).trans h)

/-- spec.l1Read -/
noncomputable def s121 (FU : Nat) (C : Oracle) (ps : List PV) : R :=
  popS ps fun s2 r1 =>
  popN r1 <|
  joinK (fun vs =>
    popS vs fun s9 r8 =>
    popN r8 <|
    iterK FU (fun rec16 vs =>
      popS vs fun s11 r10 =>
      popI .i64 r10 fun n13 r12 =>
      popI .i64 r12 fun n15 r14 =>
      popN r14 <|
      cond (decide ((n15 : Int) < (s11.size : Int))) (
        optI .u8 (strAt s11 n15) fun n17 =>
        cond (decide ((n17 : Int) < 48)) (
          some [(I (-1))]) <|
        optI .u8 (strAt s11 n15) fun n18 =>
        cond (decide ((n18 : Int) > 57)) (
          some [(I (-1))]) <|
        optI .u8 (strAt s11 n15) fun n19 =>
        rec16 [(Sg s11), (I (wr ((wr (10 * n13)) + (IntKind.wrap .i64 (IntKind.wrap .u8 (n19 - 48)))))), (I (wr (n15 + 1)))]) <|
      some [(I n13)]) [(Sg s9), (I 0), (I 0)]) fun j3 =>
  optC (C 71 [(I (s2.size : Int)), (I 1), (I 6)]) fun rs4 =>
  popB rs4 fun b6 r5 =>
  popN r5 <|
  cond (!b6) (
    some [(I (-1))]) <|
  optI .u8 (strAt s2 0) fun n7 =>
  cond ((n7 : Int) == 48) (
    cond (decide (((s2.size : Int) : Int) > 1)) (
      some [(I (-1))]) <|
    j3 [(Sg s2)]) <|
  j3 [(Sg s2)]
theorem t121 (FU : Nat) (C : Oracle) (ps : List PV) : bodyK Bk FU C Tryz.f121 i121 ps = s121 FU C ps := by kernel_rfl
theorem c121 {FU m : Nat} {ps rs : List PV} (h : s121 FU (callN (Bk.env FU) m) ps = some rs) : callN (Bk.env FU) (m + 1) 121 ps = some rs :=
  call_of (i := i121) (fn := Tryz.f121) (by kernel_rfl) (by kernel_rfl) (by kernel_rfl) ((t121 _ _ _).trans h)

/-- spec.mvSteps -/
noncomputable def s122 (FU : Nat) (C : Oracle) (ps : List PV) : R :=
  popS ps fun s2 r1 =>
  popN r1 <|
  iterK FU (fun rec7 vs =>
    popS vs fun s4 r3 =>
    popI .i64 r3 fun n6 r5 =>
    popN r5 <|
    cond (decide ((n6 : Int) < (s4.size : Int))) (
      optI .u8 (strAt s4 n6) fun n8 =>
      optC (C 146 [(.v (.int .u8 n8))]) fun rs9 =>
      popI .i64 rs9 fun n11 r10 =>
      popN r10 <|
      cond (decide ((n11 : Int) < 0)) (
        some [(B false)]) <|
      rec7 [(Sg s4), (I (wr (n6 + 1)))]) <|
    some [(B true)]) [(Sg s2), (I 0)]
theorem t122 (FU : Nat) (C : Oracle) (ps : List PV) : bodyK Bk FU C Tryz.f122 i122 ps = s122 FU C ps := by kernel_rfl
theorem c122 {FU m : Nat} {ps rs : List PV} (h : s122 FU (callN (Bk.env FU) m) ps = some rs) : callN (Bk.env FU) (m + 1) 122 ps = some rs :=
  call_of (i := i122) (fn := Tryz.f122) (by kernel_rfl) (by kernel_rfl) (by kernel_rfl) ((t122 _ _ _).trans h)

/-- spec.orSwap -/
noncomputable def s123 (_FU : Nat) (C : Oracle) (ps : List PV) : R :=
  popI .i64 ps fun n2 r1 =>
  popN r1 <|
  cond ((n2 : Int) == 2) (
    optC (C 119 [(I n2)]) fun rs3 =>
    popI .i64 rs3 fun n5 r4 =>
    popN r4 <|
    some [(I n5)]) <|
  cond ((n2 : Int) == 3) (
    optC (C 119 [(I n2)]) fun rs6 =>
    popI .i64 rs6 fun n8 r7 =>
    popN r7 <|
    some [(I n8)]) <|
  some [(I n2)]
theorem t123 (FU : Nat) (C : Oracle) (ps : List PV) : bodyK Bk FU C Tryz.f123 i123 ps = s123 FU C ps := by kernel_rfl
theorem c123 {FU m : Nat} {ps rs : List PV} (h : s123 FU (callN (Bk.env FU) m) ps = some rs) : callN (Bk.env FU) (m + 1) 123 ps = some rs :=
  call_of (i := i123) (fn := Tryz.f123) (by kernel_rfl) (by kernel_rfl) (by kernel_rfl) ((t123 _ _ _).trans h)

/-- spec.mvTimes -/
noncomputable def s124 (FU : Nat) (_C : Oracle) (ps : List PV) : R :=
  popS ps fun s2 r1 =>
  popI .i64 r1 fun n4 r3 =>
  popN r3 <|
  iterK FU (fun rec11 vs =>
    popS vs fun s6 r5 =>
    popI .i64 r5 fun n8 r7 =>
    popS r7 fun s10 r9 =>
    popN r9 <|
    cond (decide ((n8 : Int) > 0)) (
      optS (binPV none false .add (Sg s10) (Sg s6)) fun s12 =>
      rec11 [(Sg s6), (I (wr (n8 - 1))), (Sg s12)]) <|
    some [(Sg s10)]) [(Sg s2), (I n4), (Sg (bs []))]
theorem t124 (FU : Nat) (C : Oracle) (ps : List PV) : bodyK Bk FU C Tryz.f124 i124 ps = s124 FU C ps := by kernel_rfl
theorem c124 {FU m : Nat} {ps rs : List PV} (h : s124 FU (callN (Bk.env FU) m) ps = some rs) : callN (Bk.env FU) (m + 1) 124 ps = some rs :=
  call_of (i := i124) (fn := Tryz.f124) (by kernel_rfl) (by kernel_rfl) (by kernel_rfl) ((t124 _ _ _).trans h)

/-- (impl.Shape).maySpread -/
noncomputable def s127 (_FU : Nat) (_C : Oracle) (ps : List PV) : R :=
  popA ps fun cs2 r1 =>
  popN r1 <|
  optI .i64 (cs2[2]?) fun n3 =>
  cond ((n3 : Int) == 0) (
    optI .i64 (cs2[1]?) fun n4 =>
    cond ((n4 : Int) == 0) (
      some [(B true)]) <|
    optI .i64 (cs2[3]?) fun n5 =>
    cond ((n5 : Int) == 0) (
      some [(B true)]) <|
    optI .i64 (cs2[3]?) fun n6 =>
    cond ((n6 : Int) == 0) (
      optI .i64 (cs2[4]?) fun n7 =>
      some [(B ((n7 : Int) == 0))]) <|
    some [(B false)]) <|
  optI .i64 (cs2[3]?) fun n8 =>
  cond ((n8 : Int) == 0) (
    optI .i64 (cs2[4]?) fun n9 =>
    some [(B ((n9 : Int) == 0))]) <|
  some [(B false)]
theorem t127 (FU : Nat) (C : Oracle) (ps : List PV) : bodyK Bk FU C Tryz.f127 i127 ps = s127 FU C ps := by kernel_rfl
theorem c127 {FU m : Nat} {ps rs : List PV} (h : s127 FU (callN (Bk.env FU) m) ps = some rs) : callN (Bk.env FU) (m + 1) 127 ps = some rs :=
  call_of (i := i127) (fn := Tryz.f127) (by kernel_rfl) (by kernel_rfl) (by kernel_rfl) ((t127 _ _ _).trans h)

/-- impl.allWithin -/
noncomputable def s128 (_FU : Nat) (C : Oracle) (ps : List PV) : R :=
  popLz 1 ps fun xs2 r1 =>
  popI .i64 r1 fun n4 r3 =>
  popI .i64 r3 fun n6 r5 =>
  popN r5 <|
  optC (C 148 [(.sl 1 xs2), (.fn 149 [] [(.box [(I n4)] 0), (.box [(I n6)] 0)])]) fun rs7 =>
  popB rs7 fun b9 r8 =>
  popN r8 <|
  some [(B (!b9))]
theorem t128 (FU : Nat) (C : Oracle) (ps : List PV) : bodyK Bk FU C Tryz.f128 i128 ps = s128 FU C ps := by kernel_rfl
theorem c128 {FU m : Nat} {ps rs : List PV} (h : s128 FU (callN (Bk.env FU) m) ps = some rs) : callN (Bk.env FU) (m + 1) 128 ps = some rs :=
  call_of (i := i128) (fn := Tryz.f128) (by kernel_rfl) (by kernel_rfl) (by kernel_rfl) ((t128 _ _ _).trans h)

/-- (impl.Shape).bends -/
noncomputable def s129 (_FU : Nat) (_C : Oracle) (ps : List PV) : R :=
  popA ps fun cs2 r1 =>
  popN r1 <|
  optI .i64 (cs2[1]?) fun n3 =>
  optI .i64 (cs2[2]?) fun n4 =>
  optI .i64 (cs2[3]?) fun n5 =>
  optI .i64 (cs2[4]?) fun n6 =>
  chk (List.all ([(I n3), (I n4), (I n5), (I n6)] : List PV) PV.flat) <|
  some [(.sl 1 [(I n3), (I n4), (I n5), (I n6)])]
theorem t129 (FU : Nat) (C : Oracle) (ps : List PV) : bodyK Bk FU C Tryz.f129 i129 ps = s129 FU C ps := by kernel_rfl
theorem c129 {FU m : Nat} {ps rs : List PV} (h : s129 FU (callN (Bk.env FU) m) ps = some rs) : callN (Bk.env FU) (m + 1) 129 ps = some rs :=
  call_of (i := i129) (fn := Tryz.f129) (by kernel_rfl) (by kernel_rfl) (by kernel_rfl) ((t129 _ _ _).trans h)

/-- impl.hasOnly -/
noncomputable def s132 (FU : Nat) (C : Oracle) (ps : List PV) : R :=
  popS ps fun s2 r1 =>
  popS r1 fun s4 r3 =>
  popN r3 <|
  iterK FU (fun rec13 vs =>
    popS vs fun s6 r5 =>
    popS r5 fun s8 r7 =>
    popI .i64 r7 fun n10 r9 =>
    popI .i64 r9 fun n12 r11 =>
    popN r11 <|
    cond (decide ((n12 : Int) < n10)) (
      optI .u8 (strAt s6 n12) fun n14 =>
      optC (C 68 [(Sg s8), (.v (.int .u8 n14))]) fun rs15 =>
      popI .i64 rs15 fun n17 r16 =>
      popN r16 <|
      cond (decide ((n17 : Int) < 0)) (
        some [(B false)]) <|
      rec13 [(Sg s6), (Sg s8), (I n10), (I (wr (n12 + 1)))]) <|
    some [(B true)]) [(Sg s2), (Sg s4), (I (s2.size : Int)), (I 0)]
theorem t132 (FU : Nat) (C : Oracle) (ps : List PV) : bodyK Bk FU C Tryz.f132 i132 ps = s132 FU C ps := by kernel_rfl
theorem c132 {FU m : Nat} {ps rs : List PV} (h : s132 FU (callN (Bk.env FU) m) ps = some rs) : callN (Bk.env FU) (m + 1) 132 ps = some rs :=
  call_of (i := i132) (fn := Tryz.f132) (by kernel_rfl) (by kernel_rfl) (by kernel_rfl) ((t132 _ _ _).trans h)

/-- spec.l1Num -/
noncomputable def s133 (_FU : Nat) (C : Oracle) (ps : List PV) : R :=
  popI .i64 ps fun n2 r1 =>
  popN r1 <|
  cond (decide ((n2 : Int) < 10)) (
    optC (bytesOf [(.v (.int .u8 (IntKind.wrap .u8 (wr (48 + n2)))))]) fun s3 =>
    some [(Sg s3)]) <|
  optI .i64 (binPV none false .quo (I n2) (I 10)) fun n4 =>
  optC (C 133 [(I n4)]) fun rs5 =>
  popS rs5 fun s7 r6 =>
  popN r6 <|
  optI .i64 (binPV none false .rem (I n2) (I 10)) fun n8 =>
  optC (bytesOf [(.v (.int .u8 (IntKind.wrap .u8 (wr (48 + n8)))))]) fun s9 =>
  optS (binPV none false .add (Sg s7) (Sg s9)) fun s10 =>
  some [(Sg s10)]
theorem t133 (FU : Nat) (C : Oracle) (ps : List PV) : bodyK Bk FU C Tryz.f133 i133 ps = s133 FU C ps := by kernel_rfl
theorem c133 {FU m : Nat} {ps rs : List PV} (h : s133 FU (callN (Bk.env FU) m) ps = some rs) : callN (Bk.env FU) (m + 1) 133 ps = some rs :=
  call_of (i := i133) (fn := Tryz.f133) (by kernel_rfl) (by kernel_rfl) (by kernel_rfl) ((t133 _ _ _).trans h)

/-- spec.plNames -/
noncomputable def s134 (_FU : Nat) (_C : Oracle) (ps : List PV) : R :=
  popN ps <|
  chk (List.all ([(Sg (bs [115, 112, 97, 99, 101])), (Sg (bs [104, 101, 97, 100])), (Sg (bs [101, 121, 101])), (Sg (bs [99, 104, 101, 101, 107])), (Sg (bs [109, 111, 117, 116, 104])), (Sg (bs [99, 104, 105, 110])), (Sg (bs [110, 101, 99, 107])), (Sg (bs [99, 104, 101, 115, 116])), (Sg (bs [119, 97, 105, 115, 116])), (Sg (bs [104, 105, 112]))] : List PV) PV.flat) <|
  some [(.sl 1 [(Sg (bs [115, 112, 97, 99, 101])), (Sg (bs [104, 101, 97, 100])), (Sg (bs [101, 121, 101])), (Sg (bs [99, 104, 101, 101, 107])), (Sg (bs [109, 111, 117, 116, 104])), (Sg (bs [99, 104, 105, 110])), (Sg (bs [110, 101, 99, 107])), (Sg (bs [99, 104, 101, 115, 116])), (Sg (bs [119, 97, 105, 115, 116])), (Sg (bs [104, 105, 112]))])]
theorem t134 (FU : Nat) (C : Oracle) (ps : List PV) : bodyK Bk FU C Tryz.f134 i134 ps = s134 FU C ps := by kernel_rfl
theorem c134 {FU m : Nat} {ps rs : List PV} (h : s134 FU (callN (Bk.env FU) m) ps = some rs) : callN (Bk.env FU) (m + 1) 134 ps = some rs :=
  call_of (i := i134) (fn := Tryz.f134) (by kernel_rfl) (by kernel_rfl) (by kernel_rfl) ((t134 _ _ _).trans h)

/-- slices.Index[[]impl.Shape,impl.Shape] -/
noncomputable def s140 (FU : Nat) (_C : Oracle) (ps : List PV) : R :=
  popLz 6 ps fun xs2 r1 =>
  popA r1 fun cs4 r3 =>
  popN r3 <|
  iterK FU (fun rec13 vs =>
    popLz 6 vs fun xs6 r5 =>
    popA r5 fun cs8 r7 =>
    popI .i64 r7 fun n10 r9 =>
    popI .i64 r9 fun n12 r11 =>
    popN r11 <|
    cond (decide ((n12 : Int) < n10)) (
      optA (partA cs8 0 6) fun cs14 =>
      chk ((6 == 6) && decide ((0 : Int) ≤ n12)) <|
      optP xs6[Int.toNat n12]? fun x15 =>
      optA (partA x15.cells 0 6) fun cs16 =>
      optB (binPV (Bk.EQ 23) false .eql (.agg cs14) (.agg cs16)) fun b17 =>
      cond b17 (
        some [(I n12)]) <|
      rec13 [(.sl 6 xs6), (.agg cs8), (I n10), (I (wr (n12 + 1)))]) <|
    some [(I (-1))]) [(.sl 6 xs2), (.agg cs4), (I (@List.length PV xs2 : Int)), (I 0)]
theorem t140 (FU : Nat) (C : Oracle) (ps : List PV) : bodyK Bk FU C Tryz.f140 i140 ps = s140 FU C ps := by kernel_rfl
theorem c140 {FU m : Nat} {ps rs : List PV} (h : s140 FU (callN (Bk.env FU) m) ps = some rs) : callN (Bk.env FU) (m + 1) 140 ps = some rs :=
  call_of (i := i140) (fn := Tryz.f140) (by kernel_rfl) (by kernel_rfl) (by kernel_rfl) ((t140 _ _ _).trans h)

/-- (impl.Orient).mirrored$1 -/
noncomputable def s141 (_FU : Nat) (_C : Oracle) (ps : List PV) : R :=
  popI .i64 ps fun n2 r1 =>
  popN r1 <|
  cond ((n2 : Int) == 2) (
    some [(I (IntKind.wrap .i64 (BitVec.ofInt (IntKind.bits .i64) n2 ^^^ BitVec.ofInt (IntKind.bits .i64) 1).toNat))]) <|
  cond ((n2 : Int) == 3) (
    some [(I (IntKind.wrap .i64 (BitVec.ofInt (IntKind.bits .i64) n2 ^^^ BitVec.ofInt (IntKind.bits .i64) 1).toNat))]) <|
  some [(I n2)]
theorem t141 (FU : Nat) (C : Oracle) (ps : List PV) : bodyK Bk FU C Tryz.f141 i141 ps = s141 FU C ps := by kernel_rfl
theorem c141 {FU m : Nat} {ps rs : List PV} (h : s141 FU (callN (Bk.env FU) m) ps = some rs) : callN (Bk.env FU) (m + 1) 141 ps = some rs :=
  call_of (i := i141) (fn := Tryz.f141) (by kernel_rfl) (by kernel_rfl) (by kernel_rfl) ((t141 _ _ _).trans h)

/-- spec.mvIndex -/
noncomputable def s146 (FU : Nat) (C : Oracle) (ps : List PV) : R :=
  popI .u8 ps fun n2 r1 =>
  popN r1 <|
  iterK FU (fun rec7 vs =>
    popI .u8 vs fun n4 r3 =>
    popI .i64 r3 fun n6 r5 =>
    popN r5 <|
    optC (C 159 []) fun rs8 =>
    popS rs8 fun s10 r9 =>
    popN r9 <|
    cond (decide ((n6 : Int) < (s10.size : Int))) (
      optC (C 159 []) fun rs11 =>
      popS rs11 fun s13 r12 =>
      popN r12 <|
      optI .u8 (strAt s13 n6) fun n14 =>
      cond ((n14 : Int) == n4) (
        some [(I n6)]) <|
      rec7 [(.v (.int .u8 n4)), (I (wr (n6 + 1)))]) <|
    some [(I (-1))]) [(.v (.int .u8 n2)), (I 0)]
theorem t146 (FU : Nat) (C : Oracle) (ps : List PV) : bodyK Bk FU C Tryz.f146 i146 ps = s146 FU C ps := by kernel_rfl
theorem c146 {FU m : Nat} {ps rs : List PV} (h : s146 FU (callN (Bk.env FU) m) ps = some rs) : callN (Bk.env FU) (m + 1) 146 ps = some rs :=
  call_of (i := i146) (fn := Tryz.f146) (by kernel_rfl) (by kernel_rfl) (by kernel_rfl) ((t146 _ _ _).trans h)

/-- slices.ContainsFunc[[]int,int] -/
noncomputable def s148 (_FU : Nat) (C : Oracle) (ps : List PV) : R :=
  popLz 1 ps fun xs2 r1 =>
  popP r1 fun p4 r3 =>
  popN r3 <|
  optC (C 160 [(.sl 1 xs2), p4]) fun rs5 =>
  popI .i64 rs5 fun n7 r6 =>
  popN r6 <|
  some [(B (decide ((n7 : Int) ≥ 0)))]
theorem t148 (FU : Nat) (C : Oracle) (ps : List PV) : bodyK Bk FU C Tryz.f148 i148 ps = s148 FU C ps := by kernel_rfl
theorem c148 {FU m : Nat} {ps rs : List PV} (h : s148 FU (callN (Bk.env FU) m) ps = some rs) : callN (Bk.env FU) (m + 1) 148 ps = some rs :=
  call_of (i := i148) (fn := Tryz.f148) (by kernel_rfl) (by kernel_rfl) (by kernel_rfl) ((t148 _ _ _).trans h)

/-- impl.allWithin$1 -/
noncomputable def s149 (_FU : Nat) (C : Oracle) (ps : List PV) : R :=
  popI .i64 ps fun n2 r1 =>
  popX r1 fun cs4 r3 =>
  popX r3 fun cs6 r5 =>
  popN r5 <|
  optI .i64 (cs4[0]?) fun n7 =>
  optI .i64 (cs6[0]?) fun n8 =>
  optC (C 85 [(I n2), (I n7), (I n8)]) fun rs9 =>
  popB rs9 fun b11 r10 =>
  popN r10 <|
  some [(B (!b11))]
theorem t149 (FU : Nat) (C : Oracle) (ps : List PV) : bodyK Bk FU C Tryz.f149 i149 ps = s149 FU C ps := by kernel_rfl
theorem c149 {FU m : Nat} {ps rs : List PV} (h : s149 FU (callN (Bk.env FU) m) ps = some rs) : callN (Bk.env FU) (m + 1) 149 ps = some rs :=
  call_of (i := i149) (fn := Tryz.f149) (by kernel_rfl) (by kernel_rfl) (by kernel_rfl) ((t149 _ _ _).trans h)

/-- spec.mvLetters -/
noncomputable def s159 (_FU : Nat) (_C : Oracle) (ps : List PV) : R :=
  popN ps <|
  some [(Sg (bs [117, 100, 108, 114, 102, 98]))]
theorem t159 (FU : Nat) (C : Oracle) (ps : List PV) : bodyK Bk FU C Tryz.f159 i159 ps = s159 FU C ps := by kernel_rfl
theorem c159 {FU m : Nat} {ps rs : List PV} (h : s159 FU (callN (Bk.env FU) m) ps = some rs) : callN (Bk.env FU) (m + 1) 159 ps = some rs :=
  call_of (i := i159) (fn := Tryz.f159) (by kernel_rfl) (by kernel_rfl) (by kernel_rfl) ((t159 _ _ _).trans h)

/-- slices.IndexFunc[[]int,int] -/
noncomputable def s160 (FU : Nat) (C : Oracle) (ps : List PV) : R :=
  popLz 1 ps fun xs2 r1 =>
  popP r1 fun p4 r3 =>
  popN r3 <|
  iterK FU (fun rec13 vs =>
    popLz 1 vs fun xs6 r5 =>
    popP r5 fun p8 r7 =>
    popI .i64 r7 fun n10 r9 =>
    popI .i64 r9 fun n12 r11 =>
    popN r11 <|
    cond (decide ((n12 : Int) < n10)) (
      chk ((1 == 1) && decide ((0 : Int) ≤ n12)) <|
      optP xs6[Int.toNat n12]? fun x14 =>
      optI .i64 (x14.cells[0]?) fun n15 =>
      optB (applyPV C Bk.S p8 [(I n15)]) fun b16 =>
      cond b16 (
        some [(I n12)]) <|
      rec13 [(.sl 1 xs6), p8, (I n10), (I (wr (n12 + 1)))]) <|
    some [(I (-1))]) [(.sl 1 xs2), p4, (I (@List.length PV xs2 : Int)), (I 0)]
theorem t160 (FU : Nat) (C : Oracle) (ps : List PV) : bodyK Bk FU C Tryz.f160 i160 ps = s160 FU C ps := by kernel_rfl
theorem c160 {FU m : Nat} {ps rs : List PV} (h : s160 FU (callN (Bk.env FU) m) ps = some rs) : callN (Bk.env FU) (m + 1) 160 ps = some rs :=
  call_of (i := i160) (fn := Tryz.f160) (by kernel_rfl) (by kernel_rfl) (by kernel_rfl) ((t160 _ _ _).trans h)

end Go.Proofs.YtajjinfjfiacbaaGreatDoor
end

section
/- All texts. -/

end
