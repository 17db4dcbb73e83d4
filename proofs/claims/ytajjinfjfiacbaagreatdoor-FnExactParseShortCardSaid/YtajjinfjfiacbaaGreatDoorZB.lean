/- The tables of the program's types and functions for the evaluator. Made by a program of ours (emit.py). -/
import Derived.Test.YtajjinfjfiacbaaGreatDoorZE34
import Derived.Test.YtajjinfjfiacbaaGreatDoorProg
set_option linter.unusedSectionVars false
set_option linter.unusedVariables false
set_option linter.unusedSimpArgs false
set_option linter.unnecessarySimpa false
namespace Go.Proofs.YtajjinfjfiacbaaGreatDoor
open Go Go.Evp

/-- laws.FnExactImportSign -/
noncomputable def i3 : FInfo := ⟨⟨[.val, .val], [.flat]⟩, .z, [.str, .str], [.bool]⟩
/-- laws.FnExactParseShort -/
noncomputable def i4 : FInfo := ⟨⟨[.val], [.flat]⟩, .z, [.str], [.bool]⟩
/-- laws.FnExactParseSigns -/
noncomputable def i5 : FInfo := ⟨⟨[.val], [.flat]⟩, .z, [.str], [.bool]⟩
/-- spec.ImportSign -/
noncomputable def i6 : FInfo := ⟨⟨[.val, .val], [.flat, .flat]⟩, (.n .z (.n .z (.n .z (.n .z (.s ⟨[(4, .var 2), (8, .var 3)], 4⟩ [.agg, .agg] .z .z))))), [.str, .str], [.agg, .bool]⟩
/-- impl.ImportSign -/
noncomputable def i7 : FInfo := ⟨⟨[.val, .val], [.flat, .flat]⟩, .z, [.str, .str], [.agg, .bool]⟩
/-- laws.eqSign -/
noncomputable def i8 : FInfo := ⟨⟨[.val, .val], [.flat]⟩, .z, [.agg, .agg], [.bool]⟩
/-- spec.ParseShort -/
noncomputable def i9 : FInfo := ⟨⟨[.val], [.flat, .flat]⟩, (.n .z (.n .z (.n .z (.n .z (.s ⟨[(0, .v), (2, .var 1), (4, .own 2), (5, .v)], 3⟩ [.str, .agg, .sl 1, .str] (.n .z (.n (.n .z (.n .z (.n (.n .z (.b (.l ⟨[(0, .v), (2, .var 1), (4, .own 2), (5, .v), (6, .own 3), (7, .own 4), (42, .al 4 0), (43, .v), (44, .v)], 5⟩ [.str, .agg, .sl 1, .str, .sl 1, .sl 1, .slz, .int .i64, .int .i64] .z))) .z))) .z)) .z))))), [.str], [.agg, .bool]⟩
/-- impl.ParseShort -/
noncomputable def i10 : FInfo := ⟨⟨[.val], [.flat, .flat]⟩, (.n .z (.n .z (.n .z (.s ⟨[(0, .v), (2, .var 1), (4, .v)], 2⟩ [.str, .agg, .str] (.n .z (.n (.n .z (.n .z (.n (.n .z (.b (.l ⟨[(0, .v), (2, .var 1), (4, .v), (7, .own 2), (8, .own 3), (38, .al 2 0), (39, .v), (40, .v)], 4⟩ [.str, .agg, .str, .sl 1, .sl 1, .slz, .int .i64, .int .i64] .z))) .z))) .z)) .z)))), [.str], [.agg, .bool]⟩
/-- spec.ParseSigns -/
noncomputable def i11 : FInfo := ⟨⟨[.val], [.own, .flat]⟩, (.n .z (.n .z (.n .z (.n .z (.n (.n .z (.b (.l ⟨[(5, .own 1), (34, .v), (35, .v), (36, .v)], 2⟩ [.sl 27, .sl 1, .int .i64, .int .i64] .z))) .z))))), [.str], [.sl 27, .bool]⟩
/-- laws.eqSignS -/
noncomputable def i13 : FInfo := ⟨⟨[.val, .val], [.flat]⟩, (.n .z (.n .z (.n (.n .z (.b (.l ⟨[(0, .v), (1, .v), (5, .v)], 2⟩ [.sl 27, .sl 27, .int .i64] .z))) .z))), [.sl 27, .sl 27], [.bool]⟩
/-- laws.markSignS -/
noncomputable def i14 : FInfo := ⟨⟨[.islc, .val], [.flat]⟩, (.n .z (.n (.n .z (.b (.l ⟨[(0, .own 0), (1, .v), (5, .v)], 2⟩ [.sl 27, .int .i64, .int .i64] .z))) .z)), [.sl 27, .int .i64], [.int .i64, .sl 27]⟩
/-- laws.heldSignS -/
noncomputable def i15 : FInfo := ⟨⟨[.val, .val], [.flat]⟩, (.n .z (.n (.n .z (.b (.l ⟨[(0, .v), (1, .v), (5, .v)], 2⟩ [.sl 27, .int .i64, .int .i64] .z))) .z)), [.sl 27, .int .i64], [.int .i64]⟩
/-- spec.imGiven -/
noncomputable def i16 : FInfo := ⟨⟨[.val], [.flat]⟩, .z, [.str], [.bool]⟩
/-- spec.imRead -/
noncomputable def i17 : FInfo := ⟨⟨[.val], [.flat, .flat]⟩, (.n .z (.n .z (.n .z (.n .z (.n (.n .z (.b (.l ⟨[(2, .var 1), (8, .var 2), (9, .v), (25, .own 3), (26, .v), (27, .v)], 4⟩ [.agg, .agg, .int .i64, .sl 1, .int .i64, .int .i64] .z))) .z))))), [.str], [.agg, .int .i64]⟩
/-- spec.siGood -/
noncomputable def i18 : FInfo := ⟨⟨[.val], [.flat]⟩, .z, [.agg], [.bool]⟩
/-- impl.OneHand -/
noncomputable def i20 : FInfo := ⟨⟨[.val], [.flat, .flat]⟩, .z, [.agg], [.agg, .bool]⟩
/-- impl.TwoHands -/
noncomputable def i21 : FInfo := ⟨⟨[.val, .val], [.flat, .flat]⟩, .z, [.agg, .agg], [.agg, .bool]⟩
/-- laws.eqHand -/
noncomputable def i22 : FInfo := ⟨⟨[.val, .val], [.flat]⟩, .z, [.agg, .agg], [.bool]⟩
/-- spec.paGiven -/
noncomputable def i23 : FInfo := ⟨⟨[.val], [.flat]⟩, .z, [.str], [.bool]⟩
/-- spec.l1Split -/
noncomputable def i24 : FInfo := ⟨⟨[.val, .val], [.own]⟩, (.n .z (.n .z (.n .z (.n (.n .z (.b (.l ⟨[(0, .v), (1, .v), (5, .own 2), (6, .v), (7, .v)], 3⟩ [.str, .int .u8, .sl 1, .int .i64, .int .i64] .z))) .z)))), [.str, .int .u8], [.sl 1]⟩
/-- spec.paParse -/
noncomputable def i25 : FInfo := ⟨⟨[.val], [.flat, .flat, .flat]⟩, .z, [.str], [.agg, .int .i64, .int .i64]⟩
/-- spec.paShort -/
noncomputable def i26 : FInfo := ⟨⟨[.val], [.flat]⟩, (.n .z (.n .z (.n .z (.n .z (.n (.n .z (.b (.l ⟨[(3, .own 1), (5, .v), (25, .own 2), (26, .v), (27, .v)], 3⟩ [.sl 1, .str, .sl 1, .int .i64, .int .i64] (.n .z (.n .z (.n (.b (.n .z (.s ⟨[(3, .own 1), (5, .v), (6, .v), (7, .v), (25, .own 2), (26, .v), (27, .v)], 3⟩ [.sl 1, .str, .int .i64, .str, .sl 1, .int .i64, .int .i64] .z (.s ⟨[(3, .own 1), (5, .v), (7, .v), (25, .own 2), (26, .v), (27, .v)], 3⟩ [.sl 1, .str, .str, .sl 1, .int .i64, .int .i64] .z .z)))) .z)))))) .z))))), [.agg], [.str]⟩
/-- strings.Cut -/
noncomputable def i27 : FInfo := ⟨⟨[.val, .val], [.flat, .flat, .flat]⟩, .z, [.str, .str], [.str, .str, .bool]⟩
/-- impl.readSign -/
noncomputable def i30 : FInfo := ⟨⟨[.val], [.flat, .flat, .flat]⟩, .z, [.str], [.agg, .int .i64, .int .i64]⟩
/-- (impl.Sign).short -/
noncomputable def i31 : FInfo := ⟨⟨[.val], [.flat]⟩, (.n .z (.n .z (.n .z (.n (.n .z (.b (.l ⟨[(1, .var 1), (3, .own 2), (20, .own 3), (21, .v), (22, .v)], 4⟩ [.agg, .sl 1, .sl 1, .int .i64, .int .i64] .z))) .z)))), [.agg], [.str]⟩
/-- laws.markText -/
noncomputable def i36 : FInfo := ⟨⟨[.val], [.flat]⟩, (.n .z (.n .z (.n .z (.n (.b (.l ⟨[(0, .v), (3, .v)], 1⟩ [.int .i64, .str] .z)) .z)))), [.int .i64], [.str]⟩
/-- spec.shParse -/
noncomputable def i37 : FInfo := ⟨⟨[.val], [.flat, .flat]⟩, (.n .z (.s ⟨[(0, .v), (2, .var 1)], 2⟩ [.str, .agg] .z (.n .z (.n (.n .z (.b (.l ⟨[(0, .v), (2, .var 1), (4, .own 2), (5, .v)], 3⟩ [.str, .agg, .sl 1, .int .i64] .z))) .z)))), [.str], [.agg, .bool]⟩
/-- spec.orParse -/
noncomputable def i38 : FInfo := ⟨⟨[.val], [.flat, .flat]⟩, .z, [.str], [.agg, .bool]⟩
/-- spec.imPart -/
noncomputable def i39 : FInfo := ⟨⟨[.iptr, .val], [.flat]⟩, (.n .z (.n .z (.n .z (.n (.n .z (.b (.n .z (.n .z (.n .z (.n .z (.n .z (.n (.n .z (.s ⟨[(0, .var 0), (10, .var 2), (11, .v)], 3⟩ [.agg, .agg, .bool] .z .z)) .z)))))))) .z)))), [.agg, .str], [.int .i64, .agg]⟩
/-- spec.siHand -/
noncomputable def i40 : FInfo := ⟨⟨[.val], [.flat]⟩, .z, [.agg], [.bool]⟩
/-- spec.siBroken -/
noncomputable def i41 : FInfo := ⟨⟨[.val, .val], [.flat]⟩, (.n .z (.n (.n .z (.n (.n .z (.n (.n .z (.b (.l ⟨[(3, .var 2), (16, .own 3), (17, .v), (18, .v)], 4⟩ [.agg, .sl 6, .int .i64, .int .i64] .z))) .z)) .z)) .z)), [.agg, .agg], [.int .i64]⟩
/-- impl.readHand -/
noncomputable def i42 : FInfo := ⟨⟨[.val], [.flat, .flat, .flat]⟩, (.n .z (.n .z (.n .z (.n .z (.n .z (.n .z (.n .z (.n .z (.n .z (.n .z (.n (.n .z (.b (.l ⟨[(2, .var 1), (5, .own 2), (6, .var 3), (8, .v), (53, .v), (54, .v)], 4⟩ [.agg, .sl 1, .agg, .int .i64, .agg, .int .i64] .z))) .z))))))))))), [.str], [.agg, .int .i64, .int .i64]⟩
/-- impl.ParseShape -/
noncomputable def i44 : FInfo := ⟨⟨[.val], [.flat, .flat]⟩, (.n .z (.n .z (.n .z (.n (.n .z (.b (.l ⟨[(0, .v), (2, .var 1), (4, .var 2), (11, .v)], 3⟩ [.str, .agg, .agg, .int .i64] .z))) .z)))), [.str], [.agg, .bool]⟩
/-- impl.ParseOrient -/
noncomputable def i45 : FInfo := ⟨⟨[.val], [.flat, .flat]⟩, .z, [.str], [.agg, .bool]⟩
/-- impl.ParsePlace -/
noncomputable def i46 : FInfo := ⟨⟨[.val], [.flat, .flat]⟩, (.n .z (.n (.n .z (.b (.l ⟨[(0, .v), (2, .var 1), (7, .v)], 2⟩ [.str, .agg, .int .i64] .z))) .z)), [.str], [.agg, .bool]⟩
/-- impl.ParseMove -/
noncomputable def i48 : FInfo := ⟨⟨[.val], [.flat, .flat]⟩, (.n .z (.n .z (.n .z (.s ⟨[(0, .v), (2, .var 1), (7, .var 2)], 3⟩ [.str, .agg, .agg] .z (.s ⟨[(0, .v), (2, .var 1), (7, .var 2)], 3⟩ [.str, .agg, .agg] .z .z))))), [.str], [.agg, .bool]⟩
/-- impl.IsHand -/
noncomputable def i49 : FInfo := ⟨⟨[.val], [.flat]⟩, .z, [.agg], [.bool]⟩
/-- impl.IsSign -/
noncomputable def i50 : FInfo := ⟨⟨[.val], [.flat]⟩, .z, [.agg], [.bool]⟩
/-- laws.eqShape -/
noncomputable def i51 : FInfo := ⟨⟨[.val, .val], [.flat]⟩, .z, [.agg, .agg], [.bool]⟩
/-- laws.eqOrient -/
noncomputable def i52 : FInfo := ⟨⟨[.val, .val], [.flat]⟩, .z, [.agg, .agg], [.bool]⟩
/-- laws.eqPlace -/
noncomputable def i53 : FInfo := ⟨⟨[.val, .val], [.flat]⟩, .z, [.agg, .agg], [.bool]⟩
/-- laws.eqMove -/
noncomputable def i54 : FInfo := ⟨⟨[.val, .val], [.flat]⟩, .z, [.agg, .agg], [.bool]⟩
/-- spec.paHand -/
noncomputable def i55 : FInfo := ⟨⟨[.val], [.flat, .flat, .flat]⟩, .z, [.str], [.agg, .int .i64, .int .i64]⟩
/-- spec.paText -/
noncomputable def i56 : FInfo := ⟨⟨[.val], [.flat]⟩, .z, [.agg], [.str]⟩
/-- spec.siText -/
noncomputable def i57 : FInfo := ⟨⟨[.val], [.flat]⟩, .z, [.agg], [.str]⟩
/-- internal/stringslite.Cut -/
noncomputable def i58 : FInfo := ⟨⟨[.val, .val], [.flat, .flat, .flat]⟩, .z, [.str, .str], [.str, .str, .bool]⟩
/-- impl.keepRules -/
noncomputable def i64 : FInfo := ⟨⟨[.val, .val], [.flat]⟩, (.n .z (.n .z (.s ⟨[(2, .var 2), (3, .var 3), (5, .v)], 4⟩ [.agg, .agg, .bool] .z (.s ⟨[(2, .var 2), (3, .var 3), (5, .v), (6, .v)], 4⟩ [.agg, .agg, .bool, .bool] .z .z)))), [.agg, .agg], [.bool]⟩
/-- (impl.Hand).text -/
noncomputable def i65 : FInfo := ⟨⟨[.val], [.flat]⟩, .z, [.agg], [.str]⟩
/-- (impl.Hand).same -/
noncomputable def i66 : FInfo := ⟨⟨[.val, .val], [.own]⟩, .z, [.agg, .agg], [.sl 1]⟩
/-- spec.l1In -/
noncomputable def i71 : FInfo := ⟨⟨[.val, .val, .val], [.flat]⟩, .z, [.int .i64, .int .i64, .int .i64], [.bool]⟩
/-- spec.shGood -/
noncomputable def i72 : FInfo := ⟨⟨[.val], [.flat]⟩, .z, [.agg], [.bool]⟩
/-- spec.orLetter -/
noncomputable def i73 : FInfo := ⟨⟨[.val], [.flat]⟩, (.n .z (.n (.n .z (.b (.l ⟨[(0, .v), (3, .v)], 1⟩ [.int .u8, .int .i64] .z))) .z)), [.int .u8], [.int .i64]⟩
/-- spec.orGood -/
noncomputable def i74 : FInfo := ⟨⟨[.val], [.flat]⟩, .z, [.agg], [.bool]⟩
/-- spec.imPlaces -/
noncomputable def i75 : FInfo := ⟨⟨[.val], [.flat, .flat]⟩, (.n .z (.n (.n .z (.b (.l ⟨[(0, .v), (2, .var 1), (6, .own 2), (7, .v), (8, .v)], 3⟩ [.str, .agg, .sl 1, .int .i64, .int .i64] .z))) .z)), [.str], [.agg, .bool]⟩
/-- spec.plParse -/
noncomputable def i76 : FInfo := ⟨⟨[.val], [.flat, .flat]⟩, (.n .z (.n (.n .z (.b (.l ⟨[(0, .v), (2, .var 1), (6, .own 2), (7, .v), (8, .v)], 3⟩ [.str, .agg, .sl 3, .int .i64, .int .i64] .z))) .z)), [.str], [.agg, .bool]⟩
/-- spec.mvParse -/
noncomputable def i77 : FInfo := ⟨⟨[.val], [.flat, .flat]⟩, (.n .z (.n .z (.n .z (.s ⟨[(0, .v), (2, .var 1), (4, .own 2), (5, .var 3)], 4⟩ [.str, .agg, .sl 1, .agg] .z (.s ⟨[(0, .v), (2, .var 1), (4, .own 2), (5, .var 3)], 4⟩ [.str, .agg, .sl 1, .agg] .z .z))))), [.str], [.agg, .bool]⟩
/-- spec.plGood -/
noncomputable def i78 : FInfo := ⟨⟨[.val], [.flat]⟩, .z, [.agg], [.bool]⟩
/-- spec.mvGood -/
noncomputable def i79 : FInfo := ⟨⟨[.val], [.flat]⟩, .z, [.agg], [.bool]⟩
/-- spec.siPlain -/
noncomputable def i80 : FInfo := ⟨⟨[], [.own]⟩, (.n .z (.n .z (.n (.n .z (.b (.l ⟨[(1, .own 0), (6, .own 1), (7, .v), (8, .v)], 2⟩ [.sl 6, .sl 1, .int .i64, .int .i64] .z))) .z))), [], [.sl 6]⟩
/-- spec.orMirror -/
noncomputable def i81 : FInfo := ⟨⟨[.val], [.flat]⟩, .z, [.agg], [.agg]⟩
/-- spec.mvAll -/
noncomputable def i82 : FInfo := ⟨⟨[.val], [.flat]⟩, .z, [.agg], [.str]⟩
/-- spec.mvMirror -/
noncomputable def i83 : FInfo := ⟨⟨[.val], [.flat]⟩, (.n .z (.n .z (.n (.n .z (.b (.l ⟨[(1, .var 1), (2, .var 2), (3, .v), (4, .v)], 3⟩ [.agg, .agg, .str, .int .i64] .z))) .z))), [.agg], [.agg]⟩
/-- impl.within -/
noncomputable def i85 : FInfo := ⟨⟨[.val, .val, .val], [.flat]⟩, .z, [.int .i64, .int .i64, .int .i64], [.bool]⟩
/-- (impl.Shape).with -/
noncomputable def i86 : FInfo := ⟨⟨[.val, .val, .val], [.flat]⟩, (.n .z (.s ⟨[(3, .var 3), (6, .var 4)], 5⟩ [.agg, .agg] .z .z)), [.agg, .int .i64, .int .i64], [.agg]⟩
/-- impl.IsShape -/
noncomputable def i87 : FInfo := ⟨⟨[.val], [.flat]⟩, .z, [.agg], [.bool]⟩
/-- (impl.Shape).text -/
noncomputable def i88 : FInfo := ⟨⟨[.val], [.flat]⟩, (.n .z (.n .z (.n (.n .z (.b (.l ⟨[(1, .var 1), (3, .v), (10, .own 2), (11, .v), (12, .v)], 3⟩ [.agg, .str, .sl 1, .int .i64, .int .i64] .z))) .z))), [.agg], [.str]⟩
/-- impl.IsOrient -/
noncomputable def i89 : FInfo := ⟨⟨[.val], [.flat]⟩, .z, [.agg], [.bool]⟩
/-- impl.PlaceOfCode -/
noncomputable def i90 : FInfo := ⟨⟨[.val], [.flat, .flat]⟩, .z, [.int .i64], [.agg, .bool]⟩
/-- (impl.Place).text -/
noncomputable def i91 : FInfo := ⟨⟨[.val], [.flat]⟩, .z, [.agg], [.str]⟩
/-- impl.IsMove -/
noncomputable def i93 : FInfo := ⟨⟨[.val], [.flat]⟩, .z, [.agg], [.bool]⟩
/-- (impl.Move).text -/
noncomputable def i94 : FInfo := ⟨⟨[.val], [.flat]⟩, .z, [.agg], [.str]⟩
/-- impl.IsPlace -/
noncomputable def i95 : FInfo := ⟨⟨[.val], [.flat]⟩, .z, [.agg], [.bool]⟩
/-- spec.shText -/
noncomputable def i96 : FInfo := ⟨⟨[.val], [.flat]⟩, (.n .z (.n .z (.n (.n .z (.b (.l ⟨[(1, .var 1), (3, .v), (10, .own 2), (11, .v), (12, .v)], 3⟩ [.agg, .str, .sl 1, .int .i64, .int .i64] .z))) .z))), [.agg], [.str]⟩
/-- spec.orText -/
noncomputable def i97 : FInfo := ⟨⟨[.val], [.flat]⟩, .z, [.agg], [.str]⟩
/-- spec.plText -/
noncomputable def i98 : FInfo := ⟨⟨[.val], [.flat]⟩, (.n .z (.n .z (.s ⟨[(1, .var 1), (3, .v)], 2⟩ [.agg, .str] .z .z))), [.agg], [.str]⟩
/-- spec.mvText -/
noncomputable def i99 : FInfo := ⟨⟨[.val], [.flat]⟩, .z, [.agg], [.str]⟩
/-- (impl.Hand).moves -/
noncomputable def i107 : FInfo := ⟨⟨[.val], [.flat]⟩, .z, [.agg], [.bool]⟩
/-- slices.Contains[[]impl.Shape,impl.Shape] -/
noncomputable def i108 : FInfo := ⟨⟨[.val, .val], [.flat]⟩, .z, [.sl 6, .agg], [.bool]⟩
/-- impl.PlainShapes -/
noncomputable def i109 : FInfo := ⟨⟨[], [.own]⟩, (.n .z (.n .z (.n (.n .z (.b (.l ⟨[(1, .own 0), (6, .own 1), (7, .v), (8, .v)], 2⟩ [.sl 6, .sl 1, .int .i64, .int .i64] .z))) .z))), [], [.sl 6]⟩
/-- (impl.Orient).mirrored -/
noncomputable def i110 : FInfo := ⟨⟨[.val], [.flat]⟩, .z, [.agg], [.agg]⟩
/-- (impl.Move).all -/
noncomputable def i111 : FInfo := ⟨⟨[.val], [.flat]⟩, .z, [.agg], [.str]⟩
/-- (impl.Orient).text -/
noncomputable def i113 : FInfo := ⟨⟨[.val], [.flat]⟩, .z, [.agg], [.str]⟩
/-- spec.l1All -/
noncomputable def i115 : FInfo := ⟨⟨[.val, .val, .val], [.flat]⟩, (.n .z (.n (.n .z (.b (.l ⟨[(1, .v), (2, .v), (9, .v), (10, .v), (11, .v)], 3⟩ [.int .i64, .int .i64, .sl 1, .int .i64, .int .i64] .z))) .z)), [.sl 1, .int .i64, .int .i64], [.bool]⟩
/-- spec.shFingers -/
noncomputable def i116 : FInfo := ⟨⟨[.val], [.own]⟩, .z, [.agg], [.sl 1]⟩
/-- spec.shWide -/
noncomputable def i117 : FInfo := ⟨⟨[.val], [.flat]⟩, (.n .z (.n .z (.n (.n .z (.b (.l ⟨[(3, .own 1), (4, .v)], 2⟩ [.sl 1, .int .i64] .z))) .z))), [.agg], [.bool]⟩
/-- spec.orDir -/
noncomputable def i118 : FInfo := ⟨⟨[.val], [.flat]⟩, .z, [.int .i64], [.bool]⟩
/-- spec.orOpposite -/
noncomputable def i119 : FInfo := ⟨⟨[.val], [.flat]⟩, .z, [.int .i64], [.int .i64]⟩
/-- spec.plAll -/
noncomputable def i120 : FInfo := ⟨⟨[], [.own]⟩, (.n .z (.n .z (.n (.n .z (.b (.l ⟨[(1, .own 0), (2, .v)], 1⟩ [.sl 3, .int .i64] (.n .z (.n (.b (.n .z (.b (.l ⟨[(1, .own 0), (2, .v), (3, .v)], 1⟩ [.sl 3, .int .i64, .int .i64] (.n .z (.n (.b (.n .z (.b (.l ⟨[(1, .own 0), (2, .v), (3, .v), (15, .own 1), (16, .v), (17, .v)], 2⟩ [.sl 3, .int .i64, .int .i64, .sl 1, .int .i64, .int .i64] .z)))) .z)))))) .z))))) .z))), [], [.sl 3]⟩
/-- spec.l1Read -/
noncomputable def i121 : FInfo := ⟨⟨[.val], [.flat]⟩, (.n .z (.s ⟨[(0, .v)], 1⟩ [.str] .z (.n .z (.n (.n .z (.b (.l ⟨[(0, .v), (3, .v), (4, .v)], 1⟩ [.str, .int .i64, .int .i64] .z))) .z)))), [.str], [.int .i64]⟩
/-- spec.mvSteps -/
noncomputable def i122 : FInfo := ⟨⟨[.val], [.flat]⟩, (.n .z (.n (.n .z (.b (.l ⟨[(0, .v), (3, .v)], 1⟩ [.str, .int .i64] .z))) .z)), [.str], [.bool]⟩
/-- spec.orSwap -/
noncomputable def i123 : FInfo := ⟨⟨[.val], [.flat]⟩, .z, [.int .i64], [.int .i64]⟩
/-- spec.mvTimes -/
noncomputable def i124 : FInfo := ⟨⟨[.val, .val], [.flat]⟩, (.n .z (.n .z (.n (.b (.l ⟨[(0, .v), (1, .v), (5, .v)], 2⟩ [.str, .int .i64, .str] .z)) .z))), [.str, .int .i64], [.str]⟩
/-- (impl.Shape).maySpread -/
noncomputable def i127 : FInfo := ⟨⟨[.val], [.flat]⟩, .z, [.agg], [.bool]⟩
/-- impl.allWithin -/
noncomputable def i128 : FInfo := ⟨⟨[.val, .val, .val], [.flat]⟩, .z, [.sl 1, .int .i64, .int .i64], [.bool]⟩
/-- (impl.Shape).bends -/
noncomputable def i129 : FInfo := ⟨⟨[.val], [.own]⟩, .z, [.agg], [.sl 1]⟩
/-- impl.hasOnly -/
noncomputable def i132 : FInfo := ⟨⟨[.val, .val], [.flat]⟩, (.n .z (.n (.n .z (.b (.l ⟨[(0, .v), (1, .v), (7, .v), (8, .v)], 2⟩ [.str, .str, .int .i64, .int .i64] .z))) .z)), [.str, .str], [.bool]⟩
/-- spec.l1Num -/
noncomputable def i133 : FInfo := ⟨⟨[.val], [.flat]⟩, .z, [.int .i64], [.str]⟩
/-- spec.plNames -/
noncomputable def i134 : FInfo := ⟨⟨[], [.own]⟩, .z, [], [.sl 1]⟩
/-- slices.Index[[]impl.Shape,impl.Shape] -/
noncomputable def i140 : FInfo := ⟨⟨[.val, .val], [.flat]⟩, (.n .z (.n (.n .z (.b (.l ⟨[(0, .v), (3, .var 2), (7, .v), (8, .v)], 3⟩ [.sl 6, .agg, .int .i64, .int .i64] .z))) .z)), [.sl 6, .agg], [.int .i64]⟩
/-- (impl.Orient).mirrored$1 -/
noncomputable def i141 : FInfo := ⟨⟨[.val], [.flat]⟩, .z, [.int .i64], [.int .i64]⟩
/-- spec.mvIndex -/
noncomputable def i146 : FInfo := ⟨⟨[.val], [.flat]⟩, (.n .z (.n (.n .z (.b (.l ⟨[(0, .v), (3, .v)], 1⟩ [.int .u8, .int .i64] .z))) .z)), [.int .u8], [.int .i64]⟩
/-- slices.ContainsFunc[[]int,int] -/
noncomputable def i148 : FInfo := ⟨⟨[.val, .val], [.flat]⟩, .z, [.sl 1, .any], [.bool]⟩
/-- impl.allWithin$1 -/
noncomputable def i149 : FInfo := ⟨⟨[.val, .val, .val], [.flat]⟩, .z, [.int .i64, .box, .box], [.bool]⟩
/-- spec.mvLetters -/
noncomputable def i159 : FInfo := ⟨⟨[], [.flat]⟩, .z, [], [.str]⟩
/-- slices.IndexFunc[[]int,int] -/
noncomputable def i160 : FInfo := ⟨⟨[.val, .val], [.flat]⟩, (.n .z (.n (.n .z (.b (.l ⟨[(0, .v), (1, .v), (7, .v), (8, .v)], 2⟩ [.sl 1, .any, .int .i64, .int .i64] .z))) .z)), [.sl 1, .any], [.int .i64]⟩
/-- impl.ParseSigns -/
noncomputable def i12 : FInfo := ⟨⟨[.val], [.own, .flat]⟩, .z, [.str], [.sl 27, .bool]⟩
/-- impl.imported -/
noncomputable def i19 : FInfo := ⟨⟨[.val], [.flat, .flat]⟩, .z, [.str], [.agg, .int .i64]⟩
/-- strings.Split -/
noncomputable def i28 : FInfo := ⟨⟨[.val, .val], [.own]⟩, .z, [.str, .str], [.sl 1]⟩
/-- strings.Join -/
noncomputable def i29 : FInfo := ⟨⟨[.val, .val], [.flat]⟩, .z, [.sl 1, .str], [.str]⟩
/-- strings.Count -/
noncomputable def i63 : FInfo := ⟨⟨[.val, .val], [.flat]⟩, .z, [.str, .str], [.int .i64]⟩
/-- strings.IndexByte -/
noncomputable def i68 : FInfo := ⟨⟨[.val, .val], [.flat]⟩, .z, [.str, .int .u8], [.int .i64]⟩
/-- impl.decimal -/
noncomputable def i92 : FInfo := ⟨⟨[.val], [.flat, .flat]⟩, .z, [.str], [.int .i64, .bool]⟩
/-- internal/stringslite.Index -/
noncomputable def i100 : FInfo := ⟨⟨[.val, .val], [.flat]⟩, .z, [.str, .str], [.int .i64]⟩
/-- (impl.Move).mirrored -/
noncomputable def i112 : FInfo := ⟨⟨[.val], [.flat]⟩, .z, [.agg], [.agg]⟩
/-- strconv.Itoa -/
noncomputable def i130 : FInfo := ⟨⟨[.val], [.flat]⟩, .z, [.int .i64], [.str]⟩
/-- strings.Repeat -/
noncomputable def i142 : FInfo := ⟨⟨[.val, .val], [.flat]⟩, .z, [.str, .int .i64], [.str]⟩
noncomputable def Bk : Book where
  P := Tryz.prog
  types := [(3, ⟨1, 8, [.int .i64], .int .i64⟩),
    (4, ⟨1, 1, [.bool], .bool⟩),
    (5, ⟨1, 1, [.int .u8], .int .u8⟩),
    (9, ⟨1, 16, [.str], .str⟩),
    (23, ⟨6, 48, [.int .i64, .int .i64, .int .i64, .int .i64, .int .i64, .bool], .struct [(0, 3), (1, 3), (2, 3), (3, 3), (4, 3), (5, 4)]⟩),
    (25, ⟨2, 16, [.int .i64, .int .i64], .struct [(0, 3), (1, 3)]⟩),
    (27, ⟨3, 24, [.int .i64, .int .i64, .bool], .struct [(0, 3), (1, 3), (2, 4)]⟩),
    (29, ⟨2, 24, [.str, .int .i64], .struct [(0, 9), (1, 3)]⟩),
    (31, ⟨13, 112, [.int .i64, .int .i64, .int .i64, .int .i64, .int .i64, .bool, .int .i64, .int .i64, .int .i64, .int .i64, .bool, .str, .int .i64], .struct [(0, 23), (6, 25), (8, 27), (11, 29)]⟩),
    (33, ⟨27, 232, [.int .i64, .int .i64, .int .i64, .int .i64, .int .i64, .bool, .int .i64, .int .i64, .int .i64, .int .i64, .bool, .str, .int .i64, .bool, .int .i64, .int .i64, .int .i64, .int .i64, .int .i64, .bool, .int .i64, .int .i64, .int .i64, .int .i64, .bool, .str, .int .i64], .struct [(0, 31), (13, 4), (14, 31)]⟩),
    (40, ⟨1, 24, [.slice], .slice 33⟩),
    (51, ⟨1, 24, [.slice], .slice 9⟩),
    (71, ⟨1, 8, [.ptr], .other⟩),
    (88, ⟨1, 24, [.slice], .slice 5⟩),
    (97, ⟨1, 24, [.slice], .slice 4⟩),
    (101, ⟨1, 24, [.slice], .slice 3⟩),
    (107, ⟨1, 24, [.slice], .slice 23⟩),
    (112, ⟨4, 4, [.bool, .bool, .bool, .bool], .array 4 4⟩),
    (131, ⟨1, 8, [.func], .other⟩),
    (132, ⟨1, 8, [.func], .other⟩),
    (133, ⟨1, 24, [.slice], .slice 27⟩),
    (139, ⟨10, 160, [.str, .str, .str, .str, .str, .str, .str, .str, .str, .str], .array 10 9⟩),
    (140, ⟨3, 48, [.str, .str, .str], .array 3 9⟩)]
  eqs := [23, 25, 27, 29, 31]
  infos := [(3, i3), (4, i4), (5, i5), (6, i6), (7, i7), (8, i8), (9, i9), (10, i10), (11, i11), (12, i12), (13, i13), (14, i14), (15, i15), (16, i16), (17, i17), (18, i18), (19, i19), (20, i20), (21, i21), (22, i22), (23, i23), (24, i24), (25, i25), (26, i26), (27, i27), (28, i28), (29, i29), (30, i30), (31, i31), (36, i36), (37, i37), (38, i38), (39, i39), (40, i40), (41, i41), (42, i42), (44, i44), (45, i45), (46, i46), (48, i48), (49, i49), (50, i50), (51, i51), (52, i52), (53, i53), (54, i54), (55, i55), (56, i56), (57, i57), (58, i58), (63, i63), (64, i64), (65, i65), (66, i66), (68, i68), (71, i71), (72, i72), (73, i73), (74, i74), (75, i75), (76, i76), (77, i77), (78, i78), (79, i79), (80, i80), (81, i81), (82, i82), (83, i83), (85, i85), (86, i86), (87, i87), (88, i88), (89, i89), (90, i90), (91, i91), (92, i92), (93, i93), (94, i94), (95, i95), (96, i96), (97, i97), (98, i98), (99, i99), (100, i100), (107, i107), (108, i108), (109, i109), (110, i110), (111, i111), (112, i112), (113, i113), (115, i115), (116, i116), (117, i117), (118, i118), (119, i119), (120, i120), (121, i121), (122, i122), (123, i123), (124, i124), (127, i127), (128, i128), (129, i129), (130, i130), (132, i132), (133, i133), (134, i134), (140, i140), (141, i141), (142, i142), (146, i146), (148, i148), (149, i149), (159, i159), (160, i160)]
  exts := [(28, xSplit), (29, xJoin), (63, xCount), (68, xIndexByte), (92, xDecimal), (100, xIndex), (112, xMirrored), (130, xItoa), (142, xRepeat)]
end Go.Proofs.YtajjinfjfiacbaaGreatDoor
