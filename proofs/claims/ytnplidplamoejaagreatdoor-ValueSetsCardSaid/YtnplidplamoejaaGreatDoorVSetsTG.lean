/- Part of the proof that litmuslaw11.ValueSets answers true for every input. -/
import Derived.Test.YtnplidplamoejaaGreatDoorVSetsTE
import Derived.Test.YtnplidplamoejaaGreatDoorProg
import Derived.IntWalk
set_option linter.unusedVariables false
set_option linter.unusedSimpArgs false
set_option linter.unnecessarySimpa false
namespace Go.Sim
open Go.Proofs
/-- How slices.Insert is read. -/
def AIns : Ann := { base := fun _ => none, mode := fun r i => if (r = 9 ∧ i = 8) ∨ (r = 7 ∧ i = 2) then 1 else 0 }

set_option maxRecDepth 100000 in
set_option maxHeartbeats 4000000 in
theorem insB54 {E : Env} {call : Caller} (k o i len c : Nat) (st : Store) (tok : Option (Nat × Nat)) (cp : Option Nat) (x : AV) (fr : AFr) (hfr : fr.tmps.length = 95)
  (h0 : fr.tmps[0]? = some (.arr 1 o 0 len (some c))) (h1 : fr.tmps[1]? = some (.int .i64 i)) (h2 : fr.tmps[2]? = some (.row 1 tok cp [x])) (hi : i < len) (hc : len + 1 ≤ c) (hsz : sizeT E.L 9 = some 1) (het : elemT E.L 25 = some 9) (hund : E.L.und 25 = some (.slice 9))
  (hb1 : bounds (some (.int .i64 i)) none len c = some (i, len)) (hci : ¬ c = i) (hw : IntKind.i64.wrap ((len : Int) + 1) = len + 1)
  (hcnd1 : ((i : Int) == (len : Int)) = false) (hcnd2 : decide ((len : Int) + 1 > (c : Int)) = false) (h10 : (((1 : Nat) : Int) == 0) = false) (hw1 : IntKind.i64.wrap ((len : Int) + ((1 : Nat) : Int)) = len + 1) (hwi : IntKind.i64.wrap ((i : Int) + ((1 : Nat) : Int)) = ((i + 1 : Nat) : Int))
  (hb3 : bounds (some (.int .i64 ((i + 1 : Nat) : Int))) none (len + 1) c = some (i + 1, len + 1)) (hci1 : ¬ c = i + 1) (hb4 : bounds (some (.int .i64 i)) none (len + 1) c = some (i, len + 1)) (hb2 : bounds none (some (.int .i64 ((len : Int) + 1))) len c = some (0, len + 1)) (hc0 : ¬ c = 0) (hil : ¬ (i : Int) = len) (hlt : ¬ (c : Int) < (len : Int) + 1)
  (hov : call (.func (.func 91) [] []) [.row 1 tok cp [x], .arr 1 o ((i + 1) * 1) (len + 1 - (i + 1)) (some (c - (i + 1)))] st = some (.bool false, st))
  (st1 st2 : Store) (nn mm : AV) (hcp1 : aCopy E.L 25 [.val (.arr 1 o ((i + 1) * 1) (len + 1 - (i + 1)) (some (c - (i + 1)))), .val (.arr 1 o (i * 1) (len + 1 - i) (some (c - i)))] st = some (.val nn, st1))
  (hcp2 : aCopy E.L 25 [.val (.arr 1 o (i * 1) (len + 1 - i) (some (c - i))), .val (.row 1 tok cp [x])] st1 = some (.val mm, st2)) :
  ∃ fr', acode E call AIns 54 k false (Tryz.f54.body.get!) fr st = some (.ret, fr', st2) ∧ fr'.tmps[6]? = some (.arr 1 o 0 (len + 1) (some c)) := by
  generalize hr : acode E call AIns 54 k false (Tryz.f54.body.get!) fr st = r
  try simp only [Nat.mul_one] at hov hcp1 hcp2
  simp (config := { decide := true }) only [Tryz.f54, Option.get!, acode, aops, aWanted, aoper, Op.operands, Call.operands, aevals, aeval, aout, aop, aMove, aput, AIns, absC, h0, h1, h2, aSlice, takeO, sliceV, het, hsz, sliceArr, capOf, hfr, List.getElem?_set, List.length_set, aBuiltin, aLen, hund, lenV, aBin, binV, intV, intOp, aCap, capV,
    decide_false, decide_true, unV, Bool.not_false, aUn, adraw, aopsF, labOp, freeOp, keepOp, freeIns, freeIn, notPtrs,
    Option.map_some, Option.isSome, Option.isNone, List.length_cons, List.length_nil, Nat.reduceEqDiff, Nat.reduceLT, if_true, if_false, reduceIte, Nat.reduceAdd, Bool.false_eq_true, Option.getD_some, Option.some.injEq, reduceCtorEq, and_false, false_and, Array.toList, valsOf, List.getElem?_toArray, List.getElem?_cons_zero, List.getElem?_cons_succ, Option.toArray, List.append_nil, List.nil_append, List.cons_append, Array.toList_append, List.size_toArray, Nat.sub_zero, Nat.zero_mul, Nat.zero_add, Nat.mul_one, Option.getD, List.cons.injEq, Prod.mk.injEq, true_and, and_true, Option.isSome_some, Option.isNone_none, Option.isSome_none, Option.isNone_some,
    hb1, hci, hw, hcnd1, hcnd2, hb2, hc0, hil, hlt, hov, hcp1, hcp2, h10, hw1, hwi, hb3, hci1, hb4] at hr
  subst hr
  refine ⟨_, rfl, ?_⟩
  simp (config := { decide := true }) only [List.getElem?_set, List.length_set, hfr, if_true, if_false, reduceIte, h0]

set_option maxRecDepth 100000 in
set_option maxHeartbeats 4000000 in
theorem insA54 {E : Env} {call : Caller} (k o o2 i len c : Nat) (st : Store) (tok : Option (Nat × Nat)) (cp : Option Nat) (x : AV) (fr : AFr) (hfr : fr.tmps.length = 95)
  (h0 : fr.tmps[0]? = some (.arr 1 o 0 len (some c))) (h1 : fr.tmps[1]? = some (.int .i64 i)) (h2 : fr.tmps[2]? = some (.row 1 tok cp [x])) (hi : i < len) (hsz : sizeT E.L 9 = some 1) (het : elemT E.L 25 = some 9) (hund : E.L.und 25 = some (.slice 9))
  (hb1 : bounds (some (.int .i64 i)) none len c = some (i, len)) (hci : ¬ c = i) (hw : IntKind.i64.wrap ((len : Int) + 1) = len + 1)
  (hcnd1 : ((i : Int) == (len : Int)) = false) (hcnd2 : decide ((len : Int) + 1 > (c : Int)) = true) (h10 : (((1 : Nat) : Int) == 0) = false) (hw1 : IntKind.i64.wrap ((len : Int) + ((1 : Nat) : Int)) = len + 1) (hwi : IntKind.i64.wrap ((i : Int) + ((1 : Nat) : Int)) = ((i + 1 : Nat) : Int)) (hws : IntKind.i64.wrap ((len : Int) + 1 - (i : Int)) = ((len + 1 - i : Nat) : Int))
  (hb3 : bounds (some (.int .i64 ((i + 1 : Nat) : Int))) none (len + 1) (len + 1) = some (i + 1, len + 1)) (hb4 : bounds (some (.int .i64 i)) none (len + 1) (len + 1) = some (i, len + 1)) (hb2 : bounds none (some (.int .i64 (i : Int))) len c = some (0, i)) (hc0 : ¬ c = 0) (hil : ¬ (i : Int) = len) (hlt : (c : Int) < (len : Int) + 1) (hi1 : ¬ i = len + 1) (hi2 : ¬ i = len)
  (st0 st1 st2 : Store) (nn mm : AV) (hap : aAppend E.L 1 25 3 [.val (.arr 1 o 0 i (some c)), .val (.int .i64 ((len + 1 - i : Nat) : Int))] st = some (.val (.arr 1 o2 0 (len + 1) none), st0))
  (hcp1 : aCopy E.L 25 [.val (.arr 1 o2 (i * 1) (len + 1 - i) none), .val (.row 1 tok cp [x])] st0 = some (.val nn, st1))
  (hcp2 : aCopy E.L 25 [.val (.arr 1 o2 ((i + 1) * 1) (len + 1 - (i + 1)) none), .val (.arr 1 o (i * 1) (len - i) (some (c - i)))] st1 = some (.val mm, st2)) :
  ∃ fr', acode E call AIns 54 k false (Tryz.f54.body.get!) fr st = some (.ret, fr', st2) ∧ fr'.tmps[6]? = some (.arr 1 o2 0 (len + 1) none) := by
  generalize hr : acode E call AIns 54 k false (Tryz.f54.body.get!) fr st = r
  try simp only [Nat.mul_one] at hcp1 hcp2
  simp (config := { decide := true }) only [Tryz.f54, Option.get!, acode, aops, aWanted, aoper, Op.operands, Call.operands, aevals, aeval, aout, aop, aMove, aput, AIns, absC, h0, h1, h2, aSlice, takeO, sliceV, het, hsz, sliceArr, capOf, hfr, List.getElem?_set, List.length_set, aBuiltin, aLen, hund, lenV, aBin, binV, intV, intOp, aCap, capV,
    decide_false, decide_true, unV, Bool.not_false, aUn, adraw, aopsF, labOp, freeOp, keepOp, freeIns, freeIn, notPtrs,
    Option.map_some, Option.isSome, Option.isNone, List.length_cons, List.length_nil, Nat.reduceEqDiff, Nat.reduceLT, if_true, if_false, reduceIte, Nat.reduceAdd, Bool.false_eq_true, Option.getD_some, Option.some.injEq, reduceCtorEq, and_false, false_and, Array.toList, valsOf, List.getElem?_toArray, List.getElem?_cons_zero, List.getElem?_cons_succ, Option.toArray, List.append_nil, List.nil_append, List.cons_append, Array.toList_append, List.size_toArray, Nat.sub_zero, Nat.zero_mul, Nat.zero_add, Nat.mul_one, Option.getD, List.cons.injEq, Prod.mk.injEq, true_and, and_true, Option.isSome_some, Option.isNone_none, Option.isSome_none, Option.isNone_some,
    hb1, hci, hw, hcnd1, hcnd2, hb2, hc0, hil, hlt, hap, hcp1, hcp2, h10, hw1, hwi, hws, hb3, hb4, hi1, hi2, Nat.add_right_cancel_iff] at hr
  subst hr
  refine ⟨_, rfl, ?_⟩
  simp (config := { decide := true }) only [List.getElem?_set, List.length_set, hfr, if_true, if_false, reduceIte, h0]

set_option maxRecDepth 100000 in
set_option maxHeartbeats 4000000 in
theorem insE54 {E : Env} {call : Caller} (k o o2 len : Nat) (st : Store) (tok : Option (Nat × Nat)) (cp : Option Nat) (x : AV) (fr : AFr) (hfr : fr.tmps.length = 95)
  (h0 : fr.tmps[0]? = some (.arr 1 o 0 len (some len))) (h1 : fr.tmps[1]? = some (.int .i64 len)) (h2 : fr.tmps[2]? = some (.row 1 tok cp [x])) (hsz : sizeT E.L 9 = some 1) (het : elemT E.L 25 = some 9) (hund : E.L.und 25 = some (.slice 9))
  (hb1 : bounds (some (.int .i64 len)) none len len = some (len, len)) (hcnd1 : ((len : Int) == (len : Int)) = true) (h10 : (((1 : Nat) : Int) == 0) = false)
  (st1 : Store) (r6 : AV) (hap : aAppend E.L 1 25 25 [.val (.arr 1 o 0 len (some len)), .val (.row 1 tok cp [x])] st = some (.val r6, st1)) :
  ∃ fr', acode E call AIns 54 k false (Tryz.f54.body.get!) fr st = some (.ret, fr', st1) ∧ fr'.tmps[6]? = some r6 := by
  generalize hr : acode E call AIns 54 k false (Tryz.f54.body.get!) fr st = r
  simp (config := { decide := true }) only [Tryz.f54, Option.get!, acode, aops, aWanted, aoper, Op.operands, Call.operands, aevals, aeval, aout, aop, aMove, aput, AIns, absC, h0, h1, h2, aSlice, takeO, sliceV, het, hsz, sliceArr, capOf, hfr, List.getElem?_set, List.length_set, aBuiltin, aLen, hund, lenV, aBin, binV, intV, intOp, aCap, capV,
    decide_false, decide_true, unV, Bool.not_false, aUn, adraw, aopsF, labOp, freeOp, keepOp, freeIns, freeIn, notPtrs,
    Option.map_some, Option.isSome, Option.isNone, List.length_cons, List.length_nil, Nat.reduceEqDiff, Nat.reduceLT, if_true, if_false, reduceIte, Nat.reduceAdd, Bool.false_eq_true, Option.getD_some, Option.some.injEq, reduceCtorEq, and_false, false_and, Array.toList, valsOf, List.getElem?_toArray, List.getElem?_cons_zero, List.getElem?_cons_succ, Option.toArray, List.append_nil, List.nil_append, List.cons_append, Array.toList_append, List.size_toArray, Nat.sub_zero, Nat.zero_mul, Nat.zero_add, Nat.mul_one, Option.getD, List.cons.injEq, Prod.mk.injEq, true_and, and_true, Option.isSome_some, Option.isNone_none, Option.isSome_none, Option.isNone_some,
    hb1, hcnd1, hap, h10] at hr
  subst hr
  refine ⟨_, rfl, ?_⟩
  simp (config := { decide := true }) only [List.getElem?_set, List.length_set, hfr, if_true, if_false, reduceIte, h0]

set_option maxRecDepth 100000 in
set_option maxHeartbeats 4000000 in
theorem insG54 {E : Env} {call : Caller} (k o len c : Nat) (st : Store) (tok : Option (Nat × Nat)) (cp : Option Nat) (x : AV) (fr : AFr) (hfr : fr.tmps.length = 95)
  (h0 : fr.tmps[0]? = some (.arr 1 o 0 len (some c))) (h1 : fr.tmps[1]? = some (.int .i64 len)) (h2 : fr.tmps[2]? = some (.row 1 tok cp [x])) (hsz : sizeT E.L 9 = some 1) (het : elemT E.L 25 = some 9) (hund : E.L.und 25 = some (.slice 9))
  (hb1 : bounds (some (.int .i64 len)) none len c = some (len, len)) (hci : ¬ c = len) (hcnd1 : ((len : Int) == (len : Int)) = true) (h10 : (((1 : Nat) : Int) == 0) = false)
  (st1 : Store) (r6 : AV) (hap : aAppend E.L 1 25 25 [.val (.arr 1 o 0 len (some c)), .val (.row 1 tok cp [x])] st = some (.val r6, st1)) :
  ∃ fr', acode E call AIns 54 k false (Tryz.f54.body.get!) fr st = some (.ret, fr', st1) ∧ fr'.tmps[6]? = some r6 := by
  generalize hr : acode E call AIns 54 k false (Tryz.f54.body.get!) fr st = r
  simp (config := { decide := true }) only [Tryz.f54, Option.get!, acode, aops, aWanted, aoper, Op.operands, Call.operands, aevals, aeval, aout, aop, aMove, aput, AIns, absC, h0, h1, h2, aSlice, takeO, sliceV, het, hsz, sliceArr, capOf, hfr, List.getElem?_set, List.length_set, aBuiltin, aLen, hund, lenV, aBin, binV, intV, intOp, aCap, capV,
    decide_false, decide_true, unV, Bool.not_false, aUn, adraw, aopsF, labOp, freeOp, keepOp, freeIns, freeIn, notPtrs,
    Option.map_some, Option.isSome, Option.isNone, List.length_cons, List.length_nil, Nat.reduceEqDiff, Nat.reduceLT, if_true, if_false, reduceIte, Nat.reduceAdd, Bool.false_eq_true, Option.getD_some, Option.some.injEq, reduceCtorEq, and_false, false_and, Array.toList, valsOf, List.getElem?_toArray, List.getElem?_cons_zero, List.getElem?_cons_succ, Option.toArray, List.append_nil, List.nil_append, List.cons_append, Array.toList_append, List.size_toArray, Nat.sub_zero, Nat.zero_mul, Nat.zero_add, Nat.mul_one, Option.getD, List.cons.injEq, Prod.mk.injEq, true_and, and_true, Option.isSome_some, Option.isNone_none, Option.isSome_none, Option.isNone_some,
    hb1, hci, hcnd1, hap, h10] at hr
  subst hr
  refine ⟨_, rfl, ?_⟩
  simp (config := { decide := true }) only [List.getElem?_set, List.length_set, hfr, if_true, if_false, reduceIte, h0]

set_option maxRecDepth 100000 in
set_option maxHeartbeats 4000000 in
theorem insB55 {E : Env} {call : Caller} (k o i len c : Nat) (st : Store) (tok : Option (Nat × Nat)) (cp : Option Nat) (x : AV) (fr : AFr) (hfr : fr.tmps.length = 95)
  (h0 : fr.tmps[0]? = some (.arr 7 o 0 len (some c))) (h1 : fr.tmps[1]? = some (.int .i64 i)) (h2 : fr.tmps[2]? = some (.row 7 tok cp [x])) (hi : i < len) (hc : len + 1 ≤ c) (hsz : sizeT E.L 28 = some 7) (het : elemT E.L 26 = some 28) (hund : E.L.und 26 = some (.slice 28))
  (hb1 : bounds (some (.int .i64 i)) none len c = some (i, len)) (hci : ¬ c = i) (hw : IntKind.i64.wrap ((len : Int) + 1) = len + 1)
  (hcnd1 : ((i : Int) == (len : Int)) = false) (hcnd2 : decide ((len : Int) + 1 > (c : Int)) = false) (h10 : (((1 : Nat) : Int) == 0) = false) (hw1 : IntKind.i64.wrap ((len : Int) + ((1 : Nat) : Int)) = len + 1) (hwi : IntKind.i64.wrap ((i : Int) + ((1 : Nat) : Int)) = ((i + 1 : Nat) : Int))
  (hb3 : bounds (some (.int .i64 ((i + 1 : Nat) : Int))) none (len + 1) c = some (i + 1, len + 1)) (hci1 : ¬ c = i + 1) (hb4 : bounds (some (.int .i64 i)) none (len + 1) c = some (i, len + 1)) (hb2 : bounds none (some (.int .i64 ((len : Int) + 1))) len c = some (0, len + 1)) (hc0 : ¬ c = 0) (hil : ¬ (i : Int) = len) (hlt : ¬ (c : Int) < (len : Int) + 1)
  (hov : call (.func (.func 93) [] []) [.row 7 tok cp [x], .arr 7 o ((i + 1) * 7) (len + 1 - (i + 1)) (some (c - (i + 1)))] st = some (.bool false, st))
  (st1 st2 : Store) (nn mm : AV) (hcp1 : aCopy E.L 26 [.val (.arr 7 o ((i + 1) * 7) (len + 1 - (i + 1)) (some (c - (i + 1)))), .val (.arr 7 o (i * 7) (len + 1 - i) (some (c - i)))] st = some (.val nn, st1))
  (hcp2 : aCopy E.L 26 [.val (.arr 7 o (i * 7) (len + 1 - i) (some (c - i))), .val (.row 7 tok cp [x])] st1 = some (.val mm, st2)) :
  ∃ fr', acode E call AIns 55 k false (Tryz.f55.body.get!) fr st = some (.ret, fr', st2) ∧ fr'.tmps[6]? = some (.arr 7 o 0 (len + 1) (some c)) := by
  generalize hr : acode E call AIns 55 k false (Tryz.f55.body.get!) fr st = r
  try simp only [Nat.mul_one] at hov hcp1 hcp2
  simp (config := { decide := true }) only [Tryz.f55, Option.get!, acode, aops, aWanted, aoper, Op.operands, Call.operands, aevals, aeval, aout, aop, aMove, aput, AIns, absC, h0, h1, h2, aSlice, takeO, sliceV, het, hsz, sliceArr, capOf, hfr, List.getElem?_set, List.length_set, aBuiltin, aLen, hund, lenV, aBin, binV, intV, intOp, aCap, capV,
    decide_false, decide_true, unV, Bool.not_false, aUn, adraw, aopsF, labOp, freeOp, keepOp, freeIns, freeIn, notPtrs,
    Option.map_some, Option.isSome, Option.isNone, List.length_cons, List.length_nil, Nat.reduceEqDiff, Nat.reduceLT, if_true, if_false, reduceIte, Nat.reduceAdd, Bool.false_eq_true, Option.getD_some, Option.some.injEq, reduceCtorEq, and_false, false_and, Array.toList, valsOf, List.getElem?_toArray, List.getElem?_cons_zero, List.getElem?_cons_succ, Option.toArray, List.append_nil, List.nil_append, List.cons_append, Array.toList_append, List.size_toArray, Nat.sub_zero, Nat.zero_mul, Nat.zero_add, Nat.mul_one, Option.getD, List.cons.injEq, Prod.mk.injEq, true_and, and_true, Option.isSome_some, Option.isNone_none, Option.isSome_none, Option.isNone_some,
    hb1, hci, hw, hcnd1, hcnd2, hb2, hc0, hil, hlt, hov, hcp1, hcp2, h10, hw1, hwi, hb3, hci1, hb4] at hr
  subst hr
  refine ⟨_, rfl, ?_⟩
  simp (config := { decide := true }) only [List.getElem?_set, List.length_set, hfr, if_true, if_false, reduceIte, h0]

set_option maxRecDepth 100000 in
set_option maxHeartbeats 4000000 in
theorem insA55 {E : Env} {call : Caller} (k o o2 i len c : Nat) (st : Store) (tok : Option (Nat × Nat)) (cp : Option Nat) (x : AV) (fr : AFr) (hfr : fr.tmps.length = 95)
  (h0 : fr.tmps[0]? = some (.arr 7 o 0 len (some c))) (h1 : fr.tmps[1]? = some (.int .i64 i)) (h2 : fr.tmps[2]? = some (.row 7 tok cp [x])) (hi : i < len) (hsz : sizeT E.L 28 = some 7) (het : elemT E.L 26 = some 28) (hund : E.L.und 26 = some (.slice 28))
  (hb1 : bounds (some (.int .i64 i)) none len c = some (i, len)) (hci : ¬ c = i) (hw : IntKind.i64.wrap ((len : Int) + 1) = len + 1)
  (hcnd1 : ((i : Int) == (len : Int)) = false) (hcnd2 : decide ((len : Int) + 1 > (c : Int)) = true) (h10 : (((1 : Nat) : Int) == 0) = false) (hw1 : IntKind.i64.wrap ((len : Int) + ((1 : Nat) : Int)) = len + 1) (hwi : IntKind.i64.wrap ((i : Int) + ((1 : Nat) : Int)) = ((i + 1 : Nat) : Int)) (hws : IntKind.i64.wrap ((len : Int) + 1 - (i : Int)) = ((len + 1 - i : Nat) : Int))
  (hb3 : bounds (some (.int .i64 ((i + 1 : Nat) : Int))) none (len + 1) (len + 1) = some (i + 1, len + 1)) (hb4 : bounds (some (.int .i64 i)) none (len + 1) (len + 1) = some (i, len + 1)) (hb2 : bounds none (some (.int .i64 (i : Int))) len c = some (0, i)) (hc0 : ¬ c = 0) (hil : ¬ (i : Int) = len) (hlt : (c : Int) < (len : Int) + 1) (hi1 : ¬ i = len + 1) (hi2 : ¬ i = len)
  (st0 st1 st2 : Store) (nn mm : AV) (hap : aAppend E.L 1 26 3 [.val (.arr 7 o 0 i (some c)), .val (.int .i64 ((len + 1 - i : Nat) : Int))] st = some (.val (.arr 7 o2 0 (len + 1) none), st0))
  (hcp1 : aCopy E.L 26 [.val (.arr 7 o2 (i * 7) (len + 1 - i) none), .val (.row 7 tok cp [x])] st0 = some (.val nn, st1))
  (hcp2 : aCopy E.L 26 [.val (.arr 7 o2 ((i + 1) * 7) (len + 1 - (i + 1)) none), .val (.arr 7 o (i * 7) (len - i) (some (c - i)))] st1 = some (.val mm, st2)) :
  ∃ fr', acode E call AIns 55 k false (Tryz.f55.body.get!) fr st = some (.ret, fr', st2) ∧ fr'.tmps[6]? = some (.arr 7 o2 0 (len + 1) none) := by
  generalize hr : acode E call AIns 55 k false (Tryz.f55.body.get!) fr st = r
  try simp only [Nat.mul_one] at hcp1 hcp2
  simp (config := { decide := true }) only [Tryz.f55, Option.get!, acode, aops, aWanted, aoper, Op.operands, Call.operands, aevals, aeval, aout, aop, aMove, aput, AIns, absC, h0, h1, h2, aSlice, takeO, sliceV, het, hsz, sliceArr, capOf, hfr, List.getElem?_set, List.length_set, aBuiltin, aLen, hund, lenV, aBin, binV, intV, intOp, aCap, capV,
    decide_false, decide_true, unV, Bool.not_false, aUn, adraw, aopsF, labOp, freeOp, keepOp, freeIns, freeIn, notPtrs,
    Option.map_some, Option.isSome, Option.isNone, List.length_cons, List.length_nil, Nat.reduceEqDiff, Nat.reduceLT, if_true, if_false, reduceIte, Nat.reduceAdd, Bool.false_eq_true, Option.getD_some, Option.some.injEq, reduceCtorEq, and_false, false_and, Array.toList, valsOf, List.getElem?_toArray, List.getElem?_cons_zero, List.getElem?_cons_succ, Option.toArray, List.append_nil, List.nil_append, List.cons_append, Array.toList_append, List.size_toArray, Nat.sub_zero, Nat.zero_mul, Nat.zero_add, Nat.mul_one, Option.getD, List.cons.injEq, Prod.mk.injEq, true_and, and_true, Option.isSome_some, Option.isNone_none, Option.isSome_none, Option.isNone_some,
    hb1, hci, hw, hcnd1, hcnd2, hb2, hc0, hil, hlt, hap, hcp1, hcp2, h10, hw1, hwi, hws, hb3, hb4, hi1, hi2, Nat.add_right_cancel_iff] at hr
  subst hr
  refine ⟨_, rfl, ?_⟩
  simp (config := { decide := true }) only [List.getElem?_set, List.length_set, hfr, if_true, if_false, reduceIte, h0]

set_option maxRecDepth 100000 in
set_option maxHeartbeats 4000000 in
theorem insE55 {E : Env} {call : Caller} (k o o2 len : Nat) (st : Store) (tok : Option (Nat × Nat)) (cp : Option Nat) (x : AV) (fr : AFr) (hfr : fr.tmps.length = 95)
  (h0 : fr.tmps[0]? = some (.arr 7 o 0 len (some len))) (h1 : fr.tmps[1]? = some (.int .i64 len)) (h2 : fr.tmps[2]? = some (.row 7 tok cp [x])) (hsz : sizeT E.L 28 = some 7) (het : elemT E.L 26 = some 28) (hund : E.L.und 26 = some (.slice 28))
  (hb1 : bounds (some (.int .i64 len)) none len len = some (len, len)) (hcnd1 : ((len : Int) == (len : Int)) = true) (h10 : (((1 : Nat) : Int) == 0) = false)
  (st1 : Store) (r6 : AV) (hap : aAppend E.L 1 26 26 [.val (.arr 7 o 0 len (some len)), .val (.row 7 tok cp [x])] st = some (.val r6, st1)) :
  ∃ fr', acode E call AIns 55 k false (Tryz.f55.body.get!) fr st = some (.ret, fr', st1) ∧ fr'.tmps[6]? = some r6 := by
  generalize hr : acode E call AIns 55 k false (Tryz.f55.body.get!) fr st = r
  simp (config := { decide := true }) only [Tryz.f55, Option.get!, acode, aops, aWanted, aoper, Op.operands, Call.operands, aevals, aeval, aout, aop, aMove, aput, AIns, absC, h0, h1, h2, aSlice, takeO, sliceV, het, hsz, sliceArr, capOf, hfr, List.getElem?_set, List.length_set, aBuiltin, aLen, hund, lenV, aBin, binV, intV, intOp, aCap, capV,
    decide_false, decide_true, unV, Bool.not_false, aUn, adraw, aopsF, labOp, freeOp, keepOp, freeIns, freeIn, notPtrs,
    Option.map_some, Option.isSome, Option.isNone, List.length_cons, List.length_nil, Nat.reduceEqDiff, Nat.reduceLT, if_true, if_false, reduceIte, Nat.reduceAdd, Bool.false_eq_true, Option.getD_some, Option.some.injEq, reduceCtorEq, and_false, false_and, Array.toList, valsOf, List.getElem?_toArray, List.getElem?_cons_zero, List.getElem?_cons_succ, Option.toArray, List.append_nil, List.nil_append, List.cons_append, Array.toList_append, List.size_toArray, Nat.sub_zero, Nat.zero_mul, Nat.zero_add, Nat.mul_one, Option.getD, List.cons.injEq, Prod.mk.injEq, true_and, and_true, Option.isSome_some, Option.isNone_none, Option.isSome_none, Option.isNone_some,
    hb1, hcnd1, hap, h10] at hr
  subst hr
  refine ⟨_, rfl, ?_⟩
  simp (config := { decide := true }) only [List.getElem?_set, List.length_set, hfr, if_true, if_false, reduceIte, h0]

set_option maxRecDepth 100000 in
set_option maxHeartbeats 4000000 in
theorem insG55 {E : Env} {call : Caller} (k o len c : Nat) (st : Store) (tok : Option (Nat × Nat)) (cp : Option Nat) (x : AV) (fr : AFr) (hfr : fr.tmps.length = 95)
  (h0 : fr.tmps[0]? = some (.arr 7 o 0 len (some c))) (h1 : fr.tmps[1]? = some (.int .i64 len)) (h2 : fr.tmps[2]? = some (.row 7 tok cp [x])) (hsz : sizeT E.L 28 = some 7) (het : elemT E.L 26 = some 28) (hund : E.L.und 26 = some (.slice 28))
  (hb1 : bounds (some (.int .i64 len)) none len c = some (len, len)) (hci : ¬ c = len) (hcnd1 : ((len : Int) == (len : Int)) = true) (h10 : (((1 : Nat) : Int) == 0) = false)
  (st1 : Store) (r6 : AV) (hap : aAppend E.L 1 26 26 [.val (.arr 7 o 0 len (some c)), .val (.row 7 tok cp [x])] st = some (.val r6, st1)) :
  ∃ fr', acode E call AIns 55 k false (Tryz.f55.body.get!) fr st = some (.ret, fr', st1) ∧ fr'.tmps[6]? = some r6 := by
  generalize hr : acode E call AIns 55 k false (Tryz.f55.body.get!) fr st = r
  simp (config := { decide := true }) only [Tryz.f55, Option.get!, acode, aops, aWanted, aoper, Op.operands, Call.operands, aevals, aeval, aout, aop, aMove, aput, AIns, absC, h0, h1, h2, aSlice, takeO, sliceV, het, hsz, sliceArr, capOf, hfr, List.getElem?_set, List.length_set, aBuiltin, aLen, hund, lenV, aBin, binV, intV, intOp, aCap, capV,
    decide_false, decide_true, unV, Bool.not_false, aUn, adraw, aopsF, labOp, freeOp, keepOp, freeIns, freeIn, notPtrs,
    Option.map_some, Option.isSome, Option.isNone, List.length_cons, List.length_nil, Nat.reduceEqDiff, Nat.reduceLT, if_true, if_false, reduceIte, Nat.reduceAdd, Bool.false_eq_true, Option.getD_some, Option.some.injEq, reduceCtorEq, and_false, false_and, Array.toList, valsOf, List.getElem?_toArray, List.getElem?_cons_zero, List.getElem?_cons_succ, Option.toArray, List.append_nil, List.nil_append, List.cons_append, Array.toList_append, List.size_toArray, Nat.sub_zero, Nat.zero_mul, Nat.zero_add, Nat.mul_one, Option.getD, List.cons.injEq, Prod.mk.injEq, true_and, and_true, Option.isSome_some, Option.isNone_none, Option.isSome_none, Option.isNone_some,
    hb1, hci, hcnd1, hap, h10] at hr
  subst hr
  refine ⟨_, rfl, ?_⟩
  simp (config := { decide := true }) only [List.getElem?_set, List.length_set, hfr, if_true, if_false, reduceIte, h0]

end Go.Sim

namespace Go.Sim

def isAgg : AV → Bool
  | .agg _ => true
  | _ => false
/-- Of so many cells, and made of them as its type says. -/
def goodB (L : Look) (e sz : Nat) (y : AV) : Bool := y.cells.length == sz && (match aggT L e with
  | some true => isAgg y
  | some false => !isAgg y && sz == 1
  | none => false)
section
variable {L : Look} {e sz : Nat} {st : Store}

theorem good_len {y : AV} (h : goodB L e sz y = true) : y.cells.length = sz := by
  simp only [goodB, Bool.and_eq_true, beq_iff_eq] at h; exact h.1
theorem good_mk {y : AV} (h : goodB L e sz y = true) : mkT L e y.cells = some y := by
  simp only [goodB, Bool.and_eq_true, beq_iff_eq] at h
  unfold mkT
  obtain ⟨h1, h2⟩ := h
  split at h2
  · rename_i ha
    rw [ha]
    cases y <;> simp [isAgg] at h2
    rfl
  · rename_i ha
    rw [ha]
    cases y <;> simp [isAgg] at h2 <;> rfl
  · cases h2
theorem flat_len {ys : List AV} (h : ∀ y ∈ ys, y.cells.length = sz) : (flat ys).length = ys.length * sz := by
  induction ys with
  | nil => simp [flat]
  | cons y ys ih =>
    have := ih fun z hz => h z (List.mem_cons_of_mem _ hz)
    simp only [flat, List.flatMap_cons, List.length_append, List.length_cons] at this ⊢
    rw [this, h y List.mem_cons_self, Nat.add_mul]; omega
theorem flat_app (a b : List AV) : flat (a ++ b) = flat a ++ flat b := by simp [flat]
theorem elems_flat (hs : sizeT L e = some sz) : ∀ {ys rest : List AV}, (∀ y ∈ ys, goodB L e sz y = true) → elemsOf L e (flat ys ++ rest) ys.length = some ys
  | [], rest, _ => rfl
  | y :: ys, rest, h => by
    have hy := h y List.mem_cons_self
    have hl := good_len hy
    have hc : cut (flat (y :: ys) ++ rest) 0 sz = some y.cells := by
      unfold cut
      rw [if_pos (by simp [flat]; omega)]
      simp [flat, ← hl]
    have hd : (flat (y :: ys) ++ rest).drop sz = flat ys ++ rest := by
      simp only [flat, List.flatMap_cons, List.append_assoc]
      rw [List.drop_append_of_le_length (by omega), List.drop_of_length_le (by omega), List.nil_append]
    simp only [List.length_cons, elemsOf, hs, hc, good_mk hy, hd]
    rw [elems_flat hs fun z hz => h z (List.mem_cons_of_mem _ hz)]
theorem flat_of_elems (hs : sizeT L e = some sz) : ∀ {n : Nat} {cs ys : List AV}, elemsOf L e cs n = some ys → (∀ y ∈ ys, goodB L e sz y = true) → flat ys = cs.take (n * sz) ∧ ys.length = n
  | 0, cs, ys, h, _ => by
    simp only [elemsOf, Option.some.injEq] at h; subst h; simp [flat]
  | n + 1, cs, ys, h, hg => by
    simp only [elemsOf, hs] at h
    split at h
    · cases h
    · rename_i c hc
      split at h
      · rename_i x xs hx hxs
        injection h with h; subst h
        obtain ⟨h1, h2⟩ := flat_of_elems hs hxs fun z hz => hg z (List.mem_cons_of_mem _ hz)
        obtain ⟨hc1, hc2⟩ := cut_some hc
        have hgx := hg x List.mem_cons_self
        have hcx : x.cells = c := by
          unfold mkT at hx
          simp only [goodB, Bool.and_eq_true] at hgx
          split at hx
          · injection hx with hx; subst hx; rfl
          · rename_i ha
            split at hx
            · injection hx with hx; subst hx
              have := hgx.2
              rw [ha] at this
              rename_i c1
              cases c1 <;> simp [isAgg] at this <;> rfl
            · cases hx
          · cases hx
        refine ⟨?_, by simp [h2]⟩
        rw [show flat (x :: xs) = x.cells ++ flat xs by simp [flat], hcx, h1, hc2, List.drop_zero, show (n + 1) * sz = sz + n * sz by rw [Nat.add_mul]; omega, List.take_add]
      · cases h
theorem readRow_at (hs : sizeT L e = some sz) (hz : 0 < sz) {o off n : Nat} {cap : Option Nat} {pre ys post : List AV} (hc : st.getCells o = some (pre ++ flat ys ++ post)) (ho : off = pre.length) (hn : n = ys.length) (hg : ∀ y ∈ ys, goodB L e sz y = true) :
    readRow L e st (.arr sz o off n cap) = some ys := by
  have hl := flat_len (sz := sz) fun y hy => good_len (hg y hy)
  simp only [readRow, hs, hz, and_self, if_true, hc]
  have : cut (pre ++ flat ys ++ post) off (n * sz) = some (flat ys) := by
    unfold cut
    subst ho hn
    rw [if_pos (by simp [hl])]
    rw [List.append_assoc, List.drop_append_of_le_length (Nat.le_refl _), List.drop_length, List.nil_append, List.take_append_of_le_length (by omega), List.take_of_length_le (by omega)]
  rw [this]
  simp only
  rw [hn]
  have := elems_flat (rest := []) hs hg
  rwa [List.append_nil] at this
theorem copy_at {o off n : Nat} {cap : Option Nat} {pre mid post src : List AV} (hc : st.getCells o = some (pre ++ mid ++ post)) (ho : off = pre.length) (hm : (flat (src.take n)).length = mid.length) :
    copyV (.arr sz o off n cap) src st = some (.int .i64 (min src.length n : Nat), st.put o (pre ++ flat (src.take n) ++ post)) := by
  simp only [copyV, hc]
  have : splice (pre ++ mid ++ post) off (flat (src.take n)) = some (pre ++ flat (src.take n) ++ post) := by
    unfold splice
    subst ho
    rw [if_pos (by simp [hm])]
    congr 1
    rw [List.append_assoc, List.append_assoc, List.take_append_of_le_length (Nat.le_refl _), List.take_length, hm]
    have : (pre ++ (mid ++ post)).drop (pre.length + mid.length) = post := by
      rw [← List.append_assoc, List.drop_append_of_le_length (by simp)]
      simp
    rw [this, List.append_assoc]
  rw [this]
theorem aCopy_at {t : Nat} {d x : AV} {xs : List AV} {r : AV × Store} (het : elemT L t = some e) (hs : sizeT L e = some sz) (hr : readRow L e st x = some xs) (hd : elSize sz d = true) (h : copyV d xs st = some r) : aCopy L t [.val d, .val x] st = some (.val r.1, r.2) := by
  simp only [aCopy, het, hs, hr, hd, if_true, h, ansV]

theorem getCells_put {o : Nat} {cs ys : List AV} (hl : st.objs.length = st.nobj) (h : st.getCells o = some cs) : (st.put o ys).getCells o = some ys := by
  obtain ⟨x, h1, h2⟩ := getCells_some h
  unfold Store.put
  rw [h1]
  cases x with
  | tcells t n zs => simp only [Store.getCells]; rw [Store.get_set_same hl h1]
  | scells zs => simp only [Store.getCells]; rw [Store.get_set_same hl h1]
  | cells zs => simp only [Store.getCells]; rw [Store.get_set_same hl h1]
  | _ => cases h2
theorem put_set {o : Nat} {cs ys : List AV} (h : st.get o = some (.cells cs)) : st.put o ys = st.set o (.cells ys) := by
  unfold Store.put; rw [h]
theorem set_set (o : Nat) (x y : AObj) : (st.set o x).set o y = st.set o y := by
  cases st; simp [Store.set]
theorem put_new {cs ys : List AV} : (st.new (.cells cs)).put st.nobj ys = st.new (.cells ys) := by
  rw [put_set (Store.get_new _)]
  cases st; simp [Store.set, Store.new]
theorem getCells_new {x : AObj} {o : Nat} (h : o < st.nobj) : (st.new x).getCells o = st.getCells o := by
  unfold Store.getCells; rw [Store.get_old x h]
theorem getCells_new' {cs : List AV} : (st.new (.cells cs)).getCells st.nobj = some cs := by
  unfold Store.getCells; rw [Store.get_new]
theorem wf_new {x : AObj} (h : st.objs.length = st.nobj) : (st.new x).objs.length = (st.new x).nobj := by cases st; simp [Store.new] at *; exact h
theorem wf_set {o : Nat} {x : AObj} (h : st.objs.length = st.nobj) : (st.set o x).objs.length = (st.set o x).nobj := by cases st; simp [Store.set] at *; exact h
theorem new_dead {o : Nat} {x : AObj} (h : o < st.nobj) : ((st.new x).set st.nobj .dead).set o .dead = (st.set o .dead).new .dead := by
  cases st with
  | mk objs nobj tops ntop =>
    simp only [Store.new, Store.set]
    have h' : o < nobj := h
    rw [show nobj + 1 - 1 - nobj = 0 by omega, show nobj + 1 - 1 - o = (nobj - 1 - o) + 1 by omega]
    simp

/-- The facts on a slice's type. -/
structure SlT (L : Look) (T e sz by_ : Nat) (z : AV) : Prop where
  el : elemT L T = some e
  un : L.und T = some (.slice e)
  size : sizeT L e = some sz
  bytes : bytesT L e = some by_
  zero : zeroT L e = some z
  zlen : z.cells.length = sz
  pos : 0 < sz
  int : isIntT L 3 = some true
  agg : aggT L e = some true ∨ (aggT L e = some false ∧ sz = 1)
/-- An element of which nothing is known. -/
def junkE (L : Look) (e sz : Nat) : AV := match aggT L e with
  | some true => .agg (List.replicate sz .junk)
  | _ => .junk
theorem SlT.junk_good {T by_ : Nat} {z : AV} (h : SlT L T e sz by_ z) : goodB L e sz (junkE L e sz) = true := by
  unfold goodB junkE
  rcases h.agg with ha | ⟨ha, h1⟩
  · rw [ha]; simp [isAgg, AV.cells]
  · rw [ha]; simp [isAgg, AV.cells, h1]
theorem SlT.junk_cells {T by_ : Nat} {z : AV} (h : SlT L T e sz by_ z) (k : Nat) : flat (List.replicate k (junkE L e sz)) = List.replicate (k * sz) .junk := by
  have : (junkE L e sz).cells = List.replicate sz .junk := by
    unfold junkE
    rcases h.agg with ha | ⟨ha, h1⟩
    · rw [ha]; rfl
    · rw [ha, h1]; rfl
  induction k with
  | zero => simp [flat]
  | succ k ih =>
    rw [List.replicate_succ, show flat (junkE L e sz :: List.replicate k (junkE L e sz)) = (junkE L e sz).cells ++ flat (List.replicate k (junkE L e sz)) by simp [flat], ih, this, List.replicate_append_replicate]
    congr 1; rw [Nat.add_mul]; omega
variable {T by_ : Nat} {z : AV}
/-- Into new memory. -/
theorem copiesA (hT : SlT L T e sz by_ z) (hwf : st.objs.length = st.nobj) {o i len : Nat} {A D : List AV} {x : AV} {tok : Option (Nat × Nat)} {cp : Option Nat} (hget : st.getCells o = some (flat (A ++ D))) (ho : o < st.nobj) (hA : A.length = i) (hD : i + D.length = len) (hD0 : i < len)
    (hgA : ∀ y ∈ A, goodB L e sz y = true) (hgD : ∀ y ∈ D, goodB L e sz y = true) (hgx : goodB L e sz x = true) (h1 : (len + 1) * by_ ≤ maxBytes) (h2 : len + 1 ≤ maxBytes) :
    ∃ st0 st1 nn mm, aAppend L 1 T 3 [.val (.arr sz o 0 i (some len)), .val (.int .i64 ((len + 1 - i : Nat) : Int))] st = some (.val (.arr sz st.nobj 0 (len + 1) none), st0) ∧
      aCopy L T [.val (.arr sz st.nobj (i * sz) (len + 1 - i) none), .val (.row sz tok cp [x])] st0 = some (.val nn, st1) ∧
      aCopy L T [.val (.arr sz st.nobj ((i + 1) * sz) (len + 1 - (i + 1)) none), .val (.arr sz o (i * sz) (len - i) (some (len - i)))] st1 = some (.val mm, st.new (.cells (flat (A ++ x :: D)))) := by
  have hz := hT.pos
  have hlA := flat_len (sz := sz) fun y hy => good_len (hgA y hy)
  have hlx := good_len hgx
  let zs := List.replicate (len + 1 - i) z
  refine ⟨st.new (.cells (flat (A ++ zs))), st.new (.cells (flat (A ++ x :: List.replicate (len - i) z))), .int .i64 (min [x].length (len + 1 - i) : Nat), .int .i64 (min D.length (len + 1 - (i + 1)) : Nat), ?_, ?_, ?_⟩
  · have hz' : zerosV L e (.int .i64 ((len + 1 - i : Nat) : Int)) = some zs := by
      simp only [zerosV, hT.size, hT.bytes, hT.zero]
      have hm : (len + 1 - i) * by_ ≤ maxBytes := Nat.le_trans (Nat.mul_le_mul_right _ (by omega)) h1
      have hmx : maxBytes = 140737488355328 := rfl
      rw [if_pos ⟨by omega, by omega, by simpa using hm, hT.zlen⟩]
      simp [zs]
    have hrd : readRow L e st (.arr sz o 0 i (some len)) = some A := readRow_at hT.size hz (pre := []) (ys := A) (post := flat D) (by rw [hget, flat_app]; rfl) rfl hA.symm hgA
    have hne : zs.isEmpty = false := by
      cases hzs : zs with
      | nil =>
        have hlen : zs.length = 0 := by rw [hzs]; rfl
        simp [zs] at hlen
        omega
      | cons _ _ => rfl
    have hlen : (A ++ zs).length = len + 1 := by simp [zs, hA]; omega
    simp only [aAppend, hT.el, hT.int, hz', appendV, hT.bytes, hT.size, hT.zero, hT.zlen, hz, and_self, if_true, hrd, hne, Bool.false_eq_true, if_false]
    have hzl : zs.length = len + 1 - i := by simp [zs]
    simp only [appendArr, hzl]
    rw [if_pos (by omega)]
    simp only [freshV, hlen]
    rw [if_pos ⟨h1, h2, hz⟩, if_pos trivial]
    rfl
  · have hc := copy_at (sz := sz) (st := st.new (.cells (flat (A ++ zs)))) (o := st.nobj) (off := i * sz) (n := len + 1 - i) (cap := none) (pre := flat A) (mid := z.cells) (post := flat (List.replicate (len - i) z)) (src := [x])
      (by
        rw [getCells_new', flat_app]
        congr 1
        rw [List.append_assoc]
        congr 1
        show flat (List.replicate (len + 1 - i) z) = _
        rw [show len + 1 - i = (len - i) + 1 by omega, List.replicate_succ]
        simp [flat]) (by rw [hlA, hA]) (by
        rw [List.take_of_length_le (by simp; omega)]
        simp [flat, hlx, hT.zlen])
    have := aCopy_at (L := L) (t := T) (d := .arr sz st.nobj (i * sz) (len + 1 - i) none) (x := .row sz tok cp [x]) hT.el hT.size (xs := [x]) (by simp only [readRow, hT.size, if_true]) (by simp [elSize]) hc
    rw [this]
    rw [put_new, List.take_of_length_le (by simp; omega)]
    simp [flat]
  · have hrd : readRow L e (st.new (.cells (flat (A ++ x :: List.replicate (len - i) z)))) (.arr sz o (i * sz) (len - i) (some (len - i))) = some D :=
      readRow_at hT.size hz (pre := flat A) (ys := D) (post := []) (by rw [getCells_new ho, hget, flat_app, List.append_nil]) (by rw [hlA, hA]) (by omega) hgD
    have hzl : (flat (List.replicate (len - i) z)).length = (len - i) * sz := by
      rw [flat_len (sz := sz) fun y hy => by rw [(List.mem_replicate.1 hy).2]; exact hT.zlen]; simp
    have hlD := flat_len (sz := sz) fun y hy => good_len (hgD y hy)
    have hc := copy_at (sz := sz) (st := st.new (.cells (flat (A ++ x :: List.replicate (len - i) z)))) (o := st.nobj) (off := (i + 1) * sz) (n := len + 1 - (i + 1)) (cap := none) (pre := flat (A ++ [x])) (mid := flat (List.replicate (len - i) z)) (post := []) (src := D)
      (by rw [getCells_new', List.append_nil, ← flat_app]; simp) (by rw [flat_app, List.length_append, hlA, hA]; simp [flat, hlx, Nat.add_mul]) (by
        rw [List.take_of_length_le (by omega), hzl, hlD, show D.length = len - i by omega])
    have := aCopy_at (L := L) (t := T) (d := .arr sz st.nobj ((i + 1) * sz) (len + 1 - (i + 1)) none) (x := .arr sz o (i * sz) (len - i) (some (len - i))) hT.el hT.size (xs := D) hrd (by simp [elSize]) hc
    rw [this]
    rw [put_new, List.take_of_length_le (by omega), List.append_nil, ← flat_app]
    simp
/-- In its place. -/
theorem copiesB (hT : SlT L T e sz by_ z) (hwf : st.objs.length = st.nobj) {o i len c : Nat} {A D : List AV} {x : AV} {tok : Option (Nat × Nat)} {cp : Option Nat} (hA : A.length = i) (hD : i + D.length = len) (hD0 : i < len) (hc : len + 1 ≤ c) (hget : st.get o = some (.cells (flat (A ++ D ++ List.replicate (c - len) (junkE L e sz)))))
    (hgA : ∀ y ∈ A, goodB L e sz y = true) (hgD : ∀ y ∈ D, goodB L e sz y = true) (hgx : goodB L e sz x = true) :
    ∃ st1 nn mm, aCopy L T [.val (.arr sz o ((i + 1) * sz) (len + 1 - (i + 1)) (some (c - (i + 1)))), .val (.arr sz o (i * sz) (len + 1 - i) (some (c - i)))] st = some (.val nn, st1) ∧
      aCopy L T [.val (.arr sz o (i * sz) (len + 1 - i) (some (c - i))), .val (.row sz tok cp [x])] st1 = some (.val mm, st.set o (.cells (flat (A ++ x :: D) ++ flat (List.replicate (c - len - 1) (junkE L e sz))))) := by
  have hz := hT.pos
  have hlA := flat_len (sz := sz) fun y hy => good_len (hgA y hy)
  have hlD := flat_len (sz := sz) fun y hy => good_len (hgD y hy)
  have hlx := good_len hgx
  have hj := hT.junk_good
  have hjl := good_len hj
  have hgc : st.getCells o = some (flat (A ++ D ++ List.replicate (c - len) (junkE L e sz))) := by unfold Store.getCells; rw [hget]
  have hrep : List.replicate (c - len) (junkE L e sz) = junkE L e sz :: List.replicate (c - len - 1) (junkE L e sz) := by
    rw [← List.replicate_succ]; congr 1; omega
  match D, hD, hgD, hlD, hgc, hget with
  | [], hD, _, _, _, _ => simp at hD; omega
  | d :: D, hD, hgD, hlD, hgc, hget =>
    simp only [List.length_cons] at hD
    have hdl := good_len (hgD d List.mem_cons_self)
    have hlD' := flat_len (sz := sz) (ys := D) fun y hy => good_len (hgD y (List.mem_cons_of_mem _ hy))
    refine ⟨st.set o (.cells (flat (A ++ d :: d :: D) ++ flat (List.replicate (c - len - 1) (junkE L e sz)))), .int .i64 (min (d :: D ++ [junkE L e sz]).length (len + 1 - (i + 1)) : Nat), .int .i64 (min [x].length (len + 1 - i) : Nat), ?_, ?_⟩
    · have hrd : readRow L e st (.arr sz o (i * sz) (len + 1 - i) (some (c - i))) = some (d :: D ++ [junkE L e sz]) :=
        readRow_at hT.size hz (pre := flat A) (ys := d :: D ++ [junkE L e sz]) (post := flat (List.replicate (c - len - 1) (junkE L e sz))) (by
          rw [hgc, hrep]
          congr 1
          rw [← flat_app, ← flat_app]; congr 1; simp) (by rw [hlA, hA]) (by simp; omega) (fun y hy => by
          rcases List.mem_append.1 hy with hy | hy
          · exact hgD y hy
          · rw [List.mem_singleton.1 hy]; exact hj)
      have hcp := copy_at (sz := sz) (st := st) (o := o) (off := (i + 1) * sz) (n := len + 1 - (i + 1)) (cap := some (c - (i + 1))) (pre := flat (A ++ [d])) (mid := flat (D ++ [junkE L e sz])) (post := flat (List.replicate (c - len - 1) (junkE L e sz))) (src := d :: D ++ [junkE L e sz])
        (by
          rw [hgc, hrep]
          congr 1
          rw [← flat_app, ← flat_app]; congr 1; simp) (by rw [flat_app, List.length_append, hlA, hA]; simp [flat, hdl, Nat.add_mul]) (by
          rw [show len + 1 - (i + 1) = (d :: D).length by simp; omega, List.take_left', hlD, flat_app, List.length_append, hlD']
          · simp [flat, hjl, Nat.add_mul]
          · rfl)
      have := aCopy_at (L := L) (t := T) (d := .arr sz o ((i + 1) * sz) (len + 1 - (i + 1)) (some (c - (i + 1)))) (x := .arr sz o (i * sz) (len + 1 - i) (some (c - i))) hT.el hT.size hrd (by simp [elSize]) hcp
      rw [this, put_set hget]
      rw [show len + 1 - (i + 1) = (d :: D).length by simp; omega, List.take_left' rfl, ← flat_app]
      simp
    · have hget1 : (st.set o (.cells (flat (A ++ d :: d :: D) ++ flat (List.replicate (c - len - 1) (junkE L e sz))))).get o = some (.cells (flat (A ++ d :: d :: D) ++ flat (List.replicate (c - len - 1) (junkE L e sz)))) := Store.get_set_same hwf hget
      have hcp := copy_at (sz := sz) (st := st.set o (.cells (flat (A ++ d :: d :: D) ++ flat (List.replicate (c - len - 1) (junkE L e sz))))) (o := o) (off := i * sz) (n := len + 1 - i) (cap := some (c - i)) (pre := flat A) (mid := d.cells) (post := flat (d :: D) ++ flat (List.replicate (c - len - 1) (junkE L e sz))) (src := [x])
        (by
          unfold Store.getCells; rw [hget1]
          simp [flat]) (by rw [hlA, hA]) (by
          rw [List.take_of_length_le (by simp; omega)]
          simp [flat, hlx, hdl])
      have := aCopy_at (L := L) (t := T) (d := .arr sz o (i * sz) (len + 1 - i) (some (c - i))) (x := .row sz tok cp [x]) hT.el hT.size (xs := [x]) (by simp only [readRow, hT.size, if_true]) (by simp [elSize]) hcp
      rw [this, put_set hget1, set_set, List.take_of_length_le (by simp; omega)]
      simp [flat]
theorem appendE (hT : SlT L T e sz by_ z) {o n c : Nat} {A post : List AV} {x : AV} {tok : Option (Nat × Nat)} {cp : Option Nat} (hA : A.length = n) (hgA : ∀ y ∈ A, goodB L e sz y = true) (hget : st.getCells o = some (flat A ++ post)) :
    aAppend L 1 T T [.val (.arr sz o 0 n (some c)), .val (.row sz tok cp [x])] st = ansV (appendArr 1 sz by_ e o 0 n (some c) A [x] st) := by
  have hint : isIntT L T = some false := by simp only [isIntT, hT.un]
  have hrd : readRow L e st (.arr sz o 0 n (some c)) = some A := readRow_at hT.size hT.pos (pre := []) (ys := A) (post := post) (by rw [hget]; rfl) rfl hA.symm hgA
  have hrx : readRow L e st (.row sz tok cp [x]) = some [x] := by simp only [readRow, hT.size, if_true]
  simp only [aAppend, hT.el, hint, hrx, appendV, hT.bytes, hT.size, hT.zero, hT.zlen, hT.pos, and_self, if_true, hrd, List.isEmpty_cons, Bool.false_eq_true, if_false]
/-- Behind its end: into new memory. -/
theorem endE (hT : SlT L T e sz by_ z) {o n : Nat} {A : List AV} {x : AV} {tok : Option (Nat × Nat)} {cp : Option Nat} (hA : A.length = n) (hgA : ∀ y ∈ A, goodB L e sz y = true) (hget : st.getCells o = some (flat A)) (h1 : (n + 1) * by_ ≤ maxBytes) (h2 : n + 1 ≤ maxBytes) :
    aAppend L 1 T T [.val (.arr sz o 0 n (some n)), .val (.row sz tok cp [x])] st = some (.val (.arr sz st.nobj 0 (n + 1) none), st.new (.cells (flat (A ++ [x])))) := by
  rw [appendE hT (post := []) hA hgA (by rw [hget, List.append_nil])]
  simp only [appendArr, List.length_cons, List.length_nil]
  rw [if_pos (by omega)]
  simp only [freshV, List.length_append, List.length_cons, List.length_nil, hA]
  rw [if_pos ⟨h1, h2, hT.pos⟩, if_pos trivial]
  rfl
/-- Behind its end: in its place. -/
theorem endG (hT : SlT L T e sz by_ z) {o n c : Nat} {A : List AV} {x : AV} {tok : Option (Nat × Nat)} {cp : Option Nat} (hA : A.length = n) (hgA : ∀ y ∈ A, goodB L e sz y = true) (hgx : goodB L e sz x = true) (hc : n + 1 ≤ c) (hget : st.get o = some (.cells (flat (A ++ List.replicate (c - n) (junkE L e sz))))) :
    aAppend L 1 T T [.val (.arr sz o 0 n (some c)), .val (.row sz tok cp [x])] st = some (.val (.arr sz o 0 (n + 1) (some c)), st.set o (.cells (flat (A ++ [x]) ++ flat (List.replicate (c - n - 1) (junkE L e sz))))) := by
  have hgc : st.getCells o = some (flat A ++ flat (List.replicate (c - n) (junkE L e sz))) := by unfold Store.getCells; rw [hget, flat_app]
  have hlA := flat_len (sz := sz) fun y hy => good_len (hgA y hy)
  have hlx := good_len hgx
  have hjl := good_len hT.junk_good
  rw [appendE hT hA hgA hgc]
  simp only [appendArr, List.length_cons, List.length_nil]
  rw [if_neg (by omega)]
  simp only [hgc]
  have hrep : List.replicate (c - n) (junkE L e sz) = junkE L e sz :: List.replicate (c - n - 1) (junkE L e sz) := by
    rw [← List.replicate_succ]; congr 1; omega
  have hsp : splice (flat A ++ flat (List.replicate (c - n) (junkE L e sz))) (0 + n * sz) (flat [x]) = some (flat (A ++ [x]) ++ flat (List.replicate (c - n - 1) (junkE L e sz))) := by
    rw [hrep]
    have e1 : flat (junkE L e sz :: List.replicate (c - n - 1) (junkE L e sz)) = (junkE L e sz).cells ++ flat (List.replicate (c - n - 1) (junkE L e sz)) := by simp [flat]
    have e2 : flat [x] = x.cells := by simp [flat]
    have hn : (flat A).length = n * sz := by rw [hlA, hA]
    rw [e1, e2, flat_app, e2]
    unfold splice
    rw [if_pos (by simp [hlx, hjl, hn])]
    congr 1
    have hlen2 : x.cells.length = (junkE L e sz).cells.length := by rw [hlx, hjl]
    have hdrop : (flat A ++ ((junkE L e sz).cells ++ flat (List.replicate (c - n - 1) (junkE L e sz)))).drop ((flat A).length + (junkE L e sz).cells.length) = flat (List.replicate (c - n - 1) (junkE L e sz)) := by
      rw [← List.append_assoc, List.drop_append_of_le_length (by simp)]
      simp
    rw [Nat.zero_add, ← hn, List.take_left' rfl, hlen2, hdrop]
  rw [hsp]
  simp only [ansV, put_set hget]
  try rfl
end
end Go.Sim

namespace Go.Sim
open Go.Proofs

section
variable {g : Gh} {st : Store} {w : World}
theorem reps_junk (g : Gh) : ∀ vs : List Value, Reps g vs (List.replicate vs.length .junk)
  | [] => .nil
  | v :: vs => .cons _ _ _ _ (.junk v) (reps_junk g vs)
/-- More of an object's cells are told of: nothing is known of what they hold. -/
theorem Inv.extend (hi : Inv g st w) {b o n : Nat} {cs : List AV} (hl : LiveA g b o n) (hg : st.get o = some (.cells cs)) (hn : cs.length ≤ n) : Inv g (st.set o (.cells (cs ++ List.replicate (n - cs.length) .junk))) w := by
  rcases hl with hd | ⟨tot, hb, htot⟩
  · rw [hi.dead o hd] at hg; cases hg
  · obtain ⟨x, h1, h2⟩ := hi.obj b o tot hb
    rw [hg] at h1; injection h1 with h1; subst h1
    obtain ⟨c, e, fr, vs, rest, q1, q2, q3, q4, q5, q6⟩ := h2
    have hlen := q3.length
    have hsz : c.toList.length = tot := by simpa using q6
    have hr : rest.length = tot - cs.length := by rw [q2, List.length_append] at hsz; omega
    refine (hi.write hb (Upd.self q1) (.cells (cs ++ List.replicate (n - cs.length) .junk)) ⟨c, e, fr, vs ++ rest.take (n - cs.length), rest.drop (n - cs.length), q1, by rw [q2]; simp, q3.append ?_, q4, q5, q6⟩).1
    have := reps_junk g (rest.take (n - cs.length))
    rwa [List.length_take, Nat.min_eq_left (by omega)] at this
theorem Inv.newDead (hi : Inv g st w) : Inv g (st.new .dead) w := by
  refine ⟨wf_new hi.wfo, hi.wft, hi.row, hi.stat, fun b o tot hb => ?_, hi.inj, fun o hd => ?_⟩
  · obtain ⟨x, h1, h2⟩ := hi.obj b o tot hb
    exact ⟨x, by rw [Store.get_old _ (Store.get_lt h1)]; exact h1, h2⟩
  · have h1 := hi.dead o hd
    rw [Store.get_old _ (Store.get_lt h1)]; exact h1
theorem Adv.drop (hi : Inv g st w) {b o tot : Nat} (hb : g.blk b = some (.obj o tot)) : Adv g w (g.drop b o) w := ⟨Le.drop hb, Nat.le_refl _, fun b' _ hn' => ⟨rfl, by
  have : b' ≠ b := by rintro rfl; rw [hb] at hn'; cases hn'
  rw [Gh.drop_other this]; exact hn'⟩, fun _ _ _ => rfl, rfl, rfl, rfl⟩
end

/-- Two slices do not overlap: a row that is for good, and an object's cells. -/
def pOverlaps : List AV → Store → Option (AV × Store)
  | [.row _ _ _ _, .arr _ o _ _ _], st => (match st.get o with
    | some (.cells _) => some (.bool false, st)
    | _ => none)
  | _, _ => none
theorem frozen_cells {w : World} {b off : Nat} {c : Array Value} {e : TypeId} {fr : Nat × Nat} (h : w.heap[b]? = some (.cells c e fr)) (hf : fr.2 ≤ fr.1) : w.frozen? ⟨b, off, none⟩ = false := by
  simp [World.frozen?, h]
  omega
theorem overlaps_def (T : TypeId) (a b : Addr) (la ca lb cb : Nat) : Extern.SlicesOverlaps.overlaps #[T, T] #[] #[.slice (some a) la ca, .slice (some b) lb cb] = (do
    let .slice elem ← underlying T | stuck "slices.overlaps: slice type expected"
    let size ← sizeOf elem
    if la = 0 ∨ lb = 0 ∨ size = 0 then pure (.bool false)
    else if a.block != b.block && (← frozen a) && (← frozen b) then unsupported .addressObserved
    else do
      if a.block != b.block then do
        noView a; noView b
        if ← mayBeOne a b then return .bool ((← choose (.extern "sameAddr.stringBytes" 2)) == 1)
      pure (.bool (a.block == b.block && a.off < b.off + lb * size && b.off < a.off + la * size))) := rfl
theorem pOverlaps_ok {E : Env} {f : Nat} {fn : Func} {T e sz : Nat} (hf : E.P.funcs[f]? = some fn) (hb : fn.body = none) (hn : fn.name ≠ "runtime.NumGoroutine") (h1 : Extern.findNext fn = none) (h2 : Extern.find fn = some (Extern.SlicesOverlaps.overlaps #[T, T] #[])) (hT : E.P.underlying T = some (.slice e)) (hs : sizeT E.P e = some sz) : PrimOk E f pOverlaps := by
  intro args st v st' h g w vals hr hi hgl
  unfold pOverlaps at h
  split at h
  · rename_i s1 t1 c1 xs s2 o off len cap
    split at h
    · rename_i cs hg
      simp only [Option.some.injEq, Prod.mk.injEq] at h
      obtain ⟨rfl, rfl⟩ := h
      generalize hl : vals.toList = l at hr
      match l, hr with
      | [a, b'], .cons _ _ _ _ ha (.cons _ _ _ _ hb' .nil) =>
        have hv : vals = #[a, b'] := by rw [← hl]
        subst hv
        cases ha with
        | row b oo n c _ _ _ _ vs hv he hnn hcc hz hcap ht =>
          cases hb' with
          | arr b2 _ _ _ c2 _ _ hl2 hc2 hz2 hcap2 =>
            unfold FnApplies
            have hrun : (Extern.SlicesOverlaps.overlaps #[T, T] #[] #[.slice (some ⟨b, oo, none⟩) n c, .slice (some ⟨b2, off, none⟩) len c2]).run E.P w = .ok (.bool false) w := by
              obtain ⟨i, hi', his⟩ := sizeT_some hs
              rcases hl2 with hd | ⟨tot, hblk, htot⟩
              · rw [hi.dead o hd] at hg; cases hg
              · obtain ⟨x, k1, k2⟩ := hi.obj _ _ _ hblk
                rw [hg] at k1; injection k1 with k1; subst k1
                obtain ⟨ca, ea, fra, va, ra, q1, q2, q3, q4, q5, q6⟩ := k2
                by_cases hn0 : n = 0
                · subst hn0
                  rw [overlaps_def]; simp [underlying, hT, sizeOf, typeInfo, hi']
                · by_cases hl0 : len = 0
                  · subst hl0
                    rw [overlaps_def]; simp [underlying, hT, sizeOf, typeInfo, hi']
                  · have hvs : vs ≠ [] := by
                      rintro rfl
                      have := he.length
                      rw [List.length_nil, hnn] at this
                      rcases Nat.mul_eq_zero.1 this.symm with h | h
                      · exact hn0 h
                      · omega
                    rcases hv with hv | ⟨y, cs', hby, hy, hp⟩
                    · exact absurd hv hvs
                    · have hne : b ≠ b2 := by
                        rintro rfl
                        rw [hblk] at hby; injection hby with hby; subst hby; cases hy
                      have hlen : ∀ {l : List Value}, y.fixed = some l → 0 < l.length := by
                        intro l hy'
                        rw [hy] at hy'; injection hy' with hy'; subst hy'
                        have h1 := hp.length_le
                        rw [List.length_drop] at h1
                        have : 0 < vs.length := List.length_pos_iff.2 hvs
                        omega
                      have hsh : ∃ sa ca', w.shape? b = some (sa, ca' + 1) := by
                        cases y with
                        | row t s z nn c0 => obtain ⟨_, c3, e3, fr3, _, _, r1, r2, _⟩ := hi.row _ _ _ _ _ _ hby; have h3 : 0 < c0.length := hlen rfl; have h4 : c0.length ≤ c3.size := by { have := r2.length_le; simpa using this }; exact ⟨e3, c3.size - 1, by simp [World.shape?, r1]; omega⟩
                        | stat c0 => obtain ⟨c3, e3, fr3, r1, r2⟩ := hi.stat _ _ hby; have h3 : 0 < c0.length := hlen rfl; rw [← r2, Array.length_toList] at h3; exact ⟨e3, c3.size - 1, by simp [World.shape?, r1]; omega⟩
                        | obj _ _ => cases hy
                      obtain ⟨sa, ca', hsh⟩ := hsh
                      have hsh2 : w.shape? b2 = some (ea, ca.size) := by simp [World.shape?, q1]
                      have hfz : ∀ off', w.frozen? ⟨b2, off', none⟩ = false := fun off' => frozen_cells q1 q5
                      have hbb : (b == b2) = false := by simpa using hne
                      by_cases hsz0 : i.size = 0
                      · rw [overlaps_def]; simp [underlying, hT, sizeOf, typeInfo, hi', hsz0]
                      · rw [overlaps_def]; simp [underlying, hT, sizeOf, typeInfo, hi', hn0, hl0, hsz0, hbb, hne, hfz, noView, viewAt, hsh, hsh2, mayBeOne, stringish]
            rw [callFunc_extern hf hb hn h1 h2 _ w hrun]
            exact ⟨g, Adv.refl g w, hi, .bool _⟩
    · cases h
  · cases h
end Go.Sim

namespace Go.Sim
open Go.Proofs

def pInsert (L : Look) (e sz by_ : Nat) : List AV → Store → Option (AV × Store)
  | [.arr z o 0 n none, .int .i64 (.ofNat i), .row z' _ _ [x]], st => (match st.get o with
    | some (.cells cs) => (match elemsOf L e cs n with
      | some xs => if z = sz ∧ z' = sz ∧ cs.length = n * sz ∧ i ≤ n ∧ (n + 1) * by_ ≤ maxBytes ∧ n + 1 ≤ maxBytes ∧ (xs.all (goodB L e sz) && goodB L e sz x) = true
          then some (.row sz none none (xs.take i ++ x :: xs.drop i), (st.set o .dead).new .dead) else none
      | none => none)
    | _ => none)
  | _, _ => none

set_option maxRecDepth 100000 in
/-- What the code of slices.Insert answers, in memory: a row that is for good. -/
theorem pInsert54_ok {E : Env} {by_ : Nat} {z : AV} (hmix : E.P.follows .mixedOrders = true) (hname : ∀ (f : Nat) fn, E.P.funcs[f]? = some fn → fn.body ≠ none → fn.name ≠ "runtime.NumGoroutine") (hF : E.P.funcs[54]? = some Tryz.f54) (hov : PrimOk E 91 pOverlaps) (hT : SlT (Look.of E.P) 25 9 1 by_ z) :
    PrimOk E 54 (pInsert (Look.of E.P) 9 1 by_) := by
  intro args st v st' h g w vals hr hi hgl
  unfold pInsert at h
  split at h
  · rename_i z1 o n i z2 tok cp x
    split at h
    · rename_i cs hget
      split at h
      · rename_i xs hxs
        split at h
        · rename_i hc
          obtain ⟨rfl, rfl, hcl, hin, hb1, hb2, hgood⟩ := hc
          simp only [Option.some.injEq, Prod.mk.injEq] at h
          obtain ⟨rfl, rfl⟩ := h
          simp only [Bool.and_eq_true, List.all_eq_true] at hgood
          obtain ⟨hgx, hgood⟩ : goodB (Look.of E.P) 9 1 x = true ∧ (∀ y ∈ xs, goodB (Look.of E.P) 9 1 y = true) := ⟨hgood.2, hgood.1⟩
          have hmx : maxBytes = 140737488355328 := rfl
          obtain ⟨hfl, hxl⟩ := flat_of_elems hT.size hxs hgood
          rw [List.take_of_length_le (by omega)] at hfl
          have hL := E.hL
          -- the two halves
          let A := xs.take i
          let D := xs.drop i
          have hAD : A ++ D = xs := List.take_append_drop i xs
          have hA : A.length = i := by simp [A]; omega
          have hD : i + D.length = n := by simp [D]; omega
          have hgA : ∀ y ∈ A, goodB (Look.of E.P) 9 1 y = true := fun y hy => hgood y (List.mem_of_mem_take hy)
          have hgD : ∀ y ∈ D, goodB (Look.of E.P) 9 1 y = true := fun y hy => hgood y (List.mem_of_mem_drop hy)
          have hgall : ∀ y ∈ A ++ x :: D, goodB (Look.of E.P) 9 1 y = true := fun y hy => by
            rcases List.mem_append.1 hy with hy | hy
            · exact hgA y hy
            · rcases List.mem_cons.1 hy with hy | hy
              · rw [hy]; exact hgx
              · exact hgD y hy
          have hlen : (A ++ x :: D).length = n + 1 := by simp [hA]; omega
          have hflen := flat_len (sz := 1) fun y hy => good_len (hgall y hy)
          rw [hlen] at hflen
          -- the caller
          let call : Caller := acall E (fun _ => AIns) (fun f => if f = 91 then some pOverlaps else none) 1
          have hcall : CallOk E call := acall_ok hmix (An := fun _ => AIns) (fun f t b hb => by cases hb) hname (fun f p hp => by
            split at hp
            · rename_i hf; subst hf; injection hp with hp; subst hp; exact hov
            · cases hp) 1
          have hcov : ∀ (st : Store) cs' off l2 c2, st.get o = some (.cells cs') → call (.func (.func 91) [] []) [.row 1 tok cp [x], .arr 1 o off l2 c2] st = some (.bool false, st) := by
            intro st cs' off l2 c2 hg
            show (match pOverlaps [.row 1 tok cp [x], .arr 1 o off l2 c2] st with
              | some r => some r
              | none => _) = _
            simp only [pOverlaps, hg]
          -- the machine's slice
          generalize hl : vals.toList = l at hr
          cases hr with
          | cons a _ _ _ ha hr1 =>
          cases hr1 with
          | cons b' _ _ _ hb' hr2 =>
          cases hr2 with
          | cons c' _ _ _ hc' hr3 =>
            cases hr3
            have hv : vals = #[a, b', c'] := by rw [← hl]
            subst hv
            cases ha with
            | arr b _ _ _ c _ _ hla hnc hz hcap =>
              have ho : o < st.nobj := Store.get_lt hget
              have hrep : Rep g (.slice (some ⟨b, 0, none⟩) n c) (.arr 1 o 0 n (some c)) := .arr _ _ _ _ _ _ _ hla hnc hz (fun m hm => by injection hm with hm; exact hm.symm)
              have hreps : Reps g (#[Value.slice (some ⟨b, 0, none⟩) n c, b', c'] : Array Value).toList [.arr 1 o 0 n (some c), .int .i64 (.ofNat i), .row 1 tok cp [x]]             := .cons _ _ _ _ hrep (.cons _ _ _ _ hb' (.cons _ _ _ _ hc' .nil))
              have bnd_lo : ∀ (a h : Nat), a ≤ h → bnd (some (.int .i64 (a : Int))) 0 h = some a := fun a h hah => by
                simp only [bnd]; rw [if_pos ⟨by omega, by omega⟩]; simp
              have wr : ∀ a : Nat, a ≤ 9223372036854775807 → IntKind.i64.wrap (a : Int) = a := fun a ha => IntWalk.i64_in _ (by omega)
              have hw : IntKind.i64.wrap ((n : Int) + 1) = n + 1 := by have := wr (n + 1) (by omega); simpa using this
              have hw1 : IntKind.i64.wrap ((n : Int) + ((1 : Nat) : Int)) = n + 1 := by simpa using hw
              have hwi : i + 1 ≤ 9223372036854775807 → IntKind.i64.wrap ((i : Int) + ((1 : Nat) : Int)) = ((i + 1 : Nat) : Int) := fun hh => by have := wr (i + 1) hh; simpa using this
              have hb1' : bounds (some (.int .i64 (i : Int))) none n c = some (i, n) := by simp only [bounds]; rw [show bnd none n c = some n from rfl]; simp only [bnd_lo i n (by omega)]
              let fr := aenter Tryz.f54 [.arr 1 o 0 n (some c), .int .i64 (.ofNat i), .row 1 tok cp [x]]
              have hfr : fr.tmps.length = 95 := by rfl
              have f0 : fr.tmps[0]? = some (.arr 1 o 0 n (some c)) := rfl
              have f1 : fr.tmps[1]? = some (.int .i64 (i : Int)) := rfl
              have f2 : fr.tmps[2]? = some (.row 1 tok cp [x]) := rfl
              have fin : ∀ (sti st2 : Store) (r : AV) (fr' : AFr), Inv g sti w → acode E call AIns 54 1 false (Tryz.f54.body.get!) fr sti = some (.ret, fr', st2) → fr'.tmps[6]? = some r →
                  FnApplies E.P 54 #[Value.slice (some ⟨b, 0, none⟩) n c, b', c'] w (Post g st2 w r) := by
                intro sti st2 r fr' hii h1 h2
                refine afun_ok (An := fun _ => AIns) hcall hmix (fun f t b hb => by cases hb) hname (n := 1) (f := 54) (args := [.arr 1 o 0 n (some c), .int .i64 (.ofNat i), .row 1 tok cp [x]]) (st := sti) (v := r) ?_ hreps hii hgl
                unfold afun
                have hfn : E.L.fn 54 = some Tryz.f54 := by rw [hL]; exact hF
                have hbody : Tryz.f54.body = some (Tryz.f54.body.get!) := rfl
                rw [hfn]
                simp only
                rw [hbody]
                simp only
                rw [h1]
                have hres : aresults E AIns fr' st2 Tryz.f54.results.toList = some [r] := by
                  show aresults E AIns fr' st2 [.tmp 6] = some [r]
                  simp only [aresults, aresult, AIns, h2]
                simp only [hres]
              -- behind the call: the row is frozen
              have finB : ∀ {cx : Nat}, FnApplies E.P 54 #[Value.slice (some ⟨b, 0, none⟩) n c, b', c'] w (Post g (st.set o (.cells (flat (A ++ x :: D) ++ flat (List.replicate cx (junkE (Look.of E.P) 9 1))))) w (.arr 1 o 0 (n + 1) (some c))) →
                  FnApplies E.P 54 #[Value.slice (some ⟨b, 0, none⟩) n c, b', c'] w (Post g ((st.set o .dead).new .dead) w (.row 1 none none (A ++ x :: D))) := by
                intro cx hpost
                refine fnApplies_mono hpost fun u w' ⟨g', a1, i1, rep1⟩ => ?_
                cases rep1 with
                | arr b3 _ _ _ c3 _ _ hl3 hn3 hz3 hcap3 =>
                  have hrd : readRow (Look.of E.P) 9 (st.set o (.cells (flat (A ++ x :: D) ++ flat (List.replicate cx (junkE (Look.of E.P) 9 1))))) (.arr 1 o 0 (n + 1) (some c)) = some (A ++ x :: D) :=
                    readRow_at hT.size hz (pre := []) (ys := A ++ x :: D) (post := flat (List.replicate cx (junkE (Look.of E.P) 9 1))) (by unfold Store.getCells; rw [Store.get_set_same hi.wfo hget]; rfl) rfl hlen.symm hgall
                  obtain ⟨g2, a2, i2, rep2⟩ := freeze_one (P := E.P) i1 hl3 hn3 hz3 hrd
                  rw [set_set] at i2
                  exact ⟨g2, a1.trans a2, i2.newDead, rep2⟩
              have finA : FnApplies E.P 54 #[Value.slice (some ⟨b, 0, none⟩) n c, b', c'] w (Post g (st.new (.cells (flat (A ++ x :: D)))) w (.arr 1 st.nobj 0 (n + 1) none)) →
                  FnApplies E.P 54 #[Value.slice (some ⟨b, 0, none⟩) n c, b', c'] w (Post g ((st.set o .dead).new .dead) w (.row 1 none none (A ++ x :: D))) := by
                intro hpost
                refine fnApplies_mono hpost fun u w' ⟨g', a1, i1, rep1⟩ => ?_
                cases rep1 with
                | arr b3 _ _ _ c3 _ _ hl3 hn3 hz3 hcap3 =>
                  have hrd : readRow (Look.of E.P) 9 (st.new (.cells (flat (A ++ x :: D)))) (.arr 1 st.nobj 0 (n + 1) none) = some (A ++ x :: D) :=
                    readRow_at hT.size hz (pre := []) (ys := A ++ x :: D) (post := []) (by rw [getCells_new', List.append_nil, List.nil_append]) rfl hlen.symm hgall
                  obtain ⟨g2, a2, i2, rep2⟩ := freeze_one (P := E.P) i1 hl3 hn3 hz3 hrd
                  -- the old one is nobody's
                  have hgo : ((st.new (.cells (flat (A ++ x :: D)))).set st.nobj .dead).get o = some (.cells cs) := by
                    rw [Store.get_set_other (by simp [Store.new]) (by omega), Store.get_old _ ho]; exact hget
                  have hl2 := hla.mono (a1.trans a2).le
                  rcases hl2 with hd | ⟨tot, hblk, _⟩
                  · have := i2.dead o hd
                    rw [hgo] at this; cases this
                  · have i3 := i2.die hblk
                    have a3 := Adv.drop i2 hblk
                    rw [new_dead ho] at i3
                    exact ⟨_, (a1.trans a2).trans a3, i3, rep2.mono a3.le⟩
              by_cases hroom : n + 1 ≤ c
              · -- in its place
                let cs1 := cs ++ List.replicate (c * 1 - cs.length) .junk
                have hcs1 : cs1 = flat (A ++ D ++ List.replicate (c - n) (junkE (Look.of E.P) 9 1)) := by
                  rw [flat_app, hAD, hfl, hT.junk_cells]
                  simp only [cs1, hcl]
                  congr 2
                  rw [← Nat.sub_mul]
                have hla' : LiveA g b o (c * 1) := by simpa using hla
                have hi1 : Inv g (st.set o (.cells cs1)) w := hi.extend hla' hget (by rw [hcl]; exact Nat.mul_le_mul_right _ hnc)
                have hget1 : (st.set o (.cells cs1)).get o = some (.cells cs1) := Store.get_set_same hi.wfo hget
                rcases Nat.lt_or_eq_of_le hin with hin | hin
                · obtain ⟨st1, nn, mm, k1, k2⟩ := copiesB (T := 25) (st := st.set o (.cells cs1)) (tok := tok) (cp := cp) (x := x) hT (wf_set hi.wfo) hA hD hin hroom (by rw [hget1, hcs1]) hgA hgD hgx
                  obtain ⟨fr', r1, r2⟩ := insB54 (E := E) (call := call) 1 o i n c (st.set o (.cells cs1)) tok cp x fr hfr f0 f1 f2 hin hroom (by rw [hL]; exact hT.size) (by rw [hL]; exact hT.el) (by rw [hL]; exact hT.un)
                    hb1' (by omega) hw (by simpa using (by omega : ¬ (i : Int) = n)) (by simp only [decide_eq_false_iff_not]; omega) rfl hw1 (hwi (by omega))
                    (by simp only [bounds]; rw [show bnd none (n + 1) c = some (n + 1) from rfl]; simp only [bnd_lo (i + 1) (n + 1) (by omega)]) (by omega)
                    (by simp only [bounds]; rw [show bnd none (n + 1) c = some (n + 1) from rfl]; simp only [bnd_lo i (n + 1) (by omega)])
                    (by
                      have : bnd (some (.int .i64 ((n : Int) + 1))) n c = some (n + 1) := by
                        simp only [bnd]; rw [if_pos ⟨by omega, by omega⟩]; congr 1
                      simp only [bounds, this]; rw [show bnd none 0 (n + 1) = some 0 from rfl]) (by omega) (by omega) (by omega)
                    (hcov _ _ _ _ _ hget1) st1 _ nn mm (by rw [hL]; exact k1) (by rw [hL]; exact k2)
                  have hpost := fin _ _ _ fr' hi1 r1 r2
                  rw [set_set] at hpost
                  exact finB hpost
                · subst hin
                  have hDn : D = [] := List.eq_nil_of_length_eq_zero (by omega)
                  have hk := endG (T := 25) (st := st.set o (.cells cs1)) (tok := tok) (cp := cp) (x := x) hT hA hgA hgx hroom (by rw [hget1, hcs1, hDn, List.append_nil])
                  obtain ⟨fr', r1, r2⟩ := insG54 (E := E) (call := call) 1 o i c (st.set o (.cells cs1)) tok cp x fr hfr f0 f1 f2 (by rw [hL]; exact hT.size) (by rw [hL]; exact hT.el) (by rw [hL]; exact hT.un)
                    hb1' (by omega) (by simp) rfl _ _ (by rw [hL]; exact hk)
                  have hpost := fin _ _ _ fr' hi1 r1 r2
                  rw [set_set, show A ++ [x] = A ++ x :: D by rw [hDn]] at hpost
                  exact finB hpost
              · -- in new memory
                have hcn : c = n := by omega
                subst hcn
                rcases Nat.lt_or_eq_of_le hin with hin | hin
                · obtain ⟨st0, st1, nn, mm, k0, k1, k2⟩ := copiesA (T := 25) (st := st) (tok := tok) (cp := cp) (x := x) hT hi.wfo (o := o) (by unfold Store.getCells; rw [hget, hAD, hfl]) ho hA hD hin hgA hgD hgx hb1 hb2
                  obtain ⟨fr', r1, r2⟩ := insA54 (E := E) (call := call) 1 o st.nobj i c c st tok cp x fr hfr f0 f1 f2 hin (by rw [hL]; exact hT.size) (by rw [hL]; exact hT.el) (by rw [hL]; exact hT.un)
                    hb1' (by omega) hw (by simpa using (by omega : ¬ (i : Int) = c)) (by simp only [decide_eq_true_eq]; omega) rfl hw1 (hwi (by omega)) (by rw [show (c : Int) + 1 - (i : Int) = ((c + 1 - i : Nat) : Int) by omega]; exact wr _ (by omega))
                    (by simp only [bounds]; rw [show bnd none (c + 1) (c + 1) = some (c + 1) from rfl]; simp only [bnd_lo (i + 1) (c + 1) (by omega)])
                    (by simp only [bounds]; rw [show bnd none (c + 1) (c + 1) = some (c + 1) from rfl]; simp only [bnd_lo i (c + 1) (by omega)])
                    (by
                      have : bnd (some (.int .i64 (i : Int))) c c = some i := by
                        simp only [bnd]; rw [if_pos ⟨by omega, by omega⟩]; simp
                      simp only [bounds, this]; rw [show bnd none 0 i = some 0 from rfl]) (by omega) (by omega) (by omega) (by omega) (by omega)
                    st0 st1 _ nn mm (by rw [hL]; exact k0) (by rw [hL]; exact k1) (by rw [hL]; exact k2)
                  exact finA (fin _ _ _ fr' hi r1 r2)
                · subst hin
                  have hDn : D = [] := List.eq_nil_of_length_eq_zero (by omega)
                  have hk := endE (T := 25) (st := st) (o := o) (tok := tok) (cp := cp) (x := x) hT hA hgA (by unfold Store.getCells; rw [hget, ← hfl, ← hAD, hDn, List.append_nil]) hb1 hb2
                  obtain ⟨fr', r1, r2⟩ := insE54 (E := E) (call := call) 1 o st.nobj i st tok cp x fr hfr f0 f1 f2 (by rw [hL]; exact hT.size) (by rw [hL]; exact hT.el) (by rw [hL]; exact hT.un)
                    hb1' (by simp) rfl _ _ (by rw [hL]; exact hk)
                  have hpost := fin _ _ _ fr' hi r1 r2
                  rw [show A ++ [x] = A ++ x :: D by rw [hDn]] at hpost
                  exact finA hpost
        · cases h
      · cases h
    · cases h
  · cases h

set_option maxRecDepth 100000 in
/-- What the code of slices.Insert answers, in memory: a row that is for good. -/
theorem pInsert55_ok {E : Env} {by_ : Nat} {z : AV} (hmix : E.P.follows .mixedOrders = true) (hname : ∀ (f : Nat) fn, E.P.funcs[f]? = some fn → fn.body ≠ none → fn.name ≠ "runtime.NumGoroutine") (hF : E.P.funcs[55]? = some Tryz.f55) (hov : PrimOk E 93 pOverlaps) (hT : SlT (Look.of E.P) 26 28 7 by_ z) :
    PrimOk E 55 (pInsert (Look.of E.P) 28 7 by_) := by
  intro args st v st' h g w vals hr hi hgl
  unfold pInsert at h
  split at h
  · rename_i z1 o n i z2 tok cp x
    split at h
    · rename_i cs hget
      split at h
      · rename_i xs hxs
        split at h
        · rename_i hc
          obtain ⟨rfl, rfl, hcl, hin, hb1, hb2, hgood⟩ := hc
          simp only [Option.some.injEq, Prod.mk.injEq] at h
          obtain ⟨rfl, rfl⟩ := h
          simp only [Bool.and_eq_true, List.all_eq_true] at hgood
          obtain ⟨hgx, hgood⟩ : goodB (Look.of E.P) 28 7 x = true ∧ (∀ y ∈ xs, goodB (Look.of E.P) 28 7 y = true) := ⟨hgood.2, hgood.1⟩
          have hmx : maxBytes = 140737488355328 := rfl
          obtain ⟨hfl, hxl⟩ := flat_of_elems hT.size hxs hgood
          rw [List.take_of_length_le (by omega)] at hfl
          have hL := E.hL
          -- the two halves
          let A := xs.take i
          let D := xs.drop i
          have hAD : A ++ D = xs := List.take_append_drop i xs
          have hA : A.length = i := by simp [A]; omega
          have hD : i + D.length = n := by simp [D]; omega
          have hgA : ∀ y ∈ A, goodB (Look.of E.P) 28 7 y = true := fun y hy => hgood y (List.mem_of_mem_take hy)
          have hgD : ∀ y ∈ D, goodB (Look.of E.P) 28 7 y = true := fun y hy => hgood y (List.mem_of_mem_drop hy)
          have hgall : ∀ y ∈ A ++ x :: D, goodB (Look.of E.P) 28 7 y = true := fun y hy => by
            rcases List.mem_append.1 hy with hy | hy
            · exact hgA y hy
            · rcases List.mem_cons.1 hy with hy | hy
              · rw [hy]; exact hgx
              · exact hgD y hy
          have hlen : (A ++ x :: D).length = n + 1 := by simp [hA]; omega
          have hflen := flat_len (sz := 7) fun y hy => good_len (hgall y hy)
          rw [hlen] at hflen
          -- the caller
          let call : Caller := acall E (fun _ => AIns) (fun f => if f = 93 then some pOverlaps else none) 1
          have hcall : CallOk E call := acall_ok hmix (An := fun _ => AIns) (fun f t b hb => by cases hb) hname (fun f p hp => by
            split at hp
            · rename_i hf; subst hf; injection hp with hp; subst hp; exact hov
            · cases hp) 1
          have hcov : ∀ (st : Store) cs' off l2 c2, st.get o = some (.cells cs') → call (.func (.func 93) [] []) [.row 7 tok cp [x], .arr 7 o off l2 c2] st = some (.bool false, st) := by
            intro st cs' off l2 c2 hg
            show (match pOverlaps [.row 7 tok cp [x], .arr 7 o off l2 c2] st with
              | some r => some r
              | none => _) = _
            simp only [pOverlaps, hg]
          -- the machine's slice
          generalize hl : vals.toList = l at hr
          cases hr with
          | cons a _ _ _ ha hr1 =>
          cases hr1 with
          | cons b' _ _ _ hb' hr2 =>
          cases hr2 with
          | cons c' _ _ _ hc' hr3 =>
            cases hr3
            have hv : vals = #[a, b', c'] := by rw [← hl]
            subst hv
            cases ha with
            | arr b _ _ _ c _ _ hla hnc hz hcap =>
              have ho : o < st.nobj := Store.get_lt hget
              have hrep : Rep g (.slice (some ⟨b, 0, none⟩) n c) (.arr 7 o 0 n (some c)) := .arr _ _ _ _ _ _ _ hla hnc hz (fun m hm => by injection hm with hm; exact hm.symm)
              have hreps : Reps g (#[Value.slice (some ⟨b, 0, none⟩) n c, b', c'] : Array Value).toList [.arr 7 o 0 n (some c), .int .i64 (.ofNat i), .row 7 tok cp [x]]             := .cons _ _ _ _ hrep (.cons _ _ _ _ hb' (.cons _ _ _ _ hc' .nil))
              have bnd_lo : ∀ (a h : Nat), a ≤ h → bnd (some (.int .i64 (a : Int))) 0 h = some a := fun a h hah => by
                simp only [bnd]; rw [if_pos ⟨by omega, by omega⟩]; simp
              have wr : ∀ a : Nat, a ≤ 9223372036854775807 → IntKind.i64.wrap (a : Int) = a := fun a ha => IntWalk.i64_in _ (by omega)
              have hw : IntKind.i64.wrap ((n : Int) + 1) = n + 1 := by have := wr (n + 1) (by omega); simpa using this
              have hw1 : IntKind.i64.wrap ((n : Int) + ((1 : Nat) : Int)) = n + 1 := by simpa using hw
              have hwi : i + 1 ≤ 9223372036854775807 → IntKind.i64.wrap ((i : Int) + ((1 : Nat) : Int)) = ((i + 1 : Nat) : Int) := fun hh => by have := wr (i + 1) hh; simpa using this
              have hb1' : bounds (some (.int .i64 (i : Int))) none n c = some (i, n) := by simp only [bounds]; rw [show bnd none n c = some n from rfl]; simp only [bnd_lo i n (by omega)]
              let fr := aenter Tryz.f55 [.arr 7 o 0 n (some c), .int .i64 (.ofNat i), .row 7 tok cp [x]]
              have hfr : fr.tmps.length = 95 := by rfl
              have f0 : fr.tmps[0]? = some (.arr 7 o 0 n (some c)) := rfl
              have f1 : fr.tmps[1]? = some (.int .i64 (i : Int)) := rfl
              have f2 : fr.tmps[2]? = some (.row 7 tok cp [x]) := rfl
              have fin : ∀ (sti st2 : Store) (r : AV) (fr' : AFr), Inv g sti w → acode E call AIns 55 1 false (Tryz.f55.body.get!) fr sti = some (.ret, fr', st2) → fr'.tmps[6]? = some r →
                  FnApplies E.P 55 #[Value.slice (some ⟨b, 0, none⟩) n c, b', c'] w (Post g st2 w r) := by
                intro sti st2 r fr' hii h1 h2
                refine afun_ok (An := fun _ => AIns) hcall hmix (fun f t b hb => by cases hb) hname (n := 1) (f := 55) (args := [.arr 7 o 0 n (some c), .int .i64 (.ofNat i), .row 7 tok cp [x]]) (st := sti) (v := r) ?_ hreps hii hgl
                unfold afun
                have hfn : E.L.fn 55 = some Tryz.f55 := by rw [hL]; exact hF
                have hbody : Tryz.f55.body = some (Tryz.f55.body.get!) := rfl
                rw [hfn]
                simp only
                rw [hbody]
                simp only
                rw [h1]
                have hres : aresults E AIns fr' st2 Tryz.f55.results.toList = some [r] := by
                  show aresults E AIns fr' st2 [.tmp 6] = some [r]
                  simp only [aresults, aresult, AIns, h2]
                simp only [hres]
              -- behind the call: the row is frozen
              have finB : ∀ {cx : Nat}, FnApplies E.P 55 #[Value.slice (some ⟨b, 0, none⟩) n c, b', c'] w (Post g (st.set o (.cells (flat (A ++ x :: D) ++ flat (List.replicate cx (junkE (Look.of E.P) 28 7))))) w (.arr 7 o 0 (n + 1) (some c))) →
                  FnApplies E.P 55 #[Value.slice (some ⟨b, 0, none⟩) n c, b', c'] w (Post g ((st.set o .dead).new .dead) w (.row 7 none none (A ++ x :: D))) := by
                intro cx hpost
                refine fnApplies_mono hpost fun u w' ⟨g', a1, i1, rep1⟩ => ?_
                cases rep1 with
                | arr b3 _ _ _ c3 _ _ hl3 hn3 hz3 hcap3 =>
                  have hrd : readRow (Look.of E.P) 28 (st.set o (.cells (flat (A ++ x :: D) ++ flat (List.replicate cx (junkE (Look.of E.P) 28 7))))) (.arr 7 o 0 (n + 1) (some c)) = some (A ++ x :: D) :=
                    readRow_at hT.size hz (pre := []) (ys := A ++ x :: D) (post := flat (List.replicate cx (junkE (Look.of E.P) 28 7))) (by unfold Store.getCells; rw [Store.get_set_same hi.wfo hget]; rfl) rfl hlen.symm hgall
                  obtain ⟨g2, a2, i2, rep2⟩ := freeze_one (P := E.P) i1 hl3 hn3 hz3 hrd
                  rw [set_set] at i2
                  exact ⟨g2, a1.trans a2, i2.newDead, rep2⟩
              have finA : FnApplies E.P 55 #[Value.slice (some ⟨b, 0, none⟩) n c, b', c'] w (Post g (st.new (.cells (flat (A ++ x :: D)))) w (.arr 7 st.nobj 0 (n + 1) none)) →
                  FnApplies E.P 55 #[Value.slice (some ⟨b, 0, none⟩) n c, b', c'] w (Post g ((st.set o .dead).new .dead) w (.row 7 none none (A ++ x :: D))) := by
                intro hpost
                refine fnApplies_mono hpost fun u w' ⟨g', a1, i1, rep1⟩ => ?_
                cases rep1 with
                | arr b3 _ _ _ c3 _ _ hl3 hn3 hz3 hcap3 =>
                  have hrd : readRow (Look.of E.P) 28 (st.new (.cells (flat (A ++ x :: D)))) (.arr 7 st.nobj 0 (n + 1) none) = some (A ++ x :: D) :=
                    readRow_at hT.size hz (pre := []) (ys := A ++ x :: D) (post := []) (by rw [getCells_new', List.append_nil, List.nil_append]) rfl hlen.symm hgall
                  obtain ⟨g2, a2, i2, rep2⟩ := freeze_one (P := E.P) i1 hl3 hn3 hz3 hrd
                  -- the old one is nobody's
                  have hgo : ((st.new (.cells (flat (A ++ x :: D)))).set st.nobj .dead).get o = some (.cells cs) := by
                    rw [Store.get_set_other (by simp [Store.new]) (by omega), Store.get_old _ ho]; exact hget
                  have hl2 := hla.mono (a1.trans a2).le
                  rcases hl2 with hd | ⟨tot, hblk, _⟩
                  · have := i2.dead o hd
                    rw [hgo] at this; cases this
                  · have i3 := i2.die hblk
                    have a3 := Adv.drop i2 hblk
                    rw [new_dead ho] at i3
                    exact ⟨_, (a1.trans a2).trans a3, i3, rep2.mono a3.le⟩
              by_cases hroom : n + 1 ≤ c
              · -- in its place
                let cs1 := cs ++ List.replicate (c * 7 - cs.length) .junk
                have hcs1 : cs1 = flat (A ++ D ++ List.replicate (c - n) (junkE (Look.of E.P) 28 7)) := by
                  rw [flat_app, hAD, hfl, hT.junk_cells]
                  simp only [cs1, hcl]
                  congr 2
                  rw [← Nat.sub_mul]
                have hla' : LiveA g b o (c * 7) := by simpa using hla
                have hi1 : Inv g (st.set o (.cells cs1)) w := hi.extend hla' hget (by rw [hcl]; exact Nat.mul_le_mul_right _ hnc)
                have hget1 : (st.set o (.cells cs1)).get o = some (.cells cs1) := Store.get_set_same hi.wfo hget
                rcases Nat.lt_or_eq_of_le hin with hin | hin
                · obtain ⟨st1, nn, mm, k1, k2⟩ := copiesB (T := 26) (st := st.set o (.cells cs1)) (tok := tok) (cp := cp) (x := x) hT (wf_set hi.wfo) hA hD hin hroom (by rw [hget1, hcs1]) hgA hgD hgx
                  obtain ⟨fr', r1, r2⟩ := insB55 (E := E) (call := call) 1 o i n c (st.set o (.cells cs1)) tok cp x fr hfr f0 f1 f2 hin hroom (by rw [hL]; exact hT.size) (by rw [hL]; exact hT.el) (by rw [hL]; exact hT.un)
                    hb1' (by omega) hw (by simpa using (by omega : ¬ (i : Int) = n)) (by simp only [decide_eq_false_iff_not]; omega) rfl hw1 (hwi (by omega))
                    (by simp only [bounds]; rw [show bnd none (n + 1) c = some (n + 1) from rfl]; simp only [bnd_lo (i + 1) (n + 1) (by omega)]) (by omega)
                    (by simp only [bounds]; rw [show bnd none (n + 1) c = some (n + 1) from rfl]; simp only [bnd_lo i (n + 1) (by omega)])
                    (by
                      have : bnd (some (.int .i64 ((n : Int) + 1))) n c = some (n + 1) := by
                        simp only [bnd]; rw [if_pos ⟨by omega, by omega⟩]; congr 1
                      simp only [bounds, this]; rw [show bnd none 0 (n + 1) = some 0 from rfl]) (by omega) (by omega) (by omega)
                    (hcov _ _ _ _ _ hget1) st1 _ nn mm (by rw [hL]; exact k1) (by rw [hL]; exact k2)
                  have hpost := fin _ _ _ fr' hi1 r1 r2
                  rw [set_set] at hpost
                  exact finB hpost
                · subst hin
                  have hDn : D = [] := List.eq_nil_of_length_eq_zero (by omega)
                  have hk := endG (T := 26) (st := st.set o (.cells cs1)) (tok := tok) (cp := cp) (x := x) hT hA hgA hgx hroom (by rw [hget1, hcs1, hDn, List.append_nil])
                  obtain ⟨fr', r1, r2⟩ := insG55 (E := E) (call := call) 1 o i c (st.set o (.cells cs1)) tok cp x fr hfr f0 f1 f2 (by rw [hL]; exact hT.size) (by rw [hL]; exact hT.el) (by rw [hL]; exact hT.un)
                    hb1' (by omega) (by simp) rfl _ _ (by rw [hL]; exact hk)
                  have hpost := fin _ _ _ fr' hi1 r1 r2
                  rw [set_set, show A ++ [x] = A ++ x :: D by rw [hDn]] at hpost
                  exact finB hpost
              · -- in new memory
                have hcn : c = n := by omega
                subst hcn
                rcases Nat.lt_or_eq_of_le hin with hin | hin
                · obtain ⟨st0, st1, nn, mm, k0, k1, k2⟩ := copiesA (T := 26) (st := st) (tok := tok) (cp := cp) (x := x) hT hi.wfo (o := o) (by unfold Store.getCells; rw [hget, hAD, hfl]) ho hA hD hin hgA hgD hgx hb1 hb2
                  obtain ⟨fr', r1, r2⟩ := insA55 (E := E) (call := call) 1 o st.nobj i c c st tok cp x fr hfr f0 f1 f2 hin (by rw [hL]; exact hT.size) (by rw [hL]; exact hT.el) (by rw [hL]; exact hT.un)
                    hb1' (by omega) hw (by simpa using (by omega : ¬ (i : Int) = c)) (by simp only [decide_eq_true_eq]; omega) rfl hw1 (hwi (by omega)) (by rw [show (c : Int) + 1 - (i : Int) = ((c + 1 - i : Nat) : Int) by omega]; exact wr _ (by omega))
                    (by simp only [bounds]; rw [show bnd none (c + 1) (c + 1) = some (c + 1) from rfl]; simp only [bnd_lo (i + 1) (c + 1) (by omega)])
                    (by simp only [bounds]; rw [show bnd none (c + 1) (c + 1) = some (c + 1) from rfl]; simp only [bnd_lo i (c + 1) (by omega)])
                    (by
                      have : bnd (some (.int .i64 (i : Int))) c c = some i := by
                        simp only [bnd]; rw [if_pos ⟨by omega, by omega⟩]; simp
                      simp only [bounds, this]; rw [show bnd none 0 i = some 0 from rfl]) (by omega) (by omega) (by omega) (by omega) (by omega)
                    st0 st1 _ nn mm (by rw [hL]; exact k0) (by rw [hL]; exact k1) (by rw [hL]; exact k2)
                  exact finA (fin _ _ _ fr' hi r1 r2)
                · subst hin
                  have hDn : D = [] := List.eq_nil_of_length_eq_zero (by omega)
                  have hk := endE (T := 26) (st := st) (o := o) (tok := tok) (cp := cp) (x := x) hT hA hgA (by unfold Store.getCells; rw [hget, ← hfl, ← hAD, hDn, List.append_nil]) hb1 hb2
                  obtain ⟨fr', r1, r2⟩ := insE55 (E := E) (call := call) 1 o st.nobj i st tok cp x fr hfr f0 f1 f2 (by rw [hL]; exact hT.size) (by rw [hL]; exact hT.el) (by rw [hL]; exact hT.un)
                    hb1' (by simp) rfl _ _ (by rw [hL]; exact hk)
                  have hpost := fin _ _ _ fr' hi r1 r2
                  rw [show A ++ [x] = A ++ x :: D by rw [hDn]] at hpost
                  exact finA hpost
        · cases h
      · cases h
    · cases h
  · cases h

end Go.Sim
