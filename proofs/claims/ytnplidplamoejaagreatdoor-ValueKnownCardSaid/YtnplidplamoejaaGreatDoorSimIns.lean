/- slices.Insert: what its code comes to, the room told. -/
import Derived.Test.YtnplidplamoejaaGreatDoorSimZ
import Derived.Test.YtnplidplamoejaaGreatDoorProg
set_option linter.unusedVariables false
set_option linter.unusedSimpArgs false
set_option linter.unnecessarySimpa false
namespace Go.Sim
open Go.Proofs
/-- How slices.Insert is read. -/
def AIns : Ann := { base := fun _ => none, mode := fun r i => if (r = 9 ∧ i = 8) ∨ (r = 7 ∧ i = 2) then 1 else 0 }

set_option maxRecDepth 100000 in
set_option maxHeartbeats 4000000 in
theorem insB54 {E : Env} {call : Caller} (k o i len c : Nat) (st : Store) (tok : Option (Nat × Nat)) (cp : Option Nat) (x : AV) (fr : AFr) (hfr : fr.tmps.length = 95)
  (h0 : fr.tmps[0]? = some (.arr 1 o 0 len (some c))) (h1 : fr.tmps[1]? = some (.int .i64 i)) (h2 : fr.tmps[2]? = some (.row 1 tok cp [x])) (hi : i < len) (hc : len + 1 ≤ c) (hsz : sizeT E.L 9 = some 1) (het : elemT E.L 25 = some 9) (hund : E.L.und 25 = some (.slice 9))
  (hb1 : bounds (some (.int .i64 i)) none len c = some (i, len)) (hci : ¬ c = i) (hw : IntKind.i64.wrap ((len : Int) + 1) = len + 1)
  (hcnd1 : ((i : Int) == (len : Int)) = false) (hcnd2 : decide ((len : Int) + 1 > (c : Int)) = false) (h10 : (((1 : Nat) : Int) == 0) = false) (hw1 : IntKind.i64.wrap ((len : Int) + ((1 : Nat) : Int)) = len + 1) (hwi : IntKind.i64.wrap ((i : Int) + ((1 : Nat) : Int)) = ((i + 1 : Nat) : Int))
  (hb3 : bounds (some (.int .i64 ((i + 1 : Nat) : Int))) none (len + 1) c = some (i + 1, len + 1)) (hci1 : ¬ c = i + 1) (hb4 : bounds (some (.int .i64 i)) none (len + 1) c = some (i, len + 1)) (hb2 : bounds none (some (.int .i64 ((len : Int) + 1))) len c = some (0, len + 1)) (hc0 : ¬ c = 0) (hil : ¬ (i : Int) = len) (hlt : ¬ (c : Int) < (len : Int) + 1)
  (hov : call (.func (.func 91) [] []) [.row 1 tok cp [x], .arr 1 o ((i + 1) * 1) (len + 1 - (i + 1)) (some (c - (i + 1)))] st = some (.bool false, st))
  (st1 st2 : Store) (nn mm : AV) (hcp1 : aCopy E.L 25 [.val (.arr 1 o ((i + 1) * 1) (len + 1 - (i + 1)) (some (c - (i + 1)))), .val (.arr 1 o (i * 1) (len + 1 - i) (some (c - i)))] st = some (.val nn, st1))
  (hcp2 : aCopy E.L 25 [.val (.arr 1 o (i * 1) (len + 1 - i) (some (c - i))), .val (.row 1 tok cp [x])] st1 = some (.val mm, st2)) :
  ∃ fr', acode E call AIns 54 k false (Tryz.f54.body.get!) fr st = some (.ret, fr', st2) ∧ fr'.tmps[6]? = some (.arr 1 o 0 (len + 1) (some c)) := by
  generalize hr : acode E call AIns 54 k false (Tryz.f54.body.get!) fr st = r
  try simp only [Nat.mul_one] at hov hcp1 hcp2
  simp (config := { decide := true }) only [Tryz.f54, Option.get!, acode, aops, aWanted, aoper, Op.operands, Call.operands, aevals, aeval, aout, aop, aMove, aput, AIns, absC, h0, h1, h2, aSlice, takeO, sliceV, het, hsz, sliceArr, capOf, hfr, List.getElem?_set, List.length_set, aBuiltin, aLen, hund, lenV, aBin, binV, intV, intOp, aCap, capV,
    decide_false, decide_true, unV, Bool.not_false, aUn, adraw, aopsF, labOp, freeOp, keepOp, freeIns, freeIn, notPtrs,
    Option.map_some, Option.isSome, Option.isNone, List.length_cons, List.length_nil, Nat.reduceEqDiff, Nat.reduceLT, if_true, if_false, reduceIte, Nat.reduceAdd, Bool.false_eq_true, Option.getD_some, Option.some.injEq, reduceCtorEq, and_false, false_and, Array.toList, valsOf, List.getElem?_toArray, List.getElem?_cons_zero, List.getElem?_cons_succ, Option.toArray, List.append_nil, List.nil_append, List.cons_append, Array.toList_append, List.size_toArray, Nat.sub_zero, Nat.zero_mul, Nat.zero_add, Nat.mul_one, Option.getD, List.cons.injEq, Prod.mk.injEq, true_and, and_true, Option.isSome_some, Option.isNone_none, Option.isSome_none, Option.isNone_some,
    hb1, hci, hw, hcnd1, hcnd2, hb2, hc0, hil, hlt, hov, hcp1, hcp2, h10, hw1, hwi, hb3, hci1, hb4] at hr
  subst hr
  refine ⟨_, rfl, ?_⟩
  simp (config := { decide := true }) only [List.getElem?_set, List.length_set, hfr, if_true, if_false, reduceIte, h0]

set_option maxRecDepth 100000 in
set_option maxHeartbeats 4000000 in
theorem insA54 {E : Env} {call : Caller} (k o o2 i len c : Nat) (st : Store) (tok : Option (Nat × Nat)) (cp : Option Nat) (x : AV) (fr : AFr) (hfr : fr.tmps.length = 95)
  (h0 : fr.tmps[0]? = some (.arr 1 o 0 len (some c))) (h1 : fr.tmps[1]? = some (.int .i64 i)) (h2 : fr.tmps[2]? = some (.row 1 tok cp [x])) (hi : i < len) (hsz : sizeT E.L 9 = some 1) (het : elemT E.L 25 = some 9) (hund : E.L.und 25 = some (.slice 9))
  (hb1 : bounds (some (.int .i64 i)) none len c = some (i, len)) (hci : ¬ c = i) (hw : IntKind.i64.wrap ((len : Int) + 1) = len + 1)
  (hcnd1 : ((i : Int) == (len : Int)) = false) (hcnd2 : decide ((len : Int) + 1 > (c : Int)) = true) (h10 : (((1 : Nat) : Int) == 0) = false) (hw1 : IntKind.i64.wrap ((len : Int) + ((1 : Nat) : Int)) = len + 1) (hwi : IntKind.i64.wrap ((i : Int) + ((1 : Nat) : Int)) = ((i + 1 : Nat) : Int)) (hws : IntKind.i64.wrap ((len : Int) + 1 - (i : Int)) = ((len + 1 - i : Nat) : Int))
  (hb3 : bounds (some (.int .i64 ((i + 1 : Nat) : Int))) none (len + 1) (len + 1) = some (i + 1, len + 1)) (hb4 : bounds (some (.int .i64 i)) none (len + 1) (len + 1) = some (i, len + 1)) (hb2 : bounds none (some (.int .i64 (i : Int))) len c = some (0, i)) (hc0 : ¬ c = 0) (hil : ¬ (i : Int) = len) (hlt : (c : Int) < (len : Int) + 1) (hi1 : ¬ i = len + 1) (hi2 : ¬ i = len)
  (st0 st1 st2 : Store) (nn mm : AV) (hap : aAppend E.L 1 25 3 [.val (.arr 1 o 0 i (some c)), .val (.int .i64 ((len + 1 - i : Nat) : Int))] st = some (.val (.arr 1 o2 0 (len + 1) none), st0))
  (hcp1 : aCopy E.L 25 [.val (.arr 1 o2 (i * 1) (len + 1 - i) none), .val (.row 1 tok cp [x])] st0 = some (.val nn, st1))
  (hcp2 : aCopy E.L 25 [.val (.arr 1 o2 ((i + 1) * 1) (len + 1 - (i + 1)) none), .val (.arr 1 o (i * 1) (len - i) (some (c - i)))] st1 = some (.val mm, st2)) :
  ∃ fr', acode E call AIns 54 k false (Tryz.f54.body.get!) fr st = some (.ret, fr', st2) ∧ fr'.tmps[6]? = some (.arr 1 o2 0 (len + 1) none) := by
  generalize hr : acode E call AIns 54 k false (Tryz.f54.body.get!) fr st = r
  try simp only [Nat.mul_one] at hcp1 hcp2
  simp (config := { decide := true }) only [Tryz.f54, Option.get!, acode, aops, aWanted, aoper, Op.operands, Call.operands, aevals, aeval, aout, aop, aMove, aput, AIns, absC, h0, h1, h2, aSlice, takeO, sliceV, het, hsz, sliceArr, capOf, hfr, List.getElem?_set, List.length_set, aBuiltin, aLen, hund, lenV, aBin, binV, intV, intOp, aCap, capV,
    decide_false, decide_true, unV, Bool.not_false, aUn, adraw, aopsF, labOp, freeOp, keepOp, freeIns, freeIn, notPtrs,
    Option.map_some, Option.isSome, Option.isNone, List.length_cons, List.length_nil, Nat.reduceEqDiff, Nat.reduceLT, if_true, if_false, reduceIte, Nat.reduceAdd, Bool.false_eq_true, Option.getD_some, Option.some.injEq, reduceCtorEq, and_false, false_and, Array.toList, valsOf, List.getElem?_toArray, List.getElem?_cons_zero, List.getElem?_cons_succ, Option.toArray, List.append_nil, List.nil_append, List.cons_append, Array.toList_append, List.size_toArray, Nat.sub_zero, Nat.zero_mul, Nat.zero_add, Nat.mul_one, Option.getD, List.cons.injEq, Prod.mk.injEq, true_and, and_true, Option.isSome_some, Option.isNone_none, Option.isSome_none, Option.isNone_some,
    hb1, hci, hw, hcnd1, hcnd2, hb2, hc0, hil, hlt, hap, hcp1, hcp2, h10, hw1, hwi, hws, hb3, hb4, hi1, hi2, Nat.add_right_cancel_iff] at hr
  subst hr
  refine ⟨_, rfl, ?_⟩
  simp (config := { decide := true }) only [List.getElem?_set, List.length_set, hfr, if_true, if_false, reduceIte, h0]

set_option maxRecDepth 100000 in
set_option maxHeartbeats 4000000 in
theorem insE54 {E : Env} {call : Caller} (k o o2 len : Nat) (st : Store) (tok : Option (Nat × Nat)) (cp : Option Nat) (x : AV) (fr : AFr) (hfr : fr.tmps.length = 95)
  (h0 : fr.tmps[0]? = some (.arr 1 o 0 len (some len))) (h1 : fr.tmps[1]? = some (.int .i64 len)) (h2 : fr.tmps[2]? = some (.row 1 tok cp [x])) (hsz : sizeT E.L 9 = some 1) (het : elemT E.L 25 = some 9) (hund : E.L.und 25 = some (.slice 9))
  (hb1 : bounds (some (.int .i64 len)) none len len = some (len, len)) (hcnd1 : ((len : Int) == (len : Int)) = true) (h10 : (((1 : Nat) : Int) == 0) = false)
  (st1 : Store) (r6 : AV) (hap : aAppend E.L 1 25 25 [.val (.arr 1 o 0 len (some len)), .val (.row 1 tok cp [x])] st = some (.val r6, st1)) :
  ∃ fr', acode E call AIns 54 k false (Tryz.f54.body.get!) fr st = some (.ret, fr', st1) ∧ fr'.tmps[6]? = some r6 := by
  generalize hr : acode E call AIns 54 k false (Tryz.f54.body.get!) fr st = r
  simp (config := { decide := true }) only [Tryz.f54, Option.get!, acode, aops, aWanted, aoper, Op.operands, Call.operands, aevals, aeval, aout, aop, aMove, aput, AIns, absC, h0, h1, h2, aSlice, takeO, sliceV, het, hsz, sliceArr, capOf, hfr, List.getElem?_set, List.length_set, aBuiltin, aLen, hund, lenV, aBin, binV, intV, intOp, aCap, capV,
    decide_false, decide_true, unV, Bool.not_false, aUn, adraw, aopsF, labOp, freeOp, keepOp, freeIns, freeIn, notPtrs,
    Option.map_some, Option.isSome, Option.isNone, List.length_cons, List.length_nil, Nat.reduceEqDiff, Nat.reduceLT, if_true, if_false, reduceIte, Nat.reduceAdd, Bool.false_eq_true, Option.getD_some, Option.some.injEq, reduceCtorEq, and_false, false_and, Array.toList, valsOf, List.getElem?_toArray, List.getElem?_cons_zero, List.getElem?_cons_succ, Option.toArray, List.append_nil, List.nil_append, List.cons_append, Array.toList_append, List.size_toArray, Nat.sub_zero, Nat.zero_mul, Nat.zero_add, Nat.mul_one, Option.getD, List.cons.injEq, Prod.mk.injEq, true_and, and_true, Option.isSome_some, Option.isNone_none, Option.isSome_none, Option.isNone_some,
    hb1, hcnd1, hap, h10] at hr
  subst hr
  refine ⟨_, rfl, ?_⟩
  simp (config := { decide := true }) only [List.getElem?_set, List.length_set, hfr, if_true, if_false, reduceIte, h0]

set_option maxRecDepth 100000 in
set_option maxHeartbeats 4000000 in
theorem insG54 {E : Env} {call : Caller} (k o len c : Nat) (st : Store) (tok : Option (Nat × Nat)) (cp : Option Nat) (x : AV) (fr : AFr) (hfr : fr.tmps.length = 95)
  (h0 : fr.tmps[0]? = some (.arr 1 o 0 len (some c))) (h1 : fr.tmps[1]? = some (.int .i64 len)) (h2 : fr.tmps[2]? = some (.row 1 tok cp [x])) (hsz : sizeT E.L 9 = some 1) (het : elemT E.L 25 = some 9) (hund : E.L.und 25 = some (.slice 9))
  (hb1 : bounds (some (.int .i64 len)) none len c = some (len, len)) (hci : ¬ c = len) (hcnd1 : ((len : Int) == (len : Int)) = true) (h10 : (((1 : Nat) : Int) == 0) = false)
  (st1 : Store) (r6 : AV) (hap : aAppend E.L 1 25 25 [.val (.arr 1 o 0 len (some c)), .val (.row 1 tok cp [x])] st = some (.val r6, st1)) :
  ∃ fr', acode E call AIns 54 k false (Tryz.f54.body.get!) fr st = some (.ret, fr', st1) ∧ fr'.tmps[6]? = some r6 := by
  generalize hr : acode E call AIns 54 k false (Tryz.f54.body.get!) fr st = r
  simp (config := { decide := true }) only [Tryz.f54, Option.get!, acode, aops, aWanted, aoper, Op.operands, Call.operands, aevals, aeval, aout, aop, aMove, aput, AIns, absC, h0, h1, h2, aSlice, takeO, sliceV, het, hsz, sliceArr, capOf, hfr, List.getElem?_set, List.length_set, aBuiltin, aLen, hund, lenV, aBin, binV, intV, intOp, aCap, capV,
    decide_false, decide_true, unV, Bool.not_false, aUn, adraw, aopsF, labOp, freeOp, keepOp, freeIns, freeIn, notPtrs,
    Option.map_some, Option.isSome, Option.isNone, List.length_cons, List.length_nil, Nat.reduceEqDiff, Nat.reduceLT, if_true, if_false, reduceIte, Nat.reduceAdd, Bool.false_eq_true, Option.getD_some, Option.some.injEq, reduceCtorEq, and_false, false_and, Array.toList, valsOf, List.getElem?_toArray, List.getElem?_cons_zero, List.getElem?_cons_succ, Option.toArray, List.append_nil, List.nil_append, List.cons_append, Array.toList_append, List.size_toArray, Nat.sub_zero, Nat.zero_mul, Nat.zero_add, Nat.mul_one, Option.getD, List.cons.injEq, Prod.mk.injEq, true_and, and_true, Option.isSome_some, Option.isNone_none, Option.isSome_none, Option.isNone_some,
    hb1, hci, hcnd1, hap, h10] at hr
  subst hr
  refine ⟨_, rfl, ?_⟩
  simp (config := { decide := true }) only [List.getElem?_set, List.length_set, hfr, if_true, if_false, reduceIte, h0]

set_option maxRecDepth 100000 in
set_option maxHeartbeats 4000000 in
theorem insB55 {E : Env} {call : Caller} (k o i len c : Nat) (st : Store) (tok : Option (Nat × Nat)) (cp : Option Nat) (x : AV) (fr : AFr) (hfr : fr.tmps.length = 95)
  (h0 : fr.tmps[0]? = some (.arr 7 o 0 len (some c))) (h1 : fr.tmps[1]? = some (.int .i64 i)) (h2 : fr.tmps[2]? = some (.row 7 tok cp [x])) (hi : i < len) (hc : len + 1 ≤ c) (hsz : sizeT E.L 28 = some 7) (het : elemT E.L 26 = some 28) (hund : E.L.und 26 = some (.slice 28))
  (hb1 : bounds (some (.int .i64 i)) none len c = some (i, len)) (hci : ¬ c = i) (hw : IntKind.i64.wrap ((len : Int) + 1) = len + 1)
  (hcnd1 : ((i : Int) == (len : Int)) = false) (hcnd2 : decide ((len : Int) + 1 > (c : Int)) = false) (h10 : (((1 : Nat) : Int) == 0) = false) (hw1 : IntKind.i64.wrap ((len : Int) + ((1 : Nat) : Int)) = len + 1) (hwi : IntKind.i64.wrap ((i : Int) + ((1 : Nat) : Int)) = ((i + 1 : Nat) : Int))
  (hb3 : bounds (some (.int .i64 ((i + 1 : Nat) : Int))) none (len + 1) c = some (i + 1, len + 1)) (hci1 : ¬ c = i + 1) (hb4 : bounds (some (.int .i64 i)) none (len + 1) c = some (i, len + 1)) (hb2 : bounds none (some (.int .i64 ((len : Int) + 1))) len c = some (0, len + 1)) (hc0 : ¬ c = 0) (hil : ¬ (i : Int) = len) (hlt : ¬ (c : Int) < (len : Int) + 1)
  (hov : call (.func (.func 93) [] []) [.row 7 tok cp [x], .arr 7 o ((i + 1) * 7) (len + 1 - (i + 1)) (some (c - (i + 1)))] st = some (.bool false, st))
  (st1 st2 : Store) (nn mm : AV) (hcp1 : aCopy E.L 26 [.val (.arr 7 o ((i + 1) * 7) (len + 1 - (i + 1)) (some (c - (i + 1)))), .val (.arr 7 o (i * 7) (len + 1 - i) (some (c - i)))] st = some (.val nn, st1))
  (hcp2 : aCopy E.L 26 [.val (.arr 7 o (i * 7) (len + 1 - i) (some (c - i))), .val (.row 7 tok cp [x])] st1 = some (.val mm, st2)) :
  ∃ fr', acode E call AIns 55 k false (Tryz.f55.body.get!) fr st = some (.ret, fr', st2) ∧ fr'.tmps[6]? = some (.arr 7 o 0 (len + 1) (some c)) := by
  generalize hr : acode E call AIns 55 k false (Tryz.f55.body.get!) fr st = r
  try simp only [Nat.mul_one] at hov hcp1 hcp2
  simp (config := { decide := true }) only [Tryz.f55, Option.get!, acode, aops, aWanted, aoper, Op.operands, Call.operands, aevals, aeval, aout, aop, aMove, aput, AIns, absC, h0, h1, h2, aSlice, takeO, sliceV, het, hsz, sliceArr, capOf, hfr, List.getElem?_set, List.length_set, aBuiltin, aLen, hund, lenV, aBin, binV, intV, intOp, aCap, capV,
    decide_false, decide_true, unV, Bool.not_false, aUn, adraw, aopsF, labOp, freeOp, keepOp, freeIns, freeIn, notPtrs,
    Option.map_some, Option.isSome, Option.isNone, List.length_cons, List.length_nil, Nat.reduceEqDiff, Nat.reduceLT, if_true, if_false, reduceIte, Nat.reduceAdd, Bool.false_eq_true, Option.getD_some, Option.some.injEq, reduceCtorEq, and_false, false_and, Array.toList, valsOf, List.getElem?_toArray, List.getElem?_cons_zero, List.getElem?_cons_succ, Option.toArray, List.append_nil, List.nil_append, List.cons_append, Array.toList_append, List.size_toArray, Nat.sub_zero, Nat.zero_mul, Nat.zero_add, Nat.mul_one, Option.getD, List.cons.injEq, Prod.mk.injEq, true_and, and_true, Option.isSome_some, Option.isNone_none, Option.isSome_none, Option.isNone_some,
    hb1, hci, hw, hcnd1, hcnd2, hb2, hc0, hil, hlt, hov, hcp1, hcp2, h10, hw1, hwi, hb3, hci1, hb4] at hr
  subst hr
  refine ⟨_, rfl, ?_⟩
  simp (config := { decide := true }) only [List.getElem?_set, List.length_set, hfr, if_true, if_false, reduceIte, h0]

set_option maxRecDepth 100000 in
set_option maxHeartbeats 4000000 in
theorem insA55 {E : Env} {call : Caller} (k o o2 i len c : Nat) (st : Store) (tok : Option (Nat × Nat)) (cp : Option Nat) (x : AV) (fr : AFr) (hfr : fr.tmps.length = 95)
  (h0 : fr.tmps[0]? = some (.arr 7 o 0 len (some c))) (h1 : fr.tmps[1]? = some (.int .i64 i)) (h2 : fr.tmps[2]? = some (.row 7 tok cp [x])) (hi : i < len) (hsz : sizeT E.L 28 = some 7) (het : elemT E.L 26 = some 28) (hund : E.L.und 26 = some (.slice 28))
  (hb1 : bounds (some (.int .i64 i)) none len c = some (i, len)) (hci : ¬ c = i) (hw : IntKind.i64.wrap ((len : Int) + 1) = len + 1)
  (hcnd1 : ((i : Int) == (len : Int)) = false) (hcnd2 : decide ((len : Int) + 1 > (c : Int)) = true) (h10 : (((1 : Nat) : Int) == 0) = false) (hw1 : IntKind.i64.wrap ((len : Int) + ((1 : Nat) : Int)) = len + 1) (hwi : IntKind.i64.wrap ((i : Int) + ((1 : Nat) : Int)) = ((i + 1 : Nat) : Int)) (hws : IntKind.i64.wrap ((len : Int) + 1 - (i : Int)) = ((len + 1 - i : Nat) : Int))
  (hb3 : bounds (some (.int .i64 ((i + 1 : Nat) : Int))) none (len + 1) (len + 1) = some (i + 1, len + 1)) (hb4 : bounds (some (.int .i64 i)) none (len + 1) (len + 1) = some (i, len + 1)) (hb2 : bounds none (some (.int .i64 (i : Int))) len c = some (0, i)) (hc0 : ¬ c = 0) (hil : ¬ (i : Int) = len) (hlt : (c : Int) < (len : Int) + 1) (hi1 : ¬ i = len + 1) (hi2 : ¬ i = len)
  (st0 st1 st2 : Store) (nn mm : AV) (hap : aAppend E.L 1 26 3 [.val (.arr 7 o 0 i (some c)), .val (.int .i64 ((len + 1 - i : Nat) : Int))] st = some (.val (.arr 7 o2 0 (len + 1) none), st0))
  (hcp1 : aCopy E.L 26 [.val (.arr 7 o2 (i * 7) (len + 1 - i) none), .val (.row 7 tok cp [x])] st0 = some (.val nn, st1))
  (hcp2 : aCopy E.L 26 [.val (.arr 7 o2 ((i + 1) * 7) (len + 1 - (i + 1)) none), .val (.arr 7 o (i * 7) (len - i) (some (c - i)))] st1 = some (.val mm, st2)) :
  ∃ fr', acode E call AIns 55 k false (Tryz.f55.body.get!) fr st = some (.ret, fr', st2) ∧ fr'.tmps[6]? = some (.arr 7 o2 0 (len + 1) none) := by
  generalize hr : acode E call AIns 55 k false (Tryz.f55.body.get!) fr st = r
  try simp only [Nat.mul_one] at hcp1 hcp2
  simp (config := { decide := true }) only [Tryz.f55, Option.get!, acode, aops, aWanted, aoper, Op.operands, Call.operands, aevals, aeval, aout, aop, aMove, aput, AIns, absC, h0, h1, h2, aSlice, takeO, sliceV, het, hsz, sliceArr, capOf, hfr, List.getElem?_set, List.length_set, aBuiltin, aLen, hund, lenV, aBin, binV, intV, intOp, aCap, capV,
    decide_false, decide_true, unV, Bool.not_false, aUn, adraw, aopsF, labOp, freeOp, keepOp, freeIns, freeIn, notPtrs,
    Option.map_some, Option.isSome, Option.isNone, List.length_cons, List.length_nil, Nat.reduceEqDiff, Nat.reduceLT, if_true, if_false, reduceIte, Nat.reduceAdd, Bool.false_eq_true, Option.getD_some, Option.some.injEq, reduceCtorEq, and_false, false_and, Array.toList, valsOf, List.getElem?_toArray, List.getElem?_cons_zero, List.getElem?_cons_succ, Option.toArray, List.append_nil, List.nil_append, List.cons_append, Array.toList_append, List.size_toArray, Nat.sub_zero, Nat.zero_mul, Nat.zero_add, Nat.mul_one, Option.getD, List.cons.injEq, Prod.mk.injEq, true_and, and_true, Option.isSome_some, Option.isNone_none, Option.isSome_none, Option.isNone_some,
    hb1, hci, hw, hcnd1, hcnd2, hb2, hc0, hil, hlt, hap, hcp1, hcp2, h10, hw1, hwi, hws, hb3, hb4, hi1, hi2, Nat.add_right_cancel_iff] at hr
  subst hr
  refine ⟨_, rfl, ?_⟩
  simp (config := { decide := true }) only [List.getElem?_set, List.length_set, hfr, if_true, if_false, reduceIte, h0]

set_option maxRecDepth 100000 in
set_option maxHeartbeats 4000000 in
theorem insE55 {E : Env} {call : Caller} (k o o2 len : Nat) (st : Store) (tok : Option (Nat × Nat)) (cp : Option Nat) (x : AV) (fr : AFr) (hfr : fr.tmps.length = 95)
  (h0 : fr.tmps[0]? = some (.arr 7 o 0 len (some len))) (h1 : fr.tmps[1]? = some (.int .i64 len)) (h2 : fr.tmps[2]? = some (.row 7 tok cp [x])) (hsz : sizeT E.L 28 = some 7) (het : elemT E.L 26 = some 28) (hund : E.L.und 26 = some (.slice 28))
  (hb1 : bounds (some (.int .i64 len)) none len len = some (len, len)) (hcnd1 : ((len : Int) == (len : Int)) = true) (h10 : (((1 : Nat) : Int) == 0) = false)
  (st1 : Store) (r6 : AV) (hap : aAppend E.L 1 26 26 [.val (.arr 7 o 0 len (some len)), .val (.row 7 tok cp [x])] st = some (.val r6, st1)) :
  ∃ fr', acode E call AIns 55 k false (Tryz.f55.body.get!) fr st = some (.ret, fr', st1) ∧ fr'.tmps[6]? = some r6 := by
  generalize hr : acode E call AIns 55 k false (Tryz.f55.body.get!) fr st = r
  simp (config := { decide := true }) only [Tryz.f55, Option.get!, acode, aops, aWanted, aoper, Op.operands, Call.operands, aevals, aeval, aout, aop, aMove, aput, AIns, absC, h0, h1, h2, aSlice, takeO, sliceV, het, hsz, sliceArr, capOf, hfr, List.getElem?_set, List.length_set, aBuiltin, aLen, hund, lenV, aBin, binV, intV, intOp, aCap, capV,
    decide_false, decide_true, unV, Bool.not_false, aUn, adraw, aopsF, labOp, freeOp, keepOp, freeIns, freeIn, notPtrs,
    Option.map_some, Option.isSome, Option.isNone, List.length_cons, List.length_nil, Nat.reduceEqDiff, Nat.reduceLT, if_true, if_false, reduceIte, Nat.reduceAdd, Bool.false_eq_true, Option.getD_some, Option.some.injEq, reduceCtorEq, and_false, false_and, Array.toList, valsOf, List.getElem?_toArray, List.getElem?_cons_zero, List.getElem?_cons_succ, Option.toArray, List.append_nil, List.nil_append, List.cons_append, Array.toList_append, List.size_toArray, Nat.sub_zero, Nat.zero_mul, Nat.zero_add, Nat.mul_one, Option.getD, List.cons.injEq, Prod.mk.injEq, true_and, and_true, Option.isSome_some, Option.isNone_none, Option.isSome_none, Option.isNone_some,
    hb1, hcnd1, hap, h10] at hr
  subst hr
  refine ⟨_, rfl, ?_⟩
  simp (config := { decide := true }) only [List.getElem?_set, List.length_set, hfr, if_true, if_false, reduceIte, h0]

set_option maxRecDepth 100000 in
set_option maxHeartbeats 4000000 in
theorem insG55 {E : Env} {call : Caller} (k o len c : Nat) (st : Store) (tok : Option (Nat × Nat)) (cp : Option Nat) (x : AV) (fr : AFr) (hfr : fr.tmps.length = 95)
  (h0 : fr.tmps[0]? = some (.arr 7 o 0 len (some c))) (h1 : fr.tmps[1]? = some (.int .i64 len)) (h2 : fr.tmps[2]? = some (.row 7 tok cp [x])) (hsz : sizeT E.L 28 = some 7) (het : elemT E.L 26 = some 28) (hund : E.L.und 26 = some (.slice 28))
  (hb1 : bounds (some (.int .i64 len)) none len c = some (len, len)) (hci : ¬ c = len) (hcnd1 : ((len : Int) == (len : Int)) = true) (h10 : (((1 : Nat) : Int) == 0) = false)
  (st1 : Store) (r6 : AV) (hap : aAppend E.L 1 26 26 [.val (.arr 7 o 0 len (some c)), .val (.row 7 tok cp [x])] st = some (.val r6, st1)) :
  ∃ fr', acode E call AIns 55 k false (Tryz.f55.body.get!) fr st = some (.ret, fr', st1) ∧ fr'.tmps[6]? = some r6 := by
  generalize hr : acode E call AIns 55 k false (Tryz.f55.body.get!) fr st = r
  simp (config := { decide := true }) only [Tryz.f55, Option.get!, acode, aops, aWanted, aoper, Op.operands, Call.operands, aevals, aeval, aout, aop, aMove, aput, AIns, absC, h0, h1, h2, aSlice, takeO, sliceV, het, hsz, sliceArr, capOf, hfr, List.getElem?_set, List.length_set, aBuiltin, aLen, hund, lenV, aBin, binV, intV, intOp, aCap, capV,
    decide_false, decide_true, unV, Bool.not_false, aUn, adraw, aopsF, labOp, freeOp, keepOp, freeIns, freeIn, notPtrs,
    Option.map_some, Option.isSome, Option.isNone, List.length_cons, List.length_nil, Nat.reduceEqDiff, Nat.reduceLT, if_true, if_false, reduceIte, Nat.reduceAdd, Bool.false_eq_true, Option.getD_some, Option.some.injEq, reduceCtorEq, and_false, false_and, Array.toList, valsOf, List.getElem?_toArray, List.getElem?_cons_zero, List.getElem?_cons_succ, Option.toArray, List.append_nil, List.nil_append, List.cons_append, Array.toList_append, List.size_toArray, Nat.sub_zero, Nat.zero_mul, Nat.zero_add, Nat.mul_one, Option.getD, List.cons.injEq, Prod.mk.injEq, true_and, and_true, Option.isSome_some, Option.isNone_none, Option.isSome_none, Option.isNone_some,
    hb1, hci, hcnd1, hap, h10] at hr
  subst hr
  refine ⟨_, rfl, ?_⟩
  simp (config := { decide := true }) only [List.getElem?_set, List.length_set, hfr, if_true, if_false, reduceIte, h0]

end Go.Sim
