/- The kept calls. -/
import Derived.Test.YtnplidplamoejaaGreatDoorSimMa
import Derived.Test.YtnplidplamoejaaGreatDoorSimMb
import Derived.Test.YtnplidplamoejaaGreatDoorSimMc
import Derived.Test.YtnplidplamoejaaGreatDoorSimMd
set_option linter.unusedVariables false
set_option linter.unusedSimpArgs false
set_option linter.unnecessarySimpa false
namespace Go.Sim
open Go.Proofs
def memo15 : List (List AV × AV) := [m15_0, m15_1, m15_2, m15_3, m15_4, m15_5, m15_6, m15_7, m15_8, m15_9, m15_10, m15_11, m15_12, m15_13, m15_14, m15_15, m15_16, m15_17, m15_18, m15_19, m15_20, m15_21, m15_22, m15_23, m15_24, m15_25, m15_26, m15_27, m15_28, m15_29]
set_option maxRecDepth 1000000 in
theorem memo15_ok : PrimOk E0 15 (memoP memo15) := by
  refine memo_ok prims0 (fn := Tryz.f15) (n := 4999) (by kernel_rfl) rfl (by kernel_rfl) (by kernel_rfl) ?_
  intro e he
  simp only [memo15, List.mem_cons, List.not_mem_nil, or_false] at he
  rcases he with rfl | rfl | rfl | rfl | rfl | rfl | rfl | rfl | rfl | rfl | rfl | rfl | rfl | rfl | rfl | rfl | rfl | rfl | rfl | rfl | rfl | rfl | rfl | rfl | rfl | rfl | rfl | rfl | rfl | rfl
  · exact k15_0
  · exact k15_1
  · exact k15_2
  · exact k15_3
  · exact k15_4
  · exact k15_5
  · exact k15_6
  · exact k15_7
  · exact k15_8
  · exact k15_9
  · exact k15_10
  · exact k15_11
  · exact k15_12
  · exact k15_13
  · exact k15_14
  · exact k15_15
  · exact k15_16
  · exact k15_17
  · exact k15_18
  · exact k15_19
  · exact k15_20
  · exact k15_21
  · exact k15_22
  · exact k15_23
  · exact k15_24
  · exact k15_25
  · exact k15_26
  · exact k15_27
  · exact k15_28
  · exact k15_29
noncomputable def pr1 : Prims := fun f => match Nat.beq f 15 with
  | true => some (memoP memo15)
  | false => pr0 f
set_option maxRecDepth 1000000 in
theorem prims1 (f : FuncId) (p : List AV → Store → Option (AV × Store)) (h : pr1 f = some p) : PrimOk E0 f p := by
  unfold pr1 at h
  split at h
  · rename_i hf
    have := Nat.eq_of_beq_eq_true hf
    subst this
    injection h with h; subst h
    exact memo15_ok
  · exact prims0 f p h
set_option maxRecDepth 1000000 in
theorem works18 : kept (fcall E0 An0 pr1 5000 (.func (.func 18) [] []) [] Store.empty) = some (.bool true) := by kernel_rfl
def memo18 : List (List AV × AV) := [([], .bool true)]
set_option maxRecDepth 1000000 in
theorem memo18_ok : PrimOk E0 18 (memoP memo18) := by
  refine memo_ok prims1 (fn := Tryz.f18) (n := 4999) (by kernel_rfl) rfl (by kernel_rfl) (by kernel_rfl) ?_
  intro e he
  simp only [memo18, List.mem_cons, List.not_mem_nil, or_false] at he
  subst he
  exact works18
noncomputable def pr2 : Prims := fun f => match Nat.beq f 18 with
  | true => some (memoP memo18)
  | false => pr1 f
set_option maxRecDepth 1000000 in
theorem prims2 (f : FuncId) (p : List AV → Store → Option (AV × Store)) (h : pr2 f = some p) : PrimOk E0 f p := by
  unfold pr2 at h
  split at h
  · rename_i hf
    have := Nat.eq_of_beq_eq_true hf
    subst this
    injection h with h; subst h
    exact memo18_ok
  · exact prims1 f p h
end Go.Sim
