/- Calls of value.Parse, read by the kernel: printed by mkmemo.py. -/
import Derived.Test.YtnplidplamoejaaGreatDoorSimMemo
set_option linter.unusedVariables false
set_option linter.unusedSimpArgs false
set_option linter.unnecessarySimpa false
namespace Go.Sim
def m15_23 : List AV × AV := ([(.str [40])], (.tuple [(.agg [(.int .i64 (0)), (.bool false), (.str []), (.str []), .nils, .nils, (.int .i64 (0))]), (.bool false)]))
set_option maxRecDepth 1000000 in
theorem k15_23 : kept (fcall E0 An0 pr0 5000 (.func (.func 15) [] []) m15_23.1 Store.empty) = some m15_23.2 := by kernel_rfl
def m15_24 : List AV × AV := ([(.str [40, 100, 105, 99, 116, 32, 34, 97, 34, 41])], (.tuple [(.agg [(.int .i64 (0)), (.bool false), (.str []), (.str []), .nils, .nils, (.int .i64 (0))]), (.bool false)]))
set_option maxRecDepth 1000000 in
theorem k15_24 : kept (fcall E0 An0 pr0 5000 (.func (.func 15) [] []) m15_24.1 Store.empty) = some m15_24.2 := by kernel_rfl
def m15_25 : List AV × AV := ([(.str [35, 49, 91, 93])], (.tuple [(.agg [(.int .i64 (0)), (.bool false), (.str []), (.str []), .nils, .nils, (.int .i64 (0))]), (.bool false)]))
set_option maxRecDepth 1000000 in
theorem k15_25 : kept (fcall E0 An0 pr0 5000 (.func (.func 15) [] []) m15_25.1 Store.empty) = some m15_25.2 := by kernel_rfl
def m15_26 : List AV × AV := ([(.str [45, 49])], (.tuple [(.agg [(.int .i64 (2)), (.bool false), (.str [45, 49]), (.str []), .nils, .nils, (.int .i64 (0))]), (.bool true)]))
set_option maxRecDepth 1000000 in
theorem k15_26 : kept (fcall E0 An0 pr0 5000 (.func (.func 15) [] []) m15_26.1 Store.empty) = some m15_26.2 := by kernel_rfl
def m15_27 : List AV × AV := ([(.str [49, 48])], (.tuple [(.agg [(.int .i64 (2)), (.bool false), (.str [49, 48]), (.str []), .nils, .nils, (.int .i64 (0))]), (.bool true)]))
set_option maxRecDepth 1000000 in
theorem k15_27 : kept (fcall E0 An0 pr0 5000 (.func (.func 15) [] []) m15_27.1 Store.empty) = some m15_27.2 := by kernel_rfl
def m15_28 : List AV × AV := ([(.str [40, 100, 105, 99, 116, 32, 34, 34, 32, 40, 100, 105, 99, 116, 32, 34, 120, 34, 32, 34, 92, 120, 48, 48, 34, 41, 41])], (.tuple [(.agg [(.int .i64 (4)), (.bool false), (.str []), (.str []), (.row 1 none none [(.str [])]), (.row 7 none none [(.agg [(.int .i64 (4)), (.bool false), (.str []), (.str []), (.row 1 none none [(.str [120])]), (.row 7 none none [(.agg [(.int .i64 (3)), (.bool false), (.str []), (.str [0]), .nils, .nils, (.int .i64 (0))])]), (.int .i64 (0))])]), (.int .i64 (0))]), (.bool true)]))
set_option maxRecDepth 1000000 in
theorem k15_28 : kept (fcall E0 An0 pr0 5000 (.func (.func 15) [] []) m15_28.1 Store.empty) = some m15_28.2 := by kernel_rfl
def m15_29 : List AV × AV := ([(.str [40, 100, 105, 99, 116, 32, 34, 98, 34, 32, 49, 41])], (.tuple [(.agg [(.int .i64 (4)), (.bool false), (.str []), (.str []), (.row 1 none none [(.str [98])]), (.row 7 none none [(.agg [(.int .i64 (2)), (.bool false), (.str [49]), (.str []), .nils, .nils, (.int .i64 (0))])]), (.int .i64 (0))]), (.bool true)]))
set_option maxRecDepth 1000000 in
theorem k15_29 : kept (fcall E0 An0 pr0 5000 (.func (.func 15) [] []) m15_29.1 Store.empty) = some m15_29.2 := by kernel_rfl
end Go.Sim
