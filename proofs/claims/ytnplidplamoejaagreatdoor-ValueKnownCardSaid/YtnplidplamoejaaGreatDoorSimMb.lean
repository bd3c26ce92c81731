/- Calls of value.Parse, read by the kernel: printed by mkmemo.py. -/
import Derived.Test.YtnplidplamoejaaGreatDoorSimMemo
set_option linter.unusedVariables false
set_option linter.unusedSimpArgs false
set_option linter.unnecessarySimpa false
namespace Go.Sim
def m15_8 : List AV × AV := ([(.str [40, 100, 105, 99, 116, 41])], (.tuple [(.agg [(.int .i64 (4)), (.bool false), (.str []), (.str []), .nils, .nils, (.int .i64 (0))]), (.bool true)]))
set_option maxRecDepth 1000000 in
theorem k15_8 : kept (fcall E0 An0 pr0 5000 (.func (.func 15) [] []) m15_8.1 Store.empty) = some m15_8.2 := by kernel_rfl
def m15_9 : List AV × AV := ([(.str [40, 100, 105, 99, 116])], (.tuple [(.agg [(.int .i64 (0)), (.bool false), (.str []), (.str []), .nils, .nils, (.int .i64 (0))]), (.bool false)]))
set_option maxRecDepth 1000000 in
theorem k15_9 : kept (fcall E0 An0 pr0 5000 (.func (.func 15) [] []) m15_9.1 Store.empty) = some m15_9.2 := by kernel_rfl
def m15_10 : List AV × AV := ([(.str [120])], (.tuple [(.agg [(.int .i64 (0)), (.bool false), (.str []), (.str []), .nils, .nils, (.int .i64 (0))]), (.bool false)]))
set_option maxRecDepth 1000000 in
theorem k15_10 : kept (fcall E0 An0 pr0 5000 (.func (.func 15) [] []) m15_10.1 Store.empty) = some m15_10.2 := by kernel_rfl
def m15_11 : List AV × AV := ([(.str [48, 49])], (.tuple [(.agg [(.int .i64 (0)), (.bool false), (.str []), (.str []), .nils, .nils, (.int .i64 (0))]), (.bool false)]))
set_option maxRecDepth 1000000 in
theorem k15_11 : kept (fcall E0 An0 pr0 5000 (.func (.func 15) [] []) m15_11.1 Store.empty) = some m15_11.2 := by kernel_rfl
def m15_12 : List AV × AV := ([(.str [40, 100, 105, 99, 116, 32, 34, 98, 34, 32, 49, 32, 34, 97, 34, 32, 110, 117, 108, 108, 41])], (.tuple [(.agg [(.int .i64 (4)), (.bool false), (.str []), (.str []), (.row 1 none none [(.str [97]), (.str [98])]), (.row 7 none none [(.agg [(.int .i64 (0)), (.bool false), (.str []), (.str []), .nils, .nils, (.int .i64 (0))]), (.agg [(.int .i64 (2)), (.bool false), (.str [49]), (.str []), .nils, .nils, (.int .i64 (0))])]), (.int .i64 (0))]), (.bool true)]))
set_option maxRecDepth 1000000 in
theorem k15_12 : kept (fcall E0 An0 pr0 5000 (.func (.func 15) [] []) m15_12.1 Store.empty) = some m15_12.2 := by kernel_rfl
def m15_13 : List AV × AV := ([(.str [102, 97, 108, 115, 101])], (.tuple [(.agg [(.int .i64 (1)), (.bool false), (.str []), (.str []), .nils, .nils, (.int .i64 (0))]), (.bool true)]))
set_option maxRecDepth 1000000 in
theorem k15_13 : kept (fcall E0 An0 pr0 5000 (.func (.func 15) [] []) m15_13.1 Store.empty) = some m15_13.2 := by kernel_rfl
def m15_14 : List AV × AV := ([(.str [45, 57])], (.tuple [(.agg [(.int .i64 (2)), (.bool false), (.str [45, 57]), (.str []), .nils, .nils, (.int .i64 (0))]), (.bool true)]))
set_option maxRecDepth 1000000 in
theorem k15_14 : kept (fcall E0 An0 pr0 5000 (.func (.func 15) [] []) m15_14.1 Store.empty) = some m15_14.2 := by kernel_rfl
def m15_15 : List AV × AV := ([(.str [49, 50, 51, 52, 53, 54, 55, 56])], (.tuple [(.agg [(.int .i64 (2)), (.bool false), (.str [49, 50, 51, 52, 53, 54, 55, 56]), (.str []), .nils, .nils, (.int .i64 (0))]), (.bool true)]))
set_option maxRecDepth 1000000 in
theorem k15_15 : kept (fcall E0 An0 pr0 5000 (.func (.func 15) [] []) m15_15.1 Store.empty) = some m15_15.2 := by kernel_rfl
end Go.Sim
