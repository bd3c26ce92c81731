/- Calls of value.Parse, read by the kernel: printed by mkmemo.py. -/
import Derived.Test.YtnplidplamoejaaGreatDoorSimMemo
set_option linter.unusedVariables false
set_option linter.unusedSimpArgs false
set_option linter.unnecessarySimpa false
namespace Go.Sim
def m15_16 : List AV × AV := ([(.str [])], (.tuple [(.agg [(.int .i64 (0)), (.bool false), (.str []), (.str []), .nils, .nils, (.int .i64 (0))]), (.bool false)]))
set_option maxRecDepth 1000000 in
theorem k15_16 : kept (fcall E0 An0 pr0 5000 (.func (.func 15) [] []) m15_16.1 Store.empty) = some m15_16.2 := by kernel_rfl
def m15_17 : List AV × AV := ([(.str [40, 100, 105, 99, 116, 32, 49, 32, 50, 41])], (.tuple [(.agg [(.int .i64 (0)), (.bool false), (.str []), (.str []), .nils, .nils, (.int .i64 (0))]), (.bool false)]))
set_option maxRecDepth 1000000 in
theorem k15_17 : kept (fcall E0 An0 pr0 5000 (.func (.func 15) [] []) m15_17.1 Store.empty) = some m15_17.2 := by kernel_rfl
def m15_18 : List AV × AV := ([(.str [116, 114, 117, 101, 32, 102, 97, 108, 115, 101])], (.tuple [(.agg [(.int .i64 (0)), (.bool false), (.str []), (.str []), .nils, .nils, (.int .i64 (0))]), (.bool false)]))
set_option maxRecDepth 1000000 in
theorem k15_18 : kept (fcall E0 An0 pr0 5000 (.func (.func 15) [] []) m15_18.1 Store.empty) = some m15_18.2 := by kernel_rfl
def m15_19 : List AV × AV := ([(.str [110, 117, 108])], (.tuple [(.agg [(.int .i64 (0)), (.bool false), (.str []), (.str []), .nils, .nils, (.int .i64 (0))]), (.bool false)]))
set_option maxRecDepth 1000000 in
theorem k15_19 : kept (fcall E0 An0 pr0 5000 (.func (.func 15) [] []) m15_19.1 Store.empty) = some m15_19.2 := by kernel_rfl
def m15_20 : List AV × AV := ([(.str [57])], (.tuple [(.agg [(.int .i64 (2)), (.bool false), (.str [57]), (.str []), .nils, .nils, (.int .i64 (0))]), (.bool true)]))
set_option maxRecDepth 1000000 in
theorem k15_20 : kept (fcall E0 An0 pr0 5000 (.func (.func 15) [] []) m15_20.1 Store.empty) = some m15_20.2 := by kernel_rfl
def m15_21 : List AV × AV := ([(.str [40, 100, 105, 99, 116, 32, 34, 97, 34, 32, 49, 41])], (.tuple [(.agg [(.int .i64 (4)), (.bool false), (.str []), (.str []), (.row 1 none none [(.str [97])]), (.row 7 none none [(.agg [(.int .i64 (2)), (.bool false), (.str [49]), (.str []), .nils, .nils, (.int .i64 (0))])]), (.int .i64 (0))]), (.bool true)]))
set_option maxRecDepth 1000000 in
theorem k15_21 : kept (fcall E0 An0 pr0 5000 (.func (.func 15) [] []) m15_21.1 Store.empty) = some m15_21.2 := by kernel_rfl
def m15_22 : List AV × AV := ([(.str [40, 100, 105, 99, 116, 32, 34, 97, 34, 32, 49, 32, 34, 98, 34, 32, 48, 41])], (.tuple [(.agg [(.int .i64 (4)), (.bool false), (.str []), (.str []), (.row 1 none none [(.str [97]), (.str [98])]), (.row 7 none none [(.agg [(.int .i64 (2)), (.bool false), (.str [49]), (.str []), .nils, .nils, (.int .i64 (0))]), (.agg [(.int .i64 (2)), (.bool false), (.str [48]), (.str []), .nils, .nils, (.int .i64 (0))])]), (.int .i64 (0))]), (.bool true)]))
set_option maxRecDepth 1000000 in
theorem k15_22 : kept (fcall E0 An0 pr0 5000 (.func (.func 15) [] []) m15_22.1 Store.empty) = some m15_22.2 := by kernel_rfl
end Go.Sim
