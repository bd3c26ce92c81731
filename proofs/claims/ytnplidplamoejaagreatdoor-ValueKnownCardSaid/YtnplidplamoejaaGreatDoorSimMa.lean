/- Calls of value.Parse, read by the kernel: printed by mkmemo.py. -/
import Derived.Test.YtnplidplamoejaaGreatDoorSimMemo
set_option linter.unusedVariables false
set_option linter.unusedSimpArgs false
set_option linter.unnecessarySimpa false
namespace Go.Sim
def m15_0 : List AV × AV := ([(.str [49])], (.tuple [(.agg [(.int .i64 (2)), (.bool false), (.str [49]), (.str []), .nils, .nils, (.int .i64 (0))]), (.bool true)]))
set_option maxRecDepth 1000000 in
theorem k15_0 : kept (fcall E0 An0 pr0 5000 (.func (.func 15) [] []) m15_0.1 Store.empty) = some m15_0.2 := by kernel_rfl
def m15_1 : List AV × AV := ([(.str [40, 41])], (.tuple [(.agg [(.int .i64 (0)), (.bool false), (.str []), (.str []), .nils, .nils, (.int .i64 (0))]), (.bool false)]))
set_option maxRecDepth 1000000 in
theorem k15_1 : kept (fcall E0 An0 pr0 5000 (.func (.func 15) [] []) m15_1.1 Store.empty) = some m15_1.2 := by kernel_rfl
def m15_2 : List AV × AV := ([(.str [49, 32, 50])], (.tuple [(.agg [(.int .i64 (0)), (.bool false), (.str []), (.str []), .nils, .nils, (.int .i64 (0))]), (.bool false)]))
set_option maxRecDepth 1000000 in
theorem k15_2 : kept (fcall E0 An0 pr0 5000 (.func (.func 15) [] []) m15_2.1 Store.empty) = some m15_2.2 := by kernel_rfl
def m15_3 : List AV × AV := ([(.str [40, 115, 101, 116, 32, 49, 32, 50, 41])], (.tuple [(.agg [(.int .i64 (0)), (.bool false), (.str []), (.str []), .nils, .nils, (.int .i64 (0))]), (.bool false)]))
set_option maxRecDepth 1000000 in
theorem k15_3 : kept (fcall E0 An0 pr0 5000 (.func (.func 15) [] []) m15_3.1 Store.empty) = some m15_3.2 := by kernel_rfl
def m15_4 : List AV × AV := ([(.str [40, 100, 105, 99, 116, 32, 34, 97, 34, 32, 49, 32, 34, 97, 34, 32, 50, 41])], (.tuple [(.agg [(.int .i64 (0)), (.bool false), (.str []), (.str []), .nils, .nils, (.int .i64 (0))]), (.bool false)]))
set_option maxRecDepth 1000000 in
theorem k15_4 : kept (fcall E0 An0 pr0 5000 (.func (.func 15) [] []) m15_4.1 Store.empty) = some m15_4.2 := by kernel_rfl
def m15_5 : List AV × AV := ([(.str [110, 117, 108, 108])], (.tuple [(.agg [(.int .i64 (0)), (.bool false), (.str []), (.str []), .nils, .nils, (.int .i64 (0))]), (.bool true)]))
set_option maxRecDepth 1000000 in
theorem k15_5 : kept (fcall E0 An0 pr0 5000 (.func (.func 15) [] []) m15_5.1 Store.empty) = some m15_5.2 := by kernel_rfl
def m15_6 : List AV × AV := ([(.str [45, 49, 48])], (.tuple [(.agg [(.int .i64 (2)), (.bool false), (.str [45, 49, 48]), (.str []), .nils, .nils, (.int .i64 (0))]), (.bool true)]))
set_option maxRecDepth 1000000 in
theorem k15_6 : kept (fcall E0 An0 pr0 5000 (.func (.func 15) [] []) m15_6.1 Store.empty) = some m15_6.2 := by kernel_rfl
def m15_7 : List AV × AV := ([(.str [40, 100, 105, 99, 116, 32, 34, 97, 34, 32, 50, 41])], (.tuple [(.agg [(.int .i64 (4)), (.bool false), (.str []), (.str []), (.row 1 none none [(.str [97])]), (.row 7 none none [(.agg [(.int .i64 (2)), (.bool false), (.str [50]), (.str []), .nils, .nils, (.int .i64 (0))])]), (.int .i64 (0))]), (.bool true)]))
set_option maxRecDepth 1000000 in
theorem k15_7 : kept (fcall E0 An0 pr0 5000 (.func (.func 15) [] []) m15_7.1 Store.empty) = some m15_7.2 := by kernel_rfl
end Go.Sim
