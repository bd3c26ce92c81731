/- Part of the proof that litmuslaw11.ValueSets answers true for every input. -/
import Derived.Test.YtnplidplamoejaaGreatDoorVSetsTH
set_option linter.unusedVariables false
set_option linter.unusedSimpArgs false
set_option linter.unnecessarySimpa false
namespace Go.Sim
open Go.Proofs
noncomputable section
/-- litmus/litmuslaw11.ValueSizes -/
def ha5 : HA := (.s .o (.s (.s .o (.c none (.s .o .o) .o)) (.s .o (.s (.s .o (.b none (.l ⟨[9, 2], [7, 8], [7, 8]⟩ (.s (.s .o (.c none .o .o)) (.s (.b none (.s .o (.c none (.s .o .o) .o))) .o))))) (.s .o (.s (.s .o (.c none (.s .o .o) .o)) (.s .o (.s .o (.s (.s .o (.c none (.s .o .o) .o)) (.s .o .o))))))))))
def b5 : HBody := fun call n args st =>
  un1 args fun p0 r0 =>
  un1 r0 fun p1 r1 =>
  un1 r1 fun p2 r2 =>
  un0 r2 (
  hCall call (.func (.func 18) [] []) [] st fun x0 s1 =>
  hNot x0 fun x2 =>
  hIf x2 (
  some ((.bool false), s1)) (
  hCall call (.func (.func 14) [] []) [p0, (.bool true)] s1 fun x5 s6 =>
  hCall call (.func (.func 14) [] []) [p1, (.bool true)] s6 fun x7 s8 =>
  hStLN 7 [(.int .i64 (.ofNat 0)), (.bool false), (.str []), (.str []), .nils, .nils, (.int .i64 (.ofNat 0))] 0 x5 fun c9 =>
  hStLN 7 [(.int .i64 (.ofNat 0)), (.bool false), (.str []), (.str []), .nils, .nils, (.int .i64 (.ofNat 0))] 0 x7 fun c10 =>
  hloop (fun h12 v13 s14 =>
  un1 v13 fun a19 v20 =>
  unAgg a19 fun c15 =>
  un1 v20 fun a21 v22 =>
  unAgg a21 fun c16 =>
  un1 v22 fun x17 v23 =>
  un1 v23 fun x18 v24 =>
  hLoc1 c15 5 fun x25 =>
  hLenR x25 fun x26 =>
  hCmpI iLt x17 x26 fun x27 =>
  hIf x27 (
  hLoc1 c15 5 fun x32 =>
  hElem 7 x32 x17 fun x33 =>
  hLdN 7 x33 s14 fun x34 =>
  hCall call (.func (.func 21) [] []) [x34] s14 fun x35 s36 =>
  hFrees [.loc 7 0 c15] (
  hLocN 7 c15 0 fun x37 =>
  hCall call (.func (.func 21) [] []) [x37] s36 fun x38 s39 =>
  hCmpI (fun x y => !(iLt x y)) x35 x38 fun x40 =>
  hlet (α := AV → Store → Rs) (fun x41 s42 =>
  hlet (α := AV → Store → Rs) (fun x44 s45 =>
  hlet (α := AV → Store → Rs) (fun x47 s48 =>
  hWB x47 (
  hlet (α := AV → Store → Rs) (fun x50 s51 =>
  hlet (α := AV → Store → Rs) (fun x53 s54 =>
  hlet (α := AV → Store → Rs) (fun x56 s57 =>
  hlet (α := AV → Store → Rs) (fun x59 s60 =>
  hlet (α := AV → Store → Rs) (fun x62 s63 =>
  hlet (α := AV → Store → Rs) (fun x65 s66 =>
  hlet (α := AV → Store → Rs) (fun x68 s69 =>
  hPick x40 (.bool true) x68 fun x71 =>
  hIf x71 (
  some ((.bool false), s69)) (
  hArith Int.add x17 (.int .i64 (.ofNat 1)) fun x85 =>
  h12 [.agg c15, .agg c16, x85, x18] s69)) fun j70 =>
  hWant x40 false (
  hPick x47 x65 (.bool false) fun x75 =>
  j70 x75 s66) (j70 aundef s66)) fun j67 =>
  hWant x47 true (
  hNot x62 fun x76 =>
  j67 x76 s63) (j67 aundef s63)) fun j64 =>
  hWant x47 true (
  hCall call (.func (.func 22) [] []) [x59] s60 fun x77 s78 =>
  j64 x77 s78) (j64 aundef s60)) fun j61 =>
  hWant x47 true (
  hLdN 7 x56 s57 fun x79 =>
  j61 x79 s57) (j61 aundef s57)) fun j58 =>
  hWant x47 true (
  hElem 7 x50 x53 fun x80 =>
  j58 x80 s54) (j58 aundef s54)) fun j55 =>
  hWant x47 true (
  j55 x17 s51) (j55 aundef s51)) fun j52 =>
  hWant x47 true (
  hLoc1 c15 5 fun x81 =>
  j52 x81 s48) (j52 aundef s48))) fun j49 =>
  hWant x40 false (
  j49 x44 s45) (j49 aundef s45)) fun j46 =>
  hWant x40 false (
  hCall call (.func (.func 22) [] []) [x41] s42 fun x82 s83 =>
  j46 x82 s83) (j46 aundef s42)) fun j43 =>
  hWant x40 false (
  hLocN 7 c15 0 fun x84 =>
  j43 x84 s39) (j43 aundef s39))) (
  hFrees [.loc 7 0 c15] (
  hLocN 7 c15 0 fun x86 =>
  hCall call (.func (.func 20) [] []) [x18] s14 fun x87 s88 =>
  hFrees [.loc 8 0 c16] (
  hLocN 7 c16 0 fun x89 =>
  hCall call (.func (.func 19) [] []) [x86, x87, x89] s88 fun x90 s91 =>
  hStLN 7 [(.int .i64 (.ofNat 0)), (.bool false), (.str []), (.str []), .nils, .nils, (.int .i64 (.ofNat 0))] 0 x90 fun c92 =>
  hLoc1 c15 0 fun x93 =>
  hCmpI (fun x y => !(iEq x y)) x93 (.int .i64 (.ofNat 4)) fun x94 =>
  hIf x94 (
  hLocN 7 c92 0 fun x96 =>
  hLocN 7 c15 0 fun x97 =>
  hCall call (.func (.func 17) [] []) [x96, x97] s91 fun x98 s99 =>
  hlet (α := AV → Store → Rs) (fun x100 s101 =>
  hlet (α := AV → Store → Rs) (fun x103 s104 =>
  hlet (α := AV → Store → Rs) (fun x106 s107 =>
  hPick x98 x106 (.bool false) fun x109 =>
  some (x109, s107)) fun j108 =>
  hWant x98 true (
  hCmpI (fun x y => !(iLt x y)) x103 (.int .i64 (.ofNat 1)) fun x110 =>
  j108 x110 s104) (j108 aundef s104)) fun j105 =>
  hWant x98 true (
  hCall call (.func (.func 21) [] []) [x100] s101 fun x111 s112 =>
  j105 x111 s112) (j105 aundef s101)) fun j102 =>
  hWant x98 true (
  hLocN 7 c15 0 fun x113 =>
  j102 x113 s99) (j102 aundef s99)) (
  hFrees [.loc 7 0 c15] (
  hLocN 7 c15 0 fun x115 =>
  hCall call (.func (.func 20) [] []) [x18] s91 fun x116 s117 =>
  hCall call (.func (.func 23) [] []) [x115, x116] s117 fun x118 s119 =>
  hExt 0 x118 fun x120 =>
  hExt 1 x118 fun x121 =>
  hStLN 7 [(.int .i64 (.ofNat 0)), (.bool false), (.str []), (.str []), .nils, .nils, (.int .i64 (.ofNat 0))] 0 x120 fun c122 =>
  hLocN 7 c92 0 fun x123 =>
  hCall call (.func (.func 21) [] []) [x123] s119 fun x124 s125 =>
  hFrees [.loc 7 0 c15] (
  hLocN 7 c15 0 fun x126 =>
  hCall call (.func (.func 21) [] []) [x126] s125 fun x127 s128 =>
  hArith Int.sub x124 x127 fun x129 =>
  hIf x121 (
  hLocN 7 c16 0 fun x131 =>
  hCall call (.func (.func 21) [] []) [x131] s128 fun x132 s133 =>
  hFrees [.loc 11 0 c122] (
  hLocN 7 c122 0 fun x134 =>
  hCall call (.func (.func 21) [] []) [x134] s133 fun x135 s136 =>
  hArith Int.sub x132 x135 fun x137 =>
  hCmpI iEq x129 x137 fun x138 =>
  some (x138, s136))) (
  hCall call (.func (.func 20) [] []) [x18] s128 fun x140 s141 =>
  hFrees [.val x140] (
  hLenS x140 fun x142 =>
  hNotPtrs [.val (.int .i64 (.ofNat 1)), .val x142] (
  hArith Int.add (.int .i64 (.ofNat 1)) x142 fun x143 =>
  hFrees [.loc 8 0 c16] (
  hLocN 7 c16 0 fun x144 =>
  hCall call (.func (.func 21) [] []) [x144] s141 fun x145 s146 =>
  hArith Int.add x143 x145 fun x147 =>
  hCmpI iEq x129 x147 fun x148 =>
  hlet (α := AV → Store → Rs) (fun x149 s150 =>
  hlet (α := AV → Store → Rs) (fun x152 s153 =>
  hlet (α := AV → Store → Rs) (fun x155 s156 =>
  hlet (α := AV → Store → Rs) (fun x158 s159 =>
  hlet (α := AV → Store → Rs) (fun x161 s162 =>
  hlet (α := AV → Store → Rs) (fun x164 s165 =>
  hlet (α := AV → Store → Rs) (fun x167 s168 =>
  hlet (α := AV → Store → Rs) (fun x170 s171 =>
  hlet (α := AV → Store → Rs) (fun x173 s174 =>
  hPick x148 x173 (.bool false) fun x176 =>
  some (x176, s174)) fun j175 =>
  hWant x148 true (
  hVal (aBinC E0.L 4 .eql false x152 x170 s171) fun x177 s178 =>
  j175 x177 s178) (j175 aundef s171)) fun j172 =>
  hWant x148 true (
  hPick x161 x167 (.bool false) fun x179 =>
  j172 x179 s168) (j172 aundef s168)) fun j169 =>
  hWant x161 true (
  hCall call (.func (.func 22) [] []) [x164] s165 fun x180 s181 =>
  j169 x180 s181) (j169 aundef s165)) fun j166 =>
  hWant x161 true (
  hLocN 7 c16 0 fun x182 =>
  j166 x182 s162) (j166 aundef s162)) fun j163 =>
  hWant x148 true (
  j163 x158 s159) (j163 aundef s159)) fun j160 =>
  hWant x148 true (
  hCall call (.func (.func 22) [] []) [x155] s156 fun x183 s184 =>
  j160 x183 s184) (j160 aundef s156)) fun j157 =>
  hWant x148 true (
  hFrees [.loc 7 0 c15] (
  hLocN 7 c15 0 fun x185 =>
  j157 x185 s153)) (j157 aundef s153)) fun j154 =>
  hWant x148 true (
  hCall call (.func (.func 22) [] []) [x149] s150 fun x186 s187 =>
  j154 x186 s187) (j154 aundef s150)) fun j151 =>
  hWant x148 true (
  hLocN 7 c92 0 fun x188 =>
  j151 x188 s146) (j151 aundef s146)))))))))))) n [.agg c9, .agg c10, (.int .i64 (.ofNat 0)), p2] s8))
set_option maxRecDepth 1000000 in
theorem e5 : b5 = hfun E0 (An0 5) ha5 (List.range 3) Tryz.f5 := by kernel_rfl
/-- litmus/litmuslaw11.ValueSets -/
def ha8 : HA := (.s .o (.s (.s .o (.c none (.s .o .o) .o)) (.s .o (.s .o (.s .o (.s .o (.s .o (.s .o (.s .o (.s (.s .o (.c none (.s .o .o) .o)) (.s (.s .o (.c none (.s .o .o) .o)) (.s .o .o))))))))))))
def b8 : HBody := fun call n args st =>
  un1 args fun p0 r0 =>
  un1 r0 fun p1 r1 =>
  un1 r1 fun p2 r2 =>
  un0 r2 (
  hCells p2 fun c0 =>
  hCall call (.func (.func 18) [] []) [] st fun x1 s2 =>
  hNot x1 fun x3 =>
  hIf x3 (
  some ((.bool false), s2)) (
  hFill [(0, 1, (.int .i64 (.ofNat 4)))] [(.int .i64 (.ofNat 0)), (.bool false), (.str []), (.str []), .nils, .nils, (.int .i64 (.ofNat 0))] fun c6 =>
  hIdx (.int .i64 (.ofNat 2)) 3 fun i7 =>
  hLoc1 c0 (0 + (i7 * 1)) fun x8 =>
  hCall call (.func (.func 20) [] []) [x8] s2 fun x9 s10 =>
  hCall call (.func (.func 14) [] []) [p0, (.bool true)] s10 fun x11 s12 =>
  hCall call (.func (.func 19) [] []) [(.agg c6), x9, x11] s12 fun x13 s14 =>
  hIdx (.int .i64 (.ofNat 2)) 3 fun i15 =>
  hFrees [.loc 5 (0 + (i15 * 1)) c0] (
  hLoc1 c0 (0 + (i15 * 1)) fun x16 =>
  hNotPtrs [.val x16, .val (.int .u8 (.ofNat 8))] (
  hVal (aBinC E0.L 5 .quo true x16 (.int .u8 (.ofNat 8)) s14) fun x17 s18 =>
  hCall call (.func (.func 20) [] []) [x17] s18 fun x19 s20 =>
  hCall call (.func (.func 14) [] []) [p1, (.bool false)] s20 fun x21 s22 =>
  hCall call (.func (.func 19) [] []) [x13, x19, x21] s22 fun x23 s24 =>
  hStLN 7 [(.int .i64 (.ofNat 0)), (.bool false), (.str []), (.str []), .nils, .nils, (.int .i64 (.ofNat 0))] 0 x23 fun c25 =>
  hCall call (.func (.func 14) [] []) [p0, (.bool false)] s24 fun x26 s27 =>
  hCall call (.func (.func 14) [] []) [p1, (.bool true)] s27 fun x28 s29 =>
  hStLN 7 [(.int .i64 (.ofNat 0)), (.bool false), (.str []), (.str []), .nils, .nils, (.int .i64 (.ofNat 0))] 0 x26 fun c30 =>
  hStLN 7 [(.int .i64 (.ofNat 0)), (.bool false), (.str []), (.str []), .nils, .nils, (.int .i64 (.ofNat 0))] 0 x28 fun c31 =>
  hIdx (.int .i64 (.ofNat 0)) 3 fun i32 =>
  hLoc1 c0 (0 + (i32 * 1)) fun x33 =>
  hCall call (.func (.func 20) [] []) [x33] s29 fun x34 s35 =>
  hIdx (.int .i64 (.ofNat 1)) 3 fun i36 =>
  hFrees [.loc 5 (0 + (i36 * 1)) c0] (
  hLoc1 c0 (0 + (i36 * 1)) fun x37 =>
  hCall call (.func (.func 20) [] []) [x37] s35 fun x38 s39 =>
  hLocN 7 c25 0 fun x40 =>
  hLocN 7 c30 0 fun x41 =>
  hCall call (.func (.func 19) [] []) [x40, x34, x41] s39 fun x42 s43 =>
  hStLN 7 [(.int .i64 (.ofNat 0)), (.bool false), (.str []), (.str []), .nils, .nils, (.int .i64 (.ofNat 0))] 0 x42 fun c44 =>
  hLocN 7 c44 0 fun x45 =>
  hCall call (.func (.func 23) [] []) [x45, x34] s43 fun x46 s47 =>
  hExt 0 x46 fun x48 =>
  hExt 1 x46 fun x49 =>
  hStLN 7 [(.int .i64 (.ofNat 0)), (.bool false), (.str []), (.str []), .nils, .nils, (.int .i64 (.ofNat 0))] 0 x48 fun c50 =>
  hLocN 7 c44 0 fun x51 =>
  hCall call (.func (.func 23) [] []) [x51, x38] s47 fun x52 s53 =>
  hExt 0 x52 fun x54 =>
  hExt 1 x52 fun x55 =>
  hStLN 7 [(.int .i64 (.ofNat 0)), (.bool false), (.str []), (.str []), .nils, .nils, (.int .i64 (.ofNat 0))] 0 x54 fun c56 =>
  hLocN 7 c25 0 fun x57 =>
  hCall call (.func (.func 23) [] []) [x57, x38] s53 fun x58 s59 =>
  hExt 0 x58 fun x60 =>
  hExt 1 x58 fun x61 =>
  hStLN 7 [(.int .i64 (.ofNat 0)), (.bool false), (.str []), (.str []), .nils, .nils, (.int .i64 (.ofNat 0))] 0 x60 fun c62 =>
  hNot x49 fun x63 =>
  hlet (α := AV → Store → Rs) (fun x64 s65 =>
  hlet (α := AV → Store → Rs) (fun x67 s68 =>
  hlet (α := AV → Store → Rs) (fun x70 s71 =>
  hlet (α := AV → Store → Rs) (fun x73 s74 =>
  hPick x63 (.bool true) x73 fun x76 =>
  hlet (α := AV → Store → Rs) (fun x77 s78 =>
  hlet (α := AV → Store → Rs) (fun x80 s81 =>
  hlet (α := AV → Store → Rs) (fun x83 s84 =>
  hlet (α := AV → Store → Rs) (fun x86 s87 =>
  hlet (α := AV → Store → Rs) (fun x89 s90 =>
  hlet (α := AV → Store → Rs) (fun x92 s93 =>
  hlet (α := AV → Store → Rs) (fun x95 s96 =>
  hlet (α := AV → Store → Rs) (fun x98 s99 =>
  hlet (α := AV → Store → Rs) (fun x101 s102 =>
  hlet (α := AV → Store → Rs) (fun x104 s105 =>
  hlet (α := AV → Store → Rs) (fun x107 s108 =>
  hlet (α := AV → Store → Rs) (fun x110 s111 =>
  hlet (α := AV → Store → Rs) (fun x113 s114 =>
  hlet (α := AV → Store → Rs) (fun x116 s117 =>
  hPick x76 (.bool true) x116 fun x119 =>
  hlet (α := AV → Store → Rs) (fun x120 s121 =>
  hlet (α := AV → Store → Rs) (fun x123 s124 =>
  hlet (α := AV → Store → Rs) (fun x126 s127 =>
  hPick x119 (.bool true) x126 fun x129 =>
  hlet (α := AV → Store → Rs) (fun x130 s131 =>
  hlet (α := AV → Store → Rs) (fun x133 s134 =>
  hlet (α := AV → Store → Rs) (fun x136 s137 =>
  hlet (α := AV → Store → Rs) (fun x139 s140 =>
  hlet (α := AV → Store → Rs) (fun x142 s143 =>
  hlet (α := AV → Store → Rs) (fun x145 s146 =>
  hlet (α := AV → Store → Rs) (fun x148 s149 =>
  hlet (α := AV → Store → Rs) (fun x151 s152 =>
  hlet (α := AV → Store → Rs) (fun x154 s155 =>
  hlet (α := AV → Store → Rs) (fun x157 s158 =>
  hPick x129 (.bool true) x157 fun x160 =>
  hlet (α := AV → Store → Rs) (fun x161 s162 =>
  hlet (α := AV → Store → Rs) (fun x164 s165 =>
  hlet (α := AV → Store → Rs) (fun x167 s168 =>
  hlet (α := AV → Store → Rs) (fun x170 s171 =>
  hlet (α := AV → Store → Rs) (fun x173 s174 =>
  hlet (α := AV → Store → Rs) (fun x176 s177 =>
  hlet (α := AV → Store → Rs) (fun x179 s180 =>
  hPick x160 (.bool true) x179 fun x182 =>
  hIf x182 (
  some ((.bool false), s180)) (
  hStr (fun x y => !(bEq x y)) x34 x38 fun x185 =>
  hlet (α := AV → Store → Rs) (fun x186 s187 =>
  hlet (α := AV → Store → Rs) (fun x189 s190 =>
  hlet (α := AV → Store → Rs) (fun x192 s193 =>
  hlet (α := AV → Store → Rs) (fun x195 s196 =>
  hlet (α := AV → Store → Rs) (fun x198 s199 =>
  hlet (α := AV → Store → Rs) (fun x201 s202 =>
  hlet (α := AV → Store → Rs) (fun x204 s205 =>
  hlet (α := AV → Store → Rs) (fun x207 s208 =>
  hlet (α := AV → Store → Rs) (fun x210 s211 =>
  hlet (α := AV → Store → Rs) (fun x213 s214 =>
  hlet (α := AV → Store → Rs) (fun x216 s217 =>
  hlet (α := AV → Store → Rs) (fun x219 s220 =>
  hlet (α := AV → Store → Rs) (fun x222 s223 =>
  hPick x185 x222 (.bool false) fun x225 =>
  hIf x225 (
  some ((.bool false), s223)) (
  hNot x61 fun x228 =>
  hlet (α := AV → Store → Rs) (fun x229 s230 =>
  hlet (α := AV → Store → Rs) (fun x232 s233 =>
  hlet (α := AV → Store → Rs) (fun x235 s236 =>
  hlet (α := AV → Store → Rs) (fun x238 s239 =>
  hlet (α := AV → Store → Rs) (fun x241 s242 =>
  hlet (α := AV → Store → Rs) (fun x244 s245 =>
  hPick x228 (.bool true) x244 fun x247 =>
  some (x247, s245)) fun j246 =>
  hWant x228 false (
  hCall call (.func (.func 17) [] []) [x238, x241] s242 fun x248 s249 =>
  j246 x248 s249) (j246 aundef s242)) fun j243 =>
  hWant x228 false (
  hFrees [.loc 7 0 c25] (
  hLocN 7 c25 0 fun x250 =>
  j243 x250 s239)) (j243 aundef s239)) fun j240 =>
  hWant x228 false (
  hCall call (.func (.func 19) [] []) [x229, x232, x235] s236 fun x251 s252 =>
  j240 x251 s252) (j240 aundef s236)) fun j237 =>
  hWant x228 false (
  hLocN 7 c62 0 fun x253 =>
  j237 x253 s233) (j237 aundef s233)) fun j234 =>
  hWant x228 false (
  j234 x38 s230) (j234 aundef s230)) fun j231 =>
  hWant x228 false (
  hLocN 7 c25 0 fun x254 =>
  j231 x254 s223) (j231 aundef s223))) fun j224 =>
  hWant x185 true (
  hNot x219 fun x255 =>
  j224 x255 s220) (j224 aundef s220)) fun j221 =>
  hWant x185 true (
  hCall call (.func (.func 17) [] []) [x195, x216] s217 fun x256 s257 =>
  j221 x256 s257) (j221 aundef s217)) fun j218 =>
  hWant x185 true (
  hCall call (.func (.func 19) [] []) [x207, x210, x213] s214 fun x258 s259 =>
  j218 x258 s259) (j218 aundef s214)) fun j215 =>
  hWant x185 true (
  hFrees [.loc 8 0 c30] (
  hLocN 7 c30 0 fun x260 =>
  j215 x260 s211)) (j215 aundef s211)) fun j212 =>
  hWant x185 true (
  j212 x34 s208) (j212 aundef s208)) fun j209 =>
  hWant x185 true (
  hCall call (.func (.func 19) [] []) [x198, x201, x204] s205 fun x261 s262 =>
  j209 x261 s262) (j209 aundef s205)) fun j206 =>
  hWant x185 true (
  hFrees [.loc 9 0 c31] (
  hLocN 7 c31 0 fun x263 =>
  j206 x263 s202)) (j206 aundef s202)) fun j203 =>
  hWant x185 true (
  j203 x38 s199) (j203 aundef s199)) fun j200 =>
  hWant x185 true (
  hFrees [.loc 7 0 c25] (
  hLocN 7 c25 0 fun x264 =>
  j200 x264 s196)) (j200 aundef s196)) fun j197 =>
  hWant x185 true (
  hCall call (.func (.func 19) [] []) [x186, x189, x192] s193 fun x265 s266 =>
  j197 x265 s266) (j197 aundef s193)) fun j194 =>
  hWant x185 true (
  hLocN 7 c31 0 fun x267 =>
  j194 x267 s190) (j194 aundef s190)) fun j191 =>
  hWant x185 true (
  j191 x38 s187) (j191 aundef s187)) fun j188 =>
  hWant x185 true (
  hLocN 7 c44 0 fun x268 =>
  j188 x268 s180) (j188 aundef s180))) fun j181 =>
  hWant x160 false (
  hNot x176 fun x269 =>
  j181 x269 s177) (j181 aundef s177)) fun j178 =>
  hWant x160 false (
  hCall call (.func (.func 17) [] []) [x170, x173] s174 fun x270 s271 =>
  j178 x270 s271) (j178 aundef s174)) fun j175 =>
  hWant x160 false (
  hFrees [.loc 12 0 c44] (
  hLocN 7 c44 0 fun x272 =>
  j175 x272 s171)) (j175 aundef s171)) fun j172 =>
  hWant x160 false (
  hCall call (.func (.func 19) [] []) [x161, x164, x167] s168 fun x273 s274 =>
  j172 x273 s274) (j172 aundef s168)) fun j169 =>
  hWant x160 false (
  hLocN 7 c30 0 fun x275 =>
  j169 x275 s165) (j169 aundef s165)) fun j166 =>
  hWant x160 false (
  j166 x34 s162) (j166 aundef s162)) fun j163 =>
  hWant x160 false (
  hLocN 7 c44 0 fun x276 =>
  j163 x276 s158) (j163 aundef s158)) fun j159 =>
  hWant x129 false (
  hNot x154 fun x277 =>
  j159 x277 s155) (j159 aundef s155)) fun j156 =>
  hWant x129 false (
  hCall call (.func (.func 17) [] []) [x139, x151] s152 fun x278 s279 =>
  j156 x278 s279) (j156 aundef s152)) fun j153 =>
  hWant x129 false (
  hCall call (.func (.func 19) [] []) [x142, x145, x148] s149 fun x280 s281 =>
  j153 x280 s281) (j153 aundef s149)) fun j150 =>
  hWant x129 false (
  hFrees [.loc 9 0 c31] (
  hLocN 7 c31 0 fun x282 =>
  j150 x282 s146)) (j150 aundef s146)) fun j147 =>
  hWant x129 false (
  j147 x34 s143) (j147 aundef s143)) fun j144 =>
  hWant x129 false (
  hFrees [.loc 7 0 c25] (
  hLocN 7 c25 0 fun x283 =>
  j144 x283 s140)) (j144 aundef s140)) fun j141 =>
  hWant x129 false (
  hCall call (.func (.func 19) [] []) [x130, x133, x136] s137 fun x284 s285 =>
  j141 x284 s285) (j141 aundef s137)) fun j138 =>
  hWant x129 false (
  hLocN 7 c31 0 fun x286 =>
  j138 x286 s134) (j138 aundef s134)) fun j135 =>
  hWant x129 false (
  j135 x34 s131) (j135 aundef s131)) fun j132 =>
  hWant x129 false (
  hLocN 7 c44 0 fun x287 =>
  j132 x287 s127) (j132 aundef s127)) fun j128 =>
  hWant x119 false (
  hNot x123 fun x288 =>
  j128 x288 s124) (j128 aundef s124)) fun j125 =>
  hWant x119 false (
  hCall call (.func (.func 27) [] []) [x120] s121 fun x289 s290 =>
  j125 x289 s290) (j125 aundef s121)) fun j122 =>
  hWant x119 false (
  hLocN 7 c44 0 fun x291 =>
  j122 x291 s117) (j122 aundef s117)) fun j118 =>
  hWant x76 false (
  hPick x86 x113 (.bool false) fun x292 =>
  j118 x292 s114) (j118 aundef s114)) fun j115 =>
  hWant x86 true (
  hPick x98 (.bool true) x110 fun x293 =>
  j115 x293 s111) (j115 aundef s111)) fun j112 =>
  hWant x98 false (
  hNot x107 fun x294 =>
  j112 x294 s108) (j112 aundef s108)) fun j109 =>
  hWant x98 false (
  hCall call (.func (.func 17) [] []) [x101, x104] s105 fun x295 s296 =>
  j109 x295 s296) (j109 aundef s105)) fun j106 =>
  hWant x98 false (
  hLocN 7 c62 0 fun x297 =>
  j106 x297 s102) (j106 aundef s102)) fun j103 =>
  hWant x98 false (
  hLocN 7 c56 0 fun x298 =>
  j103 x298 s99) (j103 aundef s99)) fun j100 =>
  hWant x86 true (
  j100 x95 s96) (j100 aundef s96)) fun j97 =>
  hWant x86 true (
  hVal (aBinC E0.L 4 .neq false x89 x92 s93) fun x299 s300 =>
  j97 x299 s300) (j97 aundef s93)) fun j94 =>
  hWant x86 true (
  j94 x61 s90) (j94 aundef s90)) fun j91 =>
  hWant x86 true (
  j91 x55 s87) (j91 aundef s87)) fun j88 =>
  hWant x76 false (
  j88 x83 s84) (j88 aundef s84)) fun j85 =>
  hWant x76 false (
  hStr (fun x y => !(bEq x y)) x77 x80 fun x301 =>
  j85 x301 s81) (j85 aundef s81)) fun j82 =>
  hWant x76 false (
  j82 x38 s78) (j82 aundef s78)) fun j79 =>
  hWant x76 false (
  j79 x34 s74) (j79 aundef s74)) fun j75 =>
  hWant x63 false (
  hNot x70 fun x302 =>
  j75 x302 s71) (j75 aundef s71)) fun j72 =>
  hWant x63 false (
  hCall call (.func (.func 17) [] []) [x64, x67] s68 fun x303 s304 =>
  j72 x303 s304) (j72 aundef s68)) fun j69 =>
  hWant x63 false (
  hLocN 7 c30 0 fun x305 =>
  j69 x305 s65) (j69 aundef s65)) fun j66 =>
  hWant x63 false (
  hLocN 7 c50 0 fun x306 =>
  j66 x306 s59) (j66 aundef s59))))))
set_option maxRecDepth 1000000 in
theorem e8 : b8 = hfun E0 (An0 8) ha8 (List.range 3) Tryz.f8 := by kernel_rfl
/-- litmus/litmuslaw11.drawn -/
def ha14 : HA := (.s .o (.s .o (.s .o .o)))
def b14 : HBody := fun call n args st =>
  un1 args fun p0 r0 =>
  un1 r0 fun p1 r1 =>
  un0 r1 (
  hLenR p0 fun x0 =>
  hVal (aBuiltin E0.L 0 .min #[3, 3] [.val x0, .val (.int .i64 (.ofNat 40))] st) fun x1 s2 =>
  hV (sliceV E0.L 22 s2 p0 none (some x1) none) fun x3 =>
  hFill [(0, 1, x3)] [.nils, (.int .i64 (.ofNat 0))] fun c4 =>
  hCells (.agg c4) fun c5 =>
  hNew c5 s2 fun x6 s7 =>
  hCall call (.func (.func 46) [] []) [x6, (.int .i64 (.ofNat 3)), p1] s7 fun x8 s9 =>
  hStLN 7 [(.int .i64 (.ofNat 0)), (.bool false), (.str []), (.str []), .nils, .nils, (.int .i64 (.ofNat 0))] 0 x8 fun c10 =>
  hLocN 7 c10 0 fun x11 =>
  some (x11, s9))
set_option maxRecDepth 1000000 in
theorem e14 : b14 = hfun E0 (An0 14) ha14 (List.range 2) Tryz.f14 := by kernel_rfl
/-- litmus/value.Parse -/
def ha15 : HA := (.s .o (.s .o (.s (.s .o (.c none (.s .o .o) .o)) (.s .o (.s .o (.s (.s .o (.c none (.s .o .o) .o)) (.s .o .o)))))))
def b15 : HBody := fun call n args st =>
  un1 args fun p0 r0 =>
  un0 r0 (
  hCall call (.func (.func 47) [] []) [p0] st fun x0 s1 =>
  hExt 0 x0 fun x2 =>
  hExt 1 x0 fun x3 =>
  hVal (aBinC E0.L 69 .neq true x3 .nilIface s1) fun x4 s5 =>
  hIf x4 (
  hFill [] [(.int .i64 (.ofNat 0)), (.bool false), (.str []), (.str []), .nils, .nils, (.int .i64 (.ofNat 0))] fun c7 =>
  hStLN 7 [(.int .i64 (.ofNat 0)), (.bool false), (.str []), (.str []), .nils, .nils, (.int .i64 (.ofNat 0))] 0 (.agg c7) fun c8 =>
  hLocN 7 c8 0 fun x9 =>
  some (.tuple [x9, (.bool false)], s5)) (
  hFill [(0, 1, x2)] [.nils] fun c11 =>
  hCells (.agg c11) fun c12 =>
  hNew c12 s5 fun x13 s14 =>
  hFill [(0, 1, x13)] [.nilptr, (.bool false)] fun c15 =>
  hCells (.agg c15) fun c16 =>
  hNew c16 s14 fun x17 s18 =>
  hCall call (.func (.func 48) [] []) [x17, (.int .i64 (.ofNat 1))] s18 fun x19 s20 =>
  hStLN 7 [(.int .i64 (.ofNat 0)), (.bool false), (.str []), (.str []), .nils, .nils, (.int .i64 (.ofNat 0))] 0 x19 fun c21 =>
  hNN x17 (
  hAddr 1 x17 fun x22 =>
  hLd1 x22 s20 fun x23 =>
  hlet (α := AV → Store → Rs) (fun x24 s25 =>
  hlet (α := AV → Store → Rs) (fun x27 s28 =>
  hlet (α := AV → Store → Rs) (fun x30 s31 =>
  hlet (α := AV → Store → Rs) (fun x33 s34 =>
  hlet (α := AV → Store → Rs) (fun x36 s37 =>
  hlet (α := AV → Store → Rs) (fun x39 s40 =>
  hlet (α := AV → Store → Rs) (fun x42 s43 =>
  hlet (α := AV → Store → Rs) (fun x45 s46 =>
  hlet (α := AV → Store → Rs) (fun x48 s49 =>
  hPick x23 (.bool true) x48 fun x51 =>
  hIf x51 (
  hFill [] [(.int .i64 (.ofNat 0)), (.bool false), (.str []), (.str []), .nils, .nils, (.int .i64 (.ofNat 0))] fun c53 =>
  hStLN 7 [(.int .i64 (.ofNat 0)), (.bool false), (.str []), (.str []), .nils, .nils, (.int .i64 (.ofNat 0))] 0 (.agg c53) fun c54 =>
  hLocN 7 c54 0 fun x55 =>
  some (.tuple [x55, (.bool false)], s49)) (
  hLocN 7 c21 0 fun x57 =>
  hStLN 7 [(.int .i64 (.ofNat 0)), (.bool false), (.str []), (.str []), .nils, .nils, (.int .i64 (.ofNat 0))] 0 x57 fun c58 =>
  hLocN 7 c58 0 fun x59 =>
  some (.tuple [x59, (.bool true)], s49))) fun j50 =>
  hWant x23 false (
  hCmpI (fun x y => iLt y x) x45 (.int .i64 (.ofNat 0)) fun x60 =>
  j50 x60 s46) (j50 aundef s46)) fun j47 =>
  hWant x23 false (
  hLenR x42 fun x61 =>
  j47 x61 s43) (j47 aundef s43)) fun j44 =>
  hWant x23 false (
  hLd1 x39 s40 fun x62 =>
  j44 x62 s40) (j44 aundef s40)) fun j41 =>
  hWant x23 false (
  hAddr 0 x36 fun x63 =>
  j41 x63 s37) (j41 aundef s37)) fun j38 =>
  hWant x23 false (
  hNN x33 (
  j38 x33 s34)) (j38 aundef s34)) fun j35 =>
  hWant x23 false (
  hLd1 x30 s31 fun x64 =>
  j35 x64 s31) (j35 aundef s31)) fun j32 =>
  hWant x23 false (
  hAddr 0 x27 fun x65 =>
  j32 x65 s28) (j32 aundef s28)) fun j29 =>
  hWant x23 false (
  hNN x24 (
  j29 x24 s25)) (j29 aundef s25)) fun j26 =>
  hWant x23 false (
  j26 x17 s20) (j26 aundef s20))))
set_option maxRecDepth 1000000 in
theorem e15 : b15 = hfun E0 (An0 15) ha15 (List.range 1) Tryz.f15 := by kernel_rfl
/-- litmus/litmuslaw11.same -/
def ha17 : HA := (.s .o (.s .o .o))
def b17 : HBody := fun call n args st =>
  un1 args fun p0 r0 =>
  un1 r0 fun p1 r1 =>
  un0 r1 (
  hCells p0 fun c0 =>
  hCells p1 fun c1 =>
  hLocN 7 c0 0 fun x2 =>
  hLocN 7 c1 0 fun x3 =>
  hCall call (.func (.func 32) [] []) [x2, x3] st fun x4 s5 =>
  some (x4, s5))
set_option maxRecDepth 1000000 in
theorem e17 : b17 = hfun E0 (An0 17) ha17 (List.range 2) Tryz.f17 := by kernel_rfl
/-- litmus/litmuslaw11.works -/
def ha18 : HA := (.s .o (.s .o (.s .o (.s .o .o))))
def b18 : HBody := fun call n args st =>
  un0 args (
  hFill [(0, 1, (.int .i64 (.ofNat 4)))] [(.int .i64 (.ofNat 0)), (.bool false), (.str []), (.str []), .nils, .nils, (.int .i64 (.ofNat 0))] fun c0 =>
  hCall call (.func (.func 28) [] []) [(.str [45, 49])] st fun x1 s2 =>
  hCall call (.func (.func 19) [] []) [(.agg c0), (.str [98]), x1] s2 fun x3 s4 =>
  hCall call (.func (.func 29) [] []) [(.str [120])] s4 fun x5 s6 =>
  hCall call (.func (.func 19) [] []) [x3, (.str [97]), x5] s6 fun x7 s8 =>
  hStLN 7 [(.int .i64 (.ofNat 0)), (.bool false), (.str []), (.str []), .nils, .nils, (.int .i64 (.ofNat 0))] 0 x7 fun c9 =>
  hCall call (.func (.func 15) [] []) [(.str [40, 100, 105, 99, 116, 32, 34, 97, 34, 32, 49, 32, 34, 97, 34, 32, 50, 41])] s8 fun x10 s11 =>
  hExt 0 x10 fun x12 =>
  hExt 1 x10 fun x13 =>
  hStLN 7 [(.int .i64 (.ofNat 0)), (.bool false), (.str []), (.str []), .nils, .nils, (.int .i64 (.ofNat 0))] 0 x12 fun c14 =>
  hLocN 7 c9 0 fun x15 =>
  hCall call (.func (.func 26) [] []) [x15] s11 fun x16 s17 =>
  hStr bEq x16 (.str [40, 100, 105, 99, 116, 32, 34, 97, 34, 32, 34, 120, 34, 32, 34, 98, 34, 32, 45, 49, 41]) fun x18 =>
  hlet (α := AV → Store → Rs) (fun x19 s20 =>
  hlet (α := AV → Store → Rs) (fun x22 s23 =>
  hlet (α := AV → Store → Rs) (fun x25 s26 =>
  hPick x18 x25 (.bool false) fun x28 =>
  hlet (α := AV → Store → Rs) (fun x29 s30 =>
  hlet (α := AV → Store → Rs) (fun x32 s33 =>
  hPick x28 x32 (.bool false) fun x35 =>
  hlet (α := AV → Store → Rs) (fun x36 s37 =>
  hlet (α := AV → Store → Rs) (fun x39 s40 =>
  hlet (α := AV → Store → Rs) (fun x42 s43 =>
  hlet (α := AV → Store → Rs) (fun x45 s46 =>
  hPick x35 x45 (.bool false) fun x48 =>
  hlet (α := AV → Store → Rs) (fun x49 s50 =>
  hlet (α := AV → Store → Rs) (fun x52 s53 =>
  hlet (α := AV → Store → Rs) (fun x55 s56 =>
  hlet (α := AV → Store → Rs) (fun x58 s59 =>
  hPick x48 x58 (.bool false) fun x61 =>
  hlet (α := AV → Store → Rs) (fun x62 s63 =>
  hlet (α := AV → Store → Rs) (fun x65 s66 =>
  hlet (α := AV → Store → Rs) (fun x68 s69 =>
  hlet (α := AV → Store → Rs) (fun x71 s72 =>
  hPick x61 x71 (.bool false) fun x74 =>
  hlet (α := AV → Store → Rs) (fun x75 s76 =>
  hlet (α := AV → Store → Rs) (fun x78 s79 =>
  hlet (α := AV → Store → Rs) (fun x81 s82 =>
  hPick x74 x81 (.bool false) fun x84 =>
  hlet (α := AV → Store → Rs) (fun x85 s86 =>
  hlet (α := AV → Store → Rs) (fun x88 s89 =>
  hlet (α := AV → Store → Rs) (fun x91 s92 =>
  hPick x84 x91 (.bool false) fun x94 =>
  some (x94, s92)) fun j93 =>
  hWant x84 true (
  hCmpI iEq x88 (.int .i64 (.ofNat 5)) fun x95 =>
  j93 x95 s89) (j93 aundef s89)) fun j90 =>
  hWant x84 true (
  hCall call (.func (.func 21) [] []) [x85] s86 fun x96 s97 =>
  j90 x96 s97) (j90 aundef s86)) fun j87 =>
  hWant x84 true (
  hCall call (.func (.func 28) [] []) [(.str [40, 100, 105, 99, 116, 32, 34, 97, 34, 32, 49, 41])] s82 fun x98 s99 =>
  j87 x98 s99) (j87 aundef s82)) fun j83 =>
  hWant x74 true (
  hCmpI iEq x78 (.int .i64 (.ofNat 10)) fun x100 =>
  j83 x100 s79) (j83 aundef s79)) fun j80 =>
  hWant x74 true (
  hCall call (.func (.func 21) [] []) [x75] s76 fun x101 s102 =>
  j80 x101 s102) (j80 aundef s76)) fun j77 =>
  hWant x74 true (
  hCall call (.func (.func 29) [] []) [(.str [49, 50, 51, 52, 53, 54, 55, 56, 57])] s72 fun x103 s104 =>
  j77 x103 s104) (j77 aundef s72)) fun j73 =>
  hWant x61 true (
  hCmpI iEq x68 (.int .i64 (.negSucc 0)) fun x105 =>
  j73 x105 s69) (j73 aundef s69)) fun j70 =>
  hWant x61 true (
  hCall call (.func (.func 24) [] []) [x62, x65] s66 fun x106 s107 =>
  j70 x106 s107) (j70 aundef s66)) fun j67 =>
  hWant x61 true (
  hCall call (.func (.func 28) [] []) [(.str [102, 97, 108, 115, 101])] s63 fun x108 s109 =>
  j67 x108 s109) (j67 aundef s63)) fun j64 =>
  hWant x61 true (
  hCall call (.func (.func 28) [] []) [(.str [110, 117, 108, 108])] s59 fun x110 s111 =>
  j64 x110 s111) (j64 aundef s59)) fun j60 =>
  hWant x48 true (
  hCmpI iEq x55 (.int .i64 (.ofNat 1)) fun x112 =>
  j60 x112 s56) (j60 aundef s56)) fun j57 =>
  hWant x48 true (
  hCall call (.func (.func 24) [] []) [x49, x52] s53 fun x113 s114 =>
  j57 x113 s114) (j57 aundef s53)) fun j54 =>
  hWant x48 true (
  hCall call (.func (.func 29) [] []) [(.str [49, 48])] s50 fun x115 s116 =>
  j54 x115 s116) (j54 aundef s50)) fun j51 =>
  hWant x48 true (
  hCall call (.func (.func 29) [] []) [(.str [57])] s46 fun x117 s118 =>
  j51 x117 s118) (j51 aundef s46)) fun j47 =>
  hWant x35 true (
  hCmpI iEq x42 (.int .i64 (.negSucc 0)) fun x119 =>
  j47 x119 s43) (j47 aundef s43)) fun j44 =>
  hWant x35 true (
  hCall call (.func (.func 24) [] []) [x36, x39] s40 fun x120 s121 =>
  j44 x120 s121) (j44 aundef s40)) fun j41 =>
  hWant x35 true (
  hCall call (.func (.func 28) [] []) [(.str [49, 48])] s37 fun x122 s123 =>
  j41 x122 s123) (j41 aundef s37)) fun j38 =>
  hWant x35 true (
  hCall call (.func (.func 28) [] []) [(.str [57])] s33 fun x124 s125 =>
  j38 x124 s125) (j38 aundef s33)) fun j34 =>
  hWant x28 true (
  hNot x29 fun x126 =>
  j34 x126 s30) (j34 aundef s30)) fun j31 =>
  hWant x28 true (
  j31 x13 s26) (j31 aundef s26)) fun j27 =>
  hWant x18 true (
  hStr bEq x22 (.str [40, 100, 105, 99, 116, 32, 34, 97, 34, 32, 110, 117, 108, 108, 32, 34, 98, 34, 32, 49, 41]) fun x127 =>
  j27 x127 s23) (j27 aundef s23)) fun j24 =>
  hWant x18 true (
  hCall call (.func (.func 26) [] []) [x19] s20 fun x128 s129 =>
  j24 x128 s129) (j24 aundef s20)) fun j21 =>
  hWant x18 true (
  hCall call (.func (.func 28) [] []) [(.str [40, 100, 105, 99, 116, 32, 34, 98, 34, 32, 49, 32, 34, 97, 34, 32, 110, 117, 108, 108, 41])] s17 fun x130 s131 =>
  j21 x130 s131) (j21 aundef s17))
set_option maxRecDepth 1000000 in
theorem e18 : b18 = hfun E0 (An0 18) ha18 (List.range 0) Tryz.f18 := by kernel_rfl
/-- litmus/value.Set -/
def ha19 : HA := (.s .o (.s (.s .o (.c none (.s .o .o) .o)) (.s .o (.s .o (.s (.s .o (.c none (.s .o (.s .o .o)) .o)) (.s .o (.s .o .o)))))))
def b19 : HBody := fun call n args st =>
  un1 args fun p0 r0 =>
  un1 r0 fun p1 r1 =>
  un1 r1 fun p2 r2 =>
  un0 r2 (
  hCells p0 fun c0 =>
  hCells p2 fun c1 =>
  hLoc1 c0 0 fun x2 =>
  hCmpI (fun x y => !(iEq x y)) x2 (.int .i64 (.ofNat 4)) fun x3 =>
  hIf x3 (
  hLocN 7 c0 0 fun x5 =>
  hStLN 7 [(.int .i64 (.ofNat 0)), (.bool false), (.str []), (.str []), .nils, .nils, (.int .i64 (.ofNat 0))] 0 x5 fun c6 =>
  hLocN 7 c6 0 fun x7 =>
  some (x7, st)) (
  hLoc1 c0 4 fun x9 =>
  hCall call (.func (.func 51) [] []) [x9, p1] st fun x10 s11 =>
  hExt 0 x10 fun x12 =>
  hExt 1 x10 fun x13 =>
  hLoc1 c0 4 fun x14 =>
  hCall call (.func (.func 52) [] []) [x14] s11 fun x15 s16 =>
  hFrees [.loc 3 5 c0] (
  hLoc1 c0 5 fun x17 =>
  hCall call (.func (.func 53) [] []) [x17] s16 fun x18 s19 =>
  hStL1 c0 4 x15 fun c20 =>
  hStL1 c20 5 x18 fun c21 =>
  hIf x13 (
  hLoc1 c21 5 fun x23 =>
  hLocN 7 c1 0 fun x24 =>
  hElem 7 x23 x12 fun x25 =>
  hStN 7 x25 x24 s19 fun s26 =>
  hVal (aLoad E0.L 2 28 [.loc 3 0 c21] s26) fun x27 s28 =>
  hStLN 7 [(.int .i64 (.ofNat 0)), (.bool false), (.str []), (.str []), .nils, .nils, (.int .i64 (.ofNat 0))] 0 x27 fun c29 =>
  hLocN 7 c29 0 fun x30 =>
  some (x30, s28)) (
  hLoc1 c21 4 fun x32 =>
  hVal (aBuildSlice E0.L 0 25 1 [0] [p1] s19) fun x33 s34 =>
  hCall call (.func (.func 54) [] []) [x32, x12, x33] s34 fun x35 s36 =>
  hFrees [.loc 3 5 c21] (
  hLoc1 c21 5 fun x37 =>
  hFrees [.loc 5 0 c1] (
  hLocN 7 c1 0 fun x38 =>
  hVal (aBuildSlice E0.L 0 26 1 [0] [x38] s36) fun x39 s40 =>
  hCall call (.func (.func 55) [] []) [x37, x12, x39] s40 fun x41 s42 =>
  hStL1 c21 4 x35 fun c43 =>
  hStL1 c43 5 x41 fun c44 =>
  hVal (aLoad E0.L 2 28 [.loc 3 0 c44] s42) fun x45 s46 =>
  hStLN 7 [(.int .i64 (.ofNat 0)), (.bool false), (.str []), (.str []), .nils, .nils, (.int .i64 (.ofNat 0))] 0 x45 fun c47 =>
  hLocN 7 c47 0 fun x48 =>
  some (x48, s46)))))))
set_option maxRecDepth 1000000 in
theorem e19 : b19 = hfun E0 (An0 19) ha19 (List.range 3) Tryz.f19 := by kernel_rfl
/-- litmus/litmuslaw11.key -/
def ha20 : HA := (.s .o (.s .o .o))
def b20 : HBody := fun call n args st =>
  un1 args fun p0 r0 =>
  un0 r0 (
  hVal (aBuildSlice E0.L 0 25 8 [0, 1, 2, 3, 4, 5, 6, 7] [(.str [97]), (.str [98]), (.str []), (.str [107]), (.str [122, 122]), (.str [99]), (.str [0]), (.str [97, 97])] st) fun x0 s1 =>
  hVal (aBinC E0.L 5 .rem true p0 (.int .u8 (.ofNat 8)) s1) fun x2 s3 =>
  hElem 1 x0 x2 fun x4 =>
  hLd1 x4 s3 fun x5 =>
  some (x5, s3))
set_option maxRecDepth 1000000 in
theorem e20 : b20 = hfun E0 (An0 20) ha20 (List.range 1) Tryz.f20 := by kernel_rfl
/-- litmus/value.Size -/
def ha21 : HA := (.s .o (.s .o (.s (.s .o (.b none (.l ⟨[19, 3, 17, 18], [1], [1]⟩ (.s .o (.s (.c none .o .o) (.s (.b none (.s .o .o)) .o)))))) (.s (.s .o (.b none (.l ⟨[32, 3, 30, 31], [], []⟩ (.s .o (.s (.c none .o .o) (.s (.b none (.s .o .o)) .o)))))) (.s .o .o)))))
def b21 : HBody := fun call n args st =>
  un1 args fun p0 r0 =>
  un0 r0 (
  hCells p0 fun c0 =>
  hLoc1 c0 2 fun x1 =>
  hLenS x1 fun x2 =>
  hArith Int.add (.int .i64 (.ofNat 1)) x2 fun x3 =>
  hLoc1 c0 3 fun x4 =>
  hLenS x4 fun x5 =>
  hArith Int.add x3 x5 fun x6 =>
  hLoc1 c0 4 fun x7 =>
  hLenR x7 fun x8 =>
  hloop (fun h10 v11 s12 =>
  un1 v11 fun a18 v19 =>
  unAgg a18 fun c13 =>
  un1 v19 fun x14 v20 =>
  un1 v20 fun x15 v21 =>
  un1 v21 fun x16 v22 =>
  un1 v22 fun x17 v23 =>
  hCmpI iLt x14 x17 fun x24 =>
  hIf x24 (
  hElem 1 x16 x14 fun x29 =>
  hLd1 x29 s12 fun x30 =>
  hLenS x30 fun x31 =>
  hArith Int.add (.int .i64 (.ofNat 1)) x31 fun x32 =>
  hArith Int.add x15 x32 fun x33 =>
  hArith Int.add x14 (.int .i64 (.ofNat 1)) fun x35 =>
  h10 [.agg c13, x35, x33, x16, x17] s12) (
  hLoc1 c13 5 fun x36 =>
  hLenR x36 fun x37 =>
  hloop (fun h39 v40 s41 =>
  un1 v40 fun x42 v46 =>
  un1 v46 fun x43 v47 =>
  un1 v47 fun x44 v48 =>
  un1 v48 fun x45 v49 =>
  hCmpI iLt x42 x45 fun x50 =>
  hIf x50 (
  hElem 7 x44 x42 fun x55 =>
  hLdN 7 x55 s41 fun x56 =>
  hStLN 7 [(.int .i64 (.ofNat 0)), (.bool false), (.str []), (.str []), .nils, .nils, (.int .i64 (.ofNat 0))] 0 x56 fun c57 =>
  hLocN 7 c57 0 fun x58 =>
  hCall call (.func (.func 21) [] []) [x58] s41 fun x59 s60 =>
  hArith Int.add x43 x59 fun x61 =>
  hArith Int.add x42 (.int .i64 (.ofNat 1)) fun x63 =>
  h39 [x63, x61, x44, x45] s60) (
  some (x43, s41))) n [(.int .i64 (.ofNat 0)), x15, x36, x37] s12)) n [.agg c0, (.int .i64 (.ofNat 0)), x6, x7, x8] st)
set_option maxRecDepth 1000000 in
theorem e21 : b21 = hfun E0 (An0 21) ha21 (List.range 1) Tryz.f21 := by kernel_rfl
/-- litmus/value.Data -/
def ha22 : HA := (.s .o (.s .o .o))
def b22 : HBody := fun call n args st =>
  un1 args fun p0 r0 =>
  un0 r0 (
  hCells p0 fun c0 =>
  hLoc1 c0 0 fun x1 =>
  hCmpI (fun x y => !(iEq x y)) x1 (.int .i64 (.ofNat 5)) fun x2 =>
  hWB x2 (
  hlet (α := AV → Store → Rs) (fun x3 s4 =>
  hlet (α := AV → Store → Rs) (fun x6 s7 =>
  hlet (α := AV → Store → Rs) (fun x9 s10 =>
  hPick x2 x9 (.bool false) fun x12 =>
  some (x12, s10)) fun j11 =>
  hWant x2 true (
  hNot x6 fun x13 =>
  j11 x13 s7) (j11 aundef s7)) fun j8 =>
  hWant x2 true (
  hCall call (.func (.func 56) [] []) [x3, (.func (.func 57) [] [])] s4 fun x14 s15 =>
  j8 x14 s15) (j8 aundef s4)) fun j5 =>
  hWant x2 true (
  hLoc1 c0 5 fun x16 =>
  j5 x16 st) (j5 aundef st)))
set_option maxRecDepth 1000000 in
theorem e22 : b22 = hfun E0 (An0 22) ha22 (List.range 1) Tryz.f22 := by kernel_rfl
/-- litmus/value.Get -/
def ha23 : HA := (.s .o (.s (.s .o (.s .o (.c none (.s .o .o) .o))) (.s .o .o)))
def b23 : HBody := fun call n args st =>
  un1 args fun p0 r0 =>
  un1 r0 fun p1 r1 =>
  un0 r1 (
  hCells p0 fun c0 =>
  hLoc1 c0 4 fun x1 =>
  hCall call (.func (.func 51) [] []) [x1, p1] st fun x2 s3 =>
  hExt 0 x2 fun x4 =>
  hExt 1 x2 fun x5 =>
  hIf x5 (
  hLoc1 c0 5 fun x7 =>
  hElem 7 x7 x4 fun x8 =>
  hLdN 7 x8 s3 fun x9 =>
  hStLN 7 [(.int .i64 (.ofNat 0)), (.bool false), (.str []), (.str []), .nils, .nils, (.int .i64 (.ofNat 0))] 0 x9 fun c10 =>
  hLocN 7 c10 0 fun x11 =>
  some (.tuple [x11, (.bool true)], s3)) (
  hLocN 7 [(.int .i64 (.ofNat 0)), (.bool false), (.str []), (.str []), .nils, .nils, (.int .i64 (.ofNat 0))] 0 fun x13 =>
  hStLN 7 [(.int .i64 (.ofNat 0)), (.bool false), (.str []), (.str []), .nils, .nils, (.int .i64 (.ofNat 0))] 0 x13 fun c14 =>
  hLocN 7 c14 0 fun x15 =>
  some (.tuple [x15, (.bool false)], s3)))
set_option maxRecDepth 1000000 in
theorem e23 : b23 = hfun E0 (An0 23) ha23 (List.range 2) Tryz.f23 := by kernel_rfl
/-- litmus/value.Cmp -/
def ha24 : HA := (.s .o (.s .o (.s (.s .o (.b none (.l ⟨[18, 16, 3, 2, 17], [], []⟩ (.s .o (.s (.c none .o .o) (.s (.b none (.s .o (.s .o (.s .o (.c none (.s .o .o) .o))))) .o)))))) (.s (.s .o (.b none (.l ⟨[3, 2, 35, 34], [], []⟩ (.s .o (.s (.c none .o .o) (.s (.b none (.s .o (.s (.s .o (.c none (.s .o .o) .o)) (.s .o (.s .o (.c none (.s .o .o) .o)))))) .o)))))) (.s .o .o)))))
def b24 : HBody := fun call n args st =>
  un1 args fun p0 r0 =>
  un1 r0 fun p1 r1 =>
  un0 r1 (
  hCells p0 fun c0 =>
  hCells p1 fun c1 =>
  hNew [.nilFunc] st fun x2 s3 =>
  hSt1 x2 (.func (.func 58) [] []) s3 fun s4 =>
  hVal (aMakeFunc 2 (.func 61) 0 [x2, (.rptr c0), (.rptr c1)] s4) fun x5 s6 =>
  hVal (aBuildSlice E0.L 0 97 5 [0, 1, 2, 3, 4] [(.func (.func 59) [] [(.rptr c0), (.rptr c1)]), x5, (.func (.func 62) [] [(.rptr c0), (.rptr c1)]), (.func (.func 64) [] [(.rptr c0), (.rptr c1)]), (.func (.func 66) [] [(.rptr c0), (.rptr c1)])] s6) fun x7 s8 =>
  hLenR x7 fun x9 =>
  hloop (fun h11 v12 s13 =>
  un1 v12 fun x14 v19 =>
  un1 v19 fun x15 v20 =>
  un1 v20 fun x16 v21 =>
  un1 v21 fun x17 v22 =>
  un1 v22 fun x18 v23 =>
  hCmpI iLt x14 x18 fun x24 =>
  hIf x24 (
  hElem 1 x15 x14 fun x29 =>
  hLd1 x29 s13 fun x30 =>
  hCall call x30 [] s13 fun x31 s32 =>
  hCmpI (fun x y => !(iEq x y)) x31 (.int .i64 (.ofNat 0)) fun x33 =>
  hIf x33 (
  some (x31, s32)) (
  hArith Int.add x14 (.int .i64 (.ofNat 1)) fun x37 =>
  h11 [x37, x15, x16, x17, x18] s32)) (
  hAddr 5 x17 fun x38 =>
  hLd1 x38 s13 fun x39 =>
  hLenR x39 fun x40 =>
  hAddr 5 x16 fun x41 =>
  hLd1 x41 s13 fun x42 =>
  hLenR x42 fun x43 =>
  hVal (aBuiltin E0.L 0 .min #[3, 3] [.val x40, .val x43] s13) fun x44 s45 =>
  hloop (fun h47 v48 s49 =>
  un1 v48 fun x50 v54 =>
  un1 v54 fun x51 v55 =>
  un1 v55 fun x52 v56 =>
  un1 v56 fun x53 v57 =>
  hCmpI iLt x52 x53 fun x58 =>
  hIf x58 (
  hAddr 0 x51 fun x63 =>
  hLd1 x63 s49 fun x64 =>
  hCmpI iEq x64 (.int .i64 (.ofNat 4)) fun x65 =>
  hlet (α := AV → Store → Rs) (fun x66 s67 =>
  hlet (α := AV → Store → Rs) (fun x69 s70 =>
  hlet (α := AV → Store → Rs) (fun x72 s73 =>
  hlet (α := AV → Store → Rs) (fun x75 s76 =>
  hlet (α := AV → Store → Rs) (fun x78 s79 =>
  hlet (α := AV → Store → Rs) (fun x81 s82 =>
  hlet (α := AV → Store → Rs) (fun x84 s85 =>
  hlet (α := AV → Store → Rs) (fun x87 s88 =>
  hlet (α := AV → Store → Rs) (fun x90 s91 =>
  hlet (α := AV → Store → Rs) (fun x93 s94 =>
  hlet (α := AV → Store → Rs) (fun x96 s97 =>
  hPick x65 x96 (.bool false) fun x99 =>
  hIf x99 (
  hAddr 4 x51 fun x101 =>
  hLd1 x101 s97 fun x102 =>
  hElem 1 x102 x52 fun x103 =>
  hLd1 x103 s97 fun x104 =>
  hAddr 4 x50 fun x105 =>
  hLd1 x105 s97 fun x106 =>
  hElem 1 x106 x52 fun x107 =>
  hLd1 x107 s97 fun x108 =>
  hCall call (.func (.func 65) [] []) [x104, x108] s97 fun x109 s110 =>
  some (x109, s110)) (
  hAddr 5 x51 fun x112 =>
  hLd1 x112 s97 fun x113 =>
  hElem 7 x113 x52 fun x114 =>
  hLdN 7 x114 s97 fun x115 =>
  hAddr 5 x50 fun x116 =>
  hLd1 x116 s97 fun x117 =>
  hElem 7 x117 x52 fun x118 =>
  hLdN 7 x118 s97 fun x119 =>
  hCall call (.func (.func 24) [] []) [x115, x119] s97 fun x120 s121 =>
  hCmpI (fun x y => !(iEq x y)) x120 (.int .i64 (.ofNat 0)) fun x122 =>
  hIf x122 (
  some (x120, s121)) (
  hArith Int.add x52 (.int .i64 (.ofNat 1)) fun x135 =>
  h47 [x50, x51, x135, x53] s121))) fun j98 =>
  hWant x65 true (
  hStr (fun x y => !(bEq x y)) x78 x93 fun x126 =>
  j98 x126 s94) (j98 aundef s94)) fun j95 =>
  hWant x65 true (
  hLd1 x90 s91 fun x127 =>
  j95 x127 s91) (j95 aundef s91)) fun j92 =>
  hWant x65 true (
  hElem 1 x84 x87 fun x128 =>
  j92 x128 s88) (j92 aundef s88)) fun j89 =>
  hWant x65 true (
  j89 x52 s85) (j89 aundef s85)) fun j86 =>
  hWant x65 true (
  hLd1 x81 s82 fun x129 =>
  j86 x129 s82) (j86 aundef s82)) fun j83 =>
  hWant x65 true (
  hAddr 4 x50 fun x130 =>
  j83 x130 s79) (j83 aundef s79)) fun j80 =>
  hWant x65 true (
  hLd1 x75 s76 fun x131 =>
  j80 x131 s76) (j80 aundef s76)) fun j77 =>
  hWant x65 true (
  hElem 1 x69 x72 fun x132 =>
  j77 x132 s73) (j77 aundef s73)) fun j74 =>
  hWant x65 true (
  j74 x52 s70) (j74 aundef s70)) fun j71 =>
  hWant x65 true (
  hLd1 x66 s67 fun x133 =>
  j71 x133 s67) (j71 aundef s67)) fun j68 =>
  hWant x65 true (
  hAddr 4 x51 fun x134 =>
  j68 x134 s49) (j68 aundef s49)) (
  hAddr 5 x51 fun x136 =>
  hLd1 x136 s49 fun x137 =>
  hLenR x137 fun x138 =>
  hAddr 5 x50 fun x139 =>
  hLd1 x139 s49 fun x140 =>
  hLenR x140 fun x141 =>
  hCall call (.func (.func 60) [] []) [x138, x141] s49 fun x142 s143 =>
  some (x142, s143))) n [x16, x17, (.int .i64 (.ofNat 0)), x44] s45)) n [(.int .i64 (.ofNat 0)), x7, (.rptr c1), (.rptr c0), x9] s8)
set_option maxRecDepth 1000000 in
theorem e24 : b24 = hfun E0 (An0 24) ha24 (List.range 2) Tryz.f24 := by kernel_rfl
/-- litmus/value.Text -/
def ha26 : HA := (.s .o (.s .o (.s (.s .o (.b none (.s .o (.c none (.s .o .o) (.s .o (.c none (.s .o .o) (.s .o (.c none (.s .o .o) (.s .o (.c none (.s .o .o) (.s .o (.c (some ⟨[3], [], []⟩) (.s .o (.s (.s .o (.b none (.l ⟨[51, 3, 49, 50], [1], [1]⟩ (.s .o (.s (.c none .o .o) (.s (.b none (.s .o .o)) .o)))))) .o)) (.s .o (.s (.s .o (.b none (.l ⟨[19, 3, 17, 18], [], []⟩ (.s .o (.s (.c none .o .o) (.s (.b none (.s .o .o)) .o)))))) .o)))))))))))))) (.s .o .o))))
def b26 : HBody := fun call n args st =>
  un1 args fun p0 r0 =>
  un0 r0 (
  hCells p0 fun c0 =>
  hVal (aAlloc E0.L 3 102 st) fun x1 s2 =>
  hLoc1 c0 0 fun x3 =>
  hCmpI iEq x3 (.int .i64 (.ofNat 0)) fun x5 =>
  hIf x5 (
  some ((.str [110, 117, 108, 108]), s2)) (
  hCmpI iEq x3 (.int .i64 (.ofNat 1)) fun x7 =>
  hIf x7 (
  hLoc1 c0 1 fun x9 =>
  hCall call (.func (.func 69) [] []) [x9] s2 fun x10 s11 =>
  some (x10, s11)) (
  hCmpI iEq x3 (.int .i64 (.ofNat 2)) fun x12 =>
  hIf x12 (
  hLoc1 c0 2 fun x14 =>
  some (x14, s2)) (
  hCmpI iEq x3 (.int .i64 (.ofNat 3)) fun x15 =>
  hIf x15 (
  hLoc1 c0 3 fun x17 =>
  hCall call (.func (.func 70) [] []) [x17] s2 fun x18 s19 =>
  some (x18, s19)) (
  hCmpI iEq x3 (.int .i64 (.ofNat 4)) fun x20 =>
  hlet (α := List AV → Store → Rs) (fun v112 s113 =>
  un1 v112 fun x114 v115 =>
  hCall call (.func (.func 73) [] []) [x114] s113 fun x121 s122 =>
  some (x121, s122)) fun j111 =>
  hIf x20 (
  hCall call (.func (.func 71) [] []) [x1, (.str [40, 100, 105, 99, 116])] s2 fun x22 s23 =>
  hLoc1 c0 4 fun x24 =>
  hLenR x24 fun x25 =>
  hloop (fun h27 v28 s29 =>
  un1 v28 fun a35 v36 =>
  unAgg a35 fun c30 =>
  un1 v36 fun x31 v37 =>
  un1 v37 fun x32 v38 =>
  un1 v38 fun x33 v39 =>
  un1 v39 fun x34 v40 =>
  hCmpI iLt x31 x34 fun x41 =>
  hIf x41 (
  hElem 1 x33 x31 fun x46 =>
  hLd1 x46 s29 fun x47 =>
  hCall call (.func (.func 70) [] []) [x47] s29 fun x48 s49 =>
  hNotPtrs [.val (.str [32]), .val x48] (
  hVal (aBinC E0.L 9 .add true (.str [32]) x48 s49) fun x50 s51 =>
  hNotPtrs [.val x50, .val (.str [32])] (
  hVal (aBinC E0.L 9 .add true x50 (.str [32]) s51) fun x52 s53 =>
  hFrees [.loc 1 5 c30] (
  hLoc1 c30 5 fun x54 =>
  hElem 7 x54 x31 fun x55 =>
  hFrees [.val x55] (
  hLdN 7 x55 s53 fun x56 =>
  hCall call (.func (.func 26) [] []) [x56] s53 fun x57 s58 =>
  hVal (aBinC E0.L 9 .add false x52 x57 s58) fun x59 s60 =>
  hCall call (.func (.func 71) [] []) [x32, x59] s60 fun x61 s62 =>
  hArith Int.add x31 (.int .i64 (.ofNat 1)) fun x64 =>
  h27 [.agg c30, x64, x32, x33, x34] s62))))) (
  hCall call (.func (.func 71) [] []) [x32, (.str [41])] s29 fun x65 s66 =>
  j111 [x32] s66)) n [.agg c0, (.int .i64 (.ofNat 0)), x1, x24, x25] s23) (
  hLoc1 c0 6 fun x68 =>
  hCall call (.func (.func 72) [] []) [x68] s2 fun x69 s70 =>
  hVal (aBinC E0.L 9 .add true (.str [35]) x69 s70) fun x71 s72 =>
  hVal (aBinC E0.L 9 .add true x71 (.str [91]) s72) fun x73 s74 =>
  hCall call (.func (.func 71) [] []) [x1, x73] s74 fun x75 s76 =>
  hLoc1 c0 5 fun x77 =>
  hLenR x77 fun x78 =>
  hloop (fun h80 v81 s82 =>
  un1 v81 fun x83 v87 =>
  un1 v87 fun x84 v88 =>
  un1 v88 fun x85 v89 =>
  un1 v89 fun x86 v90 =>
  hCmpI iLt x83 x86 fun x91 =>
  hIf x91 (
  hElem 7 x85 x83 fun x96 =>
  hLdN 7 x96 s82 fun x97 =>
  hStLN 7 [(.int .i64 (.ofNat 0)), (.bool false), (.str []), (.str []), .nils, .nils, (.int .i64 (.ofNat 0))] 0 x97 fun c98 =>
  hLocN 7 c98 0 fun x99 =>
  hCall call (.func (.func 26) [] []) [x99] s82 fun x100 s101 =>
  hVal (aBinC E0.L 9 .add true (.str [32]) x100 s101) fun x102 s103 =>
  hCall call (.func (.func 71) [] []) [x84, x102] s103 fun x104 s105 =>
  hArith Int.add x83 (.int .i64 (.ofNat 1)) fun x107 =>
  h80 [x107, x84, x85, x86] s105) (
  hCall call (.func (.func 71) [] []) [x84, (.str [93])] s82 fun x108 s109 =>
  j111 [x84] s109)) n [(.int .i64 (.ofNat 0)), x1, x77, x78] s76))))))
set_option maxRecDepth 1000000 in
theorem e26 : b26 = hfun E0 (An0 26) ha26 (List.range 1) Tryz.f26 := by kernel_rfl
/-- litmus/value.Right -/
def ha27 : HA := (.s .o (.s .o (.s .o (.s .o .o))))
def b27 : HBody := fun call n args st =>
  un1 args fun p0 r0 =>
  un0 r0 (
  hCells p0 fun c0 =>
  hLocN 7 c0 0 fun x1 =>
  hCall call (.func (.func 74) [] []) [x1] st fun x2 s3 =>
  hExt 0 x2 fun x4 =>
  hExt 1 x2 fun x5 =>
  hStLN 7 [(.int .i64 (.ofNat 0)), (.bool false), (.str []), (.str []), .nils, .nils, (.int .i64 (.ofNat 0))] 0 x4 fun c6 =>
  hLoc1 c6 1 fun x7 =>
  hNot x7 fun x8 =>
  hWB x8 (
  hlet (α := AV → Store → Rs) (fun x9 s10 =>
  hlet (α := AV → Store → Rs) (fun x12 s13 =>
  hPick x8 x12 (.bool false) fun x15 =>
  hWB x15 (
  hlet (α := AV → Store → Rs) (fun x16 s17 =>
  hlet (α := AV → Store → Rs) (fun x19 s20 =>
  hPick x15 x19 (.bool false) fun x22 =>
  hWB x22 (
  hlet (α := AV → Store → Rs) (fun x23 s24 =>
  hlet (α := AV → Store → Rs) (fun x26 s27 =>
  hPick x22 x26 (.bool false) fun x29 =>
  hWB x29 (
  hlet (α := AV → Store → Rs) (fun x30 s31 =>
  hlet (α := AV → Store → Rs) (fun x33 s34 =>
  hlet (α := AV → Store → Rs) (fun x36 s37 =>
  hPick x29 x36 (.bool false) fun x39 =>
  hWB x39 (
  hlet (α := AV → Store → Rs) (fun x40 s41 =>
  hlet (α := AV → Store → Rs) (fun x43 s44 =>
  hlet (α := AV → Store → Rs) (fun x46 s47 =>
  hPick x39 x46 (.bool false) fun x49 =>
  hlet (α := AV → Store → Rs) (fun x50 s51 =>
  hPick x5 x50 (.bool false) fun x53 =>
  hWB x53 (
  hlet (α := AV → Store → Rs) (fun x54 s55 =>
  hlet (α := AV → Store → Rs) (fun x57 s58 =>
  hlet (α := AV → Store → Rs) (fun x60 s61 =>
  hPick x53 x60 (.bool false) fun x63 =>
  some (x63, s61)) fun j62 =>
  hWant x53 true (
  hNot x57 fun x64 =>
  j62 x64 s58) (j62 aundef s58)) fun j59 =>
  hWant x53 true (
  hCall call (.func (.func 56) [] []) [x54, (.func (.func 75) [] [])] s55 fun x65 s66 =>
  j59 x65 s66) (j59 aundef s55)) fun j56 =>
  hWant x53 true (
  hLoc1 c0 5 fun x67 =>
  j56 x67 s51) (j56 aundef s51))) fun j52 =>
  hWant x5 true (
  j52 x49 s47) (j52 aundef s47)) fun j48 =>
  hWant x39 true (
  hCmpI iEq x43 (.int .i64 (.ofNat 0)) fun x68 =>
  j48 x68 s44) (j48 aundef s44)) fun j45 =>
  hWant x39 true (
  hLenR x40 fun x69 =>
  j45 x69 s41) (j45 aundef s41)) fun j42 =>
  hWant x39 true (
  hLoc1 c6 5 fun x70 =>
  j42 x70 s37) (j42 aundef s37))) fun j38 =>
  hWant x29 true (
  hCmpI iEq x33 (.int .i64 (.ofNat 0)) fun x71 =>
  j38 x71 s34) (j38 aundef s34)) fun j35 =>
  hWant x29 true (
  hLenR x30 fun x72 =>
  j35 x72 s31) (j35 aundef s31)) fun j32 =>
  hWant x29 true (
  hLoc1 c6 4 fun x73 =>
  j32 x73 s27) (j32 aundef s27))) fun j28 =>
  hWant x22 true (
  hCmpI iEq x23 (.int .i64 (.ofNat 0)) fun x74 =>
  j28 x74 s24) (j28 aundef s24)) fun j25 =>
  hWant x22 true (
  hLoc1 c6 6 fun x75 =>
  j25 x75 s20) (j25 aundef s20))) fun j21 =>
  hWant x15 true (
  hStr bEq x16 (.str []) fun x76 =>
  j21 x76 s17) (j21 aundef s17)) fun j18 =>
  hWant x15 true (
  hLoc1 c6 3 fun x77 =>
  j18 x77 s13) (j18 aundef s13))) fun j14 =>
  hWant x8 true (
  hStr bEq x9 (.str []) fun x78 =>
  j14 x78 s10) (j14 aundef s10)) fun j11 =>
  hWant x8 true (
  hLoc1 c6 2 fun x79 =>
  j11 x79 s3) (j11 aundef s3)))
set_option maxRecDepth 1000000 in
theorem e27 : b27 = hfun E0 (An0 27) ha27 (List.range 1) Tryz.f27 := by kernel_rfl
/-- litmus/litmuslaw11.of -/
def ha28 : HA := (.s .o (.s .o (.s .o .o)))
def b28 : HBody := fun call n args st =>
  un1 args fun p0 r0 =>
  un0 r0 (
  hCall call (.func (.func 15) [] []) [p0] st fun x0 s1 =>
  hExt 0 x0 fun x2 =>
  hExt 1 x0 fun x3 =>
  hStLN 7 [(.int .i64 (.ofNat 0)), (.bool false), (.str []), (.str []), .nils, .nils, (.int .i64 (.ofNat 0))] 0 x2 fun c4 =>
  hLocN 7 c4 0 fun x5 =>
  hStLN 7 [(.int .i64 (.ofNat 0)), (.bool false), (.str []), (.str []), .nils, .nils, (.int .i64 (.ofNat 0))] 0 x5 fun c6 =>
  hLocN 7 c6 0 fun x7 =>
  some (x7, s1))
set_option maxRecDepth 1000000 in
theorem e28 : b28 = hfun E0 (An0 28) ha28 (List.range 1) Tryz.f28 := by kernel_rfl
/-- litmus/value.Str -/
def ha29 : HA := (.s .o (.s .o .o))
def b29 : HBody := fun call n args st =>
  un1 args fun p0 r0 =>
  un0 r0 (
  hFill [(0, 1, (.int .i64 (.ofNat 3))), (3, 1, p0)] [(.int .i64 (.ofNat 0)), (.bool false), (.str []), (.str []), .nils, .nils, (.int .i64 (.ofNat 0))] fun c0 =>
  hStLN 7 [(.int .i64 (.ofNat 0)), (.bool false), (.str []), (.str []), .nils, .nils, (.int .i64 (.ofNat 0))] 0 (.agg c0) fun c1 =>
  hLocN 7 c1 0 fun x2 =>
  some (x2, st))
set_option maxRecDepth 1000000 in
theorem e29 : b29 = hfun E0 (An0 29) ha29 (List.range 1) Tryz.f29 := by kernel_rfl
/-- litmus/litmusref11.Same -/
def ha32 : HA := (.s .o (.s (.s .o (.c none (.s .o .o) .o)) (.s (.s .o (.b none (.l ⟨[5], [3, 2], [3, 2]⟩ (.s (.s .o (.c none .o .o)) (.s (.b none (.s .o (.c none (.s .o .o) .o))) .o))))) (.s (.s .o (.b none (.l ⟨[6], [3, 2], [3, 2]⟩ (.s (.s .o (.c none .o .o)) (.s (.b none (.s .o (.c none (.s .o .o) .o))) .o))))) (.s .o .o)))))
def b32 : HBody := fun call n args st =>
  un1 args fun p0 r0 =>
  un1 r0 fun p1 r1 =>
  un0 r1 (
  hCells p0 fun c0 =>
  hCells p1 fun c1 =>
  hLoc1 c0 0 fun x2 =>
  hLoc1 c1 0 fun x3 =>
  hCmpI (fun x y => !(iEq x y)) x2 x3 fun x4 =>
  hWB x4 (
  hlet (α := AV → Store → Rs) (fun x5 s6 =>
  hWB x4 (
  hlet (α := AV → Store → Rs) (fun x8 s9 =>
  hlet (α := AV → Store → Rs) (fun x11 s12 =>
  hPick x4 (.bool true) x11 fun x14 =>
  hWB x14 (
  hlet (α := AV → Store → Rs) (fun x15 s16 =>
  hWB x14 (
  hlet (α := AV → Store → Rs) (fun x18 s19 =>
  hlet (α := AV → Store → Rs) (fun x21 s22 =>
  hPick x14 (.bool true) x21 fun x24 =>
  hWB x24 (
  hlet (α := AV → Store → Rs) (fun x25 s26 =>
  hWB x24 (
  hlet (α := AV → Store → Rs) (fun x28 s29 =>
  hlet (α := AV → Store → Rs) (fun x31 s32 =>
  hPick x24 (.bool true) x31 fun x34 =>
  hWB x34 (
  hlet (α := AV → Store → Rs) (fun x35 s36 =>
  hWB x34 (
  hlet (α := AV → Store → Rs) (fun x38 s39 =>
  hlet (α := AV → Store → Rs) (fun x41 s42 =>
  hPick x34 (.bool true) x41 fun x44 =>
  hWB x44 (
  hlet (α := AV → Store → Rs) (fun x45 s46 =>
  hlet (α := AV → Store → Rs) (fun x48 s49 =>
  hWB x44 (
  hlet (α := AV → Store → Rs) (fun x51 s52 =>
  hlet (α := AV → Store → Rs) (fun x54 s55 =>
  hlet (α := AV → Store → Rs) (fun x57 s58 =>
  hPick x44 (.bool true) x57 fun x60 =>
  hWB x60 (
  hlet (α := AV → Store → Rs) (fun x61 s62 =>
  hlet (α := AV → Store → Rs) (fun x64 s65 =>
  hWB x60 (
  hlet (α := AV → Store → Rs) (fun x67 s68 =>
  hlet (α := AV → Store → Rs) (fun x70 s71 =>
  hlet (α := AV → Store → Rs) (fun x73 s74 =>
  hPick x60 (.bool true) x73 fun x76 =>
  hIf x76 (
  some ((.bool false), s74)) (
  hloop (fun h80 v81 s82 =>
  un1 v81 fun a86 v87 =>
  unAgg a86 fun c83 =>
  un1 v87 fun a88 v89 =>
  unAgg a88 fun c84 =>
  un1 v89 fun x85 v90 =>
  hLoc1 c84 4 fun x91 =>
  hLenR x91 fun x92 =>
  hCmpI iLt x85 x92 fun x93 =>
  hIf x93 (
  hLoc1 c84 4 fun x98 =>
  hElem 1 x98 x85 fun x99 =>
  hLd1 x99 s82 fun x100 =>
  hLoc1 c83 4 fun x101 =>
  hElem 1 x101 x85 fun x102 =>
  hLd1 x102 s82 fun x103 =>
  hStr (fun x y => !(bEq x y)) x100 x103 fun x104 =>
  hIf x104 (
  some ((.bool false), s82)) (
  hArith Int.add x85 (.int .i64 (.ofNat 1)) fun x108 =>
  h80 [.agg c83, .agg c84, x108] s82)) (
  hloop (fun h110 v111 s112 =>
  un1 v111 fun a116 v117 =>
  unAgg a116 fun c113 =>
  un1 v117 fun a118 v119 =>
  unAgg a118 fun c114 =>
  un1 v119 fun x115 v120 =>
  hLoc1 c114 5 fun x121 =>
  hLenR x121 fun x122 =>
  hCmpI iLt x115 x122 fun x123 =>
  hIf x123 (
  hLoc1 c114 5 fun x128 =>
  hElem 7 x128 x115 fun x129 =>
  hLdN 7 x129 s112 fun x130 =>
  hLoc1 c113 5 fun x131 =>
  hElem 7 x131 x115 fun x132 =>
  hLdN 7 x132 s112 fun x133 =>
  hCall call (.func (.func 32) [] []) [x130, x133] s112 fun x134 s135 =>
  hNot x134 fun x136 =>
  hIf x136 (
  some ((.bool false), s135)) (
  hArith Int.add x115 (.int .i64 (.ofNat 1)) fun x140 =>
  h110 [.agg c113, .agg c114, x140] s135)) (
  some ((.bool true), s112))) n [.agg c83, .agg c84, (.int .i64 (.ofNat 0))] s82)) n [.agg c1, .agg c0, (.int .i64 (.ofNat 0))] s74)) fun j75 =>
  hWant x60 false (
  hCmpI (fun x y => !(iEq x y)) x64 x70 fun x141 =>
  j75 x141 s71) (j75 aundef s71)) fun j72 =>
  hWant x60 false (
  hLenR x67 fun x142 =>
  j72 x142 s68) (j72 aundef s68)) fun j69 =>
  hWant x60 false (
  hLoc1 c1 5 fun x143 =>
  j69 x143 s65) (j69 aundef s65))) fun j66 =>
  hWant x60 false (
  hLenR x61 fun x144 =>
  j66 x144 s62) (j66 aundef s62)) fun j63 =>
  hWant x60 false (
  hLoc1 c0 5 fun x145 =>
  j63 x145 s58) (j63 aundef s58))) fun j59 =>
  hWant x44 false (
  hCmpI (fun x y => !(iEq x y)) x48 x54 fun x146 =>
  j59 x146 s55) (j59 aundef s55)) fun j56 =>
  hWant x44 false (
  hLenR x51 fun x147 =>
  j56 x147 s52) (j56 aundef s52)) fun j53 =>
  hWant x44 false (
  hLoc1 c1 4 fun x148 =>
  j53 x148 s49) (j53 aundef s49))) fun j50 =>
  hWant x44 false (
  hLenR x45 fun x149 =>
  j50 x149 s46) (j50 aundef s46)) fun j47 =>
  hWant x44 false (
  hLoc1 c0 4 fun x150 =>
  j47 x150 s42) (j47 aundef s42))) fun j43 =>
  hWant x34 false (
  hCmpI (fun x y => !(iEq x y)) x35 x38 fun x151 =>
  j43 x151 s39) (j43 aundef s39)) fun j40 =>
  hWant x34 false (
  hLoc1 c1 6 fun x152 =>
  j40 x152 s36) (j40 aundef s36))) fun j37 =>
  hWant x34 false (
  hLoc1 c0 6 fun x153 =>
  j37 x153 s32) (j37 aundef s32))) fun j33 =>
  hWant x24 false (
  hStr (fun x y => !(bEq x y)) x25 x28 fun x154 =>
  j33 x154 s29) (j33 aundef s29)) fun j30 =>
  hWant x24 false (
  hLoc1 c1 3 fun x155 =>
  j30 x155 s26) (j30 aundef s26))) fun j27 =>
  hWant x24 false (
  hLoc1 c0 3 fun x156 =>
  j27 x156 s22) (j27 aundef s22))) fun j23 =>
  hWant x14 false (
  hStr (fun x y => !(bEq x y)) x15 x18 fun x157 =>
  j23 x157 s19) (j23 aundef s19)) fun j20 =>
  hWant x14 false (
  hLoc1 c1 2 fun x158 =>
  j20 x158 s16) (j20 aundef s16))) fun j17 =>
  hWant x14 false (
  hLoc1 c0 2 fun x159 =>
  j17 x159 s12) (j17 aundef s12))) fun j13 =>
  hWant x4 false (
  hVal (aBinC E0.L 4 .neq false x5 x8 s9) fun x160 s161 =>
  j13 x160 s161) (j13 aundef s9)) fun j10 =>
  hWant x4 false (
  hLoc1 c1 1 fun x162 =>
  j10 x162 s6) (j10 aundef s6))) fun j7 =>
  hWant x4 false (
  hLoc1 c0 1 fun x163 =>
  j7 x163 st) (j7 aundef st)))
set_option maxRecDepth 1000000 in
theorem e32 : b32 = hfun E0 (An0 32) ha32 (List.range 2) Tryz.f32 := by kernel_rfl
/-- litmus/value.Num -/
def ha34 : HA := (.s .o (.s (.s .o (.c none (.s .o .o) .o)) (.s .o (.s .o .o))))
def b34 : HBody := fun call n args st =>
  un1 args fun p0 r0 =>
  un0 r0 (
  hCells p0 fun c0 =>
  hLoc1 c0 0 fun x1 =>
  hCmpI (fun x y => !(iEq x y)) x1 (.int .i64 (.ofNat 2)) fun x2 =>
  hIf x2 (
  hFill [] [(.bool false), .nils] fun c4 =>
  hStLN 2 [(.bool false), .nils] 0 (.agg c4) fun c5 =>
  hLocN 2 c5 0 fun x6 =>
  some (x6, st)) (
  hLoc1 c0 2 fun x8 =>
  hCall call (.func (.func 78) [] []) [x8] st fun x9 s10 =>
  hExt 0 x9 fun x11 =>
  hExt 1 x9 fun x12 =>
  hStLN 2 [(.bool false), .nils] 0 x11 fun c13 =>
  hLocN 2 c13 0 fun x14 =>
  hStLN 2 [(.bool false), .nils] 0 x14 fun c15 =>
  hLocN 2 c15 0 fun x16 =>
  some (x16, s10)))
set_option maxRecDepth 1000000 in
theorem e34 : b34 = hfun E0 (An0 34) ha34 (List.range 1) Tryz.f34 := by kernel_rfl
/-- litmus/value.Bool -/
def ha35 : HA := (.s .o (.s .o .o))
def b35 : HBody := fun call n args st =>
  un1 args fun p0 r0 =>
  un0 r0 (
  hFill [(0, 1, (.int .i64 (.ofNat 1))), (1, 1, p0)] [(.int .i64 (.ofNat 0)), (.bool false), (.str []), (.str []), .nils, .nils, (.int .i64 (.ofNat 0))] fun c0 =>
  hStLN 7 [(.int .i64 (.ofNat 0)), (.bool false), (.str []), (.str []), .nils, .nils, (.int .i64 (.ofNat 0))] 0 (.agg c0) fun c1 =>
  hLocN 7 c1 0 fun x2 =>
  some (x2, st))
set_option maxRecDepth 1000000 in
theorem e35 : b35 = hfun E0 (An0 35) ha35 (List.range 1) Tryz.f35 := by kernel_rfl
/-- litmus/litmusref11.Set -/
def ha38 : HA := (.s .o (.s (.s .o (.c none (.s .o .o) .o)) (.s .o (.s .o (.s (.s .o (.b none (.l ⟨[9, 1, 8], [7, 3, 5, 6], [7, 3, 5, 6]⟩ (.s (.s .o (.c none .o .o)) (.s (.b none (.s (.s .o (.c (some ⟨[9, 1, 8], [7, 3, 5, 6], [7, 3, 5, 6]⟩) (.s .o (.s .o .o)) .o)) (.s .o (.c (some ⟨[9, 1, 8], [7, 3, 5, 6], [7, 3, 5, 6]⟩) (.s .o .o) .o)))) .o))))) (.s (.s .o (.c (some ⟨[], [7, 6], [7, 6]⟩) (.s .o .o) .o)) (.s .o .o)))))))
def b38 : HBody := fun call n args st =>
  un1 args fun p0 r0 =>
  un1 r0 fun p1 r1 =>
  un1 r1 fun p2 r2 =>
  un0 r2 (
  hCells p0 fun c0 =>
  hCells p2 fun c1 =>
  hLoc1 c0 0 fun x2 =>
  hCmpI (fun x y => !(iEq x y)) x2 (.int .i64 (.ofNat 4)) fun x3 =>
  hIf x3 (
  hLocN 7 c0 0 fun x5 =>
  hStLN 7 [(.int .i64 (.ofNat 0)), (.bool false), (.str []), (.str []), .nils, .nils, (.int .i64 (.ofNat 0))] 0 x5 fun c6 =>
  hLocN 7 c6 0 fun x7 =>
  some (x7, st)) (
  hFill [(0, 1, (.int .i64 (.ofNat 4)))] [(.int .i64 (.ofNat 0)), (.bool false), (.str []), (.str []), .nils, .nils, (.int .i64 (.ofNat 0))] fun c9 =>
  hStLN 7 [(.int .i64 (.ofNat 0)), (.bool false), (.str []), (.str []), .nils, .nils, (.int .i64 (.ofNat 0))] 0 (.agg c9) fun c10 =>
  hloop (fun h12 v13 s14 =>
  un1 v13 fun a22 v23 =>
  unAgg a22 fun c15 =>
  un1 v23 fun a24 v25 =>
  unAgg a24 fun c16 =>
  un1 v25 fun a26 v27 =>
  unAgg a26 fun c17 =>
  un1 v27 fun a28 v29 =>
  unAgg a28 fun c18 =>
  un1 v29 fun x19 v30 =>
  un1 v30 fun x20 v31 =>
  un1 v31 fun x21 v32 =>
  hLoc1 c16 4 fun x33 =>
  hLenR x33 fun x34 =>
  hCmpI iLt x19 x34 fun x35 =>
  hIf x35 (
  hNot x21 fun x40 =>
  hWB x40 (
  hlet (α := AV → Store → Rs) (fun x41 s42 =>
  hlet (α := AV → Store → Rs) (fun x44 s45 =>
  hlet (α := AV → Store → Rs) (fun x47 s48 =>
  hlet (α := AV → Store → Rs) (fun x50 s51 =>
  hlet (α := AV → Store → Rs) (fun x53 s54 =>
  hlet (α := AV → Store → Rs) (fun x56 s57 =>
  hPick x40 x56 (.bool false) fun x59 =>
  hlet (α := List AV → Store → Rs) (fun v77 s78 =>
  un1 v77 fun a86 v87 =>
  unAgg a86 fun c79 =>
  un1 v87 fun a88 v89 =>
  unAgg a88 fun c80 =>
  un1 v89 fun a90 v91 =>
  unAgg a90 fun c81 =>
  un1 v91 fun a92 v93 =>
  unAgg a92 fun c82 =>
  un1 v93 fun x83 v94 =>
  un1 v94 fun x84 v95 =>
  un1 v95 fun x85 v96 =>
  hLoc1 c80 4 fun x97 =>
  hElem 1 x97 x83 fun x98 =>
  hLd1 x98 s78 fun x99 =>
  hStr (fun x y => !(bEq x y)) x99 x84 fun x100 =>
  hlet (α := List AV → Store → Rs) (fun v123 s124 =>
  un1 v123 fun a132 v133 =>
  unAgg a132 fun c125 =>
  un1 v133 fun a134 v135 =>
  unAgg a134 fun c126 =>
  un1 v135 fun a136 v137 =>
  unAgg a136 fun c127 =>
  un1 v137 fun a138 v139 =>
  unAgg a138 fun c128 =>
  un1 v139 fun x129 v140 =>
  un1 v140 fun x130 v141 =>
  un1 v141 fun x131 v142 =>
  hArith Int.add x129 (.int .i64 (.ofNat 1)) fun x149 =>
  h12 [.agg c125, .agg c126, .agg c127, .agg c128, x149, x130, x131] s124) fun j122 =>
  hIf x100 (
  hLoc1 c79 4 fun x102 =>
  hLoc1 c80 4 fun x103 =>
  hElem 1 x103 x83 fun x104 =>
  hLd1 x104 s78 fun x105 =>
  hVal (aBuildSlice E0.L 0 25 1 [0] [x105] s78) fun x106 s107 =>
  hValF (aAppend E0.L 0 25 25 [.val x102, .val x106] s107) fun x108 s109 =>
  hStL1 c79 4 x108 fun c110 =>
  hLoc1 c110 5 fun x111 =>
  hLoc1 c80 5 fun x112 =>
  hElem 7 x112 x83 fun x113 =>
  hLdN 7 x113 s109 fun x114 =>
  hVal (aBuildSlice E0.L 0 26 1 [0] [x114] s109) fun x115 s116 =>
  hValF (aAppend E0.L 0 26 26 [.val x111, .val x115] s116) fun x117 s118 =>
  hStL1 c110 5 x117 fun c119 =>
  j122 [.agg c119, .agg c80, .agg c81, .agg c82, x83, x84, x85] s118) (
  j122 [.agg c79, .agg c80, .agg c81, .agg c82, x83, x84, x85] s78)) fun j76 =>
  hIf x59 (
  hLoc1 c15 4 fun x61 =>
  hVal (aBuildSlice E0.L 0 25 1 [0] [x20] s57) fun x62 s63 =>
  hValF (aAppend E0.L 0 25 25 [.val x61, .val x62] s63) fun x64 s65 =>
  hStL1 c15 4 x64 fun c66 =>
  hLoc1 c66 5 fun x67 =>
  hLocN 7 c17 0 fun x68 =>
  hVal (aBuildSlice E0.L 0 26 1 [0] [x68] s65) fun x69 s70 =>
  hValF (aAppend E0.L 0 26 26 [.val x67, .val x69] s70) fun x71 s72 =>
  hStL1 c66 5 x71 fun c73 =>
  j76 [.agg c73, .agg c16, .agg c17, .agg c18, x19, x20, (.bool true)] s72) (
  j76 [.agg c15, .agg c16, .agg c17, .agg c18, x19, x20, x21] s57)) fun j58 =>
  hWant x40 true (
  hVal (aBinC E0.L 9 .geq false x50 x53 s54) fun x144 s145 =>
  j58 x144 s145) (j58 aundef s54)) fun j55 =>
  hWant x40 true (
  j55 x20 s51) (j55 aundef s51)) fun j52 =>
  hWant x40 true (
  hLd1 x47 s48 fun x146 =>
  j52 x146 s48) (j52 aundef s48)) fun j49 =>
  hWant x40 true (
  hElem 1 x41 x44 fun x147 =>
  j49 x147 s45) (j49 aundef s45)) fun j46 =>
  hWant x40 true (
  j46 x19 s42) (j46 aundef s42)) fun j43 =>
  hWant x40 true (
  hLoc1 c16 4 fun x148 =>
  j43 x148 s14) (j43 aundef s14))) (
  hNot x21 fun x150 =>
  hlet (α := List AV → Store → Rs) (fun v168 s169 =>
  un1 v168 fun a172 v173 =>
  unAgg a172 fun c170 =>
  un1 v173 fun a174 v175 =>
  unAgg a174 fun c171 =>
  hLocN 7 c170 0 fun x176 =>
  hStLN 7 c171 0 x176 fun c177 =>
  hLocN 7 c177 0 fun x178 =>
  some (x178, s169)) fun j167 =>
  hIf x150 (
  hLoc1 c15 4 fun x152 =>
  hVal (aBuildSlice E0.L 0 25 1 [0] [x20] s14) fun x153 s154 =>
  hValF (aAppend E0.L 0 25 25 [.val x152, .val x153] s154) fun x155 s156 =>
  hStL1 c15 4 x155 fun c157 =>
  hLoc1 c157 5 fun x158 =>
  hLocN 7 c17 0 fun x159 =>
  hVal (aBuildSlice E0.L 0 26 1 [0] [x159] s156) fun x160 s161 =>
  hValF (aAppend E0.L 0 26 26 [.val x158, .val x160] s161) fun x162 s163 =>
  hStL1 c157 5 x162 fun c164 =>
  j167 [.agg c164, .agg c18] s163) (
  j167 [.agg c15, .agg c18] s14))) n [.agg c10, .agg c0, .agg c1, .agg [(.int .i64 (.ofNat 0)), (.bool false), (.str []), (.str []), .nils, .nils, (.int .i64 (.ofNat 0))], (.int .i64 (.ofNat 0)), p1, (.bool false)] st))
set_option maxRecDepth 1000000 in
theorem e38 : b38 = hfun E0 (An0 38) ha38 (List.range 3) Tryz.f38 := by kernel_rfl
/-- (*litmus/litmusref11.Draft).Value -/
def ha46 : HA := (.s .o (.s .o (.s (.s .o (.c (some ⟨[7, 0, 1, 2], [6], [6]⟩) .o .o)) (.s (.s .o (.b none (.s .o (.c none (.s .o .o) (.s .o (.c none (.s .o .o) (.s (.s .o (.c (some ⟨[34, 1, 2, 24, 0], [6], [6]⟩) .o .o)) (.c none (.s .o .o) (.s (.s .o (.c (some ⟨[43, 24, 2, 1, 0], [6], [6]⟩) .o .o)) (.c none (.s .o .o) (.s (.s .o (.c (some ⟨[52, 0, 1, 2, 24], [6], [6]⟩) .o .o)) (.c none (.s .o .o) (.s (.s .o (.c (some ⟨[56, 2, 1, 0], [6], [6]⟩) .o .o)) (.c none (.s .o (.s .o (.s (.s .o (.b none (.l ⟨[10, 2, 1, 0, 9], [8, 6], [8, 6]⟩ (.s (.s .o (.c none .o .o)) (.s (.b none .o) .o))))) (.s .o .o)))) .o)))))))))))))) (.s (.s .o (.c none (.s .o .o) .o)) (.s .o (.s .o (.s (.s .o (.b none (.l ⟨[13, 2, 1, 0, 12], [11, 6], [11, 6]⟩ (.s (.s .o (.c none .o .o)) (.s (.b none .o) .o))))) (.s .o .o)))))))))
def b46 : HBody := fun call n args st =>
  un1 args fun p0 r0 =>
  un1 r0 fun p1 r1 =>
  un1 r1 fun p2 r2 =>
  un0 r2 (
  hCall call (.func (.func 83) [] []) [p0, (.int .i64 (.ofNat 11))] st fun x0 s1 =>
  hCmpI iLt p1 (.int .i64 (.ofNat 1)) fun x2 =>
  hlet (α := AV → Store → Rs) (fun x3 s4 =>
  hlet (α := AV → Store → Rs) (fun x6 s7 =>
  hPick x2 x6 (.bool false) fun x9 =>
  hlet (α := List AV → Store → Rs) (fun v15 s16 =>
  un1 v15 fun a22 v23 =>
  unAgg a22 fun c17 =>
  un1 v23 fun x18 v24 =>
  un1 v24 fun x19 v25 =>
  un1 v25 fun x20 v26 =>
  un1 v26 fun x21 v27 =>
  hCmpI iEq x18 (.int .i64 (.ofNat 0)) fun x29 =>
  hIf x29 (
  hFill [] [(.int .i64 (.ofNat 0)), (.bool false), (.str []), (.str []), .nils, .nils, (.int .i64 (.ofNat 0))] fun c31 =>
  hStLN 7 c17 0 (.agg c31) fun c32 =>
  hLocN 7 c32 0 fun x33 =>
  some (x33, s16)) (
  hCmpI iEq x18 (.int .i64 (.ofNat 1)) fun x34 =>
  hIf x34 (
  hCall call (.func (.func 83) [] []) [x19, (.int .i64 (.ofNat 2))] s16 fun x36 s37 =>
  hCmpI iEq x36 (.int .i64 (.ofNat 1)) fun x38 =>
  hFill [(0, 1, (.int .i64 (.ofNat 1))), (1, 1, x38)] [(.int .i64 (.ofNat 0)), (.bool false), (.str []), (.str []), .nils, .nils, (.int .i64 (.ofNat 0))] fun c39 =>
  hStLN 7 c17 0 (.agg c39) fun c40 =>
  hLocN 7 c40 0 fun x41 =>
  some (x41, s37)) (
  hCmpI iEq x18 (.int .i64 (.ofNat 2)) fun x42 =>
  hlet (α := List AV → Store → Rs) (fun v48 s49 =>
  un1 v48 fun a56 v57 =>
  unAgg a56 fun c50 =>
  un1 v57 fun x51 v58 =>
  un1 v58 fun x52 v59 =>
  un1 v59 fun x53 v60 =>
  un1 v60 fun x54 v61 =>
  un1 v61 fun x55 v62 =>
  hIf x51 (
  hVal (aBuildSlice E0.L 0 25 9 [0, 1, 2, 3, 4, 5, 6, 7, 8] [(.str [48]), (.str [49]), (.str [45, 49]), (.str [50]), (.str [55]), (.str [45, 49, 50]), (.str [51, 48, 48]), (.str [49, 50, 51, 52, 53, 54, 55, 56, 57, 48, 49, 50, 51, 52, 53, 54, 55, 56, 57, 48, 49]), (.str [45, 57, 57, 57, 57, 57, 57, 57, 57, 57, 57, 57, 57, 57, 57, 57, 57, 57, 57, 57, 57])] s49) fun x64 s65 =>
  hCall call (.func (.func 83) [] []) [x55, (.int .i64 (.ofNat 9))] s65 fun x66 s67 =>
  hElem 1 x64 x66 fun x68 =>
  hLd1 x68 s67 fun x69 =>
  hFill [(0, 1, (.int .i64 (.ofNat 2))), (2, 1, x69)] [(.int .i64 (.ofNat 0)), (.bool false), (.str []), (.str []), .nils, .nils, (.int .i64 (.ofNat 0))] fun c70 =>
  hStLN 7 c50 0 (.agg c70) fun c71 =>
  hLocN 7 c71 0 fun x72 =>
  some (x72, s67)) (
  hCmpI iEq x54 (.int .i64 (.ofNat 4)) fun x73 =>
  hlet (α := List AV → Store → Rs) (fun v79 s80 =>
  un1 v79 fun a87 v88 =>
  unAgg a87 fun c81 =>
  un1 v88 fun x82 v89 =>
  un1 v89 fun x83 v90 =>
  un1 v90 fun x84 v91 =>
  un1 v91 fun x85 v92 =>
  un1 v92 fun x86 v93 =>
  hIf x82 (
  hVal (aBuildSlice E0.L 0 25 7 [0, 1, 2, 3, 4, 5, 6] [(.str []), (.str [97]), (.str [98]), (.str [97, 98]), (.str [107]), (.str [0, 255]), (.str [108, 111, 110, 103, 32, 116, 101, 120, 116, 32, 34, 111, 102, 34, 32, 98, 121, 116, 101, 115])] s80) fun x95 s96 =>
  hCall call (.func (.func 83) [] []) [x86, (.int .i64 (.ofNat 7))] s96 fun x97 s98 =>
  hElem 1 x95 x97 fun x99 =>
  hLd1 x99 s98 fun x100 =>
  hFill [(0, 1, (.int .i64 (.ofNat 3))), (3, 1, x100)] [(.int .i64 (.ofNat 0)), (.bool false), (.str []), (.str []), .nils, .nils, (.int .i64 (.ofNat 0))] fun c101 =>
  hStLN 7 c81 0 (.agg c101) fun c102 =>
  hLocN 7 c102 0 fun x103 =>
  some (x103, s98)) (
  hCmpI iEq x83 (.int .i64 (.ofNat 6)) fun x104 =>
  hlet (α := List AV → Store → Rs) (fun v110 s111 =>
  un1 v110 fun a118 v119 =>
  unAgg a118 fun c112 =>
  un1 v119 fun x113 v120 =>
  un1 v120 fun x114 v121 =>
  un1 v121 fun x115 v122 =>
  un1 v122 fun x116 v123 =>
  un1 v123 fun x117 v124 =>
  hIf x113 (
  hFill [(0, 1, (.int .i64 (.ofNat 4)))] [(.int .i64 (.ofNat 0)), (.bool false), (.str []), (.str []), .nils, .nils, (.int .i64 (.ofNat 0))] fun c126 =>
  hStLN 7 c112 0 (.agg c126) fun c127 =>
  hLocN 7 c127 0 fun x128 =>
  some (x128, s111)) (
  hCmpI iEq x117 (.int .i64 (.ofNat 8)) fun x129 =>
  hlet (α := List AV → Store → Rs) (fun v135 s136 =>
  un1 v135 fun a142 v143 =>
  unAgg a142 fun c137 =>
  un1 v143 fun x138 v144 =>
  un1 v144 fun x139 v145 =>
  un1 v145 fun x140 v146 =>
  un1 v146 fun x141 v147 =>
  hIf x138 (
  hFill [(0, 1, (.int .i64 (.ofNat 4)))] [(.int .i64 (.ofNat 0)), (.bool false), (.str []), (.str []), .nils, .nils, (.int .i64 (.ofNat 0))] fun c149 =>
  hStLN 7 [(.int .i64 (.ofNat 0)), (.bool false), (.str []), (.str []), .nils, .nils, (.int .i64 (.ofNat 0))] 0 (.agg c149) fun c150 =>
  hCall call (.func (.func 83) [] []) [x141, (.int .i64 (.ofNat 4))] s136 fun x151 s152 =>
  hloop (fun h154 v155 s156 =>
  un1 v155 fun a164 v165 =>
  unAgg a164 fun c157 =>
  un1 v165 fun a166 v167 =>
  unAgg a166 fun c158 =>
  un1 v167 fun x159 v168 =>
  un1 v168 fun x160 v169 =>
  un1 v169 fun x161 v170 =>
  un1 v170 fun x162 v171 =>
  un1 v171 fun x163 v172 =>
  hCmpI iLt x159 x163 fun x173 =>
  hIf x173 (
  hFrees [.loc 8 0 c157] (
  hLocN 7 c157 0 fun x178 =>
  hVal (aBuildSlice E0.L 0 25 5 [0, 1, 2, 3, 4] [(.str [97]), (.str [98]), (.str []), (.str [107]), (.str [122, 122])] s156) fun x179 s180 =>
  hCall call (.func (.func 83) [] []) [x162, (.int .i64 (.ofNat 5))] s180 fun x181 s182 =>
  hElem 1 x179 x181 fun x183 =>
  hFrees [.val x183] (
  hLd1 x183 s182 fun x184 =>
  hNotPtrs [.val x161, .val (.int .i64 (.ofNat 1))] (
  hArith Int.sub x161 (.int .i64 (.ofNat 1)) fun x185 =>
  hCall call (.func (.func 46) [] []) [x162, x185, x160] s182 fun x186 s187 =>
  hCall call (.func (.func 38) [] []) [x178, x184, x186] s187 fun x188 s189 =>
  hStLN 7 c157 0 x188 fun c190 =>
  hArith Int.add x159 (.int .i64 (.ofNat 1)) fun x192 =>
  h154 [.agg c190, .agg c158, x192, x160, x161, x162, x163] s189)))) (
  hLocN 7 c157 0 fun x193 =>
  hStLN 7 c158 0 x193 fun c194 =>
  hLocN 7 c194 0 fun x195 =>
  some (x195, s156))) n [.agg c150, .agg c137, (.int .i64 (.ofNat 0)), x139, x140, x141, x151] s152) (
  hNot x139 fun x203 =>
  hIf x203 (
  hFill [(0, 1, (.int .i64 (.ofNat 3))), (3, 1, (.str [97]))] [(.int .i64 (.ofNat 0)), (.bool false), (.str []), (.str []), .nils, .nils, (.int .i64 (.ofNat 0))] fun c205 =>
  hStLN 7 c137 0 (.agg c205) fun c206 =>
  hLocN 7 c206 0 fun x207 =>
  some (x207, s136)) (
  hCall call (.func (.func 83) [] []) [x141, (.int .i64 (.ofNat 9))] s136 fun x209 s210 =>
  hFill [(0, 1, (.int .i64 (.ofNat 5))), (6, 1, x209)] [(.int .i64 (.ofNat 0)), (.bool false), (.str []), (.str []), .nils, .nils, (.int .i64 (.ofNat 0))] fun c211 =>
  hStLN 7 [(.int .i64 (.ofNat 0)), (.bool false), (.str []), (.str []), .nils, .nils, (.int .i64 (.ofNat 0))] 0 (.agg c211) fun c212 =>
  hCall call (.func (.func 83) [] []) [x141, (.int .i64 (.ofNat 3))] s210 fun x213 s214 =>
  hloop (fun h216 v217 s218 =>
  un1 v217 fun a226 v227 =>
  unAgg a226 fun c219 =>
  un1 v227 fun a228 v229 =>
  unAgg a228 fun c220 =>
  un1 v229 fun x221 v230 =>
  un1 v230 fun x222 v231 =>
  un1 v231 fun x223 v232 =>
  un1 v232 fun x224 v233 =>
  un1 v233 fun x225 v234 =>
  hCmpI iLt x221 x225 fun x235 =>
  hIf x235 (
  hFrees [.loc 11 5 c219] (
  hLoc1 c219 5 fun x240 =>
  hArith Int.sub x223 (.int .i64 (.ofNat 1)) fun x241 =>
  hCall call (.func (.func 46) [] []) [x224, x241, x222] s218 fun x242 s243 =>
  hVal (aBuildSlice E0.L 0 26 1 [0] [x242] s243) fun x244 s245 =>
  hValF (aAppend E0.L 0 26 26 [.val x240, .val x244] s245) fun x246 s247 =>
  hStL1 c219 5 x246 fun c248 =>
  hArith Int.add x221 (.int .i64 (.ofNat 1)) fun x250 =>
  h216 [.agg c248, .agg c220, x250, x222, x223, x224, x225] s247)) (
  hLocN 7 c219 0 fun x251 =>
  hStLN 7 c220 0 x251 fun c252 =>
  hLocN 7 c252 0 fun x253 =>
  some (x253, s218))) n [.agg c212, .agg c137, (.int .i64 (.ofNat 0)), x139, x140, x141, x213] s214))) fun j134 =>
  hIf x129 (
  j134 [.agg c112, x129, x116, x115, x114] s111) (
  hCmpI iEq x117 (.int .i64 (.ofNat 9)) fun x132 =>
  j134 [.agg c112, x132, x116, x115, x114] s111))) fun j109 =>
  hIf x104 (
  j109 [.agg c81, x104, x86, x85, x84, x83] s80) (
  hCmpI iEq x83 (.int .i64 (.ofNat 7)) fun x107 =>
  j109 [.agg c81, x107, x86, x85, x84, x83] s80))) fun j78 =>
  hIf x73 (
  j78 [.agg c50, x73, x54, x53, x52, x55] s49) (
  hCmpI iEq x54 (.int .i64 (.ofNat 5)) fun x76 =>
  j78 [.agg c50, x76, x54, x53, x52, x55] s49))) fun j47 =>
  hIf x42 (
  j47 [.agg c17, x42, x20, x21, x18, x19] s16) (
  hCmpI iEq x18 (.int .i64 (.ofNat 3)) fun x45 =>
  j47 [.agg c17, x45, x20, x21, x18, x19] s16)))) fun j14 =>
  hIf x9 (
  hArith Int.sub x0 (.int .i64 (.ofNat 5)) fun x11 =>
  j14 [.agg [(.int .i64 (.ofNat 0)), (.bool false), (.str []), (.str []), .nils, .nils, (.int .i64 (.ofNat 0))], x11, p0, p1, p2] s7) (
  j14 [.agg [(.int .i64 (.ofNat 0)), (.bool false), (.str []), (.str []), .nils, .nils, (.int .i64 (.ofNat 0))], x0, p0, p1, p2] s7)) fun j8 =>
  hWant x2 true (
  hCmpI (fun x y => iLt y x) x3 (.int .i64 (.ofNat 7)) fun x254 =>
  j8 x254 s4) (j8 aundef s4)) fun j5 =>
  hWant x2 true (
  j5 x0 s1) (j5 aundef s1))
set_option maxRecDepth 1000000 in
theorem e46 : b46 = hfun E0 (An0 46) ha46 (List.range 3) Tryz.f46 := by kernel_rfl
/-- (*litmus/value.reader).one -/
def ha48 : HA := (.s .o (.s (.s .o (.s .o (.c none (.s .o .o) .o))) (.s .o (.s .o (.s (.s .o (.b none (.s .o (.c none (.s .o .o) (.s .o (.c none (.s .o .o) (.s .o (.c none (.s .o (.s .o (.s .o .o))) (.s .o (.c none (.s .o .o) .o)))))))))) (.s .o (.s .o .o)))))))
def b48 : HBody := fun call n args st =>
  un1 args fun p0 r0 =>
  un1 r0 fun p1 r1 =>
  un0 r1 (
  hNN p0 (
  hAddr 1 p0 fun x0 =>
  hLd1 x0 st fun x1 =>
  hlet (α := AV → Store → Rs) (fun x2 s3 =>
  hlet (α := AV → Store → Rs) (fun x5 s6 =>
  hlet (α := AV → Store → Rs) (fun x8 s9 =>
  hlet (α := AV → Store → Rs) (fun x11 s12 =>
  hlet (α := AV → Store → Rs) (fun x14 s15 =>
  hlet (α := AV → Store → Rs) (fun x17 s18 =>
  hlet (α := AV → Store → Rs) (fun x20 s21 =>
  hlet (α := AV → Store → Rs) (fun x23 s24 =>
  hlet (α := AV → Store → Rs) (fun x26 s27 =>
  hPick x1 (.bool true) x26 fun x29 =>
  hlet (α := AV → Store → Rs) (fun x30 s31 =>
  hlet (α := AV → Store → Rs) (fun x33 s34 =>
  hPick x29 (.bool true) x33 fun x36 =>
  hNN p0 (
  hAddr 1 p0 fun x37 =>
  hSt1 x37 x36 s34 fun s38 =>
  hNN p0 (
  hAddr 1 p0 fun x39 =>
  hLd1 x39 s38 fun x40 =>
  hIf x40 (
  hLocN 7 [(.int .i64 (.ofNat 0)), (.bool false), (.str []), (.str []), .nils, .nils, (.int .i64 (.ofNat 0))] 0 fun x42 =>
  hStLN 7 [(.int .i64 (.ofNat 0)), (.bool false), (.str []), (.str []), .nils, .nils, (.int .i64 (.ofNat 0))] 0 x42 fun c43 =>
  hLocN 7 c43 0 fun x44 =>
  some (x44, s38)) (
  hNewO s38 (.map [] 0) fun o46 s47 =>
  hFill [] [(.int .i64 (.ofNat 0)), (.bool false), (.str []), (.str []), .nils, .nils, (.int .i64 (.ofNat 0))] fun c48 =>
  hVal (aMapSet E0.L 125 [.val (.map o46), .val (.str [110, 117, 108, 108]), .val (.agg c48)] s47) fun x49 s50 =>
  hCall call (.func (.func 35) [] []) [(.bool true)] s50 fun x51 s52 =>
  hVal (aMapSet E0.L 125 [.val (.map o46), .val (.str [116, 114, 117, 101]), .val x51] s52) fun x53 s54 =>
  hCall call (.func (.func 35) [] []) [(.bool false)] s54 fun x55 s56 =>
  hVal (aMapSet E0.L 125 [.val (.map o46), .val (.str [102, 97, 108, 115, 101]), .val x55] s56) fun x57 s58 =>
  hNN p0 (
  hAddr 0 p0 fun x59 =>
  hLd1 x59 s58 fun x60 =>
  hCall call (.func (.func 85) [] []) [x60] s58 fun x61 s62 =>
  hStLN 3 [(.int .i64 (.ofNat 0)), (.str []), (.int .i64 (.ofNat 0))] 0 x61 fun c63 =>
  hLoc1 c63 0 fun x64 =>
  hCmpI iEq x64 (.int .i64 (.ofNat 2)) fun x66 =>
  hIf x66 (
  hLoc1 c63 1 fun x68 =>
  hFill [(0, 1, (.int .i64 (.ofNat 2))), (2, 1, x68)] [(.int .i64 (.ofNat 0)), (.bool false), (.str []), (.str []), .nils, .nils, (.int .i64 (.ofNat 0))] fun c69 =>
  hStLN 7 [(.int .i64 (.ofNat 0)), (.bool false), (.str []), (.str []), .nils, .nils, (.int .i64 (.ofNat 0))] 0 (.agg c69) fun c70 =>
  hLocN 7 c70 0 fun x71 =>
  some (x71, s62)) (
  hCmpI iEq x64 (.int .i64 (.ofNat 3)) fun x72 =>
  hIf x72 (
  hLoc1 c63 1 fun x74 =>
  hCall call (.func (.func 29) [] []) [x74] s62 fun x75 s76 =>
  hStLN 7 [(.int .i64 (.ofNat 0)), (.bool false), (.str []), (.str []), .nils, .nils, (.int .i64 (.ofNat 0))] 0 x75 fun c77 =>
  hLocN 7 c77 0 fun x78 =>
  some (x78, s76)) (
  hCmpI iEq x64 (.int .i64 (.ofNat 4)) fun x79 =>
  hIf x79 (
  hLoc1 c63 1 fun x81 =>
  hVal (aLookup E0.L 125 true [.val (.map o46), .val x81] s62) fun x82 s83 =>
  hExt 0 x82 fun x84 =>
  hExt 1 x82 fun x85 =>
  hStLN 7 [(.int .i64 (.ofNat 0)), (.bool false), (.str []), (.str []), .nils, .nils, (.int .i64 (.ofNat 0))] 0 x84 fun c86 =>
  hNot x85 fun x87 =>
  hNN p0 (
  hAddr 1 p0 fun x88 =>
  hSt1 x88 x87 s83 fun s89 =>
  hLocN 7 c86 0 fun x90 =>
  hStLN 7 [(.int .i64 (.ofNat 0)), (.bool false), (.str []), (.str []), .nils, .nils, (.int .i64 (.ofNat 0))] 0 x90 fun c91 =>
  hLocN 7 c91 0 fun x92 =>
  some (x92, s89))) (
  hCmpI iEq x64 (.int .i64 (.ofNat 0)) fun x93 =>
  hIf x93 (
  hCall call (.func (.func 86) [] []) [p0, p1] s62 fun x95 s96 =>
  hStLN 7 [(.int .i64 (.ofNat 0)), (.bool false), (.str []), (.str []), .nils, .nils, (.int .i64 (.ofNat 0))] 0 x95 fun c97 =>
  hLocN 7 c97 0 fun x98 =>
  some (x98, s96)) (
  hNN p0 (
  hAddr 1 p0 fun x104 =>
  hSt1 x104 (.bool true) s62 fun s105 =>
  hLocN 7 [(.int .i64 (.ofNat 0)), (.bool false), (.str []), (.str []), .nils, .nils, (.int .i64 (.ofNat 0))] 0 fun x106 =>
  hStLN 7 [(.int .i64 (.ofNat 0)), (.bool false), (.str []), (.str []), .nils, .nils, (.int .i64 (.ofNat 0))] 0 x106 fun c107 =>
  hLocN 7 c107 0 fun x108 =>
  some (x108, s105))))))))))) fun j35 =>
  hWant x29 false (
  hCmpI (fun x y => iLt y x) x30 (.int .i64 (.ofNat 256)) fun x109 =>
  j35 x109 s31) (j35 aundef s31)) fun j32 =>
  hWant x29 false (
  j32 p1 s27) (j32 aundef s27)) fun j28 =>
  hWant x1 false (
  hCmpI iEq x23 (.int .i64 (.ofNat 0)) fun x110 =>
  j28 x110 s24) (j28 aundef s24)) fun j25 =>
  hWant x1 false (
  hLenR x20 fun x111 =>
  j25 x111 s21) (j25 aundef s21)) fun j22 =>
  hWant x1 false (
  hLd1 x17 s18 fun x112 =>
  j22 x112 s18) (j22 aundef s18)) fun j19 =>
  hWant x1 false (
  hAddr 0 x14 fun x113 =>
  j19 x113 s15) (j19 aundef s15)) fun j16 =>
  hWant x1 false (
  hNN x11 (
  j16 x11 s12)) (j16 aundef s12)) fun j13 =>
  hWant x1 false (
  hLd1 x8 s9 fun x114 =>
  j13 x114 s9) (j13 aundef s9)) fun j10 =>
  hWant x1 false (
  hAddr 0 x5 fun x115 =>
  j10 x115 s6) (j10 aundef s6)) fun j7 =>
  hWant x1 false (
  hNN x2 (
  j7 x2 s3)) (j7 aundef s3)) fun j4 =>
  hWant x1 false (
  j4 p0 st) (j4 aundef st)))
set_option maxRecDepth 1000000 in
theorem e48 : b48 = hfun E0 (An0 48) ha48 (List.range 2) Tryz.f48 := by kernel_rfl
/-- slices.BinarySearch[[]string,string] -/
def ha51 : HA := (.s .o (.s .o (.s .o (.s (.b none (.l ⟨[1, 0, 8, 7, 6], [], []⟩ (.s (.s .o (.c none .o .o)) (.b none (.s .o (.s .o (.c (some ⟨[1, 0, 8, 7, 6], [], []⟩) .o .o))))))) (.s .o .o)))))
def b51 : HBody := fun call n args st =>
  un1 args fun p0 r0 =>
  un1 r0 fun p1 r1 =>
  un0 r1 (
  hLenR p0 fun x0 =>
  hloop (fun h2 v3 s4 =>
  un1 v3 fun x5 v10 =>
  un1 v10 fun x6 v11 =>
  un1 v11 fun x7 v12 =>
  un1 v12 fun x8 v13 =>
  un1 v13 fun x9 v14 =>
  hCmpI iLt x8 x7 fun x15 =>
  hIf x15 (
  hArith Int.add x8 x7 fun x20 =>
  hConvI .u64 x20 fun x21 =>
  hVal (aBinC E0.L 130 .shr true x21 (.int .u64 (.ofNat 1)) s4) fun x22 s23 =>
  hConvI .i64 x22 fun x24 =>
  hElem 1 x6 x24 fun x25 =>
  hLd1 x25 s23 fun x26 =>
  hCall call (.func (.func 89) [] []) [x26, x5] s23 fun x27 s28 =>
  hlet (α := List AV → Store → Rs) (fun v34 s35 =>
  un1 v34 fun x36 v41 =>
  un1 v41 fun x37 v42 =>
  un1 v42 fun x38 v43 =>
  un1 v43 fun x39 v44 =>
  un1 v44 fun x40 v45 =>
  h2 [x36, x37, x38, x39, x40] s35) fun j33 =>
  hIf x27 (
  hArith Int.add x24 (.int .i64 (.ofNat 1)) fun x30 =>
  j33 [x5, x6, x7, x30, x9] s28) (
  j33 [x5, x6, x24, x8, x9] s28)) (
  hCmpI iLt x8 x9 fun x47 =>
  hlet (α := AV → Store → Rs) (fun x48 s49 =>
  hlet (α := AV → Store → Rs) (fun x51 s52 =>
  hlet (α := AV → Store → Rs) (fun x54 s55 =>
  hlet (α := AV → Store → Rs) (fun x57 s58 =>
  hlet (α := AV → Store → Rs) (fun x60 s61 =>
  hlet (α := AV → Store → Rs) (fun x63 s64 =>
  hlet (α := AV → Store → Rs) (fun x66 s67 =>
  hlet (α := AV → Store → Rs) (fun x69 s70 =>
  hlet (α := AV → Store → Rs) (fun x72 s73 =>
  hlet (α := AV → Store → Rs) (fun x75 s76 =>
  hlet (α := AV → Store → Rs) (fun x78 s79 =>
  hlet (α := AV → Store → Rs) (fun x81 s82 =>
  hlet (α := AV → Store → Rs) (fun x84 s85 =>
  hlet (α := AV → Store → Rs) (fun x87 s88 =>
  hlet (α := AV → Store → Rs) (fun x90 s91 =>
  hlet (α := AV → Store → Rs) (fun x93 s94 =>
  hlet (α := AV → Store → Rs) (fun x96 s97 =>
  hPick x47 x96 (.bool false) fun x99 =>
  some (.tuple [x8, x99], s97)) fun j98 =>
  hWant x47 true (
  hPick x66 (.bool true) x93 fun x100 =>
  j98 x100 s94) (j98 aundef s94)) fun j95 =>
  hWant x66 false (
  hPick x84 x90 (.bool false) fun x101 =>
  j95 x101 s91) (j95 aundef s91)) fun j92 =>
  hWant x84 true (
  hCall call (.func (.func 90) [] []) [x87] s88 fun x102 s103 =>
  j92 x102 s103) (j92 aundef s88)) fun j89 =>
  hWant x84 true (
  j89 x5 s85) (j89 aundef s85)) fun j86 =>
  hWant x66 false (
  j86 x81 s82) (j86 aundef s82)) fun j83 =>
  hWant x66 false (
  hCall call (.func (.func 90) [] []) [x78] s79 fun x104 s105 =>
  j83 x104 s105) (j83 aundef s79)) fun j80 =>
  hWant x66 false (
  hLd1 x75 s76 fun x106 =>
  j80 x106 s76) (j80 aundef s76)) fun j77 =>
  hWant x66 false (
  hElem 1 x69 x72 fun x107 =>
  j77 x107 s73) (j77 aundef s73)) fun j74 =>
  hWant x66 false (
  j74 x8 s70) (j74 aundef s70)) fun j71 =>
  hWant x66 false (
  j71 x6 s67) (j71 aundef s67)) fun j68 =>
  hWant x47 true (
  j68 x63 s64) (j68 aundef s64)) fun j65 =>
  hWant x47 true (
  hStr bEq x57 x60 fun x108 =>
  j65 x108 s61) (j65 aundef s61)) fun j62 =>
  hWant x47 true (
  j62 x5 s58) (j62 aundef s58)) fun j59 =>
  hWant x47 true (
  hLd1 x54 s55 fun x109 =>
  j59 x109 s55) (j59 aundef s55)) fun j56 =>
  hWant x47 true (
  hElem 1 x48 x51 fun x110 =>
  j56 x110 s52) (j56 aundef s52)) fun j53 =>
  hWant x47 true (
  j53 x8 s49) (j53 aundef s49)) fun j50 =>
  hWant x47 true (
  j50 x6 s4) (j50 aundef s4))) n [p1, p0, x0, (.int .i64 (.ofNat 0)), x0] st)
set_option maxRecDepth 1000000 in
theorem e51 : b51 = hfun E0 (An0 51) ha51 (List.range 2) Tryz.f51 := by kernel_rfl
/-- slices.Clone[[]string,string] -/
def ha52 : HA := (.s .o (.s (.s .o (.c none (.s .o .o) .o)) (.s .o .o)))
def b52 : HBody := fun call n args st =>
  un1 args fun p0 r0 =>
  un0 r0 (
  hVal (aBinC E0.L 25 .eql true p0 .nils st) fun x0 s1 =>
  hIf x0 (
  some (.nils, s1)) (
  hVal (aBuildSlice E0.L 0 25 0 [] [] s1) fun x4 s5 =>
  hValF (aAppend E0.L 1 25 25 [.val x4, .val p0] s5) fun x6 s7 =>
  some (x6, s7)))
set_option maxRecDepth 1000000 in
theorem e52 : b52 = hfun E0 (An0 52) ha52 (List.range 1) Tryz.f52 := by kernel_rfl
/-- slices.Clone[[]litmus/api.Value,litmus/api.Value] -/
def ha53 : HA := (.s .o (.s (.s .o (.c none (.s .o .o) .o)) (.s .o .o)))
def b53 : HBody := fun call n args st =>
  un1 args fun p0 r0 =>
  un0 r0 (
  hVal (aBinC E0.L 26 .eql true p0 .nils st) fun x0 s1 =>
  hIf x0 (
  some (.nils, s1)) (
  hVal (aBuildSlice E0.L 0 26 0 [] [] s1) fun x4 s5 =>
  hValF (aAppend E0.L 1 26 26 [.val x4, .val p0] s5) fun x6 s7 =>
  some (x6, s7)))
set_option maxRecDepth 1000000 in
theorem e53 : b53 = hfun E0 (An0 53) ha53 (List.range 1) Tryz.f53 := by kernel_rfl
/-- slices.Insert[[]string,string] -/
def ha54 : HA := (.s .o (.s .o (.s .o (.s (.s .o (.c none (.s .o .o) .o)) (.s .o (.s (.s .o (.c none (.s .o .o) .o)) (.s (.s .o (.c none (.s .o (.s .o (.s .o (.s .o .o)))) .o)) (.s .o (.s (.s .o (.c none (.s .o (.s .o (.s .o .o))) .o)) (.s .o (.s .o (.s .o .o))))))))))))
def b54 : HBody := fun call n args st =>
  un1 args fun p0 r0 =>
  un1 r0 fun p1 r1 =>
  un1 r1 fun p2 r2 =>
  un0 r2 (
  hV (sliceV E0.L 25 st p0 (some p1) none none) fun x0 =>
  hLenR p2 fun x1 =>
  hCmpI iEq x1 (.int .i64 (.ofNat 0)) fun x2 =>
  hIf x2 (
  some (p0, st)) (
  hLenR p0 fun x5 =>
  hCmpI iEq p1 x5 fun x6 =>
  hIf x6 (
  hValF (aAppend E0.L 0 25 25 [.val p0, .val p2] st) fun x8 s9 =>
  some (x8, s9)) (
  hArith Int.add x5 x1 fun x11 =>
  hVal (aBuiltin E0.L 0 .cap #[25] [.val p0] st) fun x12 s13 =>
  hCmpI (fun x y => iLt y x) x11 x12 fun x14 =>
  hIf x14 (
  hV (sliceV E0.L 25 s13 p0 none (some p1) none) fun x16 =>
  hArith Int.add x5 x1 fun x17 =>
  hArith Int.sub x17 p1 fun x18 =>
  hValF (aAppend E0.L 1 25 3 [.val x16, .val x18] s13) fun x19 s20 =>
  hV (sliceV E0.L 25 s20 x19 (some p1) none none) fun x21 =>
  hVal (aBuiltin E0.L 0 .copy #[25, 25] [.val x21, .val p2] s20) fun x22 s23 =>
  hArith Int.add p1 x1 fun x24 =>
  hV (sliceV E0.L 25 s23 x19 (some x24) none none) fun x25 =>
  hV (sliceV E0.L 25 s23 p0 (some p1) none none) fun x26 =>
  hVal (aBuiltin E0.L 0 .copy #[25, 25] [.val x25, .val x26] s23) fun x27 s28 =>
  some (x19, s28)) (
  hArith Int.add x5 x1 fun x30 =>
  hV (sliceV E0.L 25 s13 p0 none (some x30) none) fun x31 =>
  hArith Int.add p1 x1 fun x32 =>
  hV (sliceV E0.L 25 s13 x31 (some x32) none none) fun x33 =>
  hCall call (.func (.func 91) [] []) [p2, x33] s13 fun x34 s35 =>
  hNot x34 fun x36 =>
  hIf x36 (
  hArith Int.add p1 x1 fun x38 =>
  hV (sliceV E0.L 25 s35 x31 (some x38) none none) fun x39 =>
  hV (sliceV E0.L 25 s35 x31 (some p1) none none) fun x40 =>
  hVal (aBuiltin E0.L 0 .copy #[25, 25] [.val x39, .val x40] s35) fun x41 s42 =>
  hV (sliceV E0.L 25 s42 x31 (some p1) none none) fun x43 =>
  hVal (aBuiltin E0.L 0 .copy #[25, 25] [.val x43, .val p2] s42) fun x44 s45 =>
  some (x31, s45)) (
  hV (sliceV E0.L 25 s35 x31 (some x5) none none) fun x47 =>
  hVal (aBuiltin E0.L 0 .copy #[25, 25] [.val x47, .val p2] s35) fun x48 s49 =>
  hV (sliceV E0.L 25 s49 x31 (some p1) none none) fun x50 =>
  hCall call (.func (.func 92) [] []) [x50, x1] s49 fun x51 s52 =>
  some (x31, s52))))))
set_option maxRecDepth 1000000 in
theorem e54 : b54 = hfun E0 (An0 54) ha54 (List.range 3) Tryz.f54 := by kernel_rfl
/-- slices.Insert[[]litmus/api.Value,litmus/api.Value] -/
def ha55 : HA := (.s .o (.s .o (.s .o (.s (.s .o (.c none (.s .o .o) .o)) (.s .o (.s (.s .o (.c none (.s .o .o) .o)) (.s (.s .o (.c none (.s .o (.s .o (.s .o (.s .o .o)))) .o)) (.s .o (.s (.s .o (.c none (.s .o (.s .o (.s .o .o))) .o)) (.s .o (.s .o (.s .o .o))))))))))))
def b55 : HBody := fun call n args st =>
  un1 args fun p0 r0 =>
  un1 r0 fun p1 r1 =>
  un1 r1 fun p2 r2 =>
  un0 r2 (
  hV (sliceV E0.L 26 st p0 (some p1) none none) fun x0 =>
  hLenR p2 fun x1 =>
  hCmpI iEq x1 (.int .i64 (.ofNat 0)) fun x2 =>
  hIf x2 (
  some (p0, st)) (
  hLenR p0 fun x5 =>
  hCmpI iEq p1 x5 fun x6 =>
  hIf x6 (
  hValF (aAppend E0.L 0 26 26 [.val p0, .val p2] st) fun x8 s9 =>
  some (x8, s9)) (
  hArith Int.add x5 x1 fun x11 =>
  hVal (aBuiltin E0.L 0 .cap #[26] [.val p0] st) fun x12 s13 =>
  hCmpI (fun x y => iLt y x) x11 x12 fun x14 =>
  hIf x14 (
  hV (sliceV E0.L 26 s13 p0 none (some p1) none) fun x16 =>
  hArith Int.add x5 x1 fun x17 =>
  hArith Int.sub x17 p1 fun x18 =>
  hValF (aAppend E0.L 1 26 3 [.val x16, .val x18] s13) fun x19 s20 =>
  hV (sliceV E0.L 26 s20 x19 (some p1) none none) fun x21 =>
  hVal (aBuiltin E0.L 0 .copy #[26, 26] [.val x21, .val p2] s20) fun x22 s23 =>
  hArith Int.add p1 x1 fun x24 =>
  hV (sliceV E0.L 26 s23 x19 (some x24) none none) fun x25 =>
  hV (sliceV E0.L 26 s23 p0 (some p1) none none) fun x26 =>
  hVal (aBuiltin E0.L 0 .copy #[26, 26] [.val x25, .val x26] s23) fun x27 s28 =>
  some (x19, s28)) (
  hArith Int.add x5 x1 fun x30 =>
  hV (sliceV E0.L 26 s13 p0 none (some x30) none) fun x31 =>
  hArith Int.add p1 x1 fun x32 =>
  hV (sliceV E0.L 26 s13 x31 (some x32) none none) fun x33 =>
  hCall call (.func (.func 93) [] []) [p2, x33] s13 fun x34 s35 =>
  hNot x34 fun x36 =>
  hIf x36 (
  hArith Int.add p1 x1 fun x38 =>
  hV (sliceV E0.L 26 s35 x31 (some x38) none none) fun x39 =>
  hV (sliceV E0.L 26 s35 x31 (some p1) none none) fun x40 =>
  hVal (aBuiltin E0.L 0 .copy #[26, 26] [.val x39, .val x40] s35) fun x41 s42 =>
  hV (sliceV E0.L 26 s42 x31 (some p1) none none) fun x43 =>
  hVal (aBuiltin E0.L 0 .copy #[26, 26] [.val x43, .val p2] s42) fun x44 s45 =>
  some (x31, s45)) (
  hV (sliceV E0.L 26 s35 x31 (some x5) none none) fun x47 =>
  hVal (aBuiltin E0.L 0 .copy #[26, 26] [.val x47, .val p2] s35) fun x48 s49 =>
  hV (sliceV E0.L 26 s49 x31 (some p1) none none) fun x50 =>
  hCall call (.func (.func 94) [] []) [x50, x1] s49 fun x51 s52 =>
  some (x31, s52))))))
set_option maxRecDepth 1000000 in
theorem e55 : b55 = hfun E0 (An0 55) ha55 (List.range 3) Tryz.f55 := by kernel_rfl
/-- slices.ContainsFunc[[]litmus/api.Value,litmus/api.Value] -/
def ha56 : HA := (.s .o (.s .o .o))
def b56 : HBody := fun call n args st =>
  un1 args fun p0 r0 =>
  un1 r0 fun p1 r1 =>
  un0 r1 (
  hCall call (.func (.func 95) [] []) [p0, p1] st fun x0 s1 =>
  hCmpI (fun x y => !(iLt x y)) x0 (.int .i64 (.ofNat 0)) fun x2 =>
  some (x2, s1))
set_option maxRecDepth 1000000 in
theorem e56 : b56 = hfun E0 (An0 56) ha56 (List.range 2) Tryz.f56 := by kernel_rfl
/-- litmus/value.Data$1 -/
def ha57 : HA := (.s .o (.s .o .o))
def b57 : HBody := fun call n args st =>
  un1 args fun p0 r0 =>
  un0 r0 (
  hCells p0 fun c0 =>
  hLocN 7 c0 0 fun x1 =>
  hCall call (.func (.func 22) [] []) [x1] st fun x2 s3 =>
  hNot x2 fun x4 =>
  some (x4, s3))
set_option maxRecDepth 1000000 in
theorem e57 : b57 = hfun E0 (An0 57) ha57 (List.range 1) Tryz.f57 := by kernel_rfl
/-- litmus/value.Cmp$1 -/
def ha58 : HA := (.s .o (.s (.s .o (.c none (.s .o .o) .o)) (.s .o .o)))
def b58 : HBody := fun call n args st =>
  un1 args fun p0 r0 =>
  un0 r0 (
  hIf p0 (
  some ((.int .i64 (.ofNat 1)), st)) (
  some ((.int .i64 (.ofNat 0)), st)))
set_option maxRecDepth 1000000 in
theorem e58 : b58 = hfun E0 (An0 58) ha58 (List.range 1) Tryz.f58 := by kernel_rfl
/-- litmus/value.Cmp$2 -/
def ha59 : HA := (.s .o (.s .o .o))
def b59 : HBody := fun call n args st =>
  un1 args fun p0 r0 =>
  un1 r0 fun p1 r1 =>
  un0 r1 (
  hAddr 0 p0 fun x0 =>
  hLd1 x0 st fun x1 =>
  hAddr 0 p1 fun x2 =>
  hLd1 x2 st fun x3 =>
  hCall call (.func (.func 60) [] []) [x1, x3] st fun x4 s5 =>
  some (x4, s5))
set_option maxRecDepth 1000000 in
theorem e59 : b59 = hfun E0 (An0 59) ha59 (List.range 2) Tryz.f59 := by kernel_rfl
/-- cmp.Compare[int] -/
def ha60 : HA := (.s .o (.s .o (.s .o (.s (.s .o (.c none (.s (.s .o (.c none (.s .o .o) .o)) (.s .o .o)) .o)) (.s (.s .o (.c none (.s .o .o) .o)) (.s (.s .o (.c none (.s .o .o) .o)) (.s (.s .o (.c none (.s .o .o) .o)) (.s .o .o))))))))
def b60 : HBody := fun call n args st =>
  un1 args fun p0 r0 =>
  un1 r0 fun p1 r1 =>
  un0 r1 (
  hCall call (.func (.func 96) [] []) [p0] st fun x0 s1 =>
  hCall call (.func (.func 96) [] []) [p1] s1 fun x2 s3 =>
  hIf x0 (
  hIf x2 (
  some ((.int .i64 (.ofNat 0)), s3)) (
  some ((.int .i64 (.negSucc 0)), s3))) (
  hIf x2 (
  some ((.int .i64 (.ofNat 1)), s3)) (
  hCmpI iLt p0 p1 fun x10 =>
  hIf x10 (
  some ((.int .i64 (.negSucc 0)), s3)) (
  hCmpI (fun x y => iLt y x) p0 p1 fun x13 =>
  hIf x13 (
  some ((.int .i64 (.ofNat 1)), s3)) (
  some ((.int .i64 (.ofNat 0)), s3))))))
set_option maxRecDepth 1000000 in
theorem e60 : b60 = hfun E0 (An0 60) ha60 (List.range 2) Tryz.f60 := by kernel_rfl
/-- litmus/value.Cmp$3 -/
def ha61 : HA := (.s .o (.s .o .o))
def b61 : HBody := fun call n args st =>
  un1 args fun p0 r0 =>
  un1 r0 fun p1 r1 =>
  un1 r1 fun p2 r2 =>
  un0 r2 (
  hLd1 p0 st fun x0 =>
  hAddr 1 p1 fun x1 =>
  hLd1 x1 st fun x2 =>
  hCall call x0 [x2] st fun x3 s4 =>
  hFrees [.val p0] (
  hLd1 p0 s4 fun x5 =>
  hAddr 1 p2 fun x6 =>
  hFrees [.val x6] (
  hLd1 x6 s4 fun x7 =>
  hCall call x5 [x7] s4 fun x8 s9 =>
  hCall call (.func (.func 60) [] []) [x3, x8] s9 fun x10 s11 =>
  some (x10, s11))))
set_option maxRecDepth 1000000 in
theorem e61 : b61 = hfun E0 (An0 61) ha61 (List.range 3) Tryz.f61 := by kernel_rfl
/-- litmus/value.Cmp$4 -/
def ha62 : HA := (.s .o (.s .o .o))
def b62 : HBody := fun call n args st =>
  un1 args fun p0 r0 =>
  un1 r0 fun p1 r1 =>
  un0 r1 (
  hLdN 7 p0 st fun x0 =>
  hCall call (.func (.func 34) [] []) [x0] st fun x1 s2 =>
  hFrees [.val p1] (
  hLdN 7 p1 s2 fun x3 =>
  hCall call (.func (.func 34) [] []) [x3] s2 fun x4 s5 =>
  hCall call (.func (.func 63) [] []) [x1, x4] s5 fun x6 s7 =>
  some (x6, s7)))
set_option maxRecDepth 1000000 in
theorem e62 : b62 = hfun E0 (An0 62) ha62 (List.range 2) Tryz.f62 := by kernel_rfl
/-- litmus/big.Cmp -/
def ha63 : HA := (.s .o (.s .o (.s .o (.c none (.s .o .o) (.s .o .o)))))
def b63 : HBody := fun call n args st =>
  un1 args fun p0 r0 =>
  un1 r0 fun p1 r1 =>
  un0 r1 (
  hCells p0 fun c0 =>
  hCells p1 fun c1 =>
  hLocN 2 c0 0 fun x2 =>
  hCall call (.func (.func 97) [] []) [x2] st fun x3 s4 =>
  hFrees [.loc 3 0 c1] (
  hLocN 2 c1 0 fun x5 =>
  hCall call (.func (.func 97) [] []) [x5] s4 fun x6 s7 =>
  hCmpI (fun x y => !(iEq x y)) x3 x6 fun x8 =>
  hlet (α := AV → Store → Rs) (fun x9 s10 =>
  hlet (α := AV → Store → Rs) (fun x12 s13 =>
  hPick x8 (.bool true) x12 fun x15 =>
  hIf x15 (
  hArith Int.sub x3 x6 fun x17 =>
  hVal (aBuiltin E0.L 0 .min #[3, 3] [.val x17, .val (.int .i64 (.ofNat 1))] s13) fun x18 s19 =>
  hVal (aBuiltin E0.L 0 .max #[3, 3] [.val (.int .i64 (.negSucc 0)), .val x18] s19) fun x20 s21 =>
  some (x20, s21)) (
  hLoc1 c0 1 fun x22 =>
  hLoc1 c1 1 fun x23 =>
  hCall call (.func (.func 98) [] []) [x22, x23] s13 fun x24 s25 =>
  hArith Int.mul x3 x24 fun x26 =>
  some (x26, s25))) fun j14 =>
  hWant x8 false (
  hCmpI iEq x9 (.int .i64 (.ofNat 0)) fun x27 =>
  j14 x27 s10) (j14 aundef s10)) fun j11 =>
  hWant x8 false (
  j11 x3 s7) (j11 aundef s7)))
set_option maxRecDepth 1000000 in
theorem e63 : b63 = hfun E0 (An0 63) ha63 (List.range 2) Tryz.f63 := by kernel_rfl
/-- litmus/value.Cmp$5 -/
def ha64 : HA := (.s .o (.s .o .o))
def b64 : HBody := fun call n args st =>
  un1 args fun p0 r0 =>
  un1 r0 fun p1 r1 =>
  un0 r1 (
  hAddr 3 p0 fun x0 =>
  hLd1 x0 st fun x1 =>
  hAddr 3 p1 fun x2 =>
  hLd1 x2 st fun x3 =>
  hCall call (.func (.func 65) [] []) [x1, x3] st fun x4 s5 =>
  some (x4, s5))
set_option maxRecDepth 1000000 in
theorem e64 : b64 = hfun E0 (An0 64) ha64 (List.range 2) Tryz.f64 := by kernel_rfl
/-- strings.Compare -/
def ha65 : HA := (.s .o (.s .o .o))
def b65 : HBody := fun call n args st =>
  un1 args fun p0 r0 =>
  un1 r0 fun p1 r1 =>
  un0 r1 (
  hCall call (.func (.func 99) [] []) [p0, p1] st fun x0 s1 =>
  some (x0, s1))
set_option maxRecDepth 1000000 in
theorem e65 : b65 = hfun E0 (An0 65) ha65 (List.range 2) Tryz.f65 := by kernel_rfl
/-- litmus/value.Cmp$6 -/
def ha66 : HA := (.s .o (.s .o .o))
def b66 : HBody := fun call n args st =>
  un1 args fun p0 r0 =>
  un1 r0 fun p1 r1 =>
  un0 r1 (
  hAddr 6 p0 fun x0 =>
  hLd1 x0 st fun x1 =>
  hAddr 6 p1 fun x2 =>
  hLd1 x2 st fun x3 =>
  hCall call (.func (.func 60) [] []) [x1, x3] st fun x4 s5 =>
  some (x4, s5))
set_option maxRecDepth 1000000 in
theorem e66 : b66 = hfun E0 (An0 66) ha66 (List.range 2) Tryz.f66 := by kernel_rfl
/-- strconv.FormatBool -/
def ha69 : HA := (.s .o (.s .o .o))
def b69 : HBody := fun call n args st =>
  un1 args fun p0 r0 =>
  un0 r0 (
  hCall call (.func (.func 100) [] []) [p0] st fun x0 s1 =>
  some (x0, s1))
set_option maxRecDepth 1000000 in
theorem e69 : b69 = hfun E0 (An0 69) ha69 (List.range 1) Tryz.f69 := by kernel_rfl
/-- litmus/lex.Quote -/
def ha70 : HA := (.s .o (.s .o (.s .o (.s (.s .o (.b none (.l ⟨[9, 3, 0, 8], [], []⟩ (.s .o (.s (.c none .o .o) (.s (.b none (.s .o (.s .o (.b none (.s .o (.c (some ⟨[9, 3, 0, 8], [], []⟩) .o (.s .o (.c (some ⟨[9, 3, 0, 8], [], []⟩) .o (.s .o (.c (some ⟨[9, 3, 0, 8], [], []⟩) .o .o)))))))))) .o)))))) (.s .o (.s .o .o))))))
def b70 : HBody := fun call n args st =>
  un1 args fun p0 r0 =>
  un0 r0 (
  hVal (aAlloc E0.L 3 102 st) fun x0 s1 =>
  hCall call (.func (.func 101) [] []) [x0, (.int .u8 (.ofNat 34))] s1 fun x2 s3 =>
  hLenS p0 fun x4 =>
  hloop (fun h6 v7 s8 =>
  un1 v7 fun x9 v13 =>
  un1 v13 fun x10 v14 =>
  un1 v14 fun x11 v15 =>
  un1 v15 fun x12 v16 =>
  hCmpI iLt x9 x12 fun x17 =>
  hIf x17 (
  hStrAt x11 x9 fun x22 =>
  hCmpI iEq x22 (.int .u8 (.ofNat 10)) fun x24 =>
  hlet (α := List AV → Store → Rs) (fun v99 s100 =>
  un1 v99 fun x101 v105 =>
  un1 v105 fun x102 v106 =>
  un1 v106 fun x103 v107 =>
  un1 v107 fun x104 v108 =>
  hArith Int.add x101 (.int .i64 (.ofNat 1)) fun x111 =>
  h6 [x111, x102, x103, x104] s100) fun j98 =>
  hIf x24 (
  hCall call (.func (.func 71) [] []) [x10, (.str [92, 110])] s8 fun x26 s27 =>
  j98 [x9, x10, x11, x12] s27) (
  hCmpI iEq x22 (.int .u8 (.ofNat 34)) fun x29 =>
  hlet (α := AV → Store → Rs) (fun x30 s31 =>
  hlet (α := AV → Store → Rs) (fun x33 s34 =>
  hPick x29 (.bool true) x33 fun x36 =>
  hlet (α := List AV → Store → Rs) (fun v86 s87 =>
  un1 v86 fun x88 v92 =>
  un1 v92 fun x89 v93 =>
  un1 v93 fun x90 v94 =>
  un1 v94 fun x91 v95 =>
  j98 [x88, x89, x90, x91] s87) fun j85 =>
  hIf x36 (
  hArith Int.add x9 (.int .i64 (.ofNat 1)) fun x38 =>
  hSlS x11 (some x9) (some x38) fun x39 =>
  hVal (aBinC E0.L 9 .add true (.str [92]) x39 s34) fun x40 s41 =>
  hCall call (.func (.func 71) [] []) [x10, x40] s41 fun x42 s43 =>
  j85 [x9, x10, x11, x12] s43) (
  hCmpI (fun x y => !(iLt x y)) x22 (.int .u8 (.ofNat 32)) fun x45 =>
  hlet (α := AV → Store → Rs) (fun x46 s47 =>
  hlet (α := AV → Store → Rs) (fun x49 s50 =>
  hPick x45 x49 (.bool false) fun x52 =>
  hlet (α := List AV → Store → Rs) (fun v73 s74 =>
  un1 v73 fun x75 v79 =>
  un1 v79 fun x76 v80 =>
  un1 v80 fun x77 v81 =>
  un1 v81 fun x78 v82 =>
  j85 [x75, x76, x77, x78] s74) fun j72 =>
  hIf x52 (
  hCall call (.func (.func 101) [] []) [x10, x22] s50 fun x54 s55 =>
  j72 [x9, x10, x11, x12] s55) (
  hVal (aBinC E0.L 5 .shr true x22 (.int .u64 (.ofNat 4)) s50) fun x57 s58 =>
  hStrAt (.str [48, 49, 50, 51, 52, 53, 54, 55, 56, 57, 97, 98, 99, 100, 101, 102]) x57 fun x59 =>
  hVal (aBinC E0.L 5 .and true x22 (.int .u8 (.ofNat 15)) s58) fun x60 s61 =>
  hStrAt (.str [48, 49, 50, 51, 52, 53, 54, 55, 56, 57, 97, 98, 99, 100, 101, 102]) x60 fun x62 =>
  hVal (aBuildSlice E0.L 0 22 2 [0, 1] [x59, x62] s61) fun x63 s64 =>
  hVal (aConv E0.L 22 9 [.val x63] s64) fun x65 s66 =>
  hVal (aBinC E0.L 9 .add true (.str [92, 120]) x65 s66) fun x67 s68 =>
  hCall call (.func (.func 71) [] []) [x10, x67] s68 fun x69 s70 =>
  j72 [x9, x10, x11, x12] s70)) fun j51 =>
  hWant x45 true (
  hCmpI (fun x y => !(iLt y x)) x46 (.int .u8 (.ofNat 126)) fun x84 =>
  j51 x84 s47) (j51 aundef s47)) fun j48 =>
  hWant x45 true (
  j48 x22 s34) (j48 aundef s34))) fun j35 =>
  hWant x29 false (
  hCmpI iEq x30 (.int .u8 (.ofNat 92)) fun x97 =>
  j35 x97 s31) (j35 aundef s31)) fun j32 =>
  hWant x29 false (
  j32 x22 s8) (j32 aundef s8))) (
  hCall call (.func (.func 101) [] []) [x10, (.int .u8 (.ofNat 34))] s8 fun x112 s113 =>
  hCall call (.func (.func 73) [] []) [x10] s113 fun x114 s115 =>
  some (x114, s115))) n [(.int .i64 (.ofNat 0)), x0, p0, x4] s3)
set_option maxRecDepth 1000000 in
theorem e70 : b70 = hfun E0 (An0 70) ha70 (List.range 1) Tryz.f70 := by kernel_rfl
/-- (*strings.Builder).WriteString -/
def ha71 : HA := (.s .o (.s .o (.s .o (.s .o .o))))
def b71 : HBody := fun call n args st =>
  un1 args fun p0 r0 =>
  un1 r0 fun p1 r1 =>
  un0 r1 (
  hCall call (.func (.func 102) [] []) [p0] st fun x0 s1 =>
  hNN p0 (
  hAddr 1 p0 fun x2 =>
  hLd1 x2 s1 fun x3 =>
  hValF (aAppend E0.L 0 22 9 [.val x3, .val p1] s1) fun x4 s5 =>
  hNN p0 (
  hAddr 1 p0 fun x6 =>
  hSt1 x6 x4 s5 fun s7 =>
  hLenS p1 fun x8 =>
  some (.tuple [x8, .nilIface], s7))))
set_option maxRecDepth 1000000 in
theorem e71 : b71 = hfun E0 (An0 71) ha71 (List.range 2) Tryz.f71 := by kernel_rfl
/-- strconv.Itoa -/
def ha72 : HA := (.s .o (.s .o .o))
def b72 : HBody := fun call n args st =>
  un1 args fun p0 r0 =>
  un0 r0 (
  hCall call (.func (.func 103) [] []) [p0] st fun x0 s1 =>
  some (x0, s1))
set_option maxRecDepth 1000000 in
theorem e72 : b72 = hfun E0 (An0 72) ha72 (List.range 1) Tryz.f72 := by kernel_rfl
/-- (*strings.Builder).String -/
def ha73 : HA := (.s .o (.s .o .o))
def b73 : HBody := fun call n args st =>
  un1 args fun p0 r0 =>
  un0 r0 (
  hNN p0 (
  hAddr 1 p0 fun x0 =>
  hLd1 x0 st fun x1 =>
  hVal (aBuiltin E0.L 0 .unsafeSliceData #[22] [.val x1] st) fun x2 s3 =>
  hNN p0 (
  hAddr 1 p0 fun x4 =>
  hLd1 x4 s3 fun x5 =>
  hLenR x5 fun x6 =>
  hVal (aBuiltin E0.L 0 .unsafeString #[140, 3] [.val x2, .val x6] s3) fun x7 s8 =>
  some (x7, s8))))
set_option maxRecDepth 1000000 in
theorem e73 : b73 = hfun E0 (An0 73) ha73 (List.range 1) Tryz.f73 := by kernel_rfl
/-- (litmus/value.thing).bare -/
def ha74 : HA := (.s .o (.s .o (.s .o (.s (.s .o (.c none (.s .o .o) .o)) (.s .o (.s (.s .o (.b none (.s .o (.c (some ⟨[], [7, 2], [7, 2]⟩) .o (.s .o (.c (some ⟨[], [7, 2], [7, 2]⟩) .o (.s .o (.c (some ⟨[], [7, 2], [7, 2]⟩) .o (.s .o (.c (some ⟨[], [7, 2], [7, 2]⟩) .o (.s .o (.c (some ⟨[], [7, 2], [7, 2]⟩) .o .o)))))))))))) (.s .o .o)))))))
def b74 : HBody := fun call n args st =>
  un1 args fun p0 r0 =>
  un0 r0 (
  hCells p0 fun c0 =>
  hNewO st (.map [] 0) fun o1 s2 =>
  hVal (aMapSet E0.L 142 [.val (.map o1), .val (.int .i64 (.ofNat 0)), .val (.func (.func 104) [] [])] s2) fun x3 s4 =>
  hVal (aMapSet E0.L 142 [.val (.map o1), .val (.int .i64 (.ofNat 1)), .val (.func (.func 104) [] [])] s4) fun x5 s6 =>
  hVal (aMapSet E0.L 142 [.val (.map o1), .val (.int .i64 (.ofNat 2)), .val (.func (.func 105) [] [])] s6) fun x7 s8 =>
  hVal (aMapSet E0.L 142 [.val (.map o1), .val (.int .i64 (.ofNat 3)), .val (.func (.func 104) [] [])] s8) fun x9 s10 =>
  hVal (aMapSet E0.L 142 [.val (.map o1), .val (.int .i64 (.ofNat 4)), .val (.func (.func 106) [] [])] s10) fun x11 s12 =>
  hVal (aMapSet E0.L 142 [.val (.map o1), .val (.int .i64 (.ofNat 5)), .val (.func (.func 107) [] [])] s12) fun x13 s14 =>
  hLoc1 c0 0 fun x15 =>
  hVal (aLookup E0.L 142 true [.val (.map o1), .val x15] s14) fun x16 s17 =>
  hExt 0 x16 fun x18 =>
  hExt 1 x16 fun x19 =>
  hNot x19 fun x20 =>
  hlet (α := AV → Store → Rs) (fun x21 s22 =>
  hlet (α := AV → Store → Rs) (fun x24 s25 =>
  hlet (α := AV → Store → Rs) (fun x27 s28 =>
  hlet (α := AV → Store → Rs) (fun x30 s31 =>
  hPick x20 (.bool true) x30 fun x33 =>
  hIf x33 (
  hFill [] [(.int .i64 (.ofNat 0)), (.bool false), (.str []), (.str []), .nils, .nils, (.int .i64 (.ofNat 0))] fun c35 =>
  hStLN 7 [(.int .i64 (.ofNat 0)), (.bool false), (.str []), (.str []), .nils, .nils, (.int .i64 (.ofNat 0))] 0 (.agg c35) fun c36 =>
  hLocN 7 c36 0 fun x37 =>
  some (.tuple [x37, (.bool false)], s31)) (
  hLocN 7 c0 0 fun x39 =>
  hStLN 7 [(.int .i64 (.ofNat 0)), (.bool false), (.str []), (.str []), .nils, .nils, (.int .i64 (.ofNat 0))] 0 x39 fun c40 =>
  hLoc1 c0 0 fun x41 =>
  hCmpI iEq x41 (.int .i64 (.ofNat 1)) fun x43 =>
  hlet (α := List AV → Store → Rs) (fun v107 s108 =>
  un1 v107 fun a111 v112 =>
  unAgg a111 fun c109 =>
  un1 v112 fun a113 v114 =>
  unAgg a113 fun c110 =>
  hLocN 7 c109 0 fun x116 =>
  hStLN 7 c110 0 x116 fun c117 =>
  hLocN 7 c117 0 fun x118 =>
  some (.tuple [x118, (.bool true)], s108)) fun j106 =>
  hIf x43 (
  hStL1 c40 1 (.bool false) fun c45 =>
  j106 [.agg c45, .agg [(.int .i64 (.ofNat 0)), (.bool false), (.str []), (.str []), .nils, .nils, (.int .i64 (.ofNat 0))]] s31) (
  hCmpI iEq x41 (.int .i64 (.ofNat 2)) fun x47 =>
  hlet (α := List AV → Store → Rs) (fun v97 s98 =>
  un1 v97 fun a101 v102 =>
  unAgg a101 fun c99 =>
  un1 v102 fun a103 v104 =>
  unAgg a103 fun c100 =>
  j106 [.agg c99, .agg c100] s98) fun j96 =>
  hIf x47 (
  hStL1 c40 2 (.str []) fun c49 =>
  j96 [.agg c49, .agg [(.int .i64 (.ofNat 0)), (.bool false), (.str []), (.str []), .nils, .nils, (.int .i64 (.ofNat 0))]] s31) (
  hCmpI iEq x41 (.int .i64 (.ofNat 3)) fun x51 =>
  hlet (α := List AV → Store → Rs) (fun v87 s88 =>
  un1 v87 fun a91 v92 =>
  unAgg a91 fun c89 =>
  un1 v92 fun a93 v94 =>
  unAgg a93 fun c90 =>
  j96 [.agg c89, .agg c90] s88) fun j86 =>
  hIf x51 (
  hStL1 c40 3 (.str []) fun c53 =>
  j86 [.agg c53, .agg [(.int .i64 (.ofNat 0)), (.bool false), (.str []), (.str []), .nils, .nils, (.int .i64 (.ofNat 0))]] s31) (
  hCmpI iEq x41 (.int .i64 (.ofNat 4)) fun x55 =>
  hlet (α := List AV → Store → Rs) (fun v77 s78 =>
  un1 v77 fun a81 v82 =>
  unAgg a81 fun c79 =>
  un1 v82 fun a83 v84 =>
  unAgg a83 fun c80 =>
  j86 [.agg c79, .agg c80] s78) fun j76 =>
  hIf x55 (
  hStL1 c40 4 .nils fun c57 =>
  hStL1 c57 5 .nils fun c58 =>
  j76 [.agg c58, .agg [(.int .i64 (.ofNat 0)), (.bool false), (.str []), (.str []), .nils, .nils, (.int .i64 (.ofNat 0))]] s31) (
  hCmpI iEq x41 (.int .i64 (.ofNat 5)) fun x60 =>
  hlet (α := List AV → Store → Rs) (fun v67 s68 =>
  un1 v67 fun a71 v72 =>
  unAgg a71 fun c69 =>
  un1 v72 fun a73 v74 =>
  unAgg a73 fun c70 =>
  j76 [.agg c69, .agg c70] s68) fun j66 =>
  hIf x60 (
  hStL1 c40 6 (.int .i64 (.ofNat 0)) fun c62 =>
  hStL1 c62 5 .nils fun c63 =>
  j66 [.agg c63, .agg [(.int .i64 (.ofNat 0)), (.bool false), (.str []), (.str []), .nils, .nils, (.int .i64 (.ofNat 0))]] s31) (
  j66 [.agg c40, .agg [(.int .i64 (.ofNat 0)), (.bool false), (.str []), (.str []), .nils, .nils, (.int .i64 (.ofNat 0))]] s31))))))) fun j32 =>
  hWant x20 false (
  hNot x27 fun x119 =>
  j32 x119 s28) (j32 aundef s28)) fun j29 =>
  hWant x20 false (
  hCall call x21 [x24] s25 fun x120 s121 =>
  j29 x120 s121) (j29 aundef s25)) fun j26 =>
  hWant x20 false (
  hLocN 7 c0 0 fun x122 =>
  j26 x122 s22) (j26 aundef s22)) fun j23 =>
  hWant x20 false (
  j23 x18 s17) (j23 aundef s17))
set_option maxRecDepth 1000000 in
theorem e74 : b74 = hfun E0 (An0 74) ha74 (List.range 1) Tryz.f74 := by kernel_rfl
/-- litmus/value.Right$1 -/
def ha75 : HA := (.s .o (.s .o .o))
def b75 : HBody := fun call n args st =>
  un1 args fun p0 r0 =>
  un0 r0 (
  hCells p0 fun c0 =>
  hLocN 7 c0 0 fun x1 =>
  hCall call (.func (.func 27) [] []) [x1] st fun x2 s3 =>
  hNot x2 fun x4 =>
  some (x4, s3))
set_option maxRecDepth 1000000 in
theorem e75 : b75 = hfun E0 (An0 75) ha75 (List.range 1) Tryz.f75 := by kernel_rfl
/-- litmus/big.Text -/
def ha77 : HA := (.s .o (.s .o (.s (.s .o (.c (some ⟨[3], [], []⟩) .o .o)) (.s .o .o))))
def b77 : HBody := fun call n args st =>
  un1 args fun p0 r0 =>
  un0 r0 (
  hCells p0 fun c0 =>
  hLoc1 c0 1 fun x1 =>
  hCall call (.func (.func 109) [] []) [x1] st fun x2 s3 =>
  hLocN 2 c0 0 fun x4 =>
  hCall call (.func (.func 110) [] []) [x4] s3 fun x5 s6 =>
  hFld1 x5 0 fun x7 =>
  hlet (α := List AV → Store → Rs) (fun v14 s15 =>
  un1 v14 fun x16 v17 =>
  some (x16, s15)) fun j13 =>
  hIf x7 (
  hVal (aBinC E0.L 9 .add true (.str [45]) x2 s6) fun x9 s10 =>
  j13 [x9] s10) (
  j13 [x2] s6))
set_option maxRecDepth 1000000 in
theorem e77 : b77 = hfun E0 (An0 77) ha77 (List.range 1) Tryz.f77 := by kernel_rfl
/-- litmus/big.Parse -/
def ha78 : HA := (.s .o (.s .o (.s .o (.s (.s .o (.c none (.s .o .o) .o)) (.s .o .o)))))
def b78 : HBody := fun call n args st =>
  un1 args fun p0 r0 =>
  un0 r0 (
  hCall call (.func (.func 111) [] []) [p0, (.str [45])] st fun x0 s1 =>
  hExt 0 x0 fun x2 =>
  hExt 1 x0 fun x3 =>
  hCall call (.func (.func 112) [] []) [x2] s1 fun x4 s5 =>
  hExt 0 x4 fun x6 =>
  hExt 1 x4 fun x7 =>
  hNot x7 fun x8 =>
  hlet (α := AV → Store → Rs) (fun x9 s10 =>
  hlet (α := AV → Store → Rs) (fun x12 s13 =>
  hlet (α := AV → Store → Rs) (fun x15 s16 =>
  hlet (α := AV → Store → Rs) (fun x18 s19 =>
  hlet (α := AV → Store → Rs) (fun x21 s22 =>
  hlet (α := AV → Store → Rs) (fun x24 s25 =>
  hPick x8 (.bool true) x24 fun x27 =>
  hIf x27 (
  hFill [] [(.bool false), .nils] fun c29 =>
  hStLN 2 [(.bool false), .nils] 0 (.agg c29) fun c30 =>
  hLocN 2 c30 0 fun x31 =>
  some (.tuple [x31, (.bool false)], s25)) (
  hCall call (.func (.func 113) [] []) [x3, x6] s25 fun x33 s34 =>
  hStLN 2 [(.bool false), .nils] 0 x33 fun c35 =>
  hLocN 2 c35 0 fun x36 =>
  some (.tuple [x36, (.bool true)], s34))) fun j26 =>
  hWant x8 false (
  hPick x12 x21 (.bool false) fun x37 =>
  j26 x37 s22) (j26 aundef s22)) fun j23 =>
  hWant x12 true (
  hCmpI iEq x18 (.int .i64 (.ofNat 0)) fun x38 =>
  j23 x38 s19) (j23 aundef s19)) fun j20 =>
  hWant x12 true (
  hLenR x15 fun x39 =>
  j20 x39 s16) (j20 aundef s16)) fun j17 =>
  hWant x12 true (
  j17 x6 s13) (j17 aundef s13)) fun j14 =>
  hWant x8 false (
  j14 x9 s10) (j14 aundef s10)) fun j11 =>
  hWant x8 false (
  j11 x3 s5) (j11 aundef s5))
set_option maxRecDepth 1000000 in
theorem e78 : b78 = hfun E0 (An0 78) ha78 (List.range 1) Tryz.f78 := by kernel_rfl
/-- (*litmus/litmusref11.Draft).Next -/
def ha83 : HA := (.s .o (.s (.s .o (.c none (.s .o .o) .o)) (.s .o (.s .o .o))))
def b83 : HBody := fun call n args st =>
  un1 args fun p0 r0 =>
  un1 r0 fun p1 r1 =>
  un0 r1 (
  hNN p0 (
  hAddr 0 p0 fun x0 =>
  hLd1 x0 st fun x1 =>
  hLenR x1 fun x2 =>
  hCmpI iEq x2 (.int .i64 (.ofNat 0)) fun x3 =>
  hIf x3 (
  some ((.int .i64 (.ofNat 0)), st)) (
  hNN p0 (
  hAddr 1 p0 fun x6 =>
  hLd1 x6 st fun x7 =>
  hArith Int.add x7 (.int .i64 (.ofNat 1)) fun x8 =>
  hNN p0 (
  hAddr 1 p0 fun x9 =>
  hSt1 x9 x8 st fun s10 =>
  hNN p0 (
  hAddr 0 p0 fun x11 =>
  hLd1 x11 s10 fun x12 =>
  hNN p0 (
  hAddr 1 p0 fun x13 =>
  hLd1 x13 s10 fun x14 =>
  hArith Int.sub x14 (.int .i64 (.ofNat 1)) fun x15 =>
  hNN p0 (
  hAddr 0 p0 fun x16 =>
  hLd1 x16 s10 fun x17 =>
  hLenR x17 fun x18 =>
  hVal (aBinC E0.L 3 .rem false x15 x18 s10) fun x19 s20 =>
  hElem 1 x12 x19 fun x21 =>
  hLd1 x21 s20 fun x22 =>
  hNN p0 (
  hAddr 1 p0 fun x23 =>
  hLd1 x23 s20 fun x24 =>
  hArith Int.sub x24 (.int .i64 (.ofNat 1)) fun x25 =>
  hNN p0 (
  hAddr 0 p0 fun x26 =>
  hLd1 x26 s20 fun x27 =>
  hLenR x27 fun x28 =>
  hVal (aBinC E0.L 3 .quo false x25 x28 s20) fun x29 s30 =>
  hConvI .u8 x29 fun x31 =>
  hArith Int.add x22 x31 fun x32 =>
  hConvI .i64 x32 fun x33 =>
  hVal (aBinC E0.L 3 .rem false x33 p1 s30) fun x34 s35 =>
  some (x34, s35)))))))))))
set_option maxRecDepth 1000000 in
theorem e83 : b83 = hfun E0 (An0 83) ha83 (List.range 2) Tryz.f83 := by kernel_rfl
/-- litmus/lex.tokens -/
def ha84 : HA := (.s .o (.s .o .o))
def b84 : HBody := fun call n args st =>
  un1 args fun p0 r0 =>
  un0 r0 (
  hCells p0 fun c0 =>
  some ((.func (.func 116) [] [(.rptr c0)]), st))
set_option maxRecDepth 1000000 in
theorem e84 : b84 = hfun E0 (An0 84) ha84 (List.range 1) Tryz.f84 := by kernel_rfl
/-- (*litmus/value.tokens).take -/
def ha85 : HA := (.s .o (.s .o (.s .o (.s .o .o))))
def b85 : HBody := fun call n args st =>
  un1 args fun p0 r0 =>
  un0 r0 (
  hNN p0 (
  hAddr 0 p0 fun x0 =>
  hLd1 x0 st fun x1 =>
  hElem 3 x1 (.int .i64 (.ofNat 0)) fun x2 =>
  hLdN 3 x2 st fun x3 =>
  hStLN 3 [(.int .i64 (.ofNat 0)), (.str []), (.int .i64 (.ofNat 0))] 0 x3 fun c4 =>
  hNN p0 (
  hAddr 0 p0 fun x5 =>
  hLd1 x5 st fun x6 =>
  hV (sliceV E0.L 67 st x6 (some (.int .i64 (.ofNat 1))) none none) fun x7 =>
  hNN p0 (
  hAddr 0 p0 fun x8 =>
  hSt1 x8 x7 st fun s9 =>
  hLocN 3 c4 0 fun x10 =>
  hStLN 3 [(.int .i64 (.ofNat 0)), (.str []), (.int .i64 (.ofNat 0))] 0 x10 fun c11 =>
  hLocN 3 c11 0 fun x12 =>
  some (x12, s9)))))
set_option maxRecDepth 1000000 in
theorem e85 : b85 = hfun E0 (An0 85) ha85 (List.range 1) Tryz.f85 := by kernel_rfl
/-- (*litmus/value.reader).dict -/
def ha86 : HA := (.s .o (.s .o (.s (.s .o (.s .o (.c none (.s .o .o) .o))) (.s (.b none (.l ⟨[0, 1], [5, 4], [5, 4]⟩ (.s (.s .o (.c none .o .o)) (.b none (.s .o (.s .o (.s .o .o))))))) (.s (.s .o (.s .o (.c (some ⟨[], [5, 4], [5, 4]⟩) .o .o))) (.s .o .o))))))
def b86 : HBody := fun call n args st =>
  un1 args fun p0 r0 =>
  un1 r0 fun p1 r1 =>
  un0 r1 (
  hFill [(0, 1, (.int .i64 (.ofNat 4)))] [(.int .i64 (.ofNat 0)), (.bool false), (.str []), (.str []), .nils, .nils, (.int .i64 (.ofNat 0))] fun c0 =>
  hStLN 7 [(.int .i64 (.ofNat 0)), (.bool false), (.str []), (.str []), .nils, .nils, (.int .i64 (.ofNat 0))] 0 (.agg c0) fun c1 =>
  hNN p0 (
  hAddr 0 p0 fun x2 =>
  hLd1 x2 st fun x3 =>
  hCall call (.func (.func 120) [] []) [x3, (.int .i64 (.ofNat 4))] st fun x4 s5 =>
  hNot x4 fun x6 =>
  hlet (α := AV → Store → Rs) (fun x7 s8 =>
  hlet (α := AV → Store → Rs) (fun x10 s11 =>
  hlet (α := AV → Store → Rs) (fun x13 s14 =>
  hlet (α := AV → Store → Rs) (fun x16 s17 =>
  hlet (α := AV → Store → Rs) (fun x19 s20 =>
  hlet (α := AV → Store → Rs) (fun x22 s23 =>
  hlet (α := AV → Store → Rs) (fun x25 s26 =>
  hPick x6 (.bool true) x25 fun x28 =>
  hNN p0 (
  hAddr 1 p0 fun x29 =>
  hSt1 x29 x28 s26 fun s30 =>
  hNN p0 (
  hAddr 1 p0 fun x31 =>
  hLd1 x31 s30 fun x32 =>
  hIf x32 (
  hLocN 7 c1 0 fun x34 =>
  hStLN 7 [(.int .i64 (.ofNat 0)), (.bool false), (.str []), (.str []), .nils, .nils, (.int .i64 (.ofNat 0))] 0 x34 fun c35 =>
  hLocN 7 c35 0 fun x36 =>
  some (x36, s30)) (
  hloop (fun h39 v40 s41 =>
  un1 v40 fun a46 v47 =>
  unAgg a46 fun c42 =>
  un1 v47 fun a48 v49 =>
  unAgg a48 fun c43 =>
  un1 v49 fun x44 v50 =>
  un1 v50 fun x45 v51 =>
  hNN x44 (
  hAddr 1 x44 fun x52 =>
  hLd1 x52 s41 fun x53 =>
  hNot x53 fun x54 =>
  hlet (α := AV → Store → Rs) (fun x55 s56 =>
  hlet (α := AV → Store → Rs) (fun x58 s59 =>
  hlet (α := AV → Store → Rs) (fun x61 s62 =>
  hlet (α := AV → Store → Rs) (fun x64 s65 =>
  hlet (α := AV → Store → Rs) (fun x67 s68 =>
  hPick x54 x67 (.bool false) fun x70 =>
  hIf x70 (
  hNN x44 (
  hAddr 0 x44 fun x75 =>
  hLd1 x75 s68 fun x76 =>
  hCall call (.func (.func 85) [] []) [x76] s68 fun x77 s78 =>
  hFld1 x77 1 fun x79 =>
  hLocN 7 c42 0 fun x80 =>
  hCall call (.func (.func 23) [] []) [x80, x79] s78 fun x81 s82 =>
  hExt 0 x81 fun x83 =>
  hExt 1 x81 fun x84 =>
  hStLN 7 [(.int .i64 (.ofNat 0)), (.bool false), (.str []), (.str []), .nils, .nils, (.int .i64 (.ofNat 0))] 0 x83 fun c85 =>
  hFrees [.loc 5 0 c42] (
  hLocN 7 c42 0 fun x86 =>
  hArith Int.add x45 (.int .i64 (.ofNat 1)) fun x87 =>
  hCall call (.func (.func 48) [] []) [x44, x87] s82 fun x88 s89 =>
  hCall call (.func (.func 19) [] []) [x86, x79, x88] s89 fun x90 s91 =>
  hStLN 7 c42 0 x90 fun c92 =>
  hNN x44 (
  hAddr 1 x44 fun x93 =>
  hLd1 x93 s91 fun x94 =>
  hlet (α := AV → Store → Rs) (fun x95 s96 =>
  hPick x94 (.bool true) x95 fun x98 =>
  hNN x44 (
  hAddr 1 x44 fun x99 =>
  hSt1 x99 x98 s96 fun s100 =>
  h39 [.agg c92, .agg c43, x44, x45] s100)) fun j97 =>
  hWant x94 false (
  j97 x84 s91) (j97 aundef s91))))) (
  hNN x44 (
  hAddr 1 x44 fun x106 =>
  hLd1 x106 s68 fun x107 =>
  hlet (α := AV → Store → Rs) (fun x108 s109 =>
  hlet (α := AV → Store → Rs) (fun x111 s112 =>
  hlet (α := AV → Store → Rs) (fun x114 s115 =>
  hlet (α := AV → Store → Rs) (fun x117 s118 =>
  hlet (α := AV → Store → Rs) (fun x120 s121 =>
  hlet (α := AV → Store → Rs) (fun x123 s124 =>
  hPick x107 (.bool true) x123 fun x126 =>
  hNN x44 (
  hAddr 1 x44 fun x127 =>
  hSt1 x127 x126 s124 fun s128 =>
  hNN x44 (
  hAddr 1 x44 fun x129 =>
  hLd1 x129 s128 fun x130 =>
  hNot x130 fun x131 =>
  hlet (α := List AV → Store → Rs) (fun v140 s141 =>
  un1 v140 fun a144 v145 =>
  unAgg a144 fun c142 =>
  un1 v145 fun a146 v147 =>
  unAgg a146 fun c143 =>
  hLocN 7 c142 0 fun x148 =>
  hStLN 7 c143 0 x148 fun c149 =>
  hLocN 7 c149 0 fun x150 =>
  some (x150, s141)) fun j139 =>
  hIf x131 (
  hNN x44 (
  hAddr 0 x44 fun x133 =>
  hLd1 x133 s128 fun x134 =>
  hCall call (.func (.func 85) [] []) [x134] s128 fun x135 s136 =>
  j139 [.agg c42, .agg c43] s136)) (
  j139 [.agg c42, .agg c43] s128)))) fun j125 =>
  hWant x107 false (
  hNot x120 fun x151 =>
  j125 x151 s121) (j125 aundef s121)) fun j122 =>
  hWant x107 false (
  hCall call (.func (.func 120) [] []) [x117, (.int .i64 (.ofNat 1))] s118 fun x152 s153 =>
  j122 x152 s153) (j122 aundef s118)) fun j119 =>
  hWant x107 false (
  hLd1 x114 s115 fun x154 =>
  j119 x154 s115) (j119 aundef s115)) fun j116 =>
  hWant x107 false (
  hAddr 0 x111 fun x155 =>
  j116 x155 s112) (j116 aundef s112)) fun j113 =>
  hWant x107 false (
  hNN x108 (
  j113 x108 s109)) (j113 aundef s109)) fun j110 =>
  hWant x107 false (
  j110 x44 s68) (j110 aundef s68)))) fun j69 =>
  hWant x54 true (
  hCall call (.func (.func 120) [] []) [x64, (.int .i64 (.ofNat 3))] s65 fun x102 s103 =>
  j69 x102 s103) (j69 aundef s65)) fun j66 =>
  hWant x54 true (
  hLd1 x61 s62 fun x104 =>
  j66 x104 s62) (j66 aundef s62)) fun j63 =>
  hWant x54 true (
  hAddr 0 x58 fun x105 =>
  j63 x105 s59) (j63 aundef s59)) fun j60 =>
  hWant x54 true (
  hNN x55 (
  j60 x55 s56)) (j60 aundef s56)) fun j57 =>
  hWant x54 true (
  j57 x44 s41) (j57 aundef s41))) n [.agg c1, .agg [(.int .i64 (.ofNat 0)), (.bool false), (.str []), (.str []), .nils, .nils, (.int .i64 (.ofNat 0))], p0, p1] s30)))) fun j27 =>
  hWant x6 false (
  hStr (fun x y => !(bEq x y)) x22 (.str [100, 105, 99, 116]) fun x156 =>
  j27 x156 s23) (j27 aundef s23)) fun j24 =>
  hWant x6 false (
  hFld1 x19 1 fun x157 =>
  j24 x157 s20) (j24 aundef s20)) fun j21 =>
  hWant x6 false (
  hCall call (.func (.func 85) [] []) [x16] s17 fun x158 s159 =>
  j21 x158 s159) (j21 aundef s17)) fun j18 =>
  hWant x6 false (
  hLd1 x13 s14 fun x160 =>
  j18 x160 s14) (j18 aundef s14)) fun j15 =>
  hWant x6 false (
  hAddr 0 x10 fun x161 =>
  j15 x161 s11) (j15 aundef s11)) fun j12 =>
  hWant x6 false (
  hNN x7 (
  j12 x7 s8)) (j12 aundef s8)) fun j9 =>
  hWant x6 false (
  j9 p0 s5) (j9 aundef s5)))
set_option maxRecDepth 1000000 in
theorem e86 : b86 = hfun E0 (An0 86) ha86 (List.range 2) Tryz.f86 := by kernel_rfl
/-- cmp.Less[string] -/
def ha89 : HA := (.s .o (.s .o .o))
def b89 : HBody := fun call n args st =>
  un1 args fun p0 r0 =>
  un1 r0 fun p1 r1 =>
  un0 r1 (
  hCall call (.func (.func 129) [] []) [p0] st fun x0 s1 =>
  hlet (α := AV → Store → Rs) (fun x2 s3 =>
  hlet (α := AV → Store → Rs) (fun x5 s6 =>
  hlet (α := AV → Store → Rs) (fun x8 s9 =>
  hPick x0 x8 (.bool false) fun x11 =>
  hlet (α := AV → Store → Rs) (fun x12 s13 =>
  hlet (α := AV → Store → Rs) (fun x15 s16 =>
  hlet (α := AV → Store → Rs) (fun x18 s19 =>
  hPick x11 (.bool true) x18 fun x21 =>
  some (x21, s19)) fun j20 =>
  hWant x11 false (
  hVal (aBinC E0.L 9 .lss false x12 x15 s16) fun x22 s23 =>
  j20 x22 s23) (j20 aundef s16)) fun j17 =>
  hWant x11 false (
  j17 p1 s13) (j17 aundef s13)) fun j14 =>
  hWant x11 false (
  j14 p0 s9) (j14 aundef s9)) fun j10 =>
  hWant x0 true (
  hNot x5 fun x24 =>
  j10 x24 s6) (j10 aundef s6)) fun j7 =>
  hWant x0 true (
  hCall call (.func (.func 129) [] []) [x2] s3 fun x25 s26 =>
  j7 x25 s26) (j7 aundef s3)) fun j4 =>
  hWant x0 true (
  j4 p1 s1) (j4 aundef s1))
set_option maxRecDepth 1000000 in
theorem e89 : b89 = hfun E0 (An0 89) ha89 (List.range 2) Tryz.f89 := by kernel_rfl
/-- slices.isNaN[string] -/
def ha90 : HA := (.s .o (.s .o .o))
def b90 : HBody := fun call n args st =>
  un1 args fun p0 r0 =>
  un0 r0 (
  hStr (fun x y => !(bEq x y)) p0 p0 fun x0 =>
  some (x0, st))
set_option maxRecDepth 1000000 in
theorem e90 : b90 = hfun E0 (An0 90) ha90 (List.range 1) Tryz.f90 := by kernel_rfl
/-- slices.rotateRight[string] -/
def ha92 : HA := .o
def b92 : HBody := fun call n args st =>
  un1 args fun p0 r0 =>
  un1 r0 fun p1 r1 =>
  un0 r1 (
  hLenR p0 fun x0 =>
  hArith Int.sub x0 p1 fun x1 =>
  hCall call (.func (.func 130) [] []) [p0, x1] st fun x2 s3 =>
  some (.tuple [], s3))
set_option maxRecDepth 1000000 in
theorem e92 : b92 = hfun E0 (An0 92) ha92 (List.range 2) Tryz.f92 := by kernel_rfl
/-- slices.rotateRight[litmus/api.Value] -/
def ha94 : HA := .o
def b94 : HBody := fun call n args st =>
  un1 args fun p0 r0 =>
  un1 r0 fun p1 r1 =>
  un0 r1 (
  hLenR p0 fun x0 =>
  hArith Int.sub x0 p1 fun x1 =>
  hCall call (.func (.func 131) [] []) [p0, x1] st fun x2 s3 =>
  some (.tuple [], s3))
set_option maxRecDepth 1000000 in
theorem e94 : b94 = hfun E0 (An0 94) ha94 (List.range 2) Tryz.f94 := by kernel_rfl
/-- slices.IndexFunc[[]litmus/api.Value,litmus/api.Value] -/
def ha95 : HA := (.s .o (.s (.s .o (.b none (.l ⟨[8, 0, 1, 7], [], []⟩ (.s .o (.s (.c none .o .o) (.s (.b none (.s .o (.s .o (.c none (.s .o .o) .o)))) .o)))))) (.s .o .o)))
def b95 : HBody := fun call n args st =>
  un1 args fun p0 r0 =>
  un1 r0 fun p1 r1 =>
  un0 r1 (
  hLenR p0 fun x0 =>
  hloop (fun h2 v3 s4 =>
  un1 v3 fun x5 v9 =>
  un1 v9 fun x6 v10 =>
  un1 v10 fun x7 v11 =>
  un1 v11 fun x8 v12 =>
  hCmpI iLt x5 x8 fun x13 =>
  hIf x13 (
  hElem 7 x6 x5 fun x18 =>
  hLdN 7 x18 s4 fun x19 =>
  hCall call x7 [x19] s4 fun x20 s21 =>
  hIf x20 (
  some (x5, s21)) (
  hArith Int.add x5 (.int .i64 (.ofNat 1)) fun x25 =>
  h2 [x25, x6, x7, x8] s21)) (
  some ((.int .i64 (.negSucc 0)), s4))) n [(.int .i64 (.ofNat 0)), p0, p1, x0] st)
set_option maxRecDepth 1000000 in
theorem e95 : b95 = hfun E0 (An0 95) ha95 (List.range 2) Tryz.f95 := by kernel_rfl
/-- cmp.isNaN[int] -/
def ha96 : HA := (.s .o (.s .o .o))
def b96 : HBody := fun call n args st =>
  un1 args fun p0 r0 =>
  un0 r0 (
  hCmpI (fun x y => !(iEq x y)) p0 p0 fun x0 =>
  some (x0, st))
set_option maxRecDepth 1000000 in
theorem e96 : b96 = hfun E0 (An0 96) ha96 (List.range 1) Tryz.f96 := by kernel_rfl
/-- litmus/big.Sign -/
def ha97 : HA := (.s .o (.s (.s .o (.b none (.s .o (.c none (.s .o .o) (.s .o (.c none (.s .o .o) .o)))))) (.s .o .o)))
def b97 : HBody := fun call n args st =>
  un1 args fun p0 r0 =>
  un0 r0 (
  hCells p0 fun c0 =>
  hLocN 2 c0 0 fun x1 =>
  hCall call (.func (.func 110) [] []) [x1] st fun x2 s3 =>
  hStLN 2 c0 0 x2 fun c4 =>
  hLoc1 c4 0 fun x6 =>
  hIf x6 (
  some ((.int .i64 (.negSucc 0)), s3)) (
  hLoc1 c4 1 fun x8 =>
  hLenR x8 fun x9 =>
  hCmpI (fun x y => iLt y x) x9 (.int .i64 (.ofNat 0)) fun x10 =>
  hIf x10 (
  some ((.int .i64 (.ofNat 1)), s3)) (
  some ((.int .i64 (.ofNat 0)), s3))))
set_option maxRecDepth 1000000 in
theorem e97 : b97 = hfun E0 (An0 97) ha97 (List.range 1) Tryz.f97 := by kernel_rfl
/-- litmus/nat.Cmp -/
def ha98 : HA := (.s .o (.s .o (.s (.b none (.s .o (.c none (.s .o .o) (.s .o (.c none (.s .o .o) .o))))) (.s (.s .o (.b none (.l ⟨[0, 1, 5], [], []⟩ (.s (.s .o (.c none .o .o)) (.s (.b none (.b none (.s .o (.c none (.s .o .o) (.s .o (.c none (.s .o .o) .o)))))) .o))))) (.s .o .o)))))
def b98 : HBody := fun call n args st =>
  un1 args fun p0 r0 =>
  un1 r0 fun p1 r1 =>
  un0 r1 (
  hCall call (.func (.func 132) [] []) [p0] st fun x0 s1 =>
  hCall call (.func (.func 132) [] []) [p1] s1 fun x2 s3 =>
  hLenR x0 fun x5 =>
  hLenR x2 fun x6 =>
  hCmpI iLt x5 x6 fun x7 =>
  hIf x7 (
  some ((.int .i64 (.negSucc 0)), s3)) (
  hLenR x0 fun x9 =>
  hLenR x2 fun x10 =>
  hCmpI (fun x y => iLt y x) x9 x10 fun x11 =>
  hIf x11 (
  some ((.int .i64 (.ofNat 1)), s3)) (
  hLenR x0 fun x16 =>
  hArith Int.sub x16 (.int .i64 (.ofNat 1)) fun x17 =>
  hloop (fun h19 v20 s21 =>
  un1 v20 fun x22 v25 =>
  un1 v25 fun x23 v26 =>
  un1 v26 fun x24 v27 =>
  hCmpI (fun x y => !(iLt x y)) x24 (.int .i64 (.ofNat 0)) fun x28 =>
  hIf x28 (
  hElem 1 x22 x24 fun x34 =>
  hLd1 x34 s21 fun x35 =>
  hElem 1 x23 x24 fun x36 =>
  hLd1 x36 s21 fun x37 =>
  hCmpI iLt x35 x37 fun x38 =>
  hIf x38 (
  some ((.int .i64 (.negSucc 0)), s21)) (
  hElem 1 x22 x24 fun x40 =>
  hLd1 x40 s21 fun x41 =>
  hElem 1 x23 x24 fun x42 =>
  hLd1 x42 s21 fun x43 =>
  hCmpI (fun x y => iLt y x) x41 x43 fun x44 =>
  hIf x44 (
  some ((.int .i64 (.ofNat 1)), s21)) (
  hArith Int.sub x24 (.int .i64 (.ofNat 1)) fun x50 =>
  h19 [x22, x23, x50] s21))) (
  some ((.int .i64 (.ofNat 0)), s21))) n [x0, x2, x17] s3)))
set_option maxRecDepth 1000000 in
theorem e98 : b98 = hfun E0 (An0 98) ha98 (List.range 2) Tryz.f98 := by kernel_rfl
/-- internal/bytealg.CompareString -/
def ha99 : HA := (.s .o (.s .o .o))
def b99 : HBody := fun call n args st =>
  un1 args fun p0 r0 =>
  un1 r0 fun p1 r1 =>
  un0 r1 (
  hCall call (.func (.func 133) [] []) [p0, p1] st fun x0 s1 =>
  some (x0, s1))
set_option maxRecDepth 1000000 in
theorem e99 : b99 = hfun E0 (An0 99) ha99 (List.range 2) Tryz.f99 := by kernel_rfl
/-- internal/strconv.FormatBool -/
def ha100 : HA := (.s .o (.s (.s .o (.c none (.s .o .o) .o)) (.s .o .o)))
def b100 : HBody := fun call n args st =>
  un1 args fun p0 r0 =>
  un0 r0 (
  hIf p0 (
  some ((.str [116, 114, 117, 101]), st)) (
  some ((.str [102, 97, 108, 115, 101]), st)))
set_option maxRecDepth 1000000 in
theorem e100 : b100 = hfun E0 (An0 100) ha100 (List.range 1) Tryz.f100 := by kernel_rfl
/-- (*strings.Builder).WriteByte -/
def ha101 : HA := (.s .o (.s .o (.s .o (.s .o .o))))
def b101 : HBody := fun call n args st =>
  un1 args fun p0 r0 =>
  un1 r0 fun p1 r1 =>
  un0 r1 (
  hCall call (.func (.func 102) [] []) [p0] st fun x0 s1 =>
  hNN p0 (
  hAddr 1 p0 fun x2 =>
  hLd1 x2 s1 fun x3 =>
  hVal (aBuildSlice E0.L 0 22 1 [0] [p1] s1) fun x4 s5 =>
  hValF (aAppend E0.L 0 22 22 [.val x3, .val x4] s5) fun x6 s7 =>
  hNN p0 (
  hAddr 1 p0 fun x8 =>
  hSt1 x8 x6 s7 fun s9 =>
  some (.nilIface, s9))))
set_option maxRecDepth 1000000 in
theorem e101 : b101 = hfun E0 (An0 101) ha101 (List.range 2) Tryz.f101 := by kernel_rfl
/-- internal/strconv.Itoa -/
def ha103 : HA := (.s .o (.s .o .o))
def b103 : HBody := fun call n args st =>
  un1 args fun p0 r0 =>
  un0 r0 (
  hCall call (.func (.func 135) [] []) [p0, (.int .i64 (.ofNat 10))] st fun x0 s1 =>
  some (x0, s1))
set_option maxRecDepth 1000000 in
theorem e103 : b103 = hfun E0 (An0 103) ha103 (List.range 1) Tryz.f103 := by kernel_rfl
/-- (litmus/value.thing).null -/
def ha104 : HA := (.s .o (.s .o .o))
def b104 : HBody := fun call n args st =>
  un1 args fun p0 r0 =>
  un0 r0 (
  hCells p0 fun c0 =>
  some ((.bool true), st))
set_option maxRecDepth 1000000 in
theorem e104 : b104 = hfun E0 (An0 104) ha104 (List.range 1) Tryz.f104 := by kernel_rfl
/-- (litmus/value.thing).number -/
def ha105 : HA := (.s .o (.s .o .o))
def b105 : HBody := fun call n args st =>
  un1 args fun p0 r0 =>
  un0 r0 (
  hCells p0 fun c0 =>
  hLoc1 c0 2 fun x1 =>
  hCall call (.func (.func 136) [] []) [x1] st fun x2 s3 =>
  some (x2, s3))
set_option maxRecDepth 1000000 in
theorem e105 : b105 = hfun E0 (An0 105) ha105 (List.range 1) Tryz.f105 := by kernel_rfl
/-- (litmus/value.thing).dict -/
def ha106 : HA := (.s .o (.s .o .o))
def b106 : HBody := fun call n args st =>
  un1 args fun p0 r0 =>
  un0 r0 (
  hCells p0 fun c0 =>
  hLoc1 c0 4 fun x1 =>
  hCall call (.func (.func 137) [] []) [x1] st fun x2 s3 =>
  hWB x2 (
  hlet (α := AV → Store → Rs) (fun x4 s5 =>
  hlet (α := AV → Store → Rs) (fun x7 s8 =>
  hWB x2 (
  hlet (α := AV → Store → Rs) (fun x10 s11 =>
  hlet (α := AV → Store → Rs) (fun x13 s14 =>
  hlet (α := AV → Store → Rs) (fun x16 s17 =>
  hPick x2 x16 (.bool false) fun x19 =>
  some (x19, s17)) fun j18 =>
  hWant x2 true (
  hCmpI iEq x7 x13 fun x20 =>
  j18 x20 s14) (j18 aundef s14)) fun j15 =>
  hWant x2 true (
  hLenR x10 fun x21 =>
  j15 x21 s11) (j15 aundef s11)) fun j12 =>
  hWant x2 true (
  hLoc1 c0 4 fun x22 =>
  j12 x22 s8) (j12 aundef s8))) fun j9 =>
  hWant x2 true (
  hLenR x4 fun x23 =>
  j9 x23 s5) (j9 aundef s5)) fun j6 =>
  hWant x2 true (
  hLoc1 c0 5 fun x24 =>
  j6 x24 s3) (j6 aundef s3)))
set_option maxRecDepth 1000000 in
theorem e106 : b106 = hfun E0 (An0 106) ha106 (List.range 1) Tryz.f106 := by kernel_rfl
/-- (litmus/value.thing).fun -/
def ha107 : HA := (.s .o (.s .o .o))
def b107 : HBody := fun call n args st =>
  un1 args fun p0 r0 =>
  un0 r0 (
  hCells p0 fun c0 =>
  hLoc1 c0 6 fun x1 =>
  hCmpI (fun x y => !(iLt x y)) x1 (.int .i64 (.ofNat 0)) fun x2 =>
  some (x2, st))
set_option maxRecDepth 1000000 in
theorem e107 : b107 = hfun E0 (An0 107) ha107 (List.range 1) Tryz.f107 := by kernel_rfl
/-- litmus/nat.Text -/
def ha109 : HA := (.s .o (.s .o (.s .o (.s (.s .o (.b none (.l ⟨[4, 0, 3], [], []⟩ (.s (.s .o (.c none .o .o)) (.b none (.s .o (.s .o (.s .o (.b none (.l ⟨[20, 6, 4, 0, 3], [], []⟩ (.s .o (.s (.c none .o .o) (.s (.b none .o) .o))))))))))))) (.s .o (.s .o (.s (.s .o (.c none (.s .o .o) .o)) (.s .o .o))))))))
def b109 : HBody := fun call n args st =>
  un1 args fun p0 r0 =>
  un0 r0 (
  hNew [.nils] st fun x0 s1 =>
  hCall call (.func (.func 132) [] []) [p0] s1 fun x2 s3 =>
  hloop (fun h5 v6 s7 =>
  un1 v6 fun x8 v11 =>
  un1 v11 fun x9 v12 =>
  un1 v12 fun x10 v13 =>
  hLenR x9 fun x14 =>
  hCmpI (fun x y => iLt y x) x14 (.int .i64 (.ofNat 0)) fun x15 =>
  hIf x15 (
  hCall call (.func (.func 139) [] []) [x9, (.int .u64 (.ofNat 1000000000))] s7 fun x20 s21 =>
  hExt 0 x20 fun x22 =>
  hExt 1 x20 fun x23 =>
  hloop (fun h25 v26 s27 =>
  un1 v26 fun x28 v33 =>
  un1 v33 fun x29 v34 =>
  un1 v34 fun x30 v35 =>
  un1 v35 fun x31 v36 =>
  un1 v36 fun x32 v37 =>
  hCmpI iLt x28 (.int .i64 (.ofNat 9)) fun x38 =>
  hIf x38 (
  hCall call x30 [x29] s27 fun x43 s44 =>
  hArith Int.add x28 (.int .i64 (.ofNat 1)) fun x46 =>
  h25 [x46, x43, x30, x31, x32] s44) (
  h5 [x30, x31, x32] s27)) n [(.int .i64 (.ofNat 0)), x23, x8, x22, x10] s21) (
  hLd1 x10 s7 fun x48 =>
  hCall call (.func (.func 140) [] []) [x48] s7 fun x49 s50 =>
  hLd1 x10 s50 fun x51 =>
  hVal (aConv E0.L 22 9 [.val x51] s50) fun x52 s53 =>
  hCall call (.func (.func 141) [] []) [x52, (.str [48])] s53 fun x54 s55 =>
  hStr bEq x54 (.str []) fun x56 =>
  hIf x56 (
  some ((.str [48]), s55)) (
  some (x54, s55)))) n [(.func (.func 138) [] [x0]), x2, x0] s3)
set_option maxRecDepth 1000000 in
theorem e109 : b109 = hfun E0 (An0 109) ha109 (List.range 1) Tryz.f109 := by kernel_rfl
/-- litmus/big.made -/
def ha110 : HA := (.s .o (.s .o .o))
def b110 : HBody := fun call n args st =>
  un1 args fun p0 r0 =>
  un0 r0 (
  hCells p0 fun c0 =>
  hLoc1 c0 0 fun x1 =>
  hLoc1 c0 1 fun x2 =>
  hCall call (.func (.func 113) [] []) [x1, x2] st fun x3 s4 =>
  hStLN 2 [(.bool false), .nils] 0 x3 fun c5 =>
  hLocN 2 c5 0 fun x6 =>
  some (x6, s4))
set_option maxRecDepth 1000000 in
theorem e110 : b110 = hfun E0 (An0 110) ha110 (List.range 1) Tryz.f110 := by kernel_rfl
/-- strings.CutPrefix -/
def ha111 : HA := (.s .o (.s .o .o))
def b111 : HBody := fun call n args st =>
  un1 args fun p0 r0 =>
  un1 r0 fun p1 r1 =>
  un0 r1 (
  hCall call (.func (.func 142) [] []) [p0, p1] st fun x0 s1 =>
  hExt 0 x0 fun x2 =>
  hExt 1 x0 fun x3 =>
  some (.tuple [x2, x3], s1))
set_option maxRecDepth 1000000 in
theorem e111 : b111 = hfun E0 (An0 111) ha111 (List.range 2) Tryz.f111 := by kernel_rfl
/-- litmus/nat.Parse -/
def ha112 : HA := (.s .o (.s (.s .o (.c none (.s .o .o) .o)) (.s .o (.s (.s .o (.b none (.l ⟨[24, 0, 4, 23], [], []⟩ (.s .o (.s (.c none .o .o) (.s (.b none (.s .o .o)) .o)))))) (.s .o .o)))))
def b112 : HBody := fun call n args st =>
  un1 args fun p0 r0 =>
  un0 r0 (
  hStr bEq p0 (.str []) fun x0 =>
  hlet (α := AV → Store → Rs) (fun x1 s2 =>
  hlet (α := AV → Store → Rs) (fun x4 s5 =>
  hlet (α := AV → Store → Rs) (fun x7 s8 =>
  hPick x0 (.bool true) x7 fun x10 =>
  hlet (α := AV → Store → Rs) (fun x11 s12 =>
  hlet (α := AV → Store → Rs) (fun x14 s15 =>
  hlet (α := AV → Store → Rs) (fun x17 s18 =>
  hlet (α := AV → Store → Rs) (fun x20 s21 =>
  hlet (α := AV → Store → Rs) (fun x23 s24 =>
  hlet (α := AV → Store → Rs) (fun x26 s27 =>
  hlet (α := AV → Store → Rs) (fun x29 s30 =>
  hPick x10 (.bool true) x29 fun x32 =>
  hIf x32 (
  some (.tuple [.nils, (.bool false)], s30)) (
  hLenS p0 fun x35 =>
  hloop (fun h37 v38 s39 =>
  un1 v38 fun x40 v44 =>
  un1 v44 fun x41 v45 =>
  un1 v45 fun x42 v46 =>
  un1 v46 fun x43 v47 =>
  hCmpI iLt x40 x43 fun x48 =>
  hIf x48 (
  hStrAt x41 x40 fun x53 =>
  hArith Int.sub x53 (.int .u8 (.ofNat 48)) fun x54 =>
  hConvI .u64 x54 fun x55 =>
  hCall call (.func (.func 144) [] []) [x42, (.int .u64 (.ofNat 10)), x55] s39 fun x56 s57 =>
  hArith Int.add x40 (.int .i64 (.ofNat 1)) fun x59 =>
  h37 [x59, x41, x56, x43] s57) (
  hCall call (.func (.func 132) [] []) [x42] s39 fun x60 s61 =>
  some (.tuple [x60, (.bool true)], s61))) n [(.int .i64 (.ofNat 0)), p0, .nils, x35] s30)) fun j31 =>
  hWant x10 false (
  hPick x20 x26 (.bool false) fun x62 =>
  j31 x62 s27) (j31 aundef s27)) fun j28 =>
  hWant x20 true (
  hStr (fun x y => !(bEq x y)) x23 (.str [48]) fun x63 =>
  j28 x63 s24) (j28 aundef s24)) fun j25 =>
  hWant x20 true (
  j25 p0 s21) (j25 aundef s21)) fun j22 =>
  hWant x10 false (
  j22 x17 s18) (j22 aundef s18)) fun j19 =>
  hWant x10 false (
  hCmpI iEq x14 (.int .u8 (.ofNat 48)) fun x64 =>
  j19 x64 s15) (j19 aundef s15)) fun j16 =>
  hWant x10 false (
  hStrAt x11 (.int .i64 (.ofNat 0)) fun x65 =>
  j16 x65 s12) (j16 aundef s12)) fun j13 =>
  hWant x10 false (
  j13 p0 s8) (j13 aundef s8)) fun j9 =>
  hWant x0 false (
  hStr (fun x y => !(bEq x y)) x4 (.str []) fun x66 =>
  j9 x66 s5) (j9 aundef s5)) fun j6 =>
  hWant x0 false (
  hCall call (.func (.func 143) [] []) [x1, (.str [48, 49, 50, 51, 52, 53, 54, 55, 56, 57])] s2 fun x67 s68 =>
  j6 x67 s68) (j6 aundef s2)) fun j3 =>
  hWant x0 false (
  j3 p0 st) (j3 aundef st))
set_option maxRecDepth 1000000 in
theorem e112 : b112 = hfun E0 (An0 112) ha112 (List.range 1) Tryz.f112 := by kernel_rfl
/-- litmus/big.Of -/
def ha113 : HA := (.s .o (.s .o (.s .o .o)))
def b113 : HBody := fun call n args st =>
  un1 args fun p0 r0 =>
  un1 r0 fun p1 r1 =>
  un0 r1 (
  hCall call (.func (.func 132) [] []) [p1] st fun x0 s1 =>
  hlet (α := AV → Store → Rs) (fun x2 s3 =>
  hlet (α := AV → Store → Rs) (fun x5 s6 =>
  hlet (α := AV → Store → Rs) (fun x8 s9 =>
  hPick p0 x8 (.bool false) fun x11 =>
  hFill [(0, 1, x11), (1, 1, x0)] [(.bool false), .nils] fun c12 =>
  hStLN 2 [(.bool false), .nils] 0 (.agg c12) fun c13 =>
  hLocN 2 c13 0 fun x14 =>
  some (x14, s9)) fun j10 =>
  hWant p0 true (
  hCmpI (fun x y => iLt y x) x5 (.int .i64 (.ofNat 0)) fun x15 =>
  j10 x15 s6) (j10 aundef s6)) fun j7 =>
  hWant p0 true (
  hLenR x2 fun x16 =>
  j7 x16 s3) (j7 aundef s3)) fun j4 =>
  hWant p0 true (
  j4 x0 s1) (j4 aundef s1))
set_option maxRecDepth 1000000 in
theorem e113 : b113 = hfun E0 (An0 113) ha113 (List.range 2) Tryz.f113 := by kernel_rfl
/-- litmus/lex.tokens$1 -/
def ha116 : HA := (.s .o (.b none (.l ⟨[3, 0, 1], [], []⟩ (.s (.s .o (.c none .o .o)) (.b (some ⟨[3, 0, 1], [], []⟩) (.s .o (.s (.s .o (.s .o (.c none (.s .o .o) .o))) (.s (.s .o (.c none (.s .o (.s .o .o)) .o)) (.s .o (.s .o (.s (.s .o (.c none .o .o)) .o)))))))))))
def b116 : HBody := fun call n args st =>
  un1 args fun p0 r0 =>
  un1 r0 fun p1 r1 =>
  un0 r1 (
  hloop (fun h1 v2 s3 =>
  un1 v2 fun x4 v7 =>
  un1 v7 fun x5 v8 =>
  un1 v8 fun x6 v9 =>
  hLd1 x6 s3 fun x10 =>
  hLenS x10 fun x11 =>
  hCmpI iLt x4 x11 fun x12 =>
  hIf x12 (
  hlet (α := List AV → Store → Rs) (fun v53 s54 =>
  un1 v53 fun x55 v58 =>
  un1 v58 fun x56 v59 =>
  un1 v59 fun x57 v60 =>
  h1 [x55, x56, x57] s54) fun j52 =>
  hLd1 x6 s3 fun x17 =>
  hSlS x17 (some x4) none fun x18 =>
  hCall call (.func (.func 117) [] []) [x18, (.str [32, 9, 10, 13])] s3 fun x19 s20 =>
  hCmpI (fun x y => iLt y x) x19 (.int .i64 (.ofNat 0)) fun x21 =>
  hIf x21 (
  hArith Int.add x4 x19 fun x23 =>
  j52 [x23, x5, x6] s20) (
  hStrAt x18 (.int .i64 (.ofNat 0)) fun x26 =>
  hCmpI iEq x26 (.int .u8 (.ofNat 59)) fun x27 =>
  hIf x27 (
  hCall call (.func (.func 118) [] []) [x18, (.str [10])] s20 fun x29 s30 =>
  hExt 0 x29 fun x31 =>
  hExt 1 x29 fun x32 =>
  hExt 2 x29 fun x33 =>
  hLenS x31 fun x34 =>
  hArith Int.add x4 x34 fun x35 =>
  j52 [x35, x5, x6] s30) (
  hCall call (.func (.func 119) [] []) [x18] s20 fun x38 s39 =>
  hExt 0 x38 fun x40 =>
  hExt 1 x38 fun x41 =>
  hStLN 3 [(.int .i64 (.ofNat 0)), (.str []), (.int .i64 (.ofNat 0))] 0 x40 fun c42 =>
  hStL1 c42 2 x4 fun c43 =>
  hLocN 3 c43 0 fun x44 =>
  hCall call x5 [x44, x41] s39 fun x45 s46 =>
  hNot x45 fun x47 =>
  hIf x47 (
  some (.tuple [], s46)) (
  hArith Int.add x4 x41 fun x50 =>
  j52 [x50, x5, x6] s46)))) (
  some (.tuple [], s3))) n [(.int .i64 (.ofNat 0)), p0, p1] st)
set_option maxRecDepth 1000000 in
theorem e116 : b116 = hfun E0 (An0 116) ha116 (List.range 2) Tryz.f116 := by kernel_rfl
/-- litmus/lex.run -/
def ha117 : HA := (.s .o (.s .o .o))
def b117 : HBody := fun call n args st =>
  un1 args fun p0 r0 =>
  un1 r0 fun p1 r1 =>
  un0 r1 (
  hLenS p0 fun x0 =>
  hCall call (.func (.func 148) [] []) [p0, p1] st fun x1 s2 =>
  hLenS x1 fun x3 =>
  hArith Int.sub x0 x3 fun x4 =>
  some (x4, s2))
set_option maxRecDepth 1000000 in
theorem e117 : b117 = hfun E0 (An0 117) ha117 (List.range 2) Tryz.f117 := by kernel_rfl
/-- strings.Cut -/
def ha118 : HA := (.s .o (.s .o .o))
def b118 : HBody := fun call n args st =>
  un1 args fun p0 r0 =>
  un1 r0 fun p1 r1 =>
  un0 r1 (
  hCall call (.func (.func 149) [] []) [p0, p1] st fun x0 s1 =>
  hExt 0 x0 fun x2 =>
  hExt 1 x0 fun x3 =>
  hExt 2 x0 fun x4 =>
  some (.tuple [x2, x3, x4], s1))
set_option maxRecDepth 1000000 in
theorem e118 : b118 = hfun E0 (An0 118) ha118 (List.range 2) Tryz.f118 := by kernel_rfl
/-- litmus/lex.one -/
def ha119 : HA := (.s .o (.s (.s .o (.b (some ⟨[0, 3], [2], [2]⟩) (.l ⟨[0, 9, 7, 3, 8], [2], [2]⟩ (.s .o (.s (.c none .o .o) (.s (.b none (.s .o (.s .o (.s .o (.c none .o .o))))) .o)))))) (.s .o (.s (.s .o (.c none (.s .o .o) .o)) (.s .o .o)))))
def b119 : HBody := fun call n args st =>
  un1 args fun p0 r0 =>
  un0 r0 (
  hCall call (.func (.func 150) [] []) [] st fun x0 s1 =>
  hLenR x0 fun x2 =>
  hlet (α := List AV → Store → Rs) (fun v41 s42 =>
  un1 v41 fun a46 v47 =>
  unAgg a46 fun c43 =>
  un1 v47 fun x44 v48 =>
  un1 v48 fun x45 v49 =>
  hLoc1 c43 0 fun x50 =>
  hCmpI iEq x50 (.int .i64 (.ofNat 0)) fun x51 =>
  hWB x51 (
  hlet (α := AV → Store → Rs) (fun x52 s53 =>
  hlet (α := AV → Store → Rs) (fun x55 s56 =>
  hPick x51 (.bool true) x55 fun x58 =>
  hCmpI (fun x y => iLt y x) x45 (.int .i64 (.ofNat 0)) fun x59 =>
  hlet (α := AV → Store → Rs) (fun x60 s61 =>
  hlet (α := AV → Store → Rs) (fun x63 s64 =>
  hPick x59 x63 (.bool false) fun x66 =>
  hlet (α := AV → Store → Rs) (fun x67 s68 =>
  hlet (α := AV → Store → Rs) (fun x70 s71 =>
  hlet (α := AV → Store → Rs) (fun x73 s74 =>
  hlet (α := AV → Store → Rs) (fun x76 s77 =>
  hPick x66 x76 (.bool false) fun x79 =>
  hlet (α := AV → Store → Rs) (fun x80 s81 =>
  hlet (α := AV → Store → Rs) (fun x83 s84 =>
  hlet (α := AV → Store → Rs) (fun x86 s87 =>
  hlet (α := AV → Store → Rs) (fun x89 s90 =>
  hlet (α := AV → Store → Rs) (fun x92 s93 =>
  hlet (α := AV → Store → Rs) (fun x95 s96 =>
  hlet (α := AV → Store → Rs) (fun x98 s99 =>
  hPick x79 x98 (.bool false) fun x101 =>
  hIf x101 (
  hLocN 3 c43 0 fun x103 =>
  hStLN 3 c43 0 x103 fun c104 =>
  hLocN 3 c104 0 fun x105 =>
  some (.tuple [x105, (.int .i64 (.ofNat 0))], s99)) (
  hLocN 3 c43 0 fun x107 =>
  hStLN 3 c43 0 x107 fun c108 =>
  hLocN 3 c108 0 fun x109 =>
  some (.tuple [x109, x45], s99))) fun j100 =>
  hWant x79 true (
  hNot x95 fun x110 =>
  j100 x110 s96) (j100 aundef s96)) fun j97 =>
  hWant x79 true (
  hCall call (.func (.func 151) [] []) [(.str [32, 9, 10, 13, 40, 41, 59]), x92] s93 fun x111 s112 =>
  j97 x111 s112) (j97 aundef s93)) fun j94 =>
  hWant x79 true (
  hSlS x80 (some x83) (some x89) fun x113 =>
  j94 x113 s90) (j94 aundef s90)) fun j91 =>
  hWant x79 true (
  hArith Int.add x86 (.int .i64 (.ofNat 1)) fun x114 =>
  j91 x114 s87) (j91 aundef s87)) fun j88 =>
  hWant x79 true (
  j88 x45 s84) (j88 aundef s84)) fun j85 =>
  hWant x79 true (
  j85 x45 s81) (j85 aundef s81)) fun j82 =>
  hWant x79 true (
  j82 x44 s77) (j82 aundef s77)) fun j78 =>
  hWant x66 true (
  hCmpI iLt x67 x73 fun x115 =>
  j78 x115 s74) (j78 aundef s74)) fun j75 =>
  hWant x66 true (
  hLenS x70 fun x116 =>
  j75 x116 s71) (j75 aundef s71)) fun j72 =>
  hWant x66 true (
  j72 x44 s68) (j72 aundef s68)) fun j69 =>
  hWant x66 true (
  j69 x45 s64) (j69 aundef s64)) fun j65 =>
  hWant x59 true (
  hNot x60 fun x117 =>
  j65 x117 s61) (j65 aundef s61)) fun j62 =>
  hWant x59 true (
  j62 x58 s56) (j62 aundef s56)) fun j57 =>
  hWant x51 false (
  hCmpI iEq x52 (.int .i64 (.ofNat 1)) fun x118 =>
  j57 x118 s53) (j57 aundef s53)) fun j54 =>
  hWant x51 false (
  hLoc1 c43 0 fun x119 =>
  j54 x119 s42) (j54 aundef s42))) fun j40 =>
  hloop (fun h4 v5 s6 =>
  un1 v5 fun a13 v14 =>
  unAgg a13 fun c7 =>
  un1 v14 fun x8 v15 =>
  un1 v15 fun x9 v16 =>
  un1 v16 fun x10 v17 =>
  un1 v17 fun x11 v18 =>
  un1 v18 fun x12 v19 =>
  hCmpI iLt x9 x12 fun x20 =>
  hIf x20 (
  hElem 1 x10 x9 fun x25 =>
  hLd1 x25 s6 fun x26 =>
  hCall call x26 [x8] s6 fun x27 s28 =>
  hExt 0 x27 fun x29 =>
  hExt 1 x27 fun x30 =>
  hExt 2 x27 fun x31 =>
  hStL1 c7 0 x29 fun c32 =>
  hStL1 c32 1 x30 fun c33 =>
  hCmpI (fun x y => iLt y x) x31 (.int .i64 (.ofNat 0)) fun x34 =>
  hIf x34 (
  j40 [.agg c33, x8, x31] s28) (
  hArith Int.add x9 (.int .i64 (.ofNat 1)) fun x39 =>
  h4 [.agg c33, x8, x39, x10, x31, x12] s28)) (
  j40 [.agg c7, x8, x11] s6)) n [.agg [(.int .i64 (.ofNat 0)), (.str []), (.int .i64 (.ofNat 0))], p0, (.int .i64 (.ofNat 0)), x0, (.int .i64 (.ofNat 0)), x2] s1)
set_option maxRecDepth 1000000 in
theorem e119 : b119 = hfun E0 (An0 119) ha119 (List.range 1) Tryz.f119 := by kernel_rfl
/-- (*litmus/value.tokens).is -/
def ha120 : HA := (.s .o (.s .o .o))
def b120 : HBody := fun call n args st =>
  un1 args fun p0 r0 =>
  un1 r0 fun p1 r1 =>
  un0 r1 (
  hNN p0 (
  hAddr 0 p0 fun x0 =>
  hLd1 x0 st fun x1 =>
  hLenR x1 fun x2 =>
  hCmpI (fun x y => iLt y x) x2 (.int .i64 (.ofNat 0)) fun x3 =>
  hlet (α := AV → Store → Rs) (fun x4 s5 =>
  hlet (α := AV → Store → Rs) (fun x7 s8 =>
  hlet (α := AV → Store → Rs) (fun x10 s11 =>
  hlet (α := AV → Store → Rs) (fun x13 s14 =>
  hlet (α := AV → Store → Rs) (fun x16 s17 =>
  hlet (α := AV → Store → Rs) (fun x19 s20 =>
  hlet (α := AV → Store → Rs) (fun x22 s23 =>
  hlet (α := AV → Store → Rs) (fun x25 s26 =>
  hlet (α := AV → Store → Rs) (fun x28 s29 =>
  hPick x3 x28 (.bool false) fun x31 =>
  some (x31, s29)) fun j30 =>
  hWant x3 true (
  hCmpI iEq x22 x25 fun x32 =>
  j30 x32 s26) (j30 aundef s26)) fun j27 =>
  hWant x3 true (
  j27 p1 s23) (j27 aundef s23)) fun j24 =>
  hWant x3 true (
  hLd1 x19 s20 fun x33 =>
  j24 x33 s20) (j24 aundef s20)) fun j21 =>
  hWant x3 true (
  hAddr 0 x16 fun x34 =>
  j21 x34 s17) (j21 aundef s17)) fun j18 =>
  hWant x3 true (
  hElem 3 x13 (.int .i64 (.ofNat 0)) fun x35 =>
  j18 x35 s14) (j18 aundef s14)) fun j15 =>
  hWant x3 true (
  hLd1 x10 s11 fun x36 =>
  j15 x36 s11) (j15 aundef s11)) fun j12 =>
  hWant x3 true (
  hAddr 0 x7 fun x37 =>
  j12 x37 s8) (j12 aundef s8)) fun j9 =>
  hWant x3 true (
  hNN x4 (
  j9 x4 s5)) (j9 aundef s5)) fun j6 =>
  hWant x3 true (
  j6 p0 st) (j6 aundef st)))
set_option maxRecDepth 1000000 in
theorem e120 : b120 = hfun E0 (An0 120) ha120 (List.range 2) Tryz.f120 := by kernel_rfl
/-- cmp.isNaN[string] -/
def ha129 : HA := (.s .o (.s .o .o))
def b129 : HBody := fun call n args st =>
  un1 args fun p0 r0 =>
  un0 r0 (
  hStr (fun x y => !(bEq x y)) p0 p0 fun x0 =>
  some (x0, st))
set_option maxRecDepth 1000000 in
theorem e129 : b129 = hfun E0 (An0 129) ha129 (List.range 1) Tryz.f129 := by kernel_rfl
/-- slices.rotateLeft[string] -/
def ha130 : HA := (.s .o (.s .o .o))
def b130 : HBody := fun call n args st =>
  un1 args fun p0 r0 =>
  un1 r0 fun p1 r1 =>
  un0 r1 (
  hV (sliceV E0.L 25 st p0 none (some p1) none) fun x0 =>
  hCall call (.func (.func 153) [] []) [x0] st fun x1 s2 =>
  hV (sliceV E0.L 25 s2 p0 (some p1) none none) fun x3 =>
  hCall call (.func (.func 153) [] []) [x3] s2 fun x4 s5 =>
  hCall call (.func (.func 153) [] []) [p0] s5 fun x6 s7 =>
  some (.tuple [], s7))
set_option maxRecDepth 1000000 in
theorem e130 : b130 = hfun E0 (An0 130) ha130 (List.range 2) Tryz.f130 := by kernel_rfl
/-- slices.rotateLeft[litmus/api.Value] -/
def ha131 : HA := (.s .o (.s .o .o))
def b131 : HBody := fun call n args st =>
  un1 args fun p0 r0 =>
  un1 r0 fun p1 r1 =>
  un0 r1 (
  hV (sliceV E0.L 26 st p0 none (some p1) none) fun x0 =>
  hCall call (.func (.func 154) [] []) [x0] st fun x1 s2 =>
  hV (sliceV E0.L 26 s2 p0 (some p1) none none) fun x3 =>
  hCall call (.func (.func 154) [] []) [x3] s2 fun x4 s5 =>
  hCall call (.func (.func 154) [] []) [p0] s5 fun x6 s7 =>
  some (.tuple [], s7))
set_option maxRecDepth 1000000 in
theorem e131 : b131 = hfun E0 (An0 131) ha131 (List.range 2) Tryz.f131 := by kernel_rfl
/-- litmus/nat.Trim -/
def ha132 : HA := (.s .o (.s .o (.s (.b none (.l ⟨[3, 0], [], []⟩ (.s (.s .o (.c none .o .o)) (.b none .o)))) (.s .o .o))))
def b132 : HBody := fun call n args st =>
  un1 args fun p0 r0 =>
  un0 r0 (
  hLenR p0 fun x0 =>
  hloop (fun h2 v3 s4 =>
  un1 v3 fun x5 v7 =>
  un1 v7 fun x6 v8 =>
  hCmpI (fun x y => iLt y x) x5 (.int .i64 (.ofNat 0)) fun x9 =>
  hlet (α := AV → Store → Rs) (fun x10 s11 =>
  hlet (α := AV → Store → Rs) (fun x13 s14 =>
  hlet (α := AV → Store → Rs) (fun x16 s17 =>
  hlet (α := AV → Store → Rs) (fun x19 s20 =>
  hlet (α := AV → Store → Rs) (fun x22 s23 =>
  hlet (α := AV → Store → Rs) (fun x25 s26 =>
  hPick x9 x25 (.bool false) fun x28 =>
  hIf x28 (
  hArith Int.sub x5 (.int .i64 (.ofNat 1)) fun x33 =>
  h2 [x33, x6] s26) (
  hV (sliceV E0.L 52 s26 x6 none (some x5) none) fun x39 =>
  hCall call (.func (.func 155) [] []) [x39] s26 fun x40 s41 =>
  some (x40, s41))) fun j27 =>
  hWant x9 true (
  hCmpI iEq x22 (.int .u32 (.ofNat 0)) fun x35 =>
  j27 x35 s23) (j27 aundef s23)) fun j24 =>
  hWant x9 true (
  hLd1 x19 s20 fun x36 =>
  j24 x36 s20) (j24 aundef s20)) fun j21 =>
  hWant x9 true (
  hElem 1 x10 x16 fun x37 =>
  j21 x37 s17) (j21 aundef s17)) fun j18 =>
  hWant x9 true (
  hArith Int.sub x13 (.int .i64 (.ofNat 1)) fun x38 =>
  j18 x38 s14) (j18 aundef s14)) fun j15 =>
  hWant x9 true (
  j15 x5 s11) (j15 aundef s11)) fun j12 =>
  hWant x9 true (
  j12 x6 s4) (j12 aundef s4)) n [x0, p0] st)
set_option maxRecDepth 1000000 in
theorem e132 : b132 = hfun E0 (An0 132) ha132 (List.range 1) Tryz.f132 := by kernel_rfl
/-- internal/strconv.FormatInt -/
def ha135 : HA := (.s .o (.s (.s .o (.c none (.s (.s .o (.c none (.s .o .o) .o)) (.s .o (.s .o (.s (.s .o (.c (some ⟨[6, 0, 5], [], []⟩) .o .o)) (.s .o (.s .o (.s (.s .o (.c none (.s .o (.s .o .o)) .o)) (.s .o .o)))))))) .o)) (.s .o (.s .o .o))))
def b135 : HBody := fun call n args st =>
  un1 args fun p0 r0 =>
  un1 r0 fun p1 r1 =>
  un0 r1 (
  hCmpI iEq p1 (.int .i64 (.ofNat 10)) fun x0 =>
  hIf x0 (
  hCmpI (fun x y => !(iLt y x)) (.int .i64 (.ofNat 0)) p0 fun x2 =>
  hlet (α := AV → Store → Rs) (fun x3 s4 =>
  hlet (α := AV → Store → Rs) (fun x6 s7 =>
  hPick x2 x6 (.bool false) fun x9 =>
  hIf x9 (
  hCall call (.func (.func 156) [] []) [p0] s7 fun x11 s12 =>
  some (x11, s12)) (
  hNew [(.int .u8 (.ofNat 0)), (.int .u8 (.ofNat 0)), (.int .u8 (.ofNat 0)), (.int .u8 (.ofNat 0)), (.int .u8 (.ofNat 0)), (.int .u8 (.ofNat 0)), (.int .u8 (.ofNat 0)), (.int .u8 (.ofNat 0)), (.int .u8 (.ofNat 0)), (.int .u8 (.ofNat 0)), (.int .u8 (.ofNat 0)), (.int .u8 (.ofNat 0)), (.int .u8 (.ofNat 0)), (.int .u8 (.ofNat 0)), (.int .u8 (.ofNat 0)), (.int .u8 (.ofNat 0)), (.int .u8 (.ofNat 0)), (.int .u8 (.ofNat 0)), (.int .u8 (.ofNat 0)), (.int .u8 (.ofNat 0)), (.int .u8 (.ofNat 0)), (.int .u8 (.ofNat 0)), (.int .u8 (.ofNat 0)), (.int .u8 (.ofNat 0))] s7 fun x14 s15 =>
  hConvI .u64 p0 fun x16 =>
  hCmpI iLt p0 (.int .i64 (.ofNat 0)) fun x17 =>
  hlet (α := List AV → Store → Rs) (fun v23 s24 =>
  un1 v23 fun x25 v28 =>
  un1 v28 fun x26 v29 =>
  un1 v29 fun x27 v30 =>
  hCall call (.func (.func 157) [] []) [x25] s24 fun x31 s32 =>
  hArith Int.add (.int .i64 (.ofNat 1)) x31 fun x33 =>
  hV (sliceV E0.L 183 s32 x27 (some (.int .i64 (.ofNat 1))) (some x33) none) fun x34 =>
  hCall call (.func (.func 158) [] []) [x34, x25] s32 fun x35 s36 =>
  hCmpI iLt x26 (.int .i64 (.ofNat 0)) fun x37 =>
  hIf x37 (
  hIdx (.int .i64 (.ofNat 0)) 24 fun i39 =>
  hAddr (i39 * 1) x27 fun x40 =>
  hSt1 x40 (.int .u8 (.ofNat 45)) s36 fun s41 =>
  hArith Int.add (.int .i64 (.ofNat 1)) x31 fun x42 =>
  hV (sliceV E0.L 183 s41 x27 none (some x42) none) fun x43 =>
  hVal (aConv E0.L 22 9 [.val x43] s41) fun x44 s45 =>
  some (x44, s45)) (
  hArith Int.add (.int .i64 (.ofNat 1)) x31 fun x47 =>
  hV (sliceV E0.L 183 s36 x27 (some (.int .i64 (.ofNat 1))) (some x47) none) fun x48 =>
  hVal (aConv E0.L 22 9 [.val x48] s36) fun x49 s50 =>
  some (x49, s50))) fun j22 =>
  hIf x17 (
  hV (unV .neg x16) fun x19 =>
  j22 [x19, p0, x14] s15) (
  j22 [x16, p0, x14] s15))) fun j8 =>
  hWant x2 true (
  hCmpI iLt x3 (.int .i64 (.ofNat 100)) fun x51 =>
  j8 x51 s4) (j8 aundef s4)) fun j5 =>
  hWant x2 true (
  j5 p0 st) (j5 aundef st)) (
  hConvI .u64 p0 fun x53 =>
  hCmpI iLt p0 (.int .i64 (.ofNat 0)) fun x54 =>
  hCall call (.func (.func 159) [] []) [.nils, x53, p1, x54, (.bool false)] st fun x55 s56 =>
  hExt 0 x55 fun x57 =>
  hExt 1 x55 fun x58 =>
  some (x58, s56)))
set_option maxRecDepth 1000000 in
theorem e135 : b135 = hfun E0 (An0 135) ha135 (List.range 2) Tryz.f135 := by kernel_rfl
/-- litmus/value.whole -/
def ha136 : HA := (.s .o (.s .o (.s .o .o)))
def b136 : HBody := fun call n args st =>
  un1 args fun p0 r0 =>
  un0 r0 (
  hCall call (.func (.func 78) [] []) [p0] st fun x0 s1 =>
  hExt 0 x0 fun x2 =>
  hExt 1 x0 fun x3 =>
  hStLN 2 [(.bool false), .nils] 0 x2 fun c4 =>
  hlet (α := AV → Store → Rs) (fun x5 s6 =>
  hlet (α := AV → Store → Rs) (fun x8 s9 =>
  hlet (α := AV → Store → Rs) (fun x11 s12 =>
  hlet (α := AV → Store → Rs) (fun x14 s15 =>
  hPick x3 x14 (.bool false) fun x17 =>
  some (x17, s15)) fun j16 =>
  hWant x3 true (
  hStr bEq x8 x11 fun x18 =>
  j16 x18 s12) (j16 aundef s12)) fun j13 =>
  hWant x3 true (
  j13 p0 s9) (j13 aundef s9)) fun j10 =>
  hWant x3 true (
  hCall call (.func (.func 77) [] []) [x5] s6 fun x19 s20 =>
  j10 x19 s20) (j10 aundef s6)) fun j7 =>
  hWant x3 true (
  hLocN 2 c4 0 fun x21 =>
  j7 x21 s1) (j7 aundef s1))
set_option maxRecDepth 1000000 in
theorem e136 : b136 = hfun E0 (An0 136) ha136 (List.range 1) Tryz.f136 := by kernel_rfl
/-- litmus/value.rising -/
def ha137 : HA := (.s .o (.s (.s .o (.b none (.l ⟨[6, 0, 5], [], []⟩ (.s .o (.s (.c none .o .o) (.s (.b none (.s .o (.s .o (.c none (.s .o .o) .o)))) .o)))))) (.s .o .o)))
def b137 : HBody := fun call n args st =>
  un1 args fun p0 r0 =>
  un0 r0 (
  hLenR p0 fun x0 =>
  hloop (fun h2 v3 s4 =>
  un1 v3 fun x5 v8 =>
  un1 v8 fun x6 v9 =>
  un1 v9 fun x7 v10 =>
  hCmpI iLt x5 x7 fun x11 =>
  hIf x11 (
  hCmpI (fun x y => iLt y x) x5 (.int .i64 (.ofNat 0)) fun x16 =>
  hlet (α := AV → Store → Rs) (fun x17 s18 =>
  hlet (α := AV → Store → Rs) (fun x20 s21 =>
  hlet (α := AV → Store → Rs) (fun x23 s24 =>
  hlet (α := AV → Store → Rs) (fun x26 s27 =>
  hlet (α := AV → Store → Rs) (fun x29 s30 =>
  hlet (α := AV → Store → Rs) (fun x32 s33 =>
  hlet (α := AV → Store → Rs) (fun x35 s36 =>
  hlet (α := AV → Store → Rs) (fun x38 s39 =>
  hlet (α := AV → Store → Rs) (fun x41 s42 =>
  hlet (α := AV → Store → Rs) (fun x44 s45 =>
  hPick x16 x44 (.bool false) fun x47 =>
  hIf x47 (
  some ((.bool false), s45)) (
  hArith Int.add x5 (.int .i64 (.ofNat 1)) fun x58 =>
  h2 [x58, x6, x7] s45)) fun j46 =>
  hWant x16 true (
  hVal (aBinC E0.L 9 .leq false x26 x41 s42) fun x51 s52 =>
  j46 x51 s52) (j46 aundef s42)) fun j43 =>
  hWant x16 true (
  hLd1 x38 s39 fun x53 =>
  j43 x53 s39) (j43 aundef s39)) fun j40 =>
  hWant x16 true (
  hElem 1 x29 x35 fun x54 =>
  j40 x54 s36) (j40 aundef s36)) fun j37 =>
  hWant x16 true (
  hArith Int.sub x32 (.int .i64 (.ofNat 1)) fun x55 =>
  j37 x55 s33) (j37 aundef s33)) fun j34 =>
  hWant x16 true (
  j34 x5 s30) (j34 aundef s30)) fun j31 =>
  hWant x16 true (
  j31 x6 s27) (j31 aundef s27)) fun j28 =>
  hWant x16 true (
  hLd1 x23 s24 fun x56 =>
  j28 x56 s24) (j28 aundef s24)) fun j25 =>
  hWant x16 true (
  hElem 1 x17 x20 fun x57 =>
  j25 x57 s21) (j25 aundef s21)) fun j22 =>
  hWant x16 true (
  j22 x5 s18) (j22 aundef s18)) fun j19 =>
  hWant x16 true (
  j19 x6 s4) (j19 aundef s4)) (
  some ((.bool true), s4))) n [(.int .i64 (.ofNat 0)), p0, x0] st)
set_option maxRecDepth 1000000 in
theorem e137 : b137 = hfun E0 (An0 137) ha137 (List.range 1) Tryz.f137 := by kernel_rfl
/-- litmus/nat.Text$1 -/
def ha138 : HA := (.s .o (.s .o (.s .o .o)))
def b138 : HBody := fun call n args st =>
  un1 args fun p0 r0 =>
  un1 r0 fun p1 r1 =>
  un0 r1 (
  hLd1 p1 st fun x0 =>
  hVal (aBinC E0.L 165 .rem true p0 (.int .u64 (.ofNat 10)) st) fun x1 s2 =>
  hArith Int.add (.int .u64 (.ofNat 48)) x1 fun x3 =>
  hConvI .u8 x3 fun x4 =>
  hVal (aBuildSlice E0.L 0 22 1 [0] [x4] s2) fun x5 s6 =>
  hValF (aAppend E0.L 1 22 22 [.val x0, .val x5] s6) fun x7 s8 =>
  hSt1 p1 x7 s8 fun s9 =>
  hVal (aBinC E0.L 165 .quo true p0 (.int .u64 (.ofNat 10)) s9) fun x10 s11 =>
  some (x10, s11))
set_option maxRecDepth 1000000 in
theorem e138 : b138 = hfun E0 (An0 138) ha138 (List.range 2) Tryz.f138 := by kernel_rfl
/-- litmus/nat.short -/
def ha139 : HA := (.s .o (.s .o (.s (.s .o (.b none (.l ⟨[6, 1, 4, 0, 5], [], []⟩ (.s (.s .o (.c none .o .o)) (.s (.b none (.s .o (.s .o .o))) .o))))) (.s .o .o))))
def b139 : HBody := fun call n args st =>
  un1 args fun p0 r0 =>
  un1 r0 fun p1 r1 =>
  un0 r1 (
  hLenR p0 fun x0 =>
  hVal (aMakeSlice E0.L 0 52 [.val x0, .val x0] st) fun x1 s2 =>
  hLenR p0 fun x3 =>
  hArith Int.sub x3 (.int .i64 (.ofNat 1)) fun x4 =>
  hloop (fun h6 v7 s8 =>
  un1 v7 fun x9 v14 =>
  un1 v14 fun x10 v15 =>
  un1 v15 fun x11 v16 =>
  un1 v16 fun x12 v17 =>
  un1 v17 fun x13 v18 =>
  hCmpI (fun x y => !(iLt x y)) x9 (.int .i64 (.ofNat 0)) fun x19 =>
  hIf x19 (
  hVal (aBinC E0.L 165 .shl true x13 (.int .u64 (.ofNat 32)) s8) fun x24 s25 =>
  hElem 1 x12 x9 fun x26 =>
  hLd1 x26 s25 fun x27 =>
  hConvI .u64 x27 fun x28 =>
  hVal (aBinC E0.L 165 .or false x24 x28 s25) fun x29 s30 =>
  hVal (aBinC E0.L 165 .quo false x29 x10 s30) fun x31 s32 =>
  hConvI .u32 x31 fun x33 =>
  hElem 1 x11 x9 fun x34 =>
  hSt1 x34 x33 s32 fun s35 =>
  hVal (aBinC E0.L 165 .rem false x29 x10 s35) fun x36 s37 =>
  hArith Int.sub x9 (.int .i64 (.ofNat 1)) fun x39 =>
  h6 [x39, x10, x11, x12, x36] s37) (
  hCall call (.func (.func 132) [] []) [x11] s8 fun x40 s41 =>
  some (.tuple [x40, x13], s41))) n [x4, p1, x1, p0, (.int .u64 (.ofNat 0))] s2)
set_option maxRecDepth 1000000 in
theorem e139 : b139 = hfun E0 (An0 139) ha139 (List.range 2) Tryz.f139 := by kernel_rfl
/-- slices.Reverse[[]byte,byte] -/
def ha140 : HA := (.s .o (.b none (.l ⟨[3, 2, 0], [], []⟩ (.s (.s .o (.c none .o .o)) (.s (.b none .o) .o)))))
def b140 : HBody := fun call n args st =>
  un1 args fun p0 r0 =>
  un0 r0 (
  hLenR p0 fun x0 =>
  hArith Int.sub x0 (.int .i64 (.ofNat 1)) fun x1 =>
  hloop (fun h3 v4 s5 =>
  un1 v4 fun x6 v9 =>
  un1 v9 fun x7 v10 =>
  un1 v10 fun x8 v11 =>
  hCmpI iLt x7 x6 fun x12 =>
  hIf x12 (
  hElem 1 x8 x6 fun x17 =>
  hLd1 x17 s5 fun x18 =>
  hElem 1 x8 x7 fun x19 =>
  hLd1 x19 s5 fun x20 =>
  hElem 1 x8 x7 fun x21 =>
  hSt1 x21 x18 s5 fun s22 =>
  hElem 1 x8 x6 fun x23 =>
  hSt1 x23 x20 s22 fun s24 =>
  hArith Int.add x7 (.int .i64 (.ofNat 1)) fun x26 =>
  hArith Int.sub x6 (.int .i64 (.ofNat 1)) fun x27 =>
  h3 [x27, x26, x8] s24) (
  some (.tuple [], s5))) n [x1, (.int .i64 (.ofNat 0)), p0] st)
set_option maxRecDepth 1000000 in
theorem e140 : b140 = hfun E0 (An0 140) ha140 (List.range 1) Tryz.f140 := by kernel_rfl
/-- strings.TrimLeft -/
def ha141 : HA := (.s .o (.s (.s .o (.c none (.s .o .o) .o)) (.s (.s .o (.c none (.s .o .o) .o)) (.s (.s .o (.s .o (.c none (.s .o .o) .o))) (.s .o .o)))))
def b141 : HBody := fun call n args st =>
  un1 args fun p0 r0 =>
  un1 r0 fun p1 r1 =>
  un0 r1 (
  hStr bEq p0 (.str []) fun x0 =>
  hlet (α := AV → Store → Rs) (fun x1 s2 =>
  hlet (α := AV → Store → Rs) (fun x4 s5 =>
  hPick x0 (.bool true) x4 fun x7 =>
  hIf x7 (
  some (p0, s5)) (
  hLenS p1 fun x10 =>
  hCmpI iEq x10 (.int .i64 (.ofNat 1)) fun x11 =>
  hlet (α := AV → Store → Rs) (fun x12 s13 =>
  hlet (α := AV → Store → Rs) (fun x15 s16 =>
  hlet (α := AV → Store → Rs) (fun x18 s19 =>
  hPick x11 x18 (.bool false) fun x21 =>
  hIf x21 (
  hStrAt p1 (.int .i64 (.ofNat 0)) fun x23 =>
  hCall call (.func (.func 160) [] []) [p0, x23] s19 fun x24 s25 =>
  some (x24, s25)) (
  hCall call (.func (.func 161) [] []) [p1] s19 fun x27 s28 =>
  hExt 0 x27 fun x29 =>
  hExt 1 x27 fun x30 =>
  hNew [(.bool false), (.bool false), (.bool false), (.bool false), (.bool false), (.bool false), (.bool false), (.bool false), (.bool false), (.bool false), (.bool false), (.bool false), (.bool false), (.bool false), (.bool false), (.bool false), (.bool false), (.bool false), (.bool false), (.bool false), (.bool false), (.bool false), (.bool false), (.bool false), (.bool false), (.bool false), (.bool false), (.bool false), (.bool false), (.bool false), (.bool false), (.bool false), (.bool false), (.bool false), (.bool false), (.bool false), (.bool false), (.bool false), (.bool false), (.bool false), (.bool false), (.bool false), (.bool false), (.bool false), (.bool false), (.bool false), (.bool false), (.bool false), (.bool false), (.bool false), (.bool false), (.bool false), (.bool false), (.bool false), (.bool false), (.bool false), (.bool false), (.bool false), (.bool false), (.bool false), (.bool false), (.bool false), (.bool false), (.bool false), (.bool false), (.bool false), (.bool false), (.bool false), (.bool false), (.bool false), (.bool false), (.bool false), (.bool false), (.bool false), (.bool false), (.bool false), (.bool false), (.bool false), (.bool false), (.bool false), (.bool false), (.bool false), (.bool false), (.bool false), (.bool false), (.bool false), (.bool false), (.bool false), (.bool false), (.bool false), (.bool false), (.bool false), (.bool false), (.bool false), (.bool false), (.bool false), (.bool false), (.bool false), (.bool false), (.bool false), (.bool false), (.bool false), (.bool false), (.bool false), (.bool false), (.bool false), (.bool false), (.bool false), (.bool false), (.bool false), (.bool false), (.bool false), (.bool false), (.bool false), (.bool false), (.bool false), (.bool false), (.bool false), (.bool false), (.bool false), (.bool false), (.bool false), (.bool false), (.bool false), (.bool false), (.bool false), (.bool false), (.bool false), (.bool false), (.bool false), (.bool false), (.bool false), (.bool false), (.bool false), (.bool false), (.bool false), (.bool false), (.bool false), (.bool false), (.bool false), (.bool false), (.bool false), (.bool false), (.bool false), (.bool false), (.bool false), (.bool false), (.bool false), (.bool false), (.bool false), (.bool false), (.bool false), (.bool false), (.bool false), (.bool false), (.bool false), (.bool false), (.bool false), (.bool false), (.bool false), (.bool false), (.bool false), (.bool false), (.bool false), (.bool false), (.bool false), (.bool false), (.bool false), (.bool false), (.bool false), (.bool false), (.bool false), (.bool false), (.bool false), (.bool false), (.bool false), (.bool false), (.bool false), (.bool false), (.bool false), (.bool false), (.bool false), (.bool false), (.bool false), (.bool false), (.bool false), (.bool false), (.bool false), (.bool false), (.bool false), (.bool false), (.bool false), (.bool false), (.bool false), (.bool false), (.bool false), (.bool false), (.bool false), (.bool false), (.bool false), (.bool false), (.bool false), (.bool false), (.bool false), (.bool false), (.bool false), (.bool false), (.bool false), (.bool false), (.bool false), (.bool false), (.bool false), (.bool false), (.bool false), (.bool false), (.bool false), (.bool false), (.bool false), (.bool false), (.bool false), (.bool false), (.bool false), (.bool false), (.bool false), (.bool false), (.bool false), (.bool false), (.bool false), (.bool false), (.bool false), (.bool false), (.bool false), (.bool false), (.bool false), (.bool false), (.bool false), (.bool false), (.bool false), (.bool false), (.bool false), (.bool false), (.bool false), (.bool false), (.bool false), (.bool false), (.bool false), (.bool false), (.bool false), (.bool false), (.bool false), (.bool false), (.bool false), (.bool false), (.bool false), (.bool false), (.bool false)] s28 fun x31 s32 =>
  hStN 256 x31 x29 s32 fun s33 =>
  hIf x30 (
  hCall call (.func (.func 162) [] []) [p0, x31] s33 fun x35 s36 =>
  some (x35, s36)) (
  hCall call (.func (.func 163) [] []) [p0, p1] s33 fun x38 s39 =>
  some (x38, s39)))) fun j20 =>
  hWant x11 true (
  hCmpI iLt x15 (.int .u8 (.ofNat 128)) fun x40 =>
  j20 x40 s16) (j20 aundef s16)) fun j17 =>
  hWant x11 true (
  hStrAt x12 (.int .i64 (.ofNat 0)) fun x41 =>
  j17 x41 s13) (j17 aundef s13)) fun j14 =>
  hWant x11 true (
  j14 p1 s5) (j14 aundef s5))) fun j6 =>
  hWant x0 false (
  hStr bEq x1 (.str []) fun x42 =>
  j6 x42 s2) (j6 aundef s2)) fun j3 =>
  hWant x0 false (
  j3 p1 st) (j3 aundef st))
set_option maxRecDepth 1000000 in
theorem e141 : b141 = hfun E0 (An0 141) ha141 (List.range 2) Tryz.f141 := by kernel_rfl
/-- internal/stringslite.CutPrefix -/
def ha142 : HA := (.s .o (.s (.s .o (.c none (.s .o .o) .o)) (.s .o .o)))
def b142 : HBody := fun call n args st =>
  un1 args fun p0 r0 =>
  un1 r0 fun p1 r1 =>
  un0 r1 (
  hCall call (.func (.func 164) [] []) [p0, p1] st fun x0 s1 =>
  hNot x0 fun x2 =>
  hIf x2 (
  some (.tuple [p0, (.bool false)], s1)) (
  hLenS p1 fun x5 =>
  hSlS p0 (some x5) none fun x6 =>
  some (.tuple [x6, (.bool true)], s1)))
set_option maxRecDepth 1000000 in
theorem e142 : b142 = hfun E0 (An0 142) ha142 (List.range 2) Tryz.f142 := by kernel_rfl
/-- strings.Trim -/
def ha143 : HA := (.s .o (.s (.s .o (.c none (.s .o .o) .o)) (.s (.s .o (.c none (.s .o .o) .o)) (.s (.s .o (.s .o (.c none (.s .o .o) .o))) (.s .o .o)))))
def b143 : HBody := fun call n args st =>
  un1 args fun p0 r0 =>
  un1 r0 fun p1 r1 =>
  un0 r1 (
  hStr bEq p0 (.str []) fun x0 =>
  hlet (α := AV → Store → Rs) (fun x1 s2 =>
  hlet (α := AV → Store → Rs) (fun x4 s5 =>
  hPick x0 (.bool true) x4 fun x7 =>
  hIf x7 (
  some (p0, s5)) (
  hLenS p1 fun x10 =>
  hCmpI iEq x10 (.int .i64 (.ofNat 1)) fun x11 =>
  hlet (α := AV → Store → Rs) (fun x12 s13 =>
  hlet (α := AV → Store → Rs) (fun x15 s16 =>
  hlet (α := AV → Store → Rs) (fun x18 s19 =>
  hPick x11 x18 (.bool false) fun x21 =>
  hIf x21 (
  hStrAt p1 (.int .i64 (.ofNat 0)) fun x23 =>
  hCall call (.func (.func 165) [] []) [p0, x23] s19 fun x24 s25 =>
  hStrAt p1 (.int .i64 (.ofNat 0)) fun x26 =>
  hCall call (.func (.func 160) [] []) [x24, x26] s25 fun x27 s28 =>
  some (x27, s28)) (
  hCall call (.func (.func 161) [] []) [p1] s19 fun x30 s31 =>
  hExt 0 x30 fun x32 =>
  hExt 1 x30 fun x33 =>
  hNew [(.bool false), (.bool false), (.bool false), (.bool false), (.bool false), (.bool false), (.bool false), (.bool false), (.bool false), (.bool false), (.bool false), (.bool false), (.bool false), (.bool false), (.bool false), (.bool false), (.bool false), (.bool false), (.bool false), (.bool false), (.bool false), (.bool false), (.bool false), (.bool false), (.bool false), (.bool false), (.bool false), (.bool false), (.bool false), (.bool false), (.bool false), (.bool false), (.bool false), (.bool false), (.bool false), (.bool false), (.bool false), (.bool false), (.bool false), (.bool false), (.bool false), (.bool false), (.bool false), (.bool false), (.bool false), (.bool false), (.bool false), (.bool false), (.bool false), (.bool false), (.bool false), (.bool false), (.bool false), (.bool false), (.bool false), (.bool false), (.bool false), (.bool false), (.bool false), (.bool false), (.bool false), (.bool false), (.bool false), (.bool false), (.bool false), (.bool false), (.bool false), (.bool false), (.bool false), (.bool false), (.bool false), (.bool false), (.bool false), (.bool false), (.bool false), (.bool false), (.bool false), (.bool false), (.bool false), (.bool false), (.bool false), (.bool false), (.bool false), (.bool false), (.bool false), (.bool false), (.bool false), (.bool false), (.bool false), (.bool false), (.bool false), (.bool false), (.bool false), (.bool false), (.bool false), (.bool false), (.bool false), (.bool false), (.bool false), (.bool false), (.bool false), (.bool false), (.bool false), (.bool false), (.bool false), (.bool false), (.bool false), (.bool false), (.bool false), (.bool false), (.bool false), (.bool false), (.bool false), (.bool false), (.bool false), (.bool false), (.bool false), (.bool false), (.bool false), (.bool false), (.bool false), (.bool false), (.bool false), (.bool false), (.bool false), (.bool false), (.bool false), (.bool false), (.bool false), (.bool false), (.bool false), (.bool false), (.bool false), (.bool false), (.bool false), (.bool false), (.bool false), (.bool false), (.bool false), (.bool false), (.bool false), (.bool false), (.bool false), (.bool false), (.bool false), (.bool false), (.bool false), (.bool false), (.bool false), (.bool false), (.bool false), (.bool false), (.bool false), (.bool false), (.bool false), (.bool false), (.bool false), (.bool false), (.bool false), (.bool false), (.bool false), (.bool false), (.bool false), (.bool false), (.bool false), (.bool false), (.bool false), (.bool false), (.bool false), (.bool false), (.bool false), (.bool false), (.bool false), (.bool false), (.bool false), (.bool false), (.bool false), (.bool false), (.bool false), (.bool false), (.bool false), (.bool false), (.bool false), (.bool false), (.bool false), (.bool false), (.bool false), (.bool false), (.bool false), (.bool false), (.bool false), (.bool false), (.bool false), (.bool false), (.bool false), (.bool false), (.bool false), (.bool false), (.bool false), (.bool false), (.bool false), (.bool false), (.bool false), (.bool false), (.bool false), (.bool false), (.bool false), (.bool false), (.bool false), (.bool false), (.bool false), (.bool false), (.bool false), (.bool false), (.bool false), (.bool false), (.bool false), (.bool false), (.bool false), (.bool false), (.bool false), (.bool false), (.bool false), (.bool false), (.bool false), (.bool false), (.bool false), (.bool false), (.bool false), (.bool false), (.bool false), (.bool false), (.bool false), (.bool false), (.bool false), (.bool false), (.bool false), (.bool false), (.bool false), (.bool false), (.bool false), (.bool false), (.bool false), (.bool false), (.bool false), (.bool false), (.bool false), (.bool false), (.bool false), (.bool false), (.bool false), (.bool false), (.bool false), (.bool false), (.bool false), (.bool false)] s31 fun x34 s35 =>
  hStN 256 x34 x32 s35 fun s36 =>
  hIf x33 (
  hCall call (.func (.func 166) [] []) [p0, x34] s36 fun x38 s39 =>
  hCall call (.func (.func 162) [] []) [x38, x34] s39 fun x40 s41 =>
  some (x40, s41)) (
  hCall call (.func (.func 167) [] []) [p0, p1] s36 fun x43 s44 =>
  hCall call (.func (.func 163) [] []) [x43, p1] s44 fun x45 s46 =>
  some (x45, s46)))) fun j20 =>
  hWant x11 true (
  hCmpI iLt x15 (.int .u8 (.ofNat 128)) fun x47 =>
  j20 x47 s16) (j20 aundef s16)) fun j17 =>
  hWant x11 true (
  hStrAt x12 (.int .i64 (.ofNat 0)) fun x48 =>
  j17 x48 s13) (j17 aundef s13)) fun j14 =>
  hWant x11 true (
  j14 p1 s5) (j14 aundef s5))) fun j6 =>
  hWant x0 false (
  hStr bEq x1 (.str []) fun x49 =>
  j6 x49 s2) (j6 aundef s2)) fun j3 =>
  hWant x0 false (
  j3 p1 st) (j3 aundef st))
set_option maxRecDepth 1000000 in
theorem e143 : b143 = hfun E0 (An0 143) ha143 (List.range 2) Tryz.f143 := by kernel_rfl
/-- litmus/nat.by -/
def ha144 : HA := (.s .o (.s .o (.s (.s .o (.b none (.l ⟨[12, 7, 1, 2, 10, 11], [], []⟩ (.s .o (.s (.c none .o .o) (.s (.b none (.s .o (.s .o (.s .o .o)))) .o)))))) (.s .o .o))))
def b144 : HBody := fun call n args st =>
  un1 args fun p0 r0 =>
  un1 r0 fun p1 r1 =>
  un1 r1 fun p2 r2 =>
  un0 r2 (
  hLenR p0 fun x0 =>
  hloop (fun h2 v3 s4 =>
  un1 v3 fun x5 v11 =>
  un1 v11 fun x6 v12 =>
  un1 v12 fun x7 v13 =>
  un1 v13 fun x8 v14 =>
  un1 v14 fun x9 v15 =>
  un1 v15 fun x10 v16 =>
  hCmpI iLt x5 x10 fun x17 =>
  hIf x17 (
  hElem 1 x9 x5 fun x22 =>
  hLd1 x22 s4 fun x23 =>
  hConvI .u64 x23 fun x24 =>
  hArith Int.mul x7 x24 fun x25 =>
  hArith Int.add x8 x25 fun x26 =>
  hVal (aBinC E0.L 165 .and true x26 (.int .u64 (.ofNat 4294967295)) s4) fun x27 s28 =>
  hConvI .u32 x27 fun x29 =>
  hVal (aBuildSlice E0.L 0 52 1 [0] [x29] s28) fun x30 s31 =>
  hValF (aAppend E0.L 0 52 52 [.val x6, .val x30] s31) fun x32 s33 =>
  hVal (aBinC E0.L 165 .shr true x26 (.int .u64 (.ofNat 32)) s33) fun x34 s35 =>
  hArith Int.add x5 (.int .i64 (.ofNat 1)) fun x37 =>
  h2 [x37, x32, x7, x34, x9, x10] s35) (
  hConvI .u32 x8 fun x38 =>
  hVal (aBuildSlice E0.L 0 52 1 [0] [x38] s4) fun x39 s40 =>
  hValF (aAppend E0.L 0 52 52 [.val x6, .val x39] s40) fun x41 s42 =>
  some (x41, s42))) n [(.int .i64 (.ofNat 0)), .nils, p1, p2, p0, x0] st)
set_option maxRecDepth 1000000 in
theorem e144 : b144 = hfun E0 (An0 144) ha144 (List.range 3) Tryz.f144 := by kernel_rfl
/-- litmus/lex.cutLeft -/
def ha148 : HA := (.s .o (.s (.s .o (.b none (.l ⟨[0, 1, 11], [], []⟩ (.s .o (.s (.c none .o .o) (.b none (.s .o (.s .o (.s (.s .o (.b none (.l ⟨[6, 7, 11, 1, 0, 5, 17], [], []⟩ (.s .o (.s (.c none .o .o) (.b none (.s .o .o))))))) (.s .o (.c none (.s .o .o) .o))))))))))) (.s .o .o)))
def b148 : HBody := fun call n args st =>
  un1 args fun p0 r0 =>
  un1 r0 fun p1 r1 =>
  un0 r1 (
  hVal (aRange E0.L 9 [.val p0] st) fun x0 s1 =>
  hloop (fun h3 v4 s5 =>
  un1 v4 fun x6 v9 =>
  un1 v9 fun x7 v10 =>
  un1 v10 fun x8 v11 =>
  hVal (aNext [.val x8] s5) fun x12 s13 =>
  hExt 0 x12 fun x14 =>
  hIf x14 (
  hExt 1 x12 fun x19 =>
  hExt 2 x12 fun x20 =>
  hVal (aRange E0.L 9 [.val x7] s13) fun x21 s22 =>
  hloop (fun h24 v25 s26 =>
  un1 v25 fun x27 v34 =>
  un1 v34 fun x28 v35 =>
  un1 v35 fun x29 v36 =>
  un1 v36 fun x30 v37 =>
  un1 v37 fun x31 v38 =>
  un1 v38 fun x32 v39 =>
  un1 v39 fun x33 v40 =>
  hVal (aNext [.val x33] s26) fun x41 s42 =>
  hExt 0 x41 fun x43 =>
  hIf x43 (
  hExt 2 x41 fun x48 =>
  hlet (α := AV → Store → Rs) (fun x49 s50 =>
  hlet (α := AV → Store → Rs) (fun x52 s53 =>
  hlet (α := AV → Store → Rs) (fun x55 s56 =>
  hPick x28 (.bool true) x55 fun x58 =>
  h24 [x27, x58, x29, x30, x31, x32, x33] s56) fun j57 =>
  hWant x28 false (
  hCmpI iEq x49 x52 fun x60 =>
  j57 x60 s53) (j57 aundef s53)) fun j54 =>
  hWant x28 false (
  j54 x48 s50) (j54 aundef s50)) fun j51 =>
  hWant x28 false (
  j51 x27 s42) (j51 aundef s42)) (
  hNot x28 fun x61 =>
  hIf x61 (
  hSlS x31 (some x32) none fun x63 =>
  some (x63, s42)) (
  h3 [x31, x30, x29] s42))) n [x20, (.bool false), x8, x7, x6, x19, x21] s22) (
  some ((.str []), s13))) n [p0, p1, x0] s1)
set_option maxRecDepth 1000000 in
theorem e148 : b148 = hfun E0 (An0 148) ha148 (List.range 2) Tryz.f148 := by kernel_rfl
/-- internal/stringslite.Cut -/
def ha149 : HA := (.s .o (.s (.s .o (.s .o (.c none (.s .o .o) .o))) (.s .o .o)))
def b149 : HBody := fun call n args st =>
  un1 args fun p0 r0 =>
  un1 r0 fun p1 r1 =>
  un0 r1 (
  hCall call (.func (.func 168) [] []) [p0, p1] st fun x0 s1 =>
  hCmpI (fun x y => !(iLt x y)) x0 (.int .i64 (.ofNat 0)) fun x2 =>
  hIf x2 (
  hSlS p0 none (some x0) fun x4 =>
  hLenS p1 fun x5 =>
  hArith Int.add x0 x5 fun x6 =>
  hSlS p0 (some x6) none fun x7 =>
  some (.tuple [x4, x7, (.bool true)], s1)) (
  some (.tuple [p0, (.str []), (.bool false)], s1)))
set_option maxRecDepth 1000000 in
theorem e149 : b149 = hfun E0 (An0 149) ha149 (List.range 2) Tryz.f149 := by kernel_rfl
/-- litmus/lex.kinds -/
def ha150 : HA := (.s .o (.s .o (.s .o (.s .o .o))))
def b150 : HBody := fun call n args st =>
  un0 args (
  hCall call (.func (.func 171) [] []) [(.int .i64 (.ofNat 0)), (.str [40])] st fun x0 s1 =>
  hCall call (.func (.func 171) [] []) [(.int .i64 (.ofNat 1)), (.str [41])] s1 fun x2 s3 =>
  hCall call (.func (.func 169) [] []) [(.int .i64 (.ofNat 2)), (.func (.func 175) [] [])] s3 fun x4 s5 =>
  hCall call (.func (.func 169) [] []) [(.int .i64 (.ofNat 4)), (.func (.func 178) [] [])] s5 fun x6 s7 =>
  hCall call (.func (.func 169) [] []) [(.int .i64 (.ofNat 5)), (.func (.func 179) [] [])] s7 fun x8 s9 =>
  hVal (aBuildSlice E0.L 0 175 6 [0, 1, 2, 3, 4, 5] [x0, x2, (.func (.func 173) [] []), x4, x6, x8] s9) fun x10 s11 =>
  some (x10, s11))
set_option maxRecDepth 1000000 in
theorem e150 : b150 = hfun E0 (An0 150) ha150 (List.range 0) Tryz.f150 := by kernel_rfl
/-- strings.Contains -/
def ha151 : HA := (.s .o (.s .o .o))
def b151 : HBody := fun call n args st =>
  un1 args fun p0 r0 =>
  un1 r0 fun p1 r1 =>
  un0 r1 (
  hCall call (.func (.func 183) [] []) [p0, p1] st fun x0 s1 =>
  hCmpI (fun x y => !(iLt x y)) x0 (.int .i64 (.ofNat 0)) fun x2 =>
  some (x2, s1))
set_option maxRecDepth 1000000 in
theorem e151 : b151 = hfun E0 (An0 151) ha151 (List.range 2) Tryz.f151 := by kernel_rfl
/-- slices.Reverse[[]string,string] -/
def ha153 : HA := (.s .o (.b none (.l ⟨[3, 2, 0], [], []⟩ (.s (.s .o (.c none .o .o)) (.s (.b none .o) .o)))))
def b153 : HBody := fun call n args st =>
  un1 args fun p0 r0 =>
  un0 r0 (
  hLenR p0 fun x0 =>
  hArith Int.sub x0 (.int .i64 (.ofNat 1)) fun x1 =>
  hloop (fun h3 v4 s5 =>
  un1 v4 fun x6 v9 =>
  un1 v9 fun x7 v10 =>
  un1 v10 fun x8 v11 =>
  hCmpI iLt x7 x6 fun x12 =>
  hIf x12 (
  hElem 1 x8 x6 fun x17 =>
  hLd1 x17 s5 fun x18 =>
  hElem 1 x8 x7 fun x19 =>
  hLd1 x19 s5 fun x20 =>
  hElem 1 x8 x7 fun x21 =>
  hSt1 x21 x18 s5 fun s22 =>
  hElem 1 x8 x6 fun x23 =>
  hSt1 x23 x20 s22 fun s24 =>
  hArith Int.add x7 (.int .i64 (.ofNat 1)) fun x26 =>
  hArith Int.sub x6 (.int .i64 (.ofNat 1)) fun x27 =>
  h3 [x27, x26, x8] s24) (
  some (.tuple [], s5))) n [x1, (.int .i64 (.ofNat 0)), p0] st)
set_option maxRecDepth 1000000 in
theorem e153 : b153 = hfun E0 (An0 153) ha153 (List.range 1) Tryz.f153 := by kernel_rfl
/-- slices.Reverse[[]litmus/api.Value,litmus/api.Value] -/
def ha154 : HA := (.s .o (.b none (.l ⟨[3, 2, 0], [], []⟩ (.s (.s .o (.c none .o .o)) (.s (.b none .o) .o)))))
def b154 : HBody := fun call n args st =>
  un1 args fun p0 r0 =>
  un0 r0 (
  hLenR p0 fun x0 =>
  hArith Int.sub x0 (.int .i64 (.ofNat 1)) fun x1 =>
  hloop (fun h3 v4 s5 =>
  un1 v4 fun x6 v9 =>
  un1 v9 fun x7 v10 =>
  un1 v10 fun x8 v11 =>
  hCmpI iLt x7 x6 fun x12 =>
  hIf x12 (
  hElem 7 x8 x6 fun x17 =>
  hLdN 7 x17 s5 fun x18 =>
  hElem 7 x8 x7 fun x19 =>
  hLdN 7 x19 s5 fun x20 =>
  hElem 7 x8 x7 fun x21 =>
  hStN 7 x21 x18 s5 fun s22 =>
  hElem 7 x8 x6 fun x23 =>
  hStN 7 x23 x20 s22 fun s24 =>
  hArith Int.add x7 (.int .i64 (.ofNat 1)) fun x26 =>
  hArith Int.sub x6 (.int .i64 (.ofNat 1)) fun x27 =>
  h3 [x27, x26, x8] s24) (
  some (.tuple [], s5))) n [x1, (.int .i64 (.ofNat 0)), p0] st)
set_option maxRecDepth 1000000 in
theorem e154 : b154 = hfun E0 (An0 154) ha154 (List.range 1) Tryz.f154 := by kernel_rfl
/-- slices.Clone[[]uint32,uint32] -/
def ha155 : HA := (.s .o (.s (.s .o (.c none (.s .o .o) .o)) (.s .o .o)))
def b155 : HBody := fun call n args st =>
  un1 args fun p0 r0 =>
  un0 r0 (
  hVal (aBinC E0.L 52 .eql true p0 .nils st) fun x0 s1 =>
  hIf x0 (
  some (.nils, s1)) (
  hVal (aBuildSlice E0.L 0 52 0 [] [] s1) fun x4 s5 =>
  hValF (aAppend E0.L 0 52 52 [.val x4, .val p0] s5) fun x6 s7 =>
  some (x6, s7)))
set_option maxRecDepth 1000000 in
theorem e155 : b155 = hfun E0 (An0 155) ha155 (List.range 1) Tryz.f155 := by kernel_rfl
/-- internal/strconv.small -/
def ha156 : HA := (.s .o (.s (.s .o (.c none (.s .o .o) .o)) (.s .o .o)))
def b156 : HBody := fun call n args st =>
  un1 args fun p0 r0 =>
  un0 r0 (
  hCmpI iLt p0 (.int .i64 (.ofNat 10)) fun x0 =>
  hIf x0 (
  hArith Int.add p0 (.int .i64 (.ofNat 1)) fun x2 =>
  hSlS (.str [48, 49, 50, 51, 52, 53, 54, 55, 56, 57, 97, 98, 99, 100, 101, 102, 103, 104, 105, 106, 107, 108, 109, 110, 111, 112, 113, 114, 115, 116, 117, 118, 119, 120, 121, 122]) (some p0) (some x2) fun x3 =>
  some (x3, st)) (
  hArith Int.mul p0 (.int .i64 (.ofNat 2)) fun x5 =>
  hArith Int.mul p0 (.int .i64 (.ofNat 2)) fun x6 =>
  hArith Int.add x6 (.int .i64 (.ofNat 2)) fun x7 =>
  hSlS (.str [48, 48, 48, 49, 48, 50, 48, 51, 48, 52, 48, 53, 48, 54, 48, 55, 48, 56, 48, 57, 49, 48, 49, 49, 49, 50, 49, 51, 49, 52, 49, 53, 49, 54, 49, 55, 49, 56, 49, 57, 50, 48, 50, 49, 50, 50, 50, 51, 50, 52, 50, 53, 50, 54, 50, 55, 50, 56, 50, 57, 51, 48, 51, 49, 51, 50, 51, 51, 51, 52, 51, 53, 51, 54, 51, 55, 51, 56, 51, 57, 52, 48, 52, 49, 52, 50, 52, 51, 52, 52, 52, 53, 52, 54, 52, 55, 52, 56, 52, 57, 53, 48, 53, 49, 53, 50, 53, 51, 53, 52, 53, 53, 53, 54, 53, 55, 53, 56, 53, 57, 54, 48, 54, 49, 54, 50, 54, 51, 54, 52, 54, 53, 54, 54, 54, 55, 54, 56, 54, 57, 55, 48, 55, 49, 55, 50, 55, 51, 55, 52, 55, 53, 55, 54, 55, 55, 55, 56, 55, 57, 56, 48, 56, 49, 56, 50, 56, 51, 56, 52, 56, 53, 56, 54, 56, 55, 56, 56, 56, 57, 57, 48, 57, 49, 57, 50, 57, 51, 57, 52, 57, 53, 57, 54, 57, 55, 57, 56, 57, 57]) (some x5) (some x7) fun x8 =>
  some (x8, st)))
set_option maxRecDepth 1000000 in
theorem e156 : b156 = hfun E0 (An0 156) ha156 (List.range 1) Tryz.f156 := by kernel_rfl
/-- strings.trimLeftByte -/
def ha160 : HA := (.s .o (.s (.b none (.l ⟨[0, 1], [], []⟩ (.s (.s .o (.c none .o .o)) (.b none .o)))) (.s .o .o)))
def b160 : HBody := fun call n args st =>
  un1 args fun p0 r0 =>
  un1 r0 fun p1 r1 =>
  un0 r1 (
  hloop (fun h1 v2 s3 =>
  un1 v2 fun x4 v6 =>
  un1 v6 fun x5 v7 =>
  hLenS x4 fun x8 =>
  hCmpI (fun x y => iLt y x) x8 (.int .i64 (.ofNat 0)) fun x9 =>
  hlet (α := AV → Store → Rs) (fun x10 s11 =>
  hlet (α := AV → Store → Rs) (fun x13 s14 =>
  hlet (α := AV → Store → Rs) (fun x16 s17 =>
  hlet (α := AV → Store → Rs) (fun x19 s20 =>
  hPick x9 x19 (.bool false) fun x22 =>
  hIf x22 (
  hSlS x4 (some (.int .i64 (.ofNat 1))) none fun x27 =>
  h1 [x27, x5] s20) (
  some (x4, s20))) fun j21 =>
  hWant x9 true (
  hCmpI iEq x13 x16 fun x29 =>
  j21 x29 s17) (j21 aundef s17)) fun j18 =>
  hWant x9 true (
  j18 x5 s14) (j18 aundef s14)) fun j15 =>
  hWant x9 true (
  hStrAt x10 (.int .i64 (.ofNat 0)) fun x30 =>
  j15 x30 s11) (j15 aundef s11)) fun j12 =>
  hWant x9 true (
  j12 x4 s3) (j12 aundef s3)) n [p0, p1] st)
set_option maxRecDepth 1000000 in
theorem e160 : b160 = hfun E0 (An0 160) ha160 (List.range 2) Tryz.f160 := by kernel_rfl
/-- strings.makeASCIISet -/
def ha161 : HA := (.s .o (.s (.s .o (.b none (.l ⟨[4, 0], [2], [2]⟩ (.s (.s .o (.c none .o .o)) (.s (.b none (.s .o (.s (.s .o (.c none (.s .o .o) .o)) .o))) .o))))) (.s .o .o)))
def b161 : HBody := fun call n args st =>
  un1 args fun p0 r0 =>
  un0 r0 (
  hloop (fun h1 v2 s3 =>
  un1 v2 fun a7 v8 =>
  unAgg a7 fun c4 =>
  un1 v8 fun x5 v9 =>
  un1 v9 fun x6 v10 =>
  hLenS x6 fun x11 =>
  hCmpI iLt x5 x11 fun x12 =>
  hIf x12 (
  hStrAt x6 x5 fun x17 =>
  hCmpI (fun x y => !(iLt x y)) x17 (.int .u8 (.ofNat 128)) fun x18 =>
  hIf x18 (
  hLocN 256 c4 0 fun x20 =>
  hStLN 256 c4 0 x20 fun c21 =>
  hLocN 256 c21 0 fun x22 =>
  some (.tuple [x22, (.bool false)], s3)) (
  hIdx x17 256 fun i24 =>
  hStL1 c4 (0 + (i24 * 1)) (.bool true) fun c25 =>
  hArith Int.add x5 (.int .i64 (.ofNat 1)) fun x27 =>
  h1 [.agg c25, x27, x6] s3)) (
  hLocN 256 c4 0 fun x28 =>
  hStLN 256 c4 0 x28 fun c29 =>
  hLocN 256 c29 0 fun x30 =>
  some (.tuple [x30, (.bool true)], s3))) n [.agg [(.bool false), (.bool false), (.bool false), (.bool false), (.bool false), (.bool false), (.bool false), (.bool false), (.bool false), (.bool false), (.bool false), (.bool false), (.bool false), (.bool false), (.bool false), (.bool false), (.bool false), (.bool false), (.bool false), (.bool false), (.bool false), (.bool false), (.bool false), (.bool false), (.bool false), (.bool false), (.bool false), (.bool false), (.bool false), (.bool false), (.bool false), (.bool false), (.bool false), (.bool false), (.bool false), (.bool false), (.bool false), (.bool false), (.bool false), (.bool false), (.bool false), (.bool false), (.bool false), (.bool false), (.bool false), (.bool false), (.bool false), (.bool false), (.bool false), (.bool false), (.bool false), (.bool false), (.bool false), (.bool false), (.bool false), (.bool false), (.bool false), (.bool false), (.bool false), (.bool false), (.bool false), (.bool false), (.bool false), (.bool false), (.bool false), (.bool false), (.bool false), (.bool false), (.bool false), (.bool false), (.bool false), (.bool false), (.bool false), (.bool false), (.bool false), (.bool false), (.bool false), (.bool false), (.bool false), (.bool false), (.bool false), (.bool false), (.bool false), (.bool false), (.bool false), (.bool false), (.bool false), (.bool false), (.bool false), (.bool false), (.bool false), (.bool false), (.bool false), (.bool false), (.bool false), (.bool false), (.bool false), (.bool false), (.bool false), (.bool false), (.bool false), (.bool false), (.bool false), (.bool false), (.bool false), (.bool false), (.bool false), (.bool false), (.bool false), (.bool false), (.bool false), (.bool false), (.bool false), (.bool false), (.bool false), (.bool false), (.bool false), (.bool false), (.bool false), (.bool false), (.bool false), (.bool false), (.bool false), (.bool false), (.bool false), (.bool false), (.bool false), (.bool false), (.bool false), (.bool false), (.bool false), (.bool false), (.bool false), (.bool false), (.bool false), (.bool false), (.bool false), (.bool false), (.bool false), (.bool false), (.bool false), (.bool false), (.bool false), (.bool false), (.bool false), (.bool false), (.bool false), (.bool false), (.bool false), (.bool false), (.bool false), (.bool false), (.bool false), (.bool false), (.bool false), (.bool false), (.bool false), (.bool false), (.bool false), (.bool false), (.bool false), (.bool false), (.bool false), (.bool false), (.bool false), (.bool false), (.bool false), (.bool false), (.bool false), (.bool false), (.bool false), (.bool false), (.bool false), (.bool false), (.bool false), (.bool false), (.bool false), (.bool false), (.bool false), (.bool false), (.bool false), (.bool false), (.bool false), (.bool false), (.bool false), (.bool false), (.bool false), (.bool false), (.bool false), (.bool false), (.bool false), (.bool false), (.bool false), (.bool false), (.bool false), (.bool false), (.bool false), (.bool false), (.bool false), (.bool false), (.bool false), (.bool false), (.bool false), (.bool false), (.bool false), (.bool false), (.bool false), (.bool false), (.bool false), (.bool false), (.bool false), (.bool false), (.bool false), (.bool false), (.bool false), (.bool false), (.bool false), (.bool false), (.bool false), (.bool false), (.bool false), (.bool false), (.bool false), (.bool false), (.bool false), (.bool false), (.bool false), (.bool false), (.bool false), (.bool false), (.bool false), (.bool false), (.bool false), (.bool false), (.bool false), (.bool false), (.bool false), (.bool false), (.bool false), (.bool false), (.bool false), (.bool false), (.bool false), (.bool false), (.bool false), (.bool false), (.bool false), (.bool false), (.bool false), (.bool false), (.bool false), (.bool false), (.bool false), (.bool false), (.bool false), (.bool false)], (.int .i64 (.ofNat 0)), p0] st)
set_option maxRecDepth 1000000 in
theorem e161 : b161 = hfun E0 (An0 161) ha161 (List.range 1) Tryz.f161 := by kernel_rfl
/-- strings.trimLeftASCII -/
def ha162 : HA := (.s .o (.s (.b (some ⟨[0], [], []⟩) (.l ⟨[0, 1], [], []⟩ (.s (.s .o (.c none .o .o)) (.b none (.s (.s .o (.c none .o .o)) .o))))) (.s .o .o)))
def b162 : HBody := fun call n args st =>
  un1 args fun p0 r0 =>
  un1 r0 fun p1 r1 =>
  un0 r1 (
  hlet (α := List AV → Store → Rs) (fun v24 s25 =>
  un1 v24 fun x26 v27 =>
  some (x26, s25)) fun j23 =>
  hloop (fun h1 v2 s3 =>
  un1 v2 fun x4 v6 =>
  un1 v6 fun x5 v7 =>
  hLenS x4 fun x8 =>
  hCmpI (fun x y => iLt y x) x8 (.int .i64 (.ofNat 0)) fun x9 =>
  hIf x9 (
  hStrAt x4 (.int .i64 (.ofNat 0)) fun x14 =>
  hCall call (.func (.func 189) [] []) [x5, x14] s3 fun x15 s16 =>
  hNot x15 fun x17 =>
  hIf x17 (
  j23 [x4] s16) (
  hSlS x4 (some (.int .i64 (.ofNat 1))) none fun x21 =>
  h1 [x21, x5] s16)) (
  j23 [x4] s3)) n [p0, p1] st)
set_option maxRecDepth 1000000 in
theorem e162 : b162 = hfun E0 (An0 162) ha162 (List.range 2) Tryz.f162 := by kernel_rfl
/-- strings.trimLeftUnicode -/
def ha163 : HA := (.s .o (.s (.b (some ⟨[0], [], []⟩) (.l ⟨[0, 1], [], []⟩ (.s (.s .o (.c none .o .o)) (.b none (.s .o (.s (.s .o (.c none .o .o)) .o)))))) (.s .o .o)))
def b163 : HBody := fun call n args st =>
  un1 args fun p0 r0 =>
  un1 r0 fun p1 r1 =>
  un0 r1 (
  hlet (α := List AV → Store → Rs) (fun v27 s28 =>
  un1 v27 fun x29 v30 =>
  some (x29, s28)) fun j26 =>
  hloop (fun h1 v2 s3 =>
  un1 v2 fun x4 v6 =>
  un1 v6 fun x5 v7 =>
  hLenS x4 fun x8 =>
  hCmpI (fun x y => iLt y x) x8 (.int .i64 (.ofNat 0)) fun x9 =>
  hIf x9 (
  hCall call (.func (.func 190) [] []) [x4] s3 fun x14 s15 =>
  hExt 0 x14 fun x16 =>
  hExt 1 x14 fun x17 =>
  hCall call (.func (.func 191) [] []) [x5, x16] s15 fun x18 s19 =>
  hNot x18 fun x20 =>
  hIf x20 (
  j26 [x4] s19) (
  hSlS x4 (some x17) none fun x24 =>
  h1 [x24, x5] s19)) (
  j26 [x4] s3)) n [p0, p1] st)
set_option maxRecDepth 1000000 in
theorem e163 : b163 = hfun E0 (An0 163) ha163 (List.range 2) Tryz.f163 := by kernel_rfl
/-- internal/stringslite.HasPrefix -/
def ha164 : HA := (.s .o (.s .o .o))
def b164 : HBody := fun call n args st =>
  un1 args fun p0 r0 =>
  un1 r0 fun p1 r1 =>
  un0 r1 (
  hLenS p0 fun x0 =>
  hLenS p1 fun x1 =>
  hCmpI (fun x y => !(iLt x y)) x0 x1 fun x2 =>
  hlet (α := AV → Store → Rs) (fun x3 s4 =>
  hlet (α := AV → Store → Rs) (fun x6 s7 =>
  hlet (α := AV → Store → Rs) (fun x9 s10 =>
  hlet (α := AV → Store → Rs) (fun x12 s13 =>
  hlet (α := AV → Store → Rs) (fun x15 s16 =>
  hlet (α := AV → Store → Rs) (fun x18 s19 =>
  hPick x2 x18 (.bool false) fun x21 =>
  some (x21, s19)) fun j20 =>
  hWant x2 true (
  hStr bEq x12 x15 fun x22 =>
  j20 x22 s16) (j20 aundef s16)) fun j17 =>
  hWant x2 true (
  j17 p1 s13) (j17 aundef s13)) fun j14 =>
  hWant x2 true (
  hSlS x3 none (some x9) fun x23 =>
  j14 x23 s10) (j14 aundef s10)) fun j11 =>
  hWant x2 true (
  hLenS x6 fun x24 =>
  j11 x24 s7) (j11 aundef s7)) fun j8 =>
  hWant x2 true (
  j8 p1 s4) (j8 aundef s4)) fun j5 =>
  hWant x2 true (
  j5 p0 st) (j5 aundef st))
set_option maxRecDepth 1000000 in
theorem e164 : b164 = hfun E0 (An0 164) ha164 (List.range 2) Tryz.f164 := by kernel_rfl
/-- strings.trimRightByte -/
def ha165 : HA := (.s .o (.s (.b none (.l ⟨[0, 1], [], []⟩ (.s (.s .o (.c none .o .o)) (.b none .o)))) (.s .o .o)))
def b165 : HBody := fun call n args st =>
  un1 args fun p0 r0 =>
  un1 r0 fun p1 r1 =>
  un0 r1 (
  hloop (fun h1 v2 s3 =>
  un1 v2 fun x4 v6 =>
  un1 v6 fun x5 v7 =>
  hLenS x4 fun x8 =>
  hCmpI (fun x y => iLt y x) x8 (.int .i64 (.ofNat 0)) fun x9 =>
  hlet (α := AV → Store → Rs) (fun x10 s11 =>
  hlet (α := AV → Store → Rs) (fun x13 s14 =>
  hlet (α := AV → Store → Rs) (fun x16 s17 =>
  hlet (α := AV → Store → Rs) (fun x19 s20 =>
  hlet (α := AV → Store → Rs) (fun x22 s23 =>
  hlet (α := AV → Store → Rs) (fun x25 s26 =>
  hlet (α := AV → Store → Rs) (fun x28 s29 =>
  hPick x9 x28 (.bool false) fun x31 =>
  hIf x31 (
  hLenS x4 fun x36 =>
  hArith Int.sub x36 (.int .i64 (.ofNat 1)) fun x37 =>
  hSlS x4 none (some x37) fun x38 =>
  h1 [x38, x5] s29) (
  some (x4, s29))) fun j30 =>
  hWant x9 true (
  hCmpI iEq x22 x25 fun x40 =>
  j30 x40 s26) (j30 aundef s26)) fun j27 =>
  hWant x9 true (
  j27 x5 s23) (j27 aundef s23)) fun j24 =>
  hWant x9 true (
  hStrAt x10 x19 fun x41 =>
  j24 x41 s20) (j24 aundef s20)) fun j21 =>
  hWant x9 true (
  hArith Int.sub x16 (.int .i64 (.ofNat 1)) fun x42 =>
  j21 x42 s17) (j21 aundef s17)) fun j18 =>
  hWant x9 true (
  hLenS x13 fun x43 =>
  j18 x43 s14) (j18 aundef s14)) fun j15 =>
  hWant x9 true (
  j15 x4 s11) (j15 aundef s11)) fun j12 =>
  hWant x9 true (
  j12 x4 s3) (j12 aundef s3)) n [p0, p1] st)
set_option maxRecDepth 1000000 in
theorem e165 : b165 = hfun E0 (An0 165) ha165 (List.range 2) Tryz.f165 := by kernel_rfl
/-- strings.trimRightASCII -/
def ha166 : HA := (.s .o (.s (.b (some ⟨[0], [], []⟩) (.l ⟨[0, 1], [], []⟩ (.s (.s .o (.c none .o .o)) (.b none (.s (.s .o (.c none .o .o)) .o))))) (.s .o .o)))
def b166 : HBody := fun call n args st =>
  un1 args fun p0 r0 =>
  un1 r0 fun p1 r1 =>
  un0 r1 (
  hlet (α := List AV → Store → Rs) (fun v28 s29 =>
  un1 v28 fun x30 v31 =>
  some (x30, s29)) fun j27 =>
  hloop (fun h1 v2 s3 =>
  un1 v2 fun x4 v6 =>
  un1 v6 fun x5 v7 =>
  hLenS x4 fun x8 =>
  hCmpI (fun x y => iLt y x) x8 (.int .i64 (.ofNat 0)) fun x9 =>
  hIf x9 (
  hLenS x4 fun x14 =>
  hArith Int.sub x14 (.int .i64 (.ofNat 1)) fun x15 =>
  hStrAt x4 x15 fun x16 =>
  hCall call (.func (.func 189) [] []) [x5, x16] s3 fun x17 s18 =>
  hNot x17 fun x19 =>
  hIf x19 (
  j27 [x4] s18) (
  hLenS x4 fun x23 =>
  hArith Int.sub x23 (.int .i64 (.ofNat 1)) fun x24 =>
  hSlS x4 none (some x24) fun x25 =>
  h1 [x25, x5] s18)) (
  j27 [x4] s3)) n [p0, p1] st)
set_option maxRecDepth 1000000 in
theorem e166 : b166 = hfun E0 (An0 166) ha166 (List.range 2) Tryz.f166 := by kernel_rfl
/-- strings.trimRightUnicode -/
def ha167 : HA := (.s .o (.s (.b (some ⟨[0], [], []⟩) (.l ⟨[0, 1], [], []⟩ (.s (.s .o (.c none .o .o)) (.b none (.s .o (.s (.s .o (.c (some ⟨[5, 1, 6, 0], [], []⟩) .o .o)) (.s (.s .o (.c none .o .o)) .o))))))) (.s .o .o)))
def b167 : HBody := fun call n args st =>
  un1 args fun p0 r0 =>
  un1 r0 fun p1 r1 =>
  un0 r1 (
  hlet (α := List AV → Store → Rs) (fun v48 s49 =>
  un1 v48 fun x50 v51 =>
  some (x50, s49)) fun j47 =>
  hloop (fun h1 v2 s3 =>
  un1 v2 fun x4 v6 =>
  un1 v6 fun x5 v7 =>
  hLenS x4 fun x8 =>
  hCmpI (fun x y => iLt y x) x8 (.int .i64 (.ofNat 0)) fun x9 =>
  hIf x9 (
  hLenS x4 fun x14 =>
  hArith Int.sub x14 (.int .i64 (.ofNat 1)) fun x15 =>
  hStrAt x4 x15 fun x16 =>
  hConvI .i32 x16 fun x17 =>
  hCmpI (fun x y => !(iLt x y)) x17 (.int .i32 (.ofNat 128)) fun x18 =>
  hlet (α := List AV → Store → Rs) (fun v27 s28 =>
  un1 v27 fun x29 v33 =>
  un1 v33 fun x30 v34 =>
  un1 v34 fun x31 v35 =>
  un1 v35 fun x32 v36 =>
  hCall call (.func (.func 191) [] []) [x30, x29] s28 fun x37 s38 =>
  hNot x37 fun x39 =>
  hIf x39 (
  j47 [x32] s38) (
  hLenS x32 fun x43 =>
  hArith Int.sub x43 x31 fun x44 =>
  hSlS x32 none (some x44) fun x45 =>
  h1 [x45, x30] s38)) fun j26 =>
  hIf x18 (
  hCall call (.func (.func 192) [] []) [x4] s3 fun x20 s21 =>
  hExt 0 x20 fun x22 =>
  hExt 1 x20 fun x23 =>
  j26 [x22, x5, x23, x4] s21) (
  j26 [x17, x5, (.int .i64 (.ofNat 1)), x4] s3)) (
  j47 [x4] s3)) n [p0, p1] st)
set_option maxRecDepth 1000000 in
theorem e167 : b167 = hfun E0 (An0 167) ha167 (List.range 2) Tryz.f167 := by kernel_rfl
/-- litmus/lex.kinds$1 -/
def ha169 : HA := (.s .o (.s .o .o))
def b169 : HBody := fun call n args st =>
  un1 args fun p0 r0 =>
  un1 r0 fun p1 r1 =>
  un0 r1 (
  hCells p0 fun c0 =>
  hCells p1 fun c1 =>
  some ((.func (.func 170) [] [(.rptr c1), (.rptr c0)]), st))
set_option maxRecDepth 1000000 in
theorem e169 : b169 = hfun E0 (An0 169) ha169 (List.range 2) Tryz.f169 := by kernel_rfl
/-- litmus/lex.kinds$1$1 -/
def ha170 : HA := (.s .o (.s .o (.s .o .o)))
def b170 : HBody := fun call n args st =>
  un1 args fun p0 r0 =>
  un1 r0 fun p1 r1 =>
  un1 r1 fun p2 r2 =>
  un0 r2 (
  hLd1 p1 st fun x0 =>
  hCall call x0 [p0] st fun x1 s2 =>
  hLd1 p2 s2 fun x3 =>
  hSlS p0 none (some x1) fun x4 =>
  some (.tuple [x3, x4, x1], s2))
set_option maxRecDepth 1000000 in
theorem e170 : b170 = hfun E0 (An0 170) ha170 (List.range 3) Tryz.f170 := by kernel_rfl
/-- litmus/lex.kinds$2 -/
def ha171 : HA := (.s .o (.s .o .o))
def b171 : HBody := fun call n args st =>
  un1 args fun p0 r0 =>
  un1 r0 fun p1 r1 =>
  un0 r1 (
  hCells p0 fun c0 =>
  hCells p1 fun c1 =>
  some ((.func (.func 172) [] [(.rptr c0), (.rptr c1)]), st))
set_option maxRecDepth 1000000 in
theorem e171 : b171 = hfun E0 (An0 171) ha171 (List.range 2) Tryz.f171 := by kernel_rfl
/-- litmus/lex.kinds$2$1 -/
def ha172 : HA := (.s .o (.s .o .o))
def b172 : HBody := fun call n args st =>
  un1 args fun p0 r0 =>
  un1 r0 fun p1 r1 =>
  un1 r1 fun p2 r2 =>
  un0 r2 (
  hFrees [.val p1] (
  hLd1 p1 st fun x0 =>
  hFrees [.val p2] (
  hLd1 p2 st fun x1 =>
  hFrees [.val x1] (
  hLenS x1 fun x2 =>
  hSlS p0 none (some (.int .i64 (.ofNat 1))) fun x3 =>
  hLd1 p2 st fun x4 =>
  hCall call (.func (.func 117) [] []) [x3, x4] st fun x5 s6 =>
  hVal (aBuiltin E0.L 0 .min #[3, 3] [.val (.int .i64 (.ofNat 1)), .val x5] s6) fun x7 s8 =>
  hArith Int.mul x2 x7 fun x9 =>
  some (.tuple [x0, (.str []), x9], s8)))))
set_option maxRecDepth 1000000 in
theorem e172 : b172 = hfun E0 (An0 172) ha172 (List.range 3) Tryz.f172 := by kernel_rfl
/-- litmus/lex.kinds$3 -/
def ha173 : HA := (.s .o (.s (.s .o (.c none (.s .o .o) .o)) (.s .o (.s .o .o))))
def b173 : HBody := fun call n args st =>
  un1 args fun p0 r0 =>
  un0 r0 (
  hStrAt p0 (.int .i64 (.ofNat 0)) fun x0 =>
  hCmpI (fun x y => !(iEq x y)) x0 (.int .u8 (.ofNat 34)) fun x1 =>
  hIf x1 (
  some (.tuple [(.int .i64 (.ofNat 0)), (.str []), (.int .i64 (.ofNat 0))], st)) (
  hCall call (.func (.func 174) [] []) [p0] st fun x4 s5 =>
  hExt 0 x4 fun x6 =>
  hExt 1 x4 fun x7 =>
  some (.tuple [(.int .i64 (.ofNat 3)), x6, x7], s5)))
set_option maxRecDepth 1000000 in
theorem e173 : b173 = hfun E0 (An0 173) ha173 (List.range 1) Tryz.f173 := by kernel_rfl
/-- litmus/lex.quoted -/
def ha174 : HA := (.s .o (.s .o (.s (.s .o (.b none (.l ⟨[3, 4, 0], [], []⟩ (.s (.s .o (.c none .o .o)) (.s (.b none (.s .o (.b none (.s .o (.c none (.s .o .o) (.s .o (.c (some ⟨[3, 4, 0], [], []⟩) (.s .o (.s (.s .o (.c none (.s .o .o) .o)) (.s .o .o))) (.s .o (.c none (.s .o .o) .o))))))))) .o))))) (.s .o .o))))
def b174 : HBody := fun call n args st =>
  un1 args fun p0 r0 =>
  un0 r0 (
  hloop (fun h1 v2 s3 =>
  un1 v2 fun x4 v7 =>
  un1 v7 fun x5 v8 =>
  un1 v8 fun x6 v9 =>
  hLenS x6 fun x10 =>
  hCmpI iLt x4 x10 fun x11 =>
  hIf x11 (
  hStrAt x6 x4 fun x16 =>
  hCmpI iEq x16 (.int .u8 (.ofNat 34)) fun x18 =>
  hIf x18 (
  hVal (aConv E0.L 22 9 [.val x5] s3) fun x20 s21 =>
  hArith Int.add x4 (.int .i64 (.ofNat 1)) fun x22 =>
  some (.tuple [x20, x22], s21)) (
  hCmpI iEq x16 (.int .u8 (.ofNat 92)) fun x23 =>
  hlet (α := List AV → Store → Rs) (fun v57 s58 =>
  un1 v57 fun x59 v62 =>
  un1 v62 fun x60 v63 =>
  un1 v63 fun x61 v64 =>
  hArith Int.add x59 (.int .i64 (.ofNat 1)) fun x68 =>
  h1 [x68, x60, x61] s58) fun j56 =>
  hIf x23 (
  hArith Int.add x4 (.int .i64 (.ofNat 1)) fun x25 =>
  hSlS x6 (some x25) none fun x26 =>
  hCall call (.func (.func 197) [] []) [x26] s3 fun x27 s28 =>
  hExt 0 x27 fun x29 =>
  hExt 1 x27 fun x30 =>
  hCmpI iEq x30 (.int .i64 (.ofNat 0)) fun x31 =>
  hIf x31 (
  some (.tuple [(.str []), (.int .i64 (.ofNat 0))], s28)) (
  hVal (aBuildSlice E0.L 0 22 1 [0] [x29] s28) fun x34 s35 =>
  hValF (aAppend E0.L 0 22 22 [.val x5, .val x34] s35) fun x36 s37 =>
  hArith Int.add x4 x30 fun x38 =>
  j56 [x38, x36, x6] s37)) (
  hCmpI iLt x16 (.int .u8 (.ofNat 32)) fun x40 =>
  hlet (α := AV → Store → Rs) (fun x41 s42 =>
  hlet (α := AV → Store → Rs) (fun x44 s45 =>
  hPick x40 (.bool true) x44 fun x47 =>
  hIf x47 (
  some (.tuple [(.str []), (.int .i64 (.ofNat 0))], s45)) (
  hVal (aBuildSlice E0.L 0 22 1 [0] [x16] s45) fun x49 s50 =>
  hValF (aAppend E0.L 0 22 22 [.val x5, .val x49] s50) fun x51 s52 =>
  j56 [x4, x51, x6] s52)) fun j46 =>
  hWant x40 false (
  hCmpI (fun x y => iLt y x) x41 (.int .u8 (.ofNat 126)) fun x55 =>
  j46 x55 s42) (j46 aundef s42)) fun j43 =>
  hWant x40 false (
  j43 x16 s3) (j43 aundef s3)))) (
  some (.tuple [(.str []), (.int .i64 (.ofNat 0))], s3))) n [(.int .i64 (.ofNat 1)), .nils, p0] st)
set_option maxRecDepth 1000000 in
theorem e174 : b174 = hfun E0 (An0 174) ha174 (List.range 1) Tryz.f174 := by kernel_rfl
/-- litmus/lex.kinds$4 -/
def ha175 : HA := (.s .o (.s .o (.s (.s .o (.s .o (.c none (.s .o .o) .o))) (.s .o .o))))
def b175 : HBody := fun call n args st =>
  un1 args fun p0 r0 =>
  un0 r0 (
  hLenS p0 fun x0 =>
  hCall call (.func (.func 176) [] []) [p0, (.str [45])] st fun x1 s2 =>
  hLenS x1 fun x3 =>
  hArith Int.sub x0 x3 fun x4 =>
  hSlS p0 (some x4) none fun x5 =>
  hCall call (.func (.func 117) [] []) [x5, (.str [48, 49, 50, 51, 52, 53, 54, 55, 56, 57])] s2 fun x6 s7 =>
  hCmpI (fun x y => iLt y x) x6 (.int .i64 (.ofNat 0)) fun x8 =>
  hlet (α := AV → Store → Rs) (fun x9 s10 =>
  hlet (α := AV → Store → Rs) (fun x12 s13 =>
  hlet (α := AV → Store → Rs) (fun x15 s16 =>
  hlet (α := AV → Store → Rs) (fun x18 s19 =>
  hlet (α := AV → Store → Rs) (fun x21 s22 =>
  hlet (α := AV → Store → Rs) (fun x24 s25 =>
  hPick x8 x24 (.bool false) fun x27 =>
  hIf x27 (
  hArith Int.add x4 x6 fun x29 =>
  some (x29, s25)) (
  some ((.int .i64 (.ofNat 0)), s25))) fun j26 =>
  hWant x8 true (
  hCall call (.func (.func 177) [] []) [x21] s22 fun x31 s32 =>
  j26 x31 s32) (j26 aundef s22)) fun j23 =>
  hWant x8 true (
  hSlS x9 none (some x18) fun x33 =>
  j23 x33 s19) (j23 aundef s19)) fun j20 =>
  hWant x8 true (
  hArith Int.add x12 x15 fun x34 =>
  j20 x34 s16) (j20 aundef s16)) fun j17 =>
  hWant x8 true (
  j17 x6 s13) (j17 aundef s13)) fun j14 =>
  hWant x8 true (
  j14 x4 s10) (j14 aundef s10)) fun j11 =>
  hWant x8 true (
  j11 p0 s7) (j11 aundef s7))
set_option maxRecDepth 1000000 in
theorem e175 : b175 = hfun E0 (An0 175) ha175 (List.range 1) Tryz.f175 := by kernel_rfl
/-- strings.TrimPrefix -/
def ha176 : HA := (.s .o (.s .o .o))
def b176 : HBody := fun call n args st =>
  un1 args fun p0 r0 =>
  un1 r0 fun p1 r1 =>
  un0 r1 (
  hCall call (.func (.func 198) [] []) [p0, p1] st fun x0 s1 =>
  some (x0, s1))
set_option maxRecDepth 1000000 in
theorem e176 : b176 = hfun E0 (An0 176) ha176 (List.range 2) Tryz.f176 := by kernel_rfl
/-- litmus/lex.Number -/
def ha177 : HA := (.s .o (.s .o (.s (.s .o (.c none (.s .o .o) .o)) (.s .o .o))))
def b177 : HBody := fun call n args st =>
  un1 args fun p0 r0 =>
  un0 r0 (
  hCall call (.func (.func 111) [] []) [p0, (.str [45])] st fun x0 s1 =>
  hExt 0 x0 fun x2 =>
  hExt 1 x0 fun x3 =>
  hStr bEq x2 (.str []) fun x4 =>
  hlet (α := AV → Store → Rs) (fun x5 s6 =>
  hlet (α := AV → Store → Rs) (fun x8 s9 =>
  hlet (α := AV → Store → Rs) (fun x11 s12 =>
  hlet (α := AV → Store → Rs) (fun x14 s15 =>
  hlet (α := AV → Store → Rs) (fun x17 s18 =>
  hPick x4 (.bool true) x17 fun x20 =>
  hIf x20 (
  some ((.bool false), s18)) (
  hStrAt x2 (.int .i64 (.ofNat 0)) fun x23 =>
  hCmpI (fun x y => !(iEq x y)) x23 (.int .u8 (.ofNat 48)) fun x24 =>
  hlet (α := AV → Store → Rs) (fun x25 s26 =>
  hlet (α := AV → Store → Rs) (fun x28 s29 =>
  hlet (α := AV → Store → Rs) (fun x31 s32 =>
  hlet (α := AV → Store → Rs) (fun x34 s35 =>
  hlet (α := AV → Store → Rs) (fun x37 s38 =>
  hlet (α := AV → Store → Rs) (fun x40 s41 =>
  hPick x24 (.bool true) x40 fun x43 =>
  some (x43, s41)) fun j42 =>
  hWant x24 false (
  hPick x31 x37 (.bool false) fun x44 =>
  j42 x44 s38) (j42 aundef s38)) fun j39 =>
  hWant x31 true (
  hNot x34 fun x45 =>
  j39 x45 s35) (j39 aundef s35)) fun j36 =>
  hWant x31 true (
  j36 x3 s32) (j36 aundef s32)) fun j33 =>
  hWant x24 false (
  j33 x28 s29) (j33 aundef s29)) fun j30 =>
  hWant x24 false (
  hStr bEq x25 (.str [48]) fun x46 =>
  j30 x46 s26) (j30 aundef s26)) fun j27 =>
  hWant x24 false (
  j27 x2 s18) (j27 aundef s18))) fun j19 =>
  hWant x4 false (
  hCmpI (fun x y => !(iEq x y)) x8 x14 fun x47 =>
  j19 x47 s15) (j19 aundef s15)) fun j16 =>
  hWant x4 false (
  hLenS x11 fun x48 =>
  j16 x48 s12) (j16 aundef s12)) fun j13 =>
  hWant x4 false (
  j13 x2 s9) (j13 aundef s9)) fun j10 =>
  hWant x4 false (
  hCall call (.func (.func 117) [] []) [x5, (.str [48, 49, 50, 51, 52, 53, 54, 55, 56, 57])] s6 fun x49 s50 =>
  j10 x49 s50) (j10 aundef s6)) fun j7 =>
  hWant x4 false (
  j7 x2 s1) (j7 aundef s1))
set_option maxRecDepth 1000000 in
theorem e177 : b177 = hfun E0 (An0 177) ha177 (List.range 1) Tryz.f177 := by kernel_rfl
/-- litmus/lex.named -/
def ha178 : HA := (.s .o (.s (.s .o (.c none (.s .o .o) .o)) (.s .o (.s (.s .o (.c (some ⟨[3], [], []⟩) .o .o)) (.s .o .o)))))
def b178 : HBody := fun call n args st =>
  un1 args fun p0 r0 =>
  un0 r0 (
  hStr bEq p0 (.str []) fun x0 =>
  hlet (α := AV → Store → Rs) (fun x1 s2 =>
  hlet (α := AV → Store → Rs) (fun x4 s5 =>
  hlet (α := AV → Store → Rs) (fun x7 s8 =>
  hlet (α := AV → Store → Rs) (fun x10 s11 =>
  hPick x0 (.bool true) x10 fun x13 =>
  hIf x13 (
  some ((.int .i64 (.ofNat 0)), s11)) (
  hCall call (.func (.func 117) [] []) [p0, (.str [97, 98, 99, 100, 101, 102, 103, 104, 105, 106, 107, 108, 109, 110, 111, 112, 113, 114, 115, 116, 117, 118, 119, 120, 121, 122, 65, 66, 67, 68, 69, 70, 71, 72, 73, 74, 75, 76, 77, 78, 79, 80, 81, 82, 83, 84, 85, 86, 87, 88, 89, 90, 48, 49, 50, 51, 52, 53, 54, 55, 56, 57, 95])] s11 fun x16 s17 =>
  hSlS p0 (some x16) none fun x18 =>
  hCall call (.func (.func 182) [] []) [x18, (.str [63])] s17 fun x19 s20 =>
  hlet (α := List AV → Store → Rs) (fun v26 s27 =>
  un1 v26 fun x28 v29 =>
  some (x28, s27)) fun j25 =>
  hIf x19 (
  hArith Int.add x16 (.int .i64 (.ofNat 1)) fun x22 =>
  j25 [x22] s20) (
  j25 [x16] s20))) fun j12 =>
  hWant x0 false (
  hCmpI iEq x7 (.int .i64 (.ofNat 0)) fun x30 =>
  j12 x30 s8) (j12 aundef s8)) fun j9 =>
  hWant x0 false (
  hCall call (.func (.func 117) [] []) [x4, (.str [97, 98, 99, 100, 101, 102, 103, 104, 105, 106, 107, 108, 109, 110, 111, 112, 113, 114, 115, 116, 117, 118, 119, 120, 121, 122, 65, 66, 67, 68, 69, 70, 71, 72, 73, 74, 75, 76, 77, 78, 79, 80, 81, 82, 83, 84, 85, 86, 87, 88, 89, 90])] s5 fun x31 s32 =>
  j9 x31 s32) (j9 aundef s5)) fun j6 =>
  hWant x0 false (
  hSlS x1 none (some (.int .i64 (.ofNat 1))) fun x33 =>
  j6 x33 s2) (j6 aundef s2)) fun j3 =>
  hWant x0 false (
  j3 p0 st) (j3 aundef st))
set_option maxRecDepth 1000000 in
theorem e178 : b178 = hfun E0 (An0 178) ha178 (List.range 1) Tryz.f178 := by kernel_rfl
/-- litmus/lex.kinds$5 -/
def ha179 : HA := (.s .o (.s .o (.s .o (.s (.s .o (.c none (.s .o .o) .o)) (.s .o .o)))))
def b179 : HBody := fun call n args st =>
  un1 args fun p0 r0 =>
  un0 r0 (
  hCells p0 fun c0 =>
  hVal (aBuildSlice E0.L 0 25 8 [0, 1, 2, 3, 4, 5, 6, 7] [(.str [60, 61]), (.str [61, 61]), (.str [45, 62]), (.str [43]), (.str [45]), (.str [42]), (.str [60]), (.str [61])] st) fun x1 s2 =>
  hCall call (.func (.func 180) [] []) [x1, (.func (.func 181) [] [(.rptr c0)])] s2 fun x3 s4 =>
  hCmpI iLt x3 (.int .i64 (.ofNat 0)) fun x5 =>
  hIf x5 (
  some ((.int .i64 (.ofNat 0)), s4)) (
  hElem 1 x1 x3 fun x8 =>
  hLd1 x8 s4 fun x9 =>
  hLenS x9 fun x10 =>
  some (x10, s4)))
set_option maxRecDepth 1000000 in
theorem e179 : b179 = hfun E0 (An0 179) ha179 (List.range 1) Tryz.f179 := by kernel_rfl
/-- slices.IndexFunc[[]string,string] -/
def ha180 : HA := (.s .o (.s (.s .o (.b none (.l ⟨[8, 0, 1, 7], [], []⟩ (.s .o (.s (.c none .o .o) (.s (.b none (.s .o (.s .o (.c none (.s .o .o) .o)))) .o)))))) (.s .o .o)))
def b180 : HBody := fun call n args st =>
  un1 args fun p0 r0 =>
  un1 r0 fun p1 r1 =>
  un0 r1 (
  hLenR p0 fun x0 =>
  hloop (fun h2 v3 s4 =>
  un1 v3 fun x5 v9 =>
  un1 v9 fun x6 v10 =>
  un1 v10 fun x7 v11 =>
  un1 v11 fun x8 v12 =>
  hCmpI iLt x5 x8 fun x13 =>
  hIf x13 (
  hElem 1 x6 x5 fun x18 =>
  hLd1 x18 s4 fun x19 =>
  hCall call x7 [x19] s4 fun x20 s21 =>
  hIf x20 (
  some (x5, s21)) (
  hArith Int.add x5 (.int .i64 (.ofNat 1)) fun x25 =>
  h2 [x25, x6, x7, x8] s21)) (
  some ((.int .i64 (.negSucc 0)), s4))) n [(.int .i64 (.ofNat 0)), p0, p1, x0] st)
set_option maxRecDepth 1000000 in
theorem e180 : b180 = hfun E0 (An0 180) ha180 (List.range 2) Tryz.f180 := by kernel_rfl
/-- litmus/lex.kinds$5$1 -/
def ha181 : HA := (.s .o (.s .o .o))
def b181 : HBody := fun call n args st =>
  un1 args fun p0 r0 =>
  un1 r0 fun p1 r1 =>
  un0 r1 (
  hLd1 p1 st fun x0 =>
  hCall call (.func (.func 182) [] []) [x0, p0] st fun x1 s2 =>
  some (x1, s2))
set_option maxRecDepth 1000000 in
theorem e181 : b181 = hfun E0 (An0 181) ha181 (List.range 2) Tryz.f181 := by kernel_rfl
/-- strings.HasPrefix -/
def ha182 : HA := (.s .o (.s .o .o))
def b182 : HBody := fun call n args st =>
  un1 args fun p0 r0 =>
  un1 r0 fun p1 r1 =>
  un0 r1 (
  hCall call (.func (.func 164) [] []) [p0, p1] st fun x0 s1 =>
  some (x0, s1))
set_option maxRecDepth 1000000 in
theorem e182 : b182 = hfun E0 (An0 182) ha182 (List.range 2) Tryz.f182 := by kernel_rfl
/-- strings.Index -/
def ha183 : HA := (.s .o (.s .o .o))
def b183 : HBody := fun call n args st =>
  un1 args fun p0 r0 =>
  un1 r0 fun p1 r1 =>
  un0 r1 (
  hCall call (.func (.func 168) [] []) [p0, p1] st fun x0 s1 =>
  some (x0, s1))
set_option maxRecDepth 1000000 in
theorem e183 : b183 = hfun E0 (An0 183) ha183 (List.range 2) Tryz.f183 := by kernel_rfl
/-- internal/strconv.log10Pow2 -/
def ha184 : HA := (.s .o (.s .o .o))
def b184 : HBody := fun call n args st =>
  un1 args fun p0 r0 =>
  un0 r0 (
  hArith Int.mul p0 (.int .i64 (.ofNat 78913)) fun x0 =>
  hVal (aBinC E0.L 3 .shr true x0 (.int .u64 (.ofNat 18)) st) fun x1 s2 =>
  some (x1, s2))
set_option maxRecDepth 1000000 in
theorem e184 : b184 = hfun E0 (An0 184) ha184 (List.range 1) Tryz.f184 := by kernel_rfl
/-- math/bits.Len64 -/
def ha185 : HA := (.s .o (.s (.s .o (.c (some ⟨[0, 2], [], []⟩) (.s .o .o) .o)) (.s (.s .o (.c (some ⟨[0, 2], [], []⟩) (.s .o .o) .o)) (.s (.s .o (.c (some ⟨[2, 0], [], []⟩) (.s .o .o) .o)) (.s .o .o)))))
def b185 : HBody := fun call n args st =>
  un1 args fun p0 r0 =>
  un0 r0 (
  hCmpI (fun x y => !(iLt x y)) p0 (.int .u64 (.ofNat 4294967296)) fun x0 =>
  hlet (α := List AV → Store → Rs) (fun v7 s8 =>
  un1 v7 fun x9 v11 =>
  un1 v11 fun x10 v12 =>
  hCmpI (fun x y => !(iLt x y)) x9 (.int .u64 (.ofNat 65536)) fun x13 =>
  hlet (α := List AV → Store → Rs) (fun v21 s22 =>
  un1 v21 fun x23 v25 =>
  un1 v25 fun x24 v26 =>
  hCmpI (fun x y => !(iLt x y)) x23 (.int .u64 (.ofNat 256)) fun x27 =>
  hlet (α := List AV → Store → Rs) (fun v35 s36 =>
  un1 v35 fun x37 v39 =>
  un1 v39 fun x38 v40 =>
  hConvI .u8 x38 fun x41 =>
  hStrAt (.str [0, 1, 2, 2, 3, 3, 3, 3, 4, 4, 4, 4, 4, 4, 4, 4, 5, 5, 5, 5, 5, 5, 5, 5, 5, 5, 5, 5, 5, 5, 5, 5, 6, 6, 6, 6, 6, 6, 6, 6, 6, 6, 6, 6, 6, 6, 6, 6, 6, 6, 6, 6, 6, 6, 6, 6, 6, 6, 6, 6, 6, 6, 6, 6, 7, 7, 7, 7, 7, 7, 7, 7, 7, 7, 7, 7, 7, 7, 7, 7, 7, 7, 7, 7, 7, 7, 7, 7, 7, 7, 7, 7, 7, 7, 7, 7, 7, 7, 7, 7, 7, 7, 7, 7, 7, 7, 7, 7, 7, 7, 7, 7, 7, 7, 7, 7, 7, 7, 7, 7, 7, 7, 7, 7, 7, 7, 7, 7, 8, 8, 8, 8, 8, 8, 8, 8, 8, 8, 8, 8, 8, 8, 8, 8, 8, 8, 8, 8, 8, 8, 8, 8, 8, 8, 8, 8, 8, 8, 8, 8, 8, 8, 8, 8, 8, 8, 8, 8, 8, 8, 8, 8, 8, 8, 8, 8, 8, 8, 8, 8, 8, 8, 8, 8, 8, 8, 8, 8, 8, 8, 8, 8, 8, 8, 8, 8, 8, 8, 8, 8, 8, 8, 8, 8, 8, 8, 8, 8, 8, 8, 8, 8, 8, 8, 8, 8, 8, 8, 8, 8, 8, 8, 8, 8, 8, 8, 8, 8, 8, 8, 8, 8, 8, 8, 8, 8, 8, 8, 8, 8, 8, 8, 8, 8, 8, 8, 8, 8, 8, 8, 8, 8, 8, 8, 8, 8]) x41 fun x42 =>
  hConvI .i64 x42 fun x43 =>
  hArith Int.add x37 x43 fun x44 =>
  some (x44, s36)) fun j34 =>
  hIf x27 (
  hVal (aBinC E0.L 165 .shr true x23 (.int .u64 (.ofNat 8)) s22) fun x29 s30 =>
  hArith Int.add x24 (.int .i64 (.ofNat 8)) fun x31 =>
  j34 [x31, x29] s30) (
  j34 [x24, x23] s22)) fun j20 =>
  hIf x13 (
  hVal (aBinC E0.L 165 .shr true x9 (.int .u64 (.ofNat 16)) s8) fun x15 s16 =>
  hArith Int.add x10 (.int .i64 (.ofNat 16)) fun x17 =>
  j20 [x15, x17] s16) (
  j20 [x9, x10] s8)) fun j6 =>
  hIf x0 (
  hVal (aBinC E0.L 165 .shr true p0 (.int .u64 (.ofNat 32)) st) fun x2 s3 =>
  j6 [x2, (.int .i64 (.ofNat 32))] s3) (
  j6 [p0, (.int .i64 (.ofNat 0))] st))
set_option maxRecDepth 1000000 in
theorem e185 : b185 = hfun E0 (An0 185) ha185 (List.range 1) Tryz.f185 := by kernel_rfl
/-- internal/strconv.bool2[int] -/
def ha186 : HA := (.s .o (.s (.s .o (.c none (.s .o .o) .o)) (.s .o .o)))
def b186 : HBody := fun call n args st =>
  un1 args fun p0 r0 =>
  un0 r0 (
  hIf p0 (
  some ((.int .i64 (.ofNat 1)), st)) (
  some ((.int .i64 (.ofNat 0)), st)))
set_option maxRecDepth 1000000 in
theorem e186 : b186 = hfun E0 (An0 186) ha186 (List.range 1) Tryz.f186 := by kernel_rfl
/-- internal/strconv.isPowerOfTwo -/
def ha187 : HA := (.s .o (.s .o .o))
def b187 : HBody := fun call n args st =>
  un1 args fun p0 r0 =>
  un0 r0 (
  hArith Int.sub p0 (.int .i64 (.ofNat 1)) fun x0 =>
  hVal (aBinC E0.L 3 .and false p0 x0 st) fun x1 s2 =>
  hCmpI iEq x1 (.int .i64 (.ofNat 0)) fun x3 =>
  some (x3, s2))
set_option maxRecDepth 1000000 in
theorem e187 : b187 = hfun E0 (An0 187) ha187 (List.range 1) Tryz.f187 := by kernel_rfl
/-- math/bits.TrailingZeros -/
def ha188 : HA := (.s .o (.s (.c none (.s .o .o) .o) (.s .o .o)))
def b188 : HBody := fun call n args st =>
  un1 args fun p0 r0 =>
  un0 r0 (
  hIf (.bool false) (
  hConvI .u32 p0 fun x1 =>
  hCall call (.func (.func 199) [] []) [x1] st fun x2 s3 =>
  some (x2, s3)) (
  hCall call (.func (.func 200) [] []) [p0] st fun x5 s6 =>
  some (x5, s6)))
set_option maxRecDepth 1000000 in
theorem e188 : b188 = hfun E0 (An0 188) ha188 (List.range 1) Tryz.f188 := by kernel_rfl
/-- (*strings.asciiSet).contains -/
def ha189 : HA := (.s .o (.s .o .o))
def b189 : HBody := fun call n args st =>
  un1 args fun p0 r0 =>
  un1 r0 fun p1 r1 =>
  un0 r1 (
  hNN p0 (
  hIdx p1 256 fun i0 =>
  hAddr (i0 * 1) p0 fun x1 =>
  hLd1 x1 st fun x2 =>
  some (x2, st)))
set_option maxRecDepth 1000000 in
theorem e189 : b189 = hfun E0 (An0 189) ha189 (List.range 2) Tryz.f189 := by kernel_rfl
/-- unicode/utf8.DecodeRuneInString -/
def ha190 : HA := (.s .o (.s (.s .o (.c none (.s .o .o) .o)) .o))
def b190 : HBody := fun call n args st =>
  un1 args fun p0 r0 =>
  un0 r0 (
  hStr (fun x y => !(bEq x y)) p0 (.str []) fun x0 =>
  hlet (α := AV → Store → Rs) (fun x1 s2 =>
  hlet (α := AV → Store → Rs) (fun x4 s5 =>
  hlet (α := AV → Store → Rs) (fun x7 s8 =>
  hPick x0 x7 (.bool false) fun x10 =>
  hIf x10 (
  hStrAt p0 (.int .i64 (.ofNat 0)) fun x12 =>
  hConvI .i32 x12 fun x13 =>
  some (.tuple [x13, (.int .i64 (.ofNat 1))], s8)) (
  hCall call (.func (.func 201) [] []) [p0] s8 fun x14 s15 =>
  hExt 0 x14 fun x16 =>
  hExt 1 x14 fun x17 =>
  some (.tuple [x16, x17], s15))) fun j9 =>
  hWant x0 true (
  hCmpI iLt x4 (.int .u8 (.ofNat 128)) fun x19 =>
  j9 x19 s5) (j9 aundef s5)) fun j6 =>
  hWant x0 true (
  hStrAt x1 (.int .i64 (.ofNat 0)) fun x20 =>
  j6 x20 s2) (j6 aundef s2)) fun j3 =>
  hWant x0 true (
  j3 p0 st) (j3 aundef st))
set_option maxRecDepth 1000000 in
theorem e190 : b190 = hfun E0 (An0 190) ha190 (List.range 1) Tryz.f190 := by kernel_rfl
/-- strings.ContainsRune -/
def ha191 : HA := (.s .o (.s .o .o))
def b191 : HBody := fun call n args st =>
  un1 args fun p0 r0 =>
  un1 r0 fun p1 r1 =>
  un0 r1 (
  hCall call (.func (.func 202) [] []) [p0, p1] st fun x0 s1 =>
  hCmpI (fun x y => !(iLt x y)) x0 (.int .i64 (.ofNat 0)) fun x2 =>
  some (x2, s1))
set_option maxRecDepth 1000000 in
theorem e191 : b191 = hfun E0 (An0 191) ha191 (List.range 2) Tryz.f191 := by kernel_rfl
/-- unicode/utf8.DecodeLastRuneInString -/
def ha192 : HA := (.s .o (.s .o (.s (.s .o (.c none (.s .o .o) .o)) (.s .o (.s .o (.s (.s .o (.c none (.s .o .o) .o)) (.s .o (.s (.s .o (.b (some ⟨[5, 0, 4], [], []⟩) (.l ⟨[4, 0, 5, 6], [], []⟩ (.s (.s .o (.c none .o .o)) (.s (.b none (.s .o (.c none .o .o))) .o))))) (.s (.s .o (.c (some ⟨[0, 5, 4], [], []⟩) .o .o)) (.s .o (.s (.s .o (.c none (.s .o .o) .o)) (.s .o .o))))))))))))
def b192 : HBody := fun call n args st =>
  un1 args fun p0 r0 =>
  un0 r0 (
  hLenS p0 fun x0 =>
  hCmpI iEq x0 (.int .i64 (.ofNat 0)) fun x1 =>
  hIf x1 (
  some (.tuple [(.int .i32 (.ofNat 65533)), (.int .i64 (.ofNat 0))], st)) (
  hArith Int.sub x0 (.int .i64 (.ofNat 1)) fun x4 =>
  hStrAt p0 x4 fun x5 =>
  hConvI .i32 x5 fun x6 =>
  hCmpI iLt x6 (.int .i32 (.ofNat 128)) fun x7 =>
  hIf x7 (
  some (.tuple [x6, (.int .i64 (.ofNat 1))], st)) (
  hArith Int.sub x0 (.int .i64 (.ofNat 4)) fun x10 =>
  hVal (aBuiltin E0.L 0 .max #[3, 3] [.val x10, .val (.int .i64 (.ofNat 0))] st) fun x11 s12 =>
  hArith Int.sub x4 (.int .i64 (.ofNat 1)) fun x13 =>
  hlet (α := List AV → Store → Rs) (fun v40 s41 =>
  un1 v40 fun x42 v45 =>
  un1 v45 fun x43 v46 =>
  un1 v46 fun x44 v47 =>
  hCmpI iLt x42 (.int .i64 (.ofNat 0)) fun x48 =>
  hlet (α := List AV → Store → Rs) (fun v53 s54 =>
  un1 v53 fun x55 v58 =>
  un1 v58 fun x56 v59 =>
  un1 v59 fun x57 v60 =>
  hSlS x55 (some x56) (some x57) fun x61 =>
  hCall call (.func (.func 190) [] []) [x61] s54 fun x62 s63 =>
  hExt 0 x62 fun x64 =>
  hExt 1 x62 fun x65 =>
  hArith Int.add x56 x65 fun x66 =>
  hCmpI (fun x y => !(iEq x y)) x66 x57 fun x67 =>
  hIf x67 (
  some (.tuple [(.int .i32 (.ofNat 65533)), (.int .i64 (.ofNat 1))], s63)) (
  some (.tuple [x64, x65], s63))) fun j52 =>
  hIf x48 (
  j52 [x43, (.int .i64 (.ofNat 0)), x44] s41) (
  j52 [x43, x42, x44] s41)) fun j39 =>
  hloop (fun h15 v16 s17 =>
  un1 v16 fun x18 v22 =>
  un1 v22 fun x19 v23 =>
  un1 v23 fun x20 v24 =>
  un1 v24 fun x21 v25 =>
  hCmpI (fun x y => !(iLt x y)) x20 x21 fun x26 =>
  hIf x26 (
  hStrAt x19 x20 fun x31 =>
  hCall call (.func (.func 203) [] []) [x31] s17 fun x32 s33 =>
  hIf x32 (
  j39 [x20, x19, x18] s33) (
  hArith Int.sub x20 (.int .i64 (.ofNat 1)) fun x38 =>
  h15 [x18, x19, x38, x21] s33)) (
  j39 [x20, x19, x18] s17)) n [x0, p0, x13, x11] s12)))
set_option maxRecDepth 1000000 in
theorem e192 : b192 = hfun E0 (An0 192) ha192 (List.range 1) Tryz.f192 := by kernel_rfl
/-- internal/stringslite.IndexByte -/
def ha193 : HA := (.s .o (.s .o .o))
def b193 : HBody := fun call n args st =>
  un1 args fun p0 r0 =>
  un1 r0 fun p1 r1 =>
  un0 r1 (
  hCall call (.func (.func 204) [] []) [p0, p1] st fun x0 s1 =>
  some (x0, s1))
set_option maxRecDepth 1000000 in
theorem e193 : b193 = hfun E0 (An0 193) ha193 (List.range 2) Tryz.f193 := by kernel_rfl
/-- internal/bytealg.Cutover -/
def ha195 : HA := (.s .o (.s .o .o))
def b195 : HBody := fun call n args st =>
  un1 args fun p0 r0 =>
  un0 r0 (
  hArith Int.add p0 (.int .i64 (.ofNat 16)) fun x0 =>
  hVal (aBinC E0.L 3 .quo true x0 (.int .i64 (.ofNat 8)) st) fun x1 s2 =>
  some (x1, s2))
set_option maxRecDepth 1000000 in
theorem e195 : b195 = hfun E0 (An0 195) ha195 (List.range 1) Tryz.f195 := by kernel_rfl
/-- internal/bytealg.IndexRabinKarp[string] -/
def ha196 : HA := (.s .o (.s .o (.s .o (.s .o (.s (.s .o (.b none (.l ⟨[9, 0, 8, 6, 5, 1, 7], [], []⟩ (.s (.s .o (.c none .o .o)) (.s (.b none .o) .o))))) (.s (.s .o (.c none (.s .o .o) .o)) (.s (.s .o (.b none (.l ⟨[7, 1, 0, 5, 10, 6, 8], [], []⟩ (.s (.s .o (.c none .o .o)) (.b none (.s .o (.s .o (.s .o (.s .o (.s .o (.c none (.s .o .o) .o))))))))))) (.s .o .o))))))))
def b196 : HBody := fun call n args st =>
  un1 args fun p0 r0 =>
  un1 r0 fun p1 r1 =>
  un0 r1 (
  hCall call (.func (.func 205) [] []) [p1] st fun x0 s1 =>
  hExt 0 x0 fun x2 =>
  hExt 1 x0 fun x3 =>
  hLenS p1 fun x4 =>
  hloop (fun h6 v7 s8 =>
  un1 v7 fun x9 v16 =>
  un1 v16 fun x10 v17 =>
  un1 v17 fun x11 v18 =>
  un1 v18 fun x12 v19 =>
  un1 v19 fun x13 v20 =>
  un1 v20 fun x14 v21 =>
  un1 v21 fun x15 v22 =>
  hCmpI iLt x9 x15 fun x23 =>
  hIf x23 (
  hArith Int.mul x11 (.int .u32 (.ofNat 16777619)) fun x28 =>
  hStrAt x10 x9 fun x29 =>
  hConvI .u32 x29 fun x30 =>
  hArith Int.add x28 x30 fun x31 =>
  hArith Int.add x9 (.int .i64 (.ofNat 1)) fun x33 =>
  h6 [x33, x10, x31, x12, x13, x14, x15] s8) (
  hCmpI iEq x11 x13 fun x34 =>
  hlet (α := AV → Store → Rs) (fun x35 s36 =>
  hlet (α := AV → Store → Rs) (fun x38 s39 =>
  hlet (α := AV → Store → Rs) (fun x41 s42 =>
  hlet (α := AV → Store → Rs) (fun x44 s45 =>
  hlet (α := AV → Store → Rs) (fun x47 s48 =>
  hPick x34 x47 (.bool false) fun x50 =>
  hIf x50 (
  some ((.int .i64 (.ofNat 0)), s48)) (
  hloop (fun h54 v55 s56 =>
  un1 v55 fun x57 v64 =>
  un1 v64 fun x58 v65 =>
  un1 v65 fun x59 v66 =>
  un1 v66 fun x60 v67 =>
  un1 v67 fun x61 v68 =>
  un1 v68 fun x62 v69 =>
  un1 v69 fun x63 v70 =>
  hLenS x59 fun x71 =>
  hCmpI iLt x61 x71 fun x72 =>
  hIf x72 (
  hArith Int.mul x63 (.int .u32 (.ofNat 16777619)) fun x77 =>
  hStrAt x59 x61 fun x78 =>
  hConvI .u32 x78 fun x79 =>
  hArith Int.add x77 x79 fun x80 =>
  hArith Int.sub x61 x57 fun x81 =>
  hStrAt x59 x81 fun x82 =>
  hConvI .u32 x82 fun x83 =>
  hArith Int.mul x62 x83 fun x84 =>
  hArith Int.sub x80 x84 fun x85 =>
  hArith Int.add x61 (.int .i64 (.ofNat 1)) fun x86 =>
  hCmpI iEq x85 x60 fun x87 =>
  hlet (α := AV → Store → Rs) (fun x88 s89 =>
  hlet (α := AV → Store → Rs) (fun x91 s92 =>
  hlet (α := AV → Store → Rs) (fun x94 s95 =>
  hlet (α := AV → Store → Rs) (fun x97 s98 =>
  hlet (α := AV → Store → Rs) (fun x100 s101 =>
  hlet (α := AV → Store → Rs) (fun x103 s104 =>
  hlet (α := AV → Store → Rs) (fun x106 s107 =>
  hlet (α := AV → Store → Rs) (fun x109 s110 =>
  hPick x87 x109 (.bool false) fun x112 =>
  hIf x112 (
  hArith Int.sub x86 x57 fun x114 =>
  some (x114, s110)) (
  h54 [x57, x58, x59, x60, x86, x62, x85] s110)) fun j111 =>
  hWant x87 true (
  hStr bEq x103 x106 fun x117 =>
  j111 x117 s107) (j111 aundef s107)) fun j108 =>
  hWant x87 true (
  j108 x58 s104) (j108 aundef s104)) fun j105 =>
  hWant x87 true (
  hSlS x88 (some x97) (some x100) fun x118 =>
  j105 x118 s101) (j105 aundef s101)) fun j102 =>
  hWant x87 true (
  j102 x86 s98) (j102 aundef s98)) fun j99 =>
  hWant x87 true (
  hArith Int.sub x91 x94 fun x119 =>
  j99 x119 s95) (j99 aundef s95)) fun j96 =>
  hWant x87 true (
  j96 x57 s92) (j96 aundef s92)) fun j93 =>
  hWant x87 true (
  j93 x86 s89) (j93 aundef s89)) fun j90 =>
  hWant x87 true (
  j90 x59 s56) (j90 aundef s56)) (
  some ((.int .i64 (.negSucc 0)), s56))) n [x15, x14, x10, x13, x15, x12, x11] s48)) fun j49 =>
  hWant x34 true (
  hStr bEq x41 x44 fun x120 =>
  j49 x120 s45) (j49 aundef s45)) fun j46 =>
  hWant x34 true (
  j46 x14 s42) (j46 aundef s42)) fun j43 =>
  hWant x34 true (
  hSlS x35 none (some x38) fun x121 =>
  j43 x121 s39) (j43 aundef s39)) fun j40 =>
  hWant x34 true (
  j40 x15 s36) (j40 aundef s36)) fun j37 =>
  hWant x34 true (
  j37 x10 s8) (j37 aundef s8))) n [(.int .i64 (.ofNat 0)), p0, (.int .u32 (.ofNat 0)), x3, x2, p1, x4] s1)
set_option maxRecDepth 1000000 in
theorem e196 : b196 = hfun E0 (An0 196) ha196 (List.range 2) Tryz.f196 := by kernel_rfl
/-- litmus/lex.escape -/
def ha197 : HA := (.s .o (.s (.s .o (.c none (.s .o .o) .o)) (.s (.s .o (.b none (.s .o (.c none (.s .o .o) (.s (.s .o (.c (some ⟨[10, 7, 0], [], []⟩) .o .o)) (.c none (.s .o .o) (.s .o (.c (some ⟨[], [], []⟩) (.s .o (.c none (.s .o .o) .o)) .o)))))))) (.s .o .o))))
def b197 : HBody := fun call n args st =>
  un1 args fun p0 r0 =>
  un0 r0 (
  hStr bEq p0 (.str []) fun x0 =>
  hIf x0 (
  some (.tuple [(.int .u8 (.ofNat 0)), (.int .i64 (.ofNat 0))], st)) (
  hStrAt p0 (.int .i64 (.ofNat 0)) fun x3 =>
  hCmpI iEq x3 (.int .u8 (.ofNat 110)) fun x5 =>
  hIf x5 (
  some (.tuple [(.int .u8 (.ofNat 10)), (.int .i64 (.ofNat 1))], st)) (
  hCmpI iEq x3 (.int .u8 (.ofNat 34)) fun x7 =>
  hlet (α := List AV → Store → Rs) (fun v13 s14 =>
  un1 v13 fun x15 v18 =>
  un1 v18 fun x16 v19 =>
  un1 v19 fun x17 v20 =>
  hIf x15 (
  hStrAt x17 (.int .i64 (.ofNat 0)) fun x22 =>
  some (.tuple [x22, (.int .i64 (.ofNat 1))], s14)) (
  hCmpI iEq x16 (.int .u8 (.ofNat 120)) fun x23 =>
  hlet (α := List AV → Store → Rs) (fun v60 s61 =>
  some (.tuple [(.int .u8 (.ofNat 0)), (.int .i64 (.ofNat 0))], s61)) fun j59 =>
  hIf x23 (
  hLenS x17 fun x25 =>
  hCmpI (fun x y => !(iLt x y)) x25 (.int .i64 (.ofNat 3)) fun x26 =>
  hlet (α := AV → Store → Rs) (fun x27 s28 =>
  hlet (α := AV → Store → Rs) (fun x30 s31 =>
  hlet (α := AV → Store → Rs) (fun x33 s34 =>
  hlet (α := AV → Store → Rs) (fun x36 s37 =>
  hPick x26 x36 (.bool false) fun x39 =>
  hIf x39 (
  hStrAt x17 (.int .i64 (.ofNat 1)) fun x41 =>
  hCall call (.func (.func 206) [] []) [(.str [48, 49, 50, 51, 52, 53, 54, 55, 56, 57, 97, 98, 99, 100, 101, 102]), x41] s37 fun x42 s43 =>
  hNotPtrs [.val x42, .val (.int .u64 (.ofNat 4))] (
  hVal (aBinC E0.L 3 .shl true x42 (.int .u64 (.ofNat 4)) s43) fun x44 s45 =>
  hStrAt x17 (.int .i64 (.ofNat 2)) fun x46 =>
  hCall call (.func (.func 206) [] []) [(.str [48, 49, 50, 51, 52, 53, 54, 55, 56, 57, 97, 98, 99, 100, 101, 102]), x46] s45 fun x47 s48 =>
  hVal (aBinC E0.L 3 .or false x44 x47 s48) fun x49 s50 =>
  hConvI .u8 x49 fun x51 =>
  some (.tuple [x51, (.int .i64 (.ofNat 3))], s50))) (
  j59 [] s37)) fun j38 =>
  hWant x26 true (
  hCmpI iEq x33 (.int .i64 (.ofNat 2)) fun x54 =>
  j38 x54 s34) (j38 aundef s34)) fun j35 =>
  hWant x26 true (
  hCall call (.func (.func 117) [] []) [x30, (.str [48, 49, 50, 51, 52, 53, 54, 55, 56, 57, 97, 98, 99, 100, 101, 102])] s31 fun x55 s56 =>
  j35 x55 s56) (j35 aundef s31)) fun j32 =>
  hWant x26 true (
  hSlS x27 (some (.int .i64 (.ofNat 1))) (some (.int .i64 (.ofNat 3))) fun x57 =>
  j32 x57 s28) (j32 aundef s28)) fun j29 =>
  hWant x26 true (
  j29 x17 s14) (j29 aundef s14)) (
  j59 [] s14))) fun j12 =>
  hIf x7 (
  j12 [x7, x3, p0] st) (
  hCmpI iEq x3 (.int .u8 (.ofNat 92)) fun x10 =>
  j12 [x10, x3, p0] st))))
set_option maxRecDepth 1000000 in
theorem e197 : b197 = hfun E0 (An0 197) ha197 (List.range 1) Tryz.f197 := by kernel_rfl
/-- internal/stringslite.TrimPrefix -/
def ha198 : HA := (.s .o (.s (.s .o (.c none (.s .o .o) .o)) (.s .o .o)))
def b198 : HBody := fun call n args st =>
  un1 args fun p0 r0 =>
  un1 r0 fun p1 r1 =>
  un0 r1 (
  hCall call (.func (.func 164) [] []) [p0, p1] st fun x0 s1 =>
  hIf x0 (
  hLenS p1 fun x3 =>
  hSlS p0 (some x3) none fun x4 =>
  some (x4, s1)) (
  some (p0, s1)))
set_option maxRecDepth 1000000 in
theorem e198 : b198 = hfun E0 (An0 198) ha198 (List.range 2) Tryz.f198 := by kernel_rfl
/-- unicode/utf8.RuneStart -/
def ha203 : HA := (.s .o (.s .o .o))
def b203 : HBody := fun call n args st =>
  un1 args fun p0 r0 =>
  un0 r0 (
  hVal (aBinC E0.L 5 .and true p0 (.int .u8 (.ofNat 192)) st) fun x0 s1 =>
  hCmpI (fun x y => !(iEq x y)) x0 (.int .u8 (.ofNat 128)) fun x2 =>
  some (x2, s1))
set_option maxRecDepth 1000000 in
theorem e203 : b203 = hfun E0 (An0 203) ha203 (List.range 1) Tryz.f203 := by kernel_rfl
/-- internal/bytealg.hashStr[string] -/
def ha205 : HA := (.s .o (.s .o (.s (.s .o (.b none (.l ⟨[5, 0, 4], [], []⟩ (.s (.s .o (.c none .o .o)) (.s (.b none .o) .o))))) (.s .o (.s (.s .o (.b none (.l ⟨[8, 7, 6, 4], [], []⟩ (.s (.s .o (.c none .o .o)) (.s (.b none (.s (.s .o (.c (some ⟨[7, 8, 6, 4], [], []⟩) .o .o)) .o)) .o))))) (.s .o .o))))))
def b205 : HBody := fun call n args st =>
  un1 args fun p0 r0 =>
  un0 r0 (
  hloop (fun h1 v2 s3 =>
  un1 v2 fun x4 v7 =>
  un1 v7 fun x5 v8 =>
  un1 v8 fun x6 v9 =>
  hLenS x5 fun x10 =>
  hCmpI iLt x4 x10 fun x11 =>
  hIf x11 (
  hArith Int.mul x6 (.int .u32 (.ofNat 16777619)) fun x16 =>
  hStrAt x5 x4 fun x17 =>
  hConvI .u32 x17 fun x18 =>
  hArith Int.add x16 x18 fun x19 =>
  hArith Int.add x4 (.int .i64 (.ofNat 1)) fun x21 =>
  h1 [x21, x5, x19] s3) (
  hLenS x5 fun x22 =>
  hloop (fun h24 v25 s26 =>
  un1 v25 fun x27 v31 =>
  un1 v31 fun x28 v32 =>
  un1 v32 fun x29 v33 =>
  un1 v33 fun x30 v34 =>
  hCmpI (fun x y => iLt y x) x27 (.int .i64 (.ofNat 0)) fun x35 =>
  hIf x35 (
  hVal (aBinC E0.L 3 .and true x27 (.int .i64 (.ofNat 1)) s26) fun x40 s41 =>
  hCmpI (fun x y => !(iEq x y)) x40 (.int .i64 (.ofNat 0)) fun x42 =>
  hlet (α := List AV → Store → Rs) (fun v48 s49 =>
  un1 v48 fun x50 v54 =>
  un1 v54 fun x51 v55 =>
  un1 v55 fun x52 v56 =>
  un1 v56 fun x53 v57 =>
  hArith Int.mul x50 x50 fun x58 =>
  hVal (aBinC E0.L 3 .shr true x51 (.int .u64 (.ofNat 1)) s49) fun x60 s61 =>
  h24 [x60, x58, x52, x53] s61) fun j47 =>
  hIf x42 (
  hArith Int.mul x29 x28 fun x44 =>
  j47 [x28, x27, x44, x30] s41) (
  j47 [x28, x27, x29, x30] s41)) (
  some (.tuple [x30, x29], s26))) n [x22, (.int .u32 (.ofNat 16777619)), (.int .u32 (.ofNat 1)), x6] s3)) n [(.int .i64 (.ofNat 0)), p0, (.int .u32 (.ofNat 0))] st)
set_option maxRecDepth 1000000 in
theorem e205 : b205 = hfun E0 (An0 205) ha205 (List.range 1) Tryz.f205 := by kernel_rfl
/-- strings.IndexByte -/
def ha206 : HA := (.s .o (.s .o .o))
def b206 : HBody := fun call n args st =>
  un1 args fun p0 r0 =>
  un1 r0 fun p1 r1 =>
  un0 r1 (
  hCall call (.func (.func 193) [] []) [p0, p1] st fun x0 s1 =>
  some (x0, s1))
set_option maxRecDepth 1000000 in
theorem e206 : b206 = hfun E0 (An0 206) ha206 (List.range 2) Tryz.f206 := by kernel_rfl
/-- unicode/utf8.ValidRune -/
def ha207 : HA := (.s .o (.s (.b none (.s .o (.c none (.s .o .o) (.s .o (.c none (.s .o .o) .o))))) (.s .o .o)))
def b207 : HBody := fun call n args st =>
  un1 args fun p0 r0 =>
  un0 r0 (
  hCmpI (fun x y => !(iLt y x)) (.int .i32 (.ofNat 0)) p0 fun x1 =>
  hlet (α := AV → Store → Rs) (fun x2 s3 =>
  hlet (α := AV → Store → Rs) (fun x5 s6 =>
  hPick x1 x5 (.bool false) fun x8 =>
  hIf x8 (
  some ((.bool true), s6)) (
  hCmpI iLt (.int .i32 (.ofNat 57343)) p0 fun x10 =>
  hlet (α := AV → Store → Rs) (fun x11 s12 =>
  hlet (α := AV → Store → Rs) (fun x14 s15 =>
  hPick x10 x14 (.bool false) fun x17 =>
  hIf x17 (
  some ((.bool true), s15)) (
  some ((.bool false), s15))) fun j16 =>
  hWant x10 true (
  hCmpI (fun x y => !(iLt y x)) x11 (.int .i32 (.ofNat 1114111)) fun x21 =>
  j16 x21 s12) (j16 aundef s12)) fun j13 =>
  hWant x10 true (
  j13 p0 s6) (j13 aundef s6))) fun j7 =>
  hWant x1 true (
  hCmpI iLt x2 (.int .i32 (.ofNat 55296)) fun x23 =>
  j7 x23 s3) (j7 aundef s3)) fun j4 =>
  hWant x1 true (
  j4 p0 st) (j4 aundef st))
set_option maxRecDepth 1000000 in
theorem e207 : b207 = hfun E0 (An0 207) ha207 (List.range 1) Tryz.f207 := by kernel_rfl
end
end Go.Sim
