/- Part of the proof that litmuslaw11.ValueSizes answers true for every input. -/
import Derived.Test.YtnplidplamoejaaGreatDoorVSizesTJ
import Derived.Test.YtnplidplamoejaaGreatDoorVSizesTE
import Derived.Test.YtnplidplamoejaaGreatDoorVSizesTK
set_option linter.unusedVariables false
set_option linter.unusedSimpArgs false
set_option linter.unnecessarySimpa false
namespace Go.Sim
open Go.Proofs

set_option maxRecDepth 1000000 in
theorem bodyOk {k m : Nat} {fn : Func} {ha : HA} {b : HBody} (he : b = hfun E0 (An0 k) ha (List.range m) fn) (hf : E0.L.fn k = some fn) : BodyOk E0 An0 k b := by
  intro call call' n args st r hc h
  subst he
  have hf' : Tryz.prog.funcs[k]? = some fn := hf
  exact hfun_ok (fok0.ann k) hc hf rfl (fun c hc => fok0.code k fn c hf' hc) h
noncomputable def wTab : List (Nat × HBody) := [(15, b15), (18, b18), (19, b19), (21, b21), (23, b23), (24, b24), (26, b26), (28, b28), (29, b29), (34, b34), (35, b35), (48, b48), (51, b51), (52, b52), (53, b53), (58, b58), (59, b59), (60, b60), (61, b61), (62, b62), (63, b63), (64, b64), (65, b65), (66, b66), (69, b69), (70, b70), (71, b71), (72, b72), (73, b73), (78, b78), (84, b84), (85, b85), (86, b86), (89, b89), (90, b90), (92, b92), (94, b94), (96, b96), (97, b97), (98, b98), (99, b99), (100, b100), (101, b101), (103, b103), (110, b110), (111, b111), (112, b112), (113, b113), (116, b116), (117, b117), (118, b118), (119, b119), (120, b120), (129, b129), (130, b130), (131, b131), (132, b132), (135, b135), (142, b142), (143, b143), (144, b144), (148, b148), (149, b149), (150, b150), (151, b151), (153, b153), (154, b154), (155, b155), (156, b156), (160, b160), (161, b161), (162, b162), (163, b163), (164, b164), (165, b165), (166, b166), (167, b167), (169, b169), (170, b170), (171, b171), (172, b172), (173, b173), (174, b174), (175, b175), (176, b176), (177, b177), (178, b178), (179, b179), (180, b180), (181, b181), (182, b182), (183, b183), (184, b184), (185, b185), (186, b186), (187, b187), (188, b188), (189, b189), (190, b190), (191, b191), (192, b192), (193, b193), (195, b195), (196, b196), (197, b197), (198, b198), (203, b203), (205, b205), (206, b206), (207, b207)]
set_option maxRecDepth 1000000 in
theorem wTab_low : wTab.all (fun p => Nat.blt p.1 8000) = true := by kernel_rfl
set_option maxRecDepth 1000000 in
theorem wTab_ok : ∀ p ∈ wTab, BodyOk E0 An0 p.1 p.2 := 
  List.forall_mem_cons.2 ⟨bodyOk e15 (by kernel_rfl),
  List.forall_mem_cons.2 ⟨bodyOk e18 (by kernel_rfl),
  List.forall_mem_cons.2 ⟨bodyOk e19 (by kernel_rfl),
  List.forall_mem_cons.2 ⟨bodyOk e21 (by kernel_rfl),
  List.forall_mem_cons.2 ⟨bodyOk e23 (by kernel_rfl),
  List.forall_mem_cons.2 ⟨bodyOk e24 (by kernel_rfl),
  List.forall_mem_cons.2 ⟨bodyOk e26 (by kernel_rfl),
  List.forall_mem_cons.2 ⟨bodyOk e28 (by kernel_rfl),
  List.forall_mem_cons.2 ⟨bodyOk e29 (by kernel_rfl),
  List.forall_mem_cons.2 ⟨bodyOk e34 (by kernel_rfl),
  List.forall_mem_cons.2 ⟨bodyOk e35 (by kernel_rfl),
  List.forall_mem_cons.2 ⟨bodyOk e48 (by kernel_rfl),
  List.forall_mem_cons.2 ⟨bodyOk e51 (by kernel_rfl),
  List.forall_mem_cons.2 ⟨bodyOk e52 (by kernel_rfl),
  List.forall_mem_cons.2 ⟨bodyOk e53 (by kernel_rfl),
  List.forall_mem_cons.2 ⟨bodyOk e58 (by kernel_rfl),
  List.forall_mem_cons.2 ⟨bodyOk e59 (by kernel_rfl),
  List.forall_mem_cons.2 ⟨bodyOk e60 (by kernel_rfl),
  List.forall_mem_cons.2 ⟨bodyOk e61 (by kernel_rfl),
  List.forall_mem_cons.2 ⟨bodyOk e62 (by kernel_rfl),
  List.forall_mem_cons.2 ⟨bodyOk e63 (by kernel_rfl),
  List.forall_mem_cons.2 ⟨bodyOk e64 (by kernel_rfl),
  List.forall_mem_cons.2 ⟨bodyOk e65 (by kernel_rfl),
  List.forall_mem_cons.2 ⟨bodyOk e66 (by kernel_rfl),
  List.forall_mem_cons.2 ⟨bodyOk e69 (by kernel_rfl),
  List.forall_mem_cons.2 ⟨bodyOk e70 (by kernel_rfl),
  List.forall_mem_cons.2 ⟨bodyOk e71 (by kernel_rfl),
  List.forall_mem_cons.2 ⟨bodyOk e72 (by kernel_rfl),
  List.forall_mem_cons.2 ⟨bodyOk e73 (by kernel_rfl),
  List.forall_mem_cons.2 ⟨bodyOk e78 (by kernel_rfl),
  List.forall_mem_cons.2 ⟨bodyOk e84 (by kernel_rfl),
  List.forall_mem_cons.2 ⟨bodyOk e85 (by kernel_rfl),
  List.forall_mem_cons.2 ⟨bodyOk e86 (by kernel_rfl),
  List.forall_mem_cons.2 ⟨bodyOk e89 (by kernel_rfl),
  List.forall_mem_cons.2 ⟨bodyOk e90 (by kernel_rfl),
  List.forall_mem_cons.2 ⟨bodyOk e92 (by kernel_rfl),
  List.forall_mem_cons.2 ⟨bodyOk e94 (by kernel_rfl),
  List.forall_mem_cons.2 ⟨bodyOk e96 (by kernel_rfl),
  List.forall_mem_cons.2 ⟨bodyOk e97 (by kernel_rfl),
  List.forall_mem_cons.2 ⟨bodyOk e98 (by kernel_rfl),
  List.forall_mem_cons.2 ⟨bodyOk e99 (by kernel_rfl),
  List.forall_mem_cons.2 ⟨bodyOk e100 (by kernel_rfl),
  List.forall_mem_cons.2 ⟨bodyOk e101 (by kernel_rfl),
  List.forall_mem_cons.2 ⟨bodyOk e103 (by kernel_rfl),
  List.forall_mem_cons.2 ⟨bodyOk e110 (by kernel_rfl),
  List.forall_mem_cons.2 ⟨bodyOk e111 (by kernel_rfl),
  List.forall_mem_cons.2 ⟨bodyOk e112 (by kernel_rfl),
  List.forall_mem_cons.2 ⟨bodyOk e113 (by kernel_rfl),
  List.forall_mem_cons.2 ⟨bodyOk e116 (by kernel_rfl),
  List.forall_mem_cons.2 ⟨bodyOk e117 (by kernel_rfl),
  List.forall_mem_cons.2 ⟨bodyOk e118 (by kernel_rfl),
  List.forall_mem_cons.2 ⟨bodyOk e119 (by kernel_rfl),
  List.forall_mem_cons.2 ⟨bodyOk e120 (by kernel_rfl),
  List.forall_mem_cons.2 ⟨bodyOk e129 (by kernel_rfl),
  List.forall_mem_cons.2 ⟨bodyOk e130 (by kernel_rfl),
  List.forall_mem_cons.2 ⟨bodyOk e131 (by kernel_rfl),
  List.forall_mem_cons.2 ⟨bodyOk e132 (by kernel_rfl),
  List.forall_mem_cons.2 ⟨bodyOk e135 (by kernel_rfl),
  List.forall_mem_cons.2 ⟨bodyOk e142 (by kernel_rfl),
  List.forall_mem_cons.2 ⟨bodyOk e143 (by kernel_rfl),
  List.forall_mem_cons.2 ⟨bodyOk e144 (by kernel_rfl),
  List.forall_mem_cons.2 ⟨bodyOk e148 (by kernel_rfl),
  List.forall_mem_cons.2 ⟨bodyOk e149 (by kernel_rfl),
  List.forall_mem_cons.2 ⟨bodyOk e150 (by kernel_rfl),
  List.forall_mem_cons.2 ⟨bodyOk e151 (by kernel_rfl),
  List.forall_mem_cons.2 ⟨bodyOk e153 (by kernel_rfl),
  List.forall_mem_cons.2 ⟨bodyOk e154 (by kernel_rfl),
  List.forall_mem_cons.2 ⟨bodyOk e155 (by kernel_rfl),
  List.forall_mem_cons.2 ⟨bodyOk e156 (by kernel_rfl),
  List.forall_mem_cons.2 ⟨bodyOk e160 (by kernel_rfl),
  List.forall_mem_cons.2 ⟨bodyOk e161 (by kernel_rfl),
  List.forall_mem_cons.2 ⟨bodyOk e162 (by kernel_rfl),
  List.forall_mem_cons.2 ⟨bodyOk e163 (by kernel_rfl),
  List.forall_mem_cons.2 ⟨bodyOk e164 (by kernel_rfl),
  List.forall_mem_cons.2 ⟨bodyOk e165 (by kernel_rfl),
  List.forall_mem_cons.2 ⟨bodyOk e166 (by kernel_rfl),
  List.forall_mem_cons.2 ⟨bodyOk e167 (by kernel_rfl),
  List.forall_mem_cons.2 ⟨bodyOk e169 (by kernel_rfl),
  List.forall_mem_cons.2 ⟨bodyOk e170 (by kernel_rfl),
  List.forall_mem_cons.2 ⟨bodyOk e171 (by kernel_rfl),
  List.forall_mem_cons.2 ⟨bodyOk e172 (by kernel_rfl),
  List.forall_mem_cons.2 ⟨bodyOk e173 (by kernel_rfl),
  List.forall_mem_cons.2 ⟨bodyOk e174 (by kernel_rfl),
  List.forall_mem_cons.2 ⟨bodyOk e175 (by kernel_rfl),
  List.forall_mem_cons.2 ⟨bodyOk e176 (by kernel_rfl),
  List.forall_mem_cons.2 ⟨bodyOk e177 (by kernel_rfl),
  List.forall_mem_cons.2 ⟨bodyOk e178 (by kernel_rfl),
  List.forall_mem_cons.2 ⟨bodyOk e179 (by kernel_rfl),
  List.forall_mem_cons.2 ⟨bodyOk e180 (by kernel_rfl),
  List.forall_mem_cons.2 ⟨bodyOk e181 (by kernel_rfl),
  List.forall_mem_cons.2 ⟨bodyOk e182 (by kernel_rfl),
  List.forall_mem_cons.2 ⟨bodyOk e183 (by kernel_rfl),
  List.forall_mem_cons.2 ⟨bodyOk e184 (by kernel_rfl),
  List.forall_mem_cons.2 ⟨bodyOk e185 (by kernel_rfl),
  List.forall_mem_cons.2 ⟨bodyOk e186 (by kernel_rfl),
  List.forall_mem_cons.2 ⟨bodyOk e187 (by kernel_rfl),
  List.forall_mem_cons.2 ⟨bodyOk e188 (by kernel_rfl),
  List.forall_mem_cons.2 ⟨bodyOk e189 (by kernel_rfl),
  List.forall_mem_cons.2 ⟨bodyOk e190 (by kernel_rfl),
  List.forall_mem_cons.2 ⟨bodyOk e191 (by kernel_rfl),
  List.forall_mem_cons.2 ⟨bodyOk e192 (by kernel_rfl),
  List.forall_mem_cons.2 ⟨bodyOk e193 (by kernel_rfl),
  List.forall_mem_cons.2 ⟨bodyOk e195 (by kernel_rfl),
  List.forall_mem_cons.2 ⟨bodyOk e196 (by kernel_rfl),
  List.forall_mem_cons.2 ⟨bodyOk e197 (by kernel_rfl),
  List.forall_mem_cons.2 ⟨bodyOk e198 (by kernel_rfl),
  List.forall_mem_cons.2 ⟨bodyOk e203 (by kernel_rfl),
  List.forall_mem_cons.2 ⟨bodyOk e205 (by kernel_rfl),
  List.forall_mem_cons.2 ⟨bodyOk e206 (by kernel_rfl),
  List.forall_mem_cons.2 ⟨bodyOk e207 (by kernel_rfl),
  fun p hp => (by cases hp)⟩⟩⟩⟩⟩⟩⟩⟩⟩⟩⟩⟩⟩⟩⟩⟩⟩⟩⟩⟩⟩⟩⟩⟩⟩⟩⟩⟩⟩⟩⟩⟩⟩⟩⟩⟩⟩⟩⟩⟩⟩⟩⟩⟩⟩⟩⟩⟩⟩⟩⟩⟩⟩⟩⟩⟩⟩⟩⟩⟩⟩⟩⟩⟩⟩⟩⟩⟩⟩⟩⟩⟩⟩⟩⟩⟩⟩⟩⟩⟩⟩⟩⟩⟩⟩⟩⟩⟩⟩⟩⟩⟩⟩⟩⟩⟩⟩⟩⟩⟩⟩⟩⟩⟩⟩⟩⟩⟩⟩⟩
noncomputable def hTab : Tr HBody := mkTr wTab
set_option maxRecDepth 1000000 in
theorem hTab_ok (f : Nat) (b : HBody) (h : hTab.get f = some b) : BodyOk E0 An0 f b :=
  wTab_ok (f, b) (mkTr_get (fun p hp => Nat.le_of_ble_eq_true (List.all_eq_true.1 wTab_low p hp)) h)
def isTrue : Option (AV × Store) → Bool
  | some (.bool b, _) => b
  | _ => false
set_option maxRecDepth 1000000 in
theorem works_true : isTrue (hcall E0 An0 pr0 hTab.get 5000 (.func (.func 18) [] []) [] Store.empty) = true := by kernel_rfl
theorem p0_18 : pr0 18 = none := by kernel_rfl
set_option maxRecDepth 1000000 in
/-- The chapter's examples hold. -/
theorem works_run : PureRun E0 18 [] (.bool true) := by
  have h := works_true
  cases hr : hcall E0 An0 pr0 hTab.get 5000 (.func (.func 18) [] []) [] Store.empty with
  | none => rw [hr] at h; cases h
  | some r =>
    obtain ⟨v, st1⟩ := r
    rw [hr] at h
    have ha := hcall_ok fok0 hTab_ok (pr := pr0) 5000 _ _ _ _ hr
    cases v with
    | bool b =>
      have hb : b = true := h
      subst hb
      have ha' : afun E0 (fun f => (An0 f).ann) (acall E0 (fun f => (An0 f).ann) pr0 4999) 4999 18 [] Store.empty = some (.bool true, st1) := by
        have : acall E0 (fun f => (An0 f).ann) pr0 (4999 + 1) (.func (.func 18) [] []) [] Store.empty = (match pr0 18 with
          | some p => (match p ([] ++ [] ++ []) Store.empty with
            | some r => some r
            | none => afun E0 (fun f => (An0 f).ann) (acall E0 (fun f => (An0 f).ann) pr0 4999) 4999 18 ([] ++ [] ++ []) Store.empty)
          | none => afun E0 (fun f => (An0 f).ann) (acall E0 (fun f => (An0 f).ann) pr0 4999) 4999 18 ([] ++ [] ++ []) Store.empty) := rfl
        rw [this, p0_18] at ha
        simpa using ha
      have wf : ∀ (f : FuncId) (t b : Nat), ((fun f => (An0 f).ann) f).base t = some b → ((fun f => (An0 f).ann) f).base b = some b := fun f t b hh => wf0 f t b hh
      exact @pureRun_scalar E0 mix0 (fun f => (An0 f).ann) wf name0 glob0 pr0 prims0 4999 18 [] (.bool true) st1 rfl ha' rfl
    | _ => cases h
end Go.Sim

namespace Go.Sim
open Go.Proofs

def byteA (b : UInt8) : AV := .int .u8 (.ofNat b.toNat)
/-- Bytes that are handed in. -/
def IsB0 (B : AV) (xs : List UInt8) : Prop := ((B = .nils ∨ B = .zsl) ∧ xs = []) ∨ B = .row 1 none none (xs.map byteA)
theorem plain_bytes : ∀ xs : List UInt8, plainVs (xs.map byteA) = true
  | [] => rfl
  | x :: xs => by simp [plainVs, plainV, byteA, plain_bytes xs]
theorem strip_bytes : ∀ xs : List UInt8, stripVs (xs.map byteA) = xs.map byteA
  | [] => rfl
  | x :: xs => by simp [stripVs, stripV, byteA, strip_bytes xs]
theorem isB0_plain {B : AV} {xs : List UInt8} (h : IsB0 B xs) : plainV B = true ∧ stripV B = B := by
  rcases h with ⟨rfl | rfl, _⟩ | rfl
  · exact ⟨rfl, rfl⟩
  · exact ⟨rfl, rfl⟩
  · exact ⟨by simp [plainV, plain_bytes], by simp [stripV, strip_bytes]⟩
def GDrawn (args : List AV) (v : AV) : Prop := ∀ B fn xs, args = [B, .bool fn] → IsB0 B xs → ∃ a, IsV v a ∧ Neat v ∧ stripV v = v ∧ Dr fn 3 a
set_option maxRecDepth 1000000 in
theorem fn14 : E0.L.fn 14 = some Tryz.f14 := by kernel_rfl
set_option maxRecDepth 1000000 in
theorem fn20 : E0.L.fn 20 = some Tryz.f20 := by kernel_rfl
set_option maxRecDepth 1000000 in
theorem el22 : elemT E0.L 22 = some 5 := by kernel_rfl
set_option maxRecDepth 1000000 in
theorem size5 : sizeT E0.L 5 = some 1 := by kernel_rfl
theorem szB3 : szB 3 < big - 10 := by decide
theorem cost3 : 0 + cost 3 < big := by decide
theorem min40 (n : Nat) (st : Store) : aBuiltin E0.L 0 .min #[3, 3] [.val (.int .i64 (.ofNat n)), .val (.int .i64 (.ofNat 40))] st = some (.val (.int .i64 (.ofNat (min n 40))), st) := by
  simp only [aBuiltin, aMin]
  have : (if (Int.ofNat 40) < (Int.ofNat n) then (Int.ofNat 40) else (Int.ofNat n)) = Int.ofNat (min n 40) := by
    split
    · rename_i h
      have : 40 < n := Int.ofNat_lt.1 h
      rw [Nat.min_eq_right (by omega)]
    · rename_i h
      have : ¬ 40 < n := fun q => h (Int.ofNat_lt.2 q)
      rw [Nat.min_eq_left (by omega)]
  rw [this]
set_option maxRecDepth 1000000 in
theorem slice40 {B : AV} {xs : List UInt8} (h : IsB0 B xs) (st : Store) : ∃ B', sliceV E0.L 22 st B none (some (.int .i64 (.ofNat (min xs.length 40)))) none = some B' ∧ IsB B' (xs.take (min xs.length 40)) ∧ oneC B' = true := by
  rcases h with ⟨rfl | rfl, rfl⟩ | rfl
  · refine ⟨.nils, ?_, .inl ⟨.inl rfl, rfl⟩, rfl⟩
    simp only [sliceV, el22, size5, capOf, bounds, bnd, Option.getD_some, List.length_nil]
    rfl
  · refine ⟨.zsl, ?_, .inl ⟨.inr rfl, rfl⟩, rfl⟩
    simp only [sliceV, el22, size5, capOf, bounds, bnd, Option.getD_some, List.length_nil]
    rfl
  · refine ⟨.row 1 none none ((xs.map byteA).take (min xs.length 40)), ?_, .inr ⟨none, none, by rw [← List.map_take]; rfl⟩, rfl⟩
    have hb : bnd (some (.int .i64 (.ofNat (min xs.length 40)))) xs.length xs.length = some (min xs.length 40) := by
      simp only [bnd]
      rw [if_pos ⟨by simp, by simp; omega⟩]
      rfl
    have hb2 : bounds none (some (.int .i64 (.ofNat (min xs.length 40)))) xs.length xs.length = some (0, min xs.length 40) := by
      unfold bounds
      rw [hb]
      rfl
    simp only [sliceV, el22, size5, if_true, sliceRow, capOf, List.length_map, Option.getD_none, Nat.min_self, hb2, List.drop_zero, Nat.sub_zero]
theorem x_hFill1 {o : Nat} {v : AV} {cs : List AV} {k : List AV → Rs} (h : oneC v = true) : hFill [(o, 1, v)] cs k = hPut cs o v k := by
  cases v <;> first | rfl | cases h
set_option maxRecDepth 1000000 in
set_option maxHeartbeats 1000000 in
theorem drawn_run {B : AV} {xs : List UInt8} (hB : IsB0 B xs) (fn : Bool) : ∃ v, PureRun E0 14 [B, .bool fn] v ∧ GDrawn [B, .bool fn] v := by
  obtain ⟨hp, hs⟩ := isB0_plain hB
  obtain ⟨B', hsl, hB', hone⟩ := slice40 hB (S0 [])
  have hsl' : ∀ st, sliceV E0.L 22 st B none (some (.int .i64 (.ofNat (min xs.length 40)))) none = some B' := by
    intro st
    rcases hB with ⟨rfl | rfl, rfl⟩ | rfl
    · exact hsl
    · exact hsl
    · exact hsl
  obtain ⟨w, a, a', _, h2, h3, h4, h5, h6⟩ := value_call (fn := fn) hB' (by simp; unfold big; omega) 3 0 szB3 (by omega) cost3
  refine ⟨w, ?_, ?_⟩
  · refine pure_body e14 fn14 (by show (plainV B && (true && true)) = true; rw [hp]; rfl) (by show [stripV B, .bool fn] = _; rw [hs]) fun ts => ?_
    obtain ⟨v, more, e1, e2, e3⟩ := h6 20 ts (by omega)
    obtain ⟨c1, c2, c3, c4, c5, c6, c7, rfl⟩ := cells7 h3
    obtain ⟨d1, d2, d3, d4, d5, d6, d7, rfl⟩ := strip_agg7 e2
    refine ⟨prD, 20, _, SD B' a' (more ++ ts), more, prD_ok, ?_, rfl, e3, e2⟩
    have hlenB : ∀ k : AV → Rs, hLenR B k = k (.int .i64 (.ofNat xs.length)) := by
      intro k
      rcases hB with ⟨rfl | rfl, rfl⟩ | rfl
      · rfl
      · rfl
      · rw [x_hLenR_r, List.length_map]
    simp only [b14, x_un1, x_un0, hlenB, x_hVal (min40 _ _), x_hV (hsl' _), x_hFill1 hone, x_hPut0, x_hCells, x_hNew]
    have e1' : Call prD 20 (Fv 46) [.ptr (S0 ts).nobj 0, .int .i64 (.ofNat 3), .bool fn] ((S0 ts).new (.cells [B', .int .i64 (.ofNat 0)])) = some (.agg [d1, d2, d3, d4, d5, d6, d7], SD B' a' (more ++ ts)) := e1
    simp only [x_hCall e1', x_hStLN7, x_hLocN, x_hCut7]
  · intro B2 fn2 xs2 h hb2
    injection h with q1 q2
    injection q2 with q2
    injection q2 with q2
    subst q1 q2
    exact ⟨a, h3, h4, h2, h5⟩
def keys8 : List Bytes := [[97], [98], [], [107], [122, 122], [99], [0], [97, 97]]
def key8 (m : Nat) : Bytes := keys8.getD (m % 8) []
theorem key8_len (m : Nat) : (key8 m).length ≤ 2 := by
  have : ∀ j, j < 8 → (keys8.getD j []).length ≤ 2 := by decide
  exact this _ (Nat.mod_lt _ (by omega))
def GKey (args : List AV) (v : AV) : Prop := ∀ m, args = [.int .u8 (.ofNat m)] → v = .str (key8 m)
set_option maxRecDepth 1000000 in
theorem build8 (st : Store) : aBuildSlice E0.L 0 25 8 [0, 1, 2, 3, 4, 5, 6, 7] [.str [97], .str [98], .str [], .str [107], .str [122, 122], .str [99], .str [0], .str [97, 97]] st = some (.val (.row 1 none (some 8) (keys8.map .str)), st) := by kernel_rfl
set_option maxRecDepth 1000000 in
theorem key_run (m : Nat) : PureRun E0 20 [.int .u8 (.ofNat m)] (.str (key8 m)) := by
  refine pure_body e20 fn20 rfl rfl fun ts => ?_
  refine ⟨pr0, 1, .str (key8 m), S0 ts, [], prOk0, ?_, rfl, rfl, rfl⟩
  have hlt : m % 8 < keys8.length := Nat.mod_lt _ (by decide)
  have hg : keys8[m % 8]? = some (key8 m) := by
    rw [List.getElem?_eq_getElem hlt]
    simp only [key8, List.getD, List.getElem?_eq_getElem hlt, Option.getD_some]
  simp only [b20, x_un1, x_un0, x_hVal (build8 _), x_hVal (int_rem 5 .u8 m 8 (by omega) true _)]
  rw [x_hElem (y := .str (key8 m)) (by simp [hg])]
  rfl
end Go.Sim

namespace Go.Sim
open Go.Proofs

/-! ### Sizes, and data -/
theorem ksum_append : ∀ (a b : List Bytes), ksum (a ++ b) = ksum a + ksum b
  | [], b => by simp [ksum]
  | x :: a, b => by simp only [List.cons_append, ksum, ksum_append a b]; omega
theorem vsum_append : ∀ (a b : List Vl), vsum (a ++ b) = vsum a + vsum b
  | [], b => by simp [vsum]
  | x :: a, b => by simp only [List.cons_append, vsum, vsum_append a b]; omega
theorem dall_append : ∀ (a b : List Vl), dall (a ++ b) = (dall a && dall b)
  | [], b => by simp [dall]
  | x :: a, b => by simp only [List.cons_append, dall, dall_append a b, Bool.and_assoc]
theorem ksum_ins (ks : List Bytes) (i : Nat) (k : Bytes) : ksum (ks.take i ++ k :: ks.drop i) = ksum ks + (1 + k.length) := by
  have := ksum_append (ks.take i) (ks.drop i)
  rw [List.take_append_drop] at this
  rw [ksum_append]; simp only [ksum]; omega
theorem vsum_ins (vs : List Vl) (i : Nat) (v : Vl) : vsum (vs.take i ++ v :: vs.drop i) = vsum vs + v.size := by
  have := vsum_append (vs.take i) (vs.drop i)
  rw [List.take_append_drop] at this
  rw [vsum_append]; simp only [vsum]; omega
theorem dall_ins (vs : List Vl) (i : Nat) (v : Vl) : dall (vs.take i ++ v :: vs.drop i) = (dall vs && v.data) := by
  have := dall_append (vs.take i) (vs.drop i)
  rw [List.take_append_drop] at this
  rw [dall_append, this]; simp only [dall]
  cases dall (vs.take i) <;> cases dall (vs.drop i) <;> cases v.data <;> rfl
theorem vsum_set : ∀ {vs : List Vl} {i : Nat} {v b : Vl}, vs[i]? = some v → vsum (vs.set i b) + v.size = vsum vs + b.size
  | [], i, v, b, h => by simp at h
  | w :: vs, 0, v, b, h => by simp at h; subst h; simp only [List.set_cons_zero, vsum]; omega
  | w :: vs, i + 1, v, b, h => by
    have := vsum_set (vs := vs) (i := i) (v := v) (b := b) (by simpa using h)
    simp only [List.set_cons_succ, vsum]; omega
/-- What is drawn is in order. -/
structure Fine (a : Vl) : Prop where
  ri : Rising a.ks
  le : a.ks.length ≤ a.vs.length
  di : a.tag = 4 → a.ks.length = a.vs.length
  sz : a.size ≤ 1010
theorem Dr_fine {fn : Bool} {a : Vl} (h : Dr fn 3 a) : Fine a := by
  have hs : a.size ≤ 1010 := Dr_size h
  have base : ∀ t b n s, (Vl.mk t b n s [] [] 0).size ≤ 1010 → Fine (.mk t b n s [] [] 0) := fun t b n s h => ⟨List.Pairwise.nil, Nat.le_refl _, fun _ => rfl, h⟩
  rcases h with h | ⟨ks, vs, rfl, hr, hl, _⟩ | ⟨_, vs, f, _, rfl, _⟩
  · rcases h with rfl | ⟨b, rfl⟩ | ⟨n, h, rfl⟩ | ⟨n, h, rfl⟩ | rfl
    · exact base _ _ _ _ hs
    · exact base _ _ _ _ hs
    · exact base _ _ _ _ hs
    · exact base _ _ _ _ hs
    · exact base _ _ _ _ hs
  · exact ⟨hr, by simp only [Vl.ks, Vl.vs]; omega, fun _ => hl, hs⟩
  · exact ⟨List.Pairwise.nil, Nat.zero_le _, fun h => (by cases h), hs⟩

/-! ### Calls -/
def GWorks (args : List AV) (v : AV) : Prop := v = .bool true
section
variable {pr : Prims}
set_option maxRecDepth 1000000 in
theorem call_works (h : pr 18 = some (pureP E0 18 GWorks)) (n : Nat) (st : Store) : Call pr (n + 1) (Fv 18) [] st = some (.bool true, st) := by
  obtain ⟨v, h1, h2⟩ := call_pure h (args := []) rfl ⟨_, works_run, rfl⟩ n st
  rw [h1, show v = .bool true from h2]
theorem call_drawn (h : pr 14 = some (pureP E0 14 GDrawn)) {B : AV} {xs : List UInt8} (hB : IsB0 B xs) (fn : Bool) : ∃ v a, (∀ n st, Call pr (n + 1) (Fv 14) [B, .bool fn] st = some (v, st)) ∧ IsV v a ∧ Neat v ∧ stripV v = v ∧ Dr fn 3 a := by
  obtain ⟨hp, hs⟩ := isB0_plain hB
  have hst : stripVs [B, .bool fn] = [B, .bool fn] := by show [stripV B, .bool fn] = _; rw [hs]
  have hpl : plainVs [B, .bool fn] = true := by show (plainV B && (true && true)) = true; rw [hp]; rfl
  obtain ⟨v, h1, h2⟩ := pureP_some (E := E0) (k := 14) (Good := GDrawn) (args := [B, .bool fn]) hpl (by rw [hst]; exact drawn_run hB fn) (S0 [])
  rw [hst] at h2
  obtain ⟨a, q1, q2, q3, q4⟩ := h2 B fn xs rfl hB
  exact ⟨v, a, fun n st => call_prim h (pureP_det h1 rfl hpl), q1, q2, q3, q4⟩
set_option maxRecDepth 1000000 in
theorem call_key (h : pr 20 = some (pureP E0 20 GKey)) (m n : Nat) (st : Store) : Call pr (n + 1) (Fv 20) [.int .u8 (.ofNat m)] st = some (.str (key8 m), st) := by
  obtain ⟨v, h1, h2⟩ := call_pure h (args := [.int .u8 (.ofNat m)]) rfl ⟨_, key_run m, fun m' e => by
    injection e with e; injection e with _ e; rw [Int.ofNat.inj e]⟩ n st
  rw [h1, h2 m rfl]
set_option maxRecDepth 1000000 in
theorem call_size (h : pr 21 = some (pureP E0 21 GSize)) {x : AV} {a : Vl} (hx : IsV x a) (ha : a.size < big) (n : Nat) (st : Store) : Call pr (n + 1) (Fv 21) [x] st = some (.int .i64 (.ofNat a.size), st) := by
  obtain ⟨v, h1, h2⟩ := call_pure h (args := [x]) (by simp [plainVs, isV_plain hx]) ⟨_, size_run a.size a _ (Nat.le_refl _) ha (isV_strip hx) (strip_strip _), fun x' a' e ha' => by
    injection e with e; rw [isV_inj ha' (e ▸ isV_strip hx)]⟩ n st
  rw [h1, h2 _ _ rfl (isV_strip hx)]
set_option maxRecDepth 1000000 in
theorem call_data (h : pr 22 = some (pureP E0 22 GData)) {x : AV} {a : Vl} (hx : IsV x a) (ha : a.size < big) (n : Nat) (st : Store) : Call pr (n + 1) (Fv 22) [x] st = some (.bool a.data, st) := by
  obtain ⟨v, h1, h2⟩ := call_pure h (args := [x]) (by simp [plainVs, isV_plain hx]) ⟨_, data_run a.size a _ (Nat.le_refl _) ha (isV_strip hx) (strip_strip _), gData_of (isV_strip hx)⟩ n st
  rw [h1, h2 _ _ rfl (isV_strip hx)]
open Classical in
set_option maxRecDepth 1000000 in
theorem call_same (h : pr 17 = some (pureP E0 17 GSame)) {x y : AV} {a b : Vl} (hx : IsV x a) (hy : IsV y b) (ha : a.size < big) (hb : b.size < big) (n : Nat) (st : Store) : Call pr (n + 1) (Fv 17) [x, y] st = some (.bool (decide (a = b)), st) := by
  obtain ⟨v, h1, h2⟩ := call_pure h (args := [x, y]) (by simp [plainVs, isV_plain hx, isV_plain hy]) ⟨_, same_run ha hb (isV_strip hx) (isV_strip hy) (strip_strip _) (strip_strip _), gSame_of (isV_strip hx) (isV_strip hy)⟩ n st
  rw [h1, h2 _ _ _ _ rfl (isV_strip hx) (isV_strip hy)]
set_option maxRecDepth 1000000 in
theorem call_get (h : pr 23 = some (pureP E0 23 GGet)) {x : AV} {a : Vl} (k : Bytes) (hx : IsV x a) (ha : a.size < big) (hr : Rising a.ks) (hl : a.ks.length ≤ a.vs.length) (n : Nat) (st : Store) :
    ∃ y b c, Call pr (n + 1) (Fv 23) [x, .str k] st = some (.tuple [y, .bool c], st) ∧ IsV y b ∧ ((getV a k = some b ∧ c = true) ∨ (getV a k = none ∧ b = zeroVl ∧ c = false)) := by
  obtain ⟨v, h1, h2⟩ := call_pure h (args := [x, .str k]) (by simp [plainVs, plainV, isV_plain hx]) (get_run (isV_strip hx) ha hr hl (strip_strip _)) n st
  obtain ⟨y, b, hy, hv⟩ := h2 _ _ _ rfl (isV_strip hx)
  rcases hv with ⟨q1, rfl⟩ | ⟨q1, q2, rfl⟩
  · exact ⟨y, b, true, h1, hy, .inl ⟨q1, rfl⟩⟩
  · exact ⟨y, b, false, h1, hy, .inr ⟨q1, q2, rfl⟩⟩
set_option maxRecDepth 1000000 in
theorem call_set (h : pr 19 = some (pureP E0 19 GSet)) {x y : AV} {a b : Vl} (k : Bytes) (hx : IsV x a) (hy : IsV y b) (ha : a.size < big - 1) (hr : Rising a.ks) (hl : a.tag = 4 → a.ks.length = a.vs.length) (hn : Neat x) (n : Nat) (st : Store) :
    ∃ v, Call pr (n + 1) (Fv 19) [x, .str k, y] st = some (v, st) ∧ IsV v (setV a k b) ∧ Neat v ∧ stripV v = v := by
  obtain ⟨v, h1, h2⟩ := call_pure h (args := [x, .str k, y]) (plain3 (isV_plain hx) (isV_plain hy)) (set_run (isV_strip hx) (isV_strip hy) ha hr hl (neat_strip hn) (strip_strip _) (strip_strip _)) n st
  exact ⟨v, h1, h2 _ _ _ _ _ rfl (isV_strip hx) (isV_strip hy)⟩
end
noncomputable def prV : Prims := prWith (prWith (prWith (prWith (prWith (prWith (prWith (prWith pr0 18 (pureP E0 18 GWorks)) 14 (pureP E0 14 GDrawn)) 20 (pureP E0 20 GKey)) 21 (pureP E0 21 GSize)) 22 (pureP E0 22 GData)) 17 (pureP E0 17 GSame)) 23 (pureP E0 23 GGet)) 19 (pureP E0 19 GSet)
set_option maxRecDepth 1000000 in
theorem prV_ok : PrOk prV := prWith_ok (prWith_ok (prWith_ok (prWith_ok (prWith_ok (prWith_ok (prWith_ok (prWith_ok prOk0 pureP_ok) pureP_ok) pureP_ok) pureP_ok) pureP_ok) pureP_ok) pureP_ok) pureP_ok
theorem pV18 : prV 18 = some (pureP E0 18 GWorks) := by simp [prV, prWith]
theorem pV14 : prV 14 = some (pureP E0 14 GDrawn) := by simp [prV, prWith]
theorem pV20 : prV 20 = some (pureP E0 20 GKey) := by simp [prV, prWith]
theorem pV21 : prV 21 = some (pureP E0 21 GSize) := by simp [prV, prWith]
theorem pV22 : prV 22 = some (pureP E0 22 GData) := by simp [prV, prWith]
theorem pV17 : prV 17 = some (pureP E0 17 GSame) := by simp [prV, prWith]
theorem pV23 : prV 23 = some (pureP E0 23 GGet) := by simp [prV, prWith]
theorem pV19 : prV 19 = some (pureP E0 19 GSet) := by simp [prV, prWith]
noncomputable def sizesBody (call : Caller) : (List AV → Store → Rs) → List AV → Store → Rs :=
  (fun h12 v13 s14 =>
  un1 v13 fun a19 v20 =>
  unAgg a19 fun c15 =>
  un1 v20 fun a21 v22 =>
  unAgg a21 fun c16 =>
  un1 v22 fun x17 v23 =>
  un1 v23 fun x18 v24 =>
  hLoc1 c15 5 fun x25 =>
  hLenR x25 fun x26 =>
  hCmpI iLt x17 x26 fun x27 =>
  hIf x27 (
  hLoc1 c15 5 fun x32 =>
  hElem 7 x32 x17 fun x33 =>
  hLdN 7 x33 s14 fun x34 =>
  hCall call (.func (.func 21) [] []) [x34] s14 fun x35 s36 =>
  hFrees [.loc 7 0 c15] (
  hLocN 7 c15 0 fun x37 =>
  hCall call (.func (.func 21) [] []) [x37] s36 fun x38 s39 =>
  hCmpI (fun x y => !(iLt x y)) x35 x38 fun x40 =>
  hlet (α := AV → Store → Rs) (fun x41 s42 =>
  hlet (α := AV → Store → Rs) (fun x44 s45 =>
  hlet (α := AV → Store → Rs) (fun x47 s48 =>
  hWB x47 (
  hlet (α := AV → Store → Rs) (fun x50 s51 =>
  hlet (α := AV → Store → Rs) (fun x53 s54 =>
  hlet (α := AV → Store → Rs) (fun x56 s57 =>
  hlet (α := AV → Store → Rs) (fun x59 s60 =>
  hlet (α := AV → Store → Rs) (fun x62 s63 =>
  hlet (α := AV → Store → Rs) (fun x65 s66 =>
  hlet (α := AV → Store → Rs) (fun x68 s69 =>
  hPick x40 (.bool true) x68 fun x71 =>
  hIf x71 (
  some ((.bool false), s69)) (
  hArith Int.add x17 (.int .i64 (.ofNat 1)) fun x85 =>
  h12 [.agg c15, .agg c16, x85, x18] s69)) fun j70 =>
  hWant x40 false (
  hPick x47 x65 (.bool false) fun x75 =>
  j70 x75 s66) (j70 aundef s66)) fun j67 =>
  hWant x47 true (
  hNot x62 fun x76 =>
  j67 x76 s63) (j67 aundef s63)) fun j64 =>
  hWant x47 true (
  hCall call (.func (.func 22) [] []) [x59] s60 fun x77 s78 =>
  j64 x77 s78) (j64 aundef s60)) fun j61 =>
  hWant x47 true (
  hLdN 7 x56 s57 fun x79 =>
  j61 x79 s57) (j61 aundef s57)) fun j58 =>
  hWant x47 true (
  hElem 7 x50 x53 fun x80 =>
  j58 x80 s54) (j58 aundef s54)) fun j55 =>
  hWant x47 true (
  j55 x17 s51) (j55 aundef s51)) fun j52 =>
  hWant x47 true (
  hLoc1 c15 5 fun x81 =>
  j52 x81 s48) (j52 aundef s48))) fun j49 =>
  hWant x40 false (
  j49 x44 s45) (j49 aundef s45)) fun j46 =>
  hWant x40 false (
  hCall call (.func (.func 22) [] []) [x41] s42 fun x82 s83 =>
  j46 x82 s83) (j46 aundef s42)) fun j43 =>
  hWant x40 false (
  hLocN 7 c15 0 fun x84 =>
  j43 x84 s39) (j43 aundef s39))) (
  hFrees [.loc 7 0 c15] (
  hLocN 7 c15 0 fun x86 =>
  hCall call (.func (.func 20) [] []) [x18] s14 fun x87 s88 =>
  hFrees [.loc 8 0 c16] (
  hLocN 7 c16 0 fun x89 =>
  hCall call (.func (.func 19) [] []) [x86, x87, x89] s88 fun x90 s91 =>
  hStLN 7 [(.int .i64 (.ofNat 0)), (.bool false), (.str []), (.str []), .nils, .nils, (.int .i64 (.ofNat 0))] 0 x90 fun c92 =>
  hLoc1 c15 0 fun x93 =>
  hCmpI (fun x y => !(iEq x y)) x93 (.int .i64 (.ofNat 4)) fun x94 =>
  hIf x94 (
  hLocN 7 c92 0 fun x96 =>
  hLocN 7 c15 0 fun x97 =>
  hCall call (.func (.func 17) [] []) [x96, x97] s91 fun x98 s99 =>
  hlet (α := AV → Store → Rs) (fun x100 s101 =>
  hlet (α := AV → Store → Rs) (fun x103 s104 =>
  hlet (α := AV → Store → Rs) (fun x106 s107 =>
  hPick x98 x106 (.bool false) fun x109 =>
  some (x109, s107)) fun j108 =>
  hWant x98 true (
  hCmpI (fun x y => !(iLt x y)) x103 (.int .i64 (.ofNat 1)) fun x110 =>
  j108 x110 s104) (j108 aundef s104)) fun j105 =>
  hWant x98 true (
  hCall call (.func (.func 21) [] []) [x100] s101 fun x111 s112 =>
  j105 x111 s112) (j105 aundef s101)) fun j102 =>
  hWant x98 true (
  hLocN 7 c15 0 fun x113 =>
  j102 x113 s99) (j102 aundef s99)) (
  hFrees [.loc 7 0 c15] (
  hLocN 7 c15 0 fun x115 =>
  hCall call (.func (.func 20) [] []) [x18] s91 fun x116 s117 =>
  hCall call (.func (.func 23) [] []) [x115, x116] s117 fun x118 s119 =>
  hExt 0 x118 fun x120 =>
  hExt 1 x118 fun x121 =>
  hStLN 7 [(.int .i64 (.ofNat 0)), (.bool false), (.str []), (.str []), .nils, .nils, (.int .i64 (.ofNat 0))] 0 x120 fun c122 =>
  hLocN 7 c92 0 fun x123 =>
  hCall call (.func (.func 21) [] []) [x123] s119 fun x124 s125 =>
  hFrees [.loc 7 0 c15] (
  hLocN 7 c15 0 fun x126 =>
  hCall call (.func (.func 21) [] []) [x126] s125 fun x127 s128 =>
  hArith Int.sub x124 x127 fun x129 =>
  hIf x121 (
  hLocN 7 c16 0 fun x131 =>
  hCall call (.func (.func 21) [] []) [x131] s128 fun x132 s133 =>
  hFrees [.loc 11 0 c122] (
  hLocN 7 c122 0 fun x134 =>
  hCall call (.func (.func 21) [] []) [x134] s133 fun x135 s136 =>
  hArith Int.sub x132 x135 fun x137 =>
  hCmpI iEq x129 x137 fun x138 =>
  some (x138, s136))) (
  hCall call (.func (.func 20) [] []) [x18] s128 fun x140 s141 =>
  hFrees [.val x140] (
  hLenS x140 fun x142 =>
  hNotPtrs [.val (.int .i64 (.ofNat 1)), .val x142] (
  hArith Int.add (.int .i64 (.ofNat 1)) x142 fun x143 =>
  hFrees [.loc 8 0 c16] (
  hLocN 7 c16 0 fun x144 =>
  hCall call (.func (.func 21) [] []) [x144] s141 fun x145 s146 =>
  hArith Int.add x143 x145 fun x147 =>
  hCmpI iEq x129 x147 fun x148 =>
  hlet (α := AV → Store → Rs) (fun x149 s150 =>
  hlet (α := AV → Store → Rs) (fun x152 s153 =>
  hlet (α := AV → Store → Rs) (fun x155 s156 =>
  hlet (α := AV → Store → Rs) (fun x158 s159 =>
  hlet (α := AV → Store → Rs) (fun x161 s162 =>
  hlet (α := AV → Store → Rs) (fun x164 s165 =>
  hlet (α := AV → Store → Rs) (fun x167 s168 =>
  hlet (α := AV → Store → Rs) (fun x170 s171 =>
  hlet (α := AV → Store → Rs) (fun x173 s174 =>
  hPick x148 x173 (.bool false) fun x176 =>
  some (x176, s174)) fun j175 =>
  hWant x148 true (
  hVal (aBinC E0.L 4 .eql false x152 x170 s171) fun x177 s178 =>
  j175 x177 s178) (j175 aundef s171)) fun j172 =>
  hWant x148 true (
  hPick x161 x167 (.bool false) fun x179 =>
  j172 x179 s168) (j172 aundef s168)) fun j169 =>
  hWant x161 true (
  hCall call (.func (.func 22) [] []) [x164] s165 fun x180 s181 =>
  j169 x180 s181) (j169 aundef s165)) fun j166 =>
  hWant x161 true (
  hLocN 7 c16 0 fun x182 =>
  j166 x182 s162) (j166 aundef s162)) fun j163 =>
  hWant x148 true (
  j163 x158 s159) (j163 aundef s159)) fun j160 =>
  hWant x148 true (
  hCall call (.func (.func 22) [] []) [x155] s156 fun x183 s184 =>
  j160 x183 s184) (j160 aundef s156)) fun j157 =>
  hWant x148 true (
  hFrees [.loc 7 0 c15] (
  hLocN 7 c15 0 fun x185 =>
  j157 x185 s153)) (j157 aundef s153)) fun j154 =>
  hWant x148 true (
  hCall call (.func (.func 22) [] []) [x149] s150 fun x186 s187 =>
  j154 x186 s187) (j154 aundef s150)) fun j151 =>
  hWant x148 true (
  hLocN 7 c92 0 fun x188 =>
  j151 x188 s146) (j151 aundef s146))))))))))))
theorem b5_eq : b5 = fun call n args st =>
  un1 args fun p0 r0 =>
  un1 r0 fun p1 r1 =>
  un1 r1 fun p2 r2 =>
  un0 r2 (
  hCall call (.func (.func 18) [] []) [] st fun x0 s1 =>
  hNot x0 fun x2 =>
  hIf x2 (
  some ((.bool false), s1)) (
  hCall call (.func (.func 14) [] []) [p0, (.bool true)] s1 fun x5 s6 =>
  hCall call (.func (.func 14) [] []) [p1, (.bool true)] s6 fun x7 s8 =>
  hStLN 7 [(.int .i64 (.ofNat 0)), (.bool false), (.str []), (.str []), .nils, .nils, (.int .i64 (.ofNat 0))] 0 x5 fun c9 =>
  hStLN 7 [(.int .i64 (.ofNat 0)), (.bool false), (.str []), (.str []), .nils, .nils, (.int .i64 (.ofNat 0))] 0 x7 fun c10 =>
  hloop (sizesBody call) n [.agg c9, .agg c10, (.int .i64 (.ofNat 0)), p2] s8)) := rfl
set_option maxRecDepth 1000000 in
theorem bool_eql (a b : Bool) (st : Store) : aBinC E0.L 4 .eql false (.bool a) (.bool b) st = some (.val (.bool (a == b)), st) := by
  simp only [aBinC, binC, otherV, eqV, und4, eqBool]
theorem x_iLt' (a b : Nat) : (!(iLt (.ofNat a) (.ofNat b))) = decide (b ≤ a) := by
  rw [x_iLt, Bool.eq_iff_iff]; simp
theorem getV_mk (t : Int) (b1 : Bool) (n s : Bytes) (ks : List Bytes) (vs : List Vl) (f : Int) (k : Bytes) : getV (.mk t b1 n s ks vs f) k = if ks[lbnd k ks]? = some k then vs[lbnd k ks]? else none := rfl
set_option maxRecDepth 1000000 in
set_option maxHeartbeats 4000000 in
theorem sizes_true {B1 B2 : AV} {xs1 xs2 : List UInt8} (h1 : IsB0 B1 xs1) (h2 : IsB0 B2 xs2) (m : Nat) : ∃ n, b5 (Call prV n) n [B1, B2, .int .u8 (.ofNat m)] (S0 []) = some (.bool true, S0 []) := by
  obtain ⟨x, a, hx, hxa, hxn, hxs, hxd⟩ := call_drawn pV14 h1 true
  obtain ⟨y, b, hy, hyb, hyn, hys, hyd⟩ := call_drawn pV14 h2 true
  have fa := Dr_fine hxd
  have fb := Dr_fine hyd
  obtain ⟨y1, y2, y3, y4, y5, y6, y7, rfl⟩ := cells7 hyb
  have hbig : big = 1099511627776 := rfl
  cases a with
  | mk t b1 nn ss ks vs f =>
  obtain ⟨K, W, rfl, hk, hw⟩ := isV_iff.1 hxa
  have hsz : (Vl.mk t b1 nn ss ks vs f).size = 1 + nn.length + ss.length + ksum ks + vsum vs := by simp only [Vl.size]
  have hvl := vsum_len vs
  have hsa := fa.sz
  have hsb := fb.sz
  refine ⟨vs.length + 2, ?_⟩
  simp only [b5_eq, x_un1, x_un0, x_hCall (call_works pV18 _ _), x_hNot, Bool.not_true, x_hIf_f, x_hCall (hx _ _), x_hCall (hy _ _), x_hStLN7]
  refine loop_rule (fun j vals st => ∃ i, vals = [.agg [.int .i64 t, .bool b1, .str nn, .str ss, K, W, .int .i64 f], .agg [y1, y2, y3, y4, y5, y6, y7], .int .i64 (.ofNat i), .int .u8 (.ofNat m)] ∧ i + j = vs.length ∧ st = S0 []) ?_ ?_ vs.length _ _ _ ⟨0, rfl, by omega, rfl⟩ (by omega)
  · intro j vals st ih ⟨i, hv, hi, hst⟩ hnext
    subst hv hst
    have hlt : i < vs.length := by omega
    have hg : vs[i]? = some vs[i] := List.getElem?_eq_getElem hlt
    have hvg := vsum_get hg
    obtain ⟨cs, hcs, hlen, hel⟩ := x_elemW hw hg
    have hs1 := call_size pV21 hcs (by omega) (vs.length + 1) (S0 [])
    have hs2 := call_size pV21 hxa (by omega) (vs.length + 1) (S0 [])
    have hlt2 : decide ((Vl.mk t b1 nn ss ks vs f).size ≤ vs[i].size) = false := decide_eq_false (by omega)
    have hd1 := call_data pV22 hxa (by omega) (vs.length + 1) (S0 [])
    have hd2 := call_data pV22 hcs (by omega) (vs.length + 1) (S0 [])
    unfold sizesBody
    simp only [x_un1, x_unAgg, x_hLoc1, x_hNth0, x_hNthS, x_lenW hw, x_hCmpI, x_iLt, decide_eq_true hlt, x_hIf_t, hel, x_hLdN_r, x_hCut_all hlen, x_hCall hs1, x_hFrees_loc, x_hLocN, x_hCut7, x_hCall hs2, x_hlet]
    rw [show (!decide (vs[i].size < (Vl.mk t b1 nn ss ks vs f).size)) = false by simp; omega]
    simp only [x_hWant_ff, x_hCall hd1]
    cases hda : (Vl.mk t b1 nn ss ks vs f).data with
    | false =>
      simp only [x_hWB, x_hWant_ft, x_hWant_ff, x_hPick_f, x_hIf_f]
      rw [x_add (by omega)]
      exact hnext _ _ ⟨i + 1, rfl, by omega, rfl⟩
    | true =>
      have hdv : vs[i].data = true := by
        cases h : vs[i].data with
        | true => rfl
        | false =>
          have := dall_get hg h
          simp only [Vl.data, this, Bool.and_false] at hda
          cases hda
      simp only [x_hWB, x_hWant_tt, x_hWant_ff, x_hPick_t, x_hPick_f, hel, x_hLdN_r, x_hCut_all hlen, x_hCall hd2, hdv, x_hNot, Bool.not_true, x_hIf_f]
      rw [x_add (by omega)]
      exact hnext _ _ ⟨i + 1, rfl, by omega, rfl⟩
  · intro vals st ih ⟨i, hv, hi, hst⟩
    subst hv hst
    have hi : i = vs.length := by omega
    subst hi
    have hkey := call_key pV20 m (vs.length + 1) (S0 [])
    have hkl := key8_len m
    generalize key8 m = k at hkey hkl
    obtain ⟨d, hd1, hd2, hd3, hd4⟩ := call_set pV19 k hxa hyb (by omega) fa.ri fa.di hxn (vs.length + 1) (S0 [])
    obtain ⟨z1, z2, z3, z4, z5, z6, z7, rfl⟩ := cells7 hd2
    unfold sizesBody
    simp only [x_un1, x_unAgg, x_hLoc1, x_hNth0, x_hNthS, x_lenW hw, x_hCmpI, x_iLt, decide_eq_false (Nat.lt_irrefl _), x_hIf_f, x_hFrees_loc, x_hLocN, x_hCut7, x_hCall hkey, x_hCall hd1, x_hStLN7]
    have hsx := call_size pV21 hxa (by omega) (vs.length + 1) (S0 [])
    have hsy := call_size pV21 hyb (by omega) (vs.length + 1) (S0 [])
    by_cases ht : t = 4
    rotate_left
    · have hne : iEq t (Int.ofNat 4) = false := by rw [x_iEq]; simpa using ht
      have hset : setV (.mk t b1 nn ss ks vs f) k b = .mk t b1 nn ss ks vs f := by simp only [setV, if_neg ht]
      rw [hset] at hd2
      have hsm := call_same pV17 hd2 hxa (by omega) (by omega) (vs.length + 1) (S0 [])
      simp only [decide_true] at hsm
      simp only [hne, Bool.not_false, x_hIf_t, x_hCall hsm, x_hlet, x_hWant_tt, x_hCall hsx, x_hCmpI, x_iLt', x_hPick_t]
      rw [decide_eq_true (show 1 ≤ (Vl.mk t b1 nn ss ks vs f).size by omega)]
    · subst ht
      have heq : iEq 4 (Int.ofNat 4) = true := by decide
      obtain ⟨g, gb, c, hg1, hg2, hg3⟩ := call_get pV23 k hxa (by omega) fa.ri fa.le (vs.length + 1) (S0 [])
      obtain ⟨g1, g2, g3, g4, g5, g6, g7, rfl⟩ := cells7 hg2
      simp only [heq, Bool.not_true, x_hIf_f, x_hCall hg1, x_hExt, x_hNth0, x_hNthS, x_hStLN7]
      rcases hg3 with ⟨hget, rfl⟩ | ⟨hget, rfl, rfl⟩
      · -- the key is there
        rw [getV_mk] at hget
        have hf : ks[lbnd k ks]? = some k := by
          by_cases hf : ks[lbnd k ks]? = some k
          · exact hf
          · rw [if_neg hf] at hget; cases hget
        have hvg : vs[lbnd k ks]? = some gb := by
          rw [if_pos hf] at hget
          exact hget
        have hgs := vsum_get hvg
        have hvs := vsum_set (b := b) hvg
        have hset : setV (.mk 4 b1 nn ss ks vs f) k b = .mk 4 b1 nn ss ks (vs.set (lbnd k ks) b) f := by simp only [setV, if_true, if_pos hf]
        rw [hset] at hd2
        have hsd : (Vl.mk 4 b1 nn ss ks (vs.set (lbnd k ks) b) f).size = 1 + nn.length + ss.length + ksum ks + vsum (vs.set (lbnd k ks) b) := by simp only [Vl.size]
        have hsd' := call_size pV21 hd2 (by omega) (vs.length + 1) (S0 [])
        have hsg := call_size pV21 hg2 (by omega) (vs.length + 1) (S0 [])
        simp only [x_hCall hsd', x_hCall hsx, x_hArith, x_hIf_t, x_hCall hsy, x_hCut7, x_hFrees_loc, x_hLocN, x_hCall hsg, x_hCmpI, x_iEq]
        have : Int.sub (Int.ofNat (Vl.mk 4 b1 nn ss ks (vs.set (lbnd k ks) b) f).size) (Int.ofNat (Vl.mk 4 b1 nn ss ks vs f).size) = Int.sub (Int.ofNat b.size) (Int.ofNat gb.size) := by
          show ((_ : Nat) : Int) - ((_ : Nat) : Int) = ((_ : Nat) : Int) - ((_ : Nat) : Int)
          omega
        rw [this]
        simp
      · -- it is not
        have hlv : ks.length = vs.length := fa.di rfl
        have hf : ¬ ks[lbnd k ks]? = some k := by
          intro hf
          rw [getV_mk, if_pos hf] at hget
          have := (List.getElem?_eq_some_iff.1 hf).1
          rw [List.getElem?_eq_getElem (by omega)] at hget
          cases hget
        have hset : setV (.mk 4 b1 nn ss ks vs f) k b = .mk 4 b1 nn ss (ks.take (lbnd k ks) ++ k :: ks.drop (lbnd k ks)) (vs.take (lbnd k ks) ++ b :: vs.drop (lbnd k ks)) f := by simp only [setV, if_true, if_neg hf]
        rw [hset] at hd2
        have hsd : (Vl.mk 4 b1 nn ss (ks.take (lbnd k ks) ++ k :: ks.drop (lbnd k ks)) (vs.take (lbnd k ks) ++ b :: vs.drop (lbnd k ks)) f).size = 1 + nn.length + ss.length + (ksum ks + (1 + k.length)) + (vsum vs + b.size) := by
          simp only [Vl.size, ksum_ins, vsum_ins]
        have hdd : (Vl.mk 4 b1 nn ss (ks.take (lbnd k ks) ++ k :: ks.drop (lbnd k ks)) (vs.take (lbnd k ks) ++ b :: vs.drop (lbnd k ks)) f).data = ((Vl.mk 4 b1 nn ss ks vs f).data && b.data) := by
          simp only [Vl.data, dall_ins, Bool.and_assoc]
        have hsd' := call_size pV21 hd2 (by omega) (vs.length + 1) (S0 [])
        have hdx := call_data pV22 hxa (by omega) (vs.length + 1) (S0 [])
        have hdy := call_data pV22 hyb (by omega) (vs.length + 1) (S0 [])
        have hdd' := call_data pV22 hd2 (by omega) (vs.length + 1) (S0 [])
        simp only [x_hCall hsd', x_hCall hsx, x_hIf_f]
        rw [x_sub (by omega) (by omega)]
        simp only [x_hCall hkey, x_hFrees_v (show freeIn (.str k) = true from rfl), x_hLenS, x_hNotPtrs, x_hFrees_loc, x_hLocN, x_hCut7, x_hCall hsy]
        rw [x_add (by omega), x_add (by omega)]
        simp only [x_hCmpI, x_iEq]
        rw [show decide (Int.ofNat ((Vl.mk 4 b1 nn ss (ks.take (lbnd k ks) ++ k :: ks.drop (lbnd k ks)) (vs.take (lbnd k ks) ++ b :: vs.drop (lbnd k ks)) f).size - (Vl.mk 4 b1 nn ss ks vs f).size) = Int.ofNat (1 + k.length + b.size)) = true by
          refine decide_eq_true (congrArg Int.ofNat ?_); omega]
        simp only [x_hlet, x_hWant_tt, x_hCall hdd', x_hFrees_loc, x_hCall hdx]
        rw [hdd]
        cases (Vl.mk 4 b1 nn ss ks vs f).data <;> cases hbd : b.data <;> simp only [x_hWant_tt, x_hWant_ft, x_hCall hdy, hbd, x_hPick_t, x_hPick_f, x_hVal (bool_eql _ _ _), Bool.and_true, Bool.and_false, Bool.true_and, Bool.false_and, beq_self_eq_true]
set_option maxRecDepth 1000000 in
theorem fn5 : E0.L.fn 5 = some Tryz.f5 := by kernel_rfl
theorem p0_5 : pr0 5 = none := by kernel_rfl
theorem pV5 : prV 5 = none := by simp [prV, prWith, p0_5]

end Go.Sim
