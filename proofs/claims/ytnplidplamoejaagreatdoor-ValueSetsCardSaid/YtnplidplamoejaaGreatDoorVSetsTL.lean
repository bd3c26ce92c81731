/- Part of the proof that litmuslaw11.ValueSets answers true for every input. -/
import Derived.Test.YtnplidplamoejaaGreatDoorVSetsTJ
import Derived.Test.YtnplidplamoejaaGreatDoorVSetsTE
import Derived.Test.YtnplidplamoejaaGreatDoorVSetsTK
set_option linter.unusedVariables false
set_option linter.unusedSimpArgs false
set_option linter.unnecessarySimpa false
namespace Go.Sim
open Go.Proofs

set_option maxRecDepth 1000000 in
theorem bodyOk {k m : Nat} {fn : Func} {ha : HA} {b : HBody} (he : b = hfun E0 (An0 k) ha (List.range m) fn) (hf : E0.L.fn k = some fn) : BodyOk E0 An0 k b := by
  intro call call' n args st r hc h
  subst he
  have hf' : Tryz.prog.funcs[k]? = some fn := hf
  exact hfun_ok (fok0.ann k) hc hf rfl (fun c hc => fok0.code k fn c hf' hc) h
noncomputable def wTab : List (Nat × HBody) := [(15, b15), (18, b18), (19, b19), (21, b21), (23, b23), (24, b24), (26, b26), (28, b28), (29, b29), (34, b34), (35, b35), (48, b48), (51, b51), (52, b52), (53, b53), (58, b58), (59, b59), (60, b60), (61, b61), (62, b62), (63, b63), (64, b64), (65, b65), (66, b66), (69, b69), (70, b70), (71, b71), (72, b72), (73, b73), (78, b78), (84, b84), (85, b85), (86, b86), (89, b89), (90, b90), (92, b92), (94, b94), (96, b96), (97, b97), (98, b98), (99, b99), (100, b100), (101, b101), (103, b103), (110, b110), (111, b111), (112, b112), (113, b113), (116, b116), (117, b117), (118, b118), (119, b119), (120, b120), (129, b129), (130, b130), (131, b131), (132, b132), (135, b135), (142, b142), (143, b143), (144, b144), (148, b148), (149, b149), (150, b150), (151, b151), (153, b153), (154, b154), (155, b155), (156, b156), (160, b160), (161, b161), (162, b162), (163, b163), (164, b164), (165, b165), (166, b166), (167, b167), (169, b169), (170, b170), (171, b171), (172, b172), (173, b173), (174, b174), (175, b175), (176, b176), (177, b177), (178, b178), (179, b179), (180, b180), (181, b181), (182, b182), (183, b183), (184, b184), (185, b185), (186, b186), (187, b187), (188, b188), (189, b189), (190, b190), (191, b191), (192, b192), (193, b193), (195, b195), (196, b196), (197, b197), (198, b198), (203, b203), (205, b205), (206, b206), (207, b207)]
set_option maxRecDepth 1000000 in
theorem wTab_low : wTab.all (fun p => Nat.blt p.1 8000) = true := by kernel_rfl
set_option maxRecDepth 1000000 in
theorem wTab_ok : ∀ p ∈ wTab, BodyOk E0 An0 p.1 p.2 := 
  List.forall_mem_cons.2 ⟨bodyOk e15 (by kernel_rfl),
  List.forall_mem_cons.2 ⟨bodyOk e18 (by kernel_rfl),
  List.forall_mem_cons.2 ⟨bodyOk e19 (by kernel_rfl),
  List.forall_mem_cons.2 ⟨bodyOk e21 (by kernel_rfl),
  List.forall_mem_cons.2 ⟨bodyOk e23 (by kernel_rfl),
  List.forall_mem_cons.2 ⟨bodyOk e24 (by kernel_rfl),
  List.forall_mem_cons.2 ⟨bodyOk e26 (by kernel_rfl),
  List.forall_mem_cons.2 ⟨bodyOk e28 (by kernel_rfl),
  List.forall_mem_cons.2 ⟨bodyOk e29 (by kernel_rfl),
  List.forall_mem_cons.2 ⟨bodyOk e34 (by kernel_rfl),
  List.forall_mem_cons.2 ⟨bodyOk e35 (by kernel_rfl),
  List.forall_mem_cons.2 ⟨bodyOk e48 (by kernel_rfl),
  List.forall_mem_cons.2 ⟨bodyOk e51 (by kernel_rfl),
  List.forall_mem_cons.2 ⟨bodyOk e52 (by kernel_rfl),
  List.forall_mem_cons.2 ⟨bodyOk e53 (by kernel_rfl),
  List.forall_mem_cons.2 ⟨bodyOk e58 (by kernel_rfl),
  List.forall_mem_cons.2 ⟨bodyOk e59 (by kernel_rfl),
  List.forall_mem_cons.2 ⟨bodyOk e60 (by kernel_rfl),
  List.forall_mem_cons.2 ⟨bodyOk e61 (by kernel_rfl),
  List.forall_mem_cons.2 ⟨bodyOk e62 (by kernel_rfl),
  List.forall_mem_cons.2 ⟨bodyOk e63 (by kernel_rfl),
  List.forall_mem_cons.2 ⟨bodyOk e64 (by kernel_rfl),
  List.forall_mem_cons.2 ⟨bodyOk e65 (by kernel_rfl),
  List.forall_mem_cons.2 ⟨bodyOk e66 (by kernel_rfl),
  List.forall_mem_cons.2 ⟨bodyOk e69 (by kernel_rfl),
  List.forall_mem_cons.2 ⟨bodyOk e70 (by kernel_rfl),
  List.forall_mem_cons.2 ⟨bodyOk e71 (by kernel_rfl),
  List.forall_mem_cons.2 ⟨bodyOk e72 (by kernel_rfl),
  List.forall_mem_cons.2 ⟨bodyOk e73 (by kernel_rfl),
  List.forall_mem_cons.2 ⟨bodyOk e78 (by kernel_rfl),
  List.forall_mem_cons.2 ⟨bodyOk e84 (by kernel_rfl),
  List.forall_mem_cons.2 ⟨bodyOk e85 (by kernel_rfl),
  List.forall_mem_cons.2 ⟨bodyOk e86 (by kernel_rfl),
  List.forall_mem_cons.2 ⟨bodyOk e89 (by kernel_rfl),
  List.forall_mem_cons.2 ⟨bodyOk e90 (by kernel_rfl),
  List.forall_mem_cons.2 ⟨bodyOk e92 (by kernel_rfl),
  List.forall_mem_cons.2 ⟨bodyOk e94 (by kernel_rfl),
  List.forall_mem_cons.2 ⟨bodyOk e96 (by kernel_rfl),
  List.forall_mem_cons.2 ⟨bodyOk e97 (by kernel_rfl),
  List.forall_mem_cons.2 ⟨bodyOk e98 (by kernel_rfl),
  List.forall_mem_cons.2 ⟨bodyOk e99 (by kernel_rfl),
  List.forall_mem_cons.2 ⟨bodyOk e100 (by kernel_rfl),
  List.forall_mem_cons.2 ⟨bodyOk e101 (by kernel_rfl),
  List.forall_mem_cons.2 ⟨bodyOk e103 (by kernel_rfl),
  List.forall_mem_cons.2 ⟨bodyOk e110 (by kernel_rfl),
  List.forall_mem_cons.2 ⟨bodyOk e111 (by kernel_rfl),
  List.forall_mem_cons.2 ⟨bodyOk e112 (by kernel_rfl),
  List.forall_mem_cons.2 ⟨bodyOk e113 (by kernel_rfl),
  List.forall_mem_cons.2 ⟨bodyOk e116 (by kernel_rfl),
  List.forall_mem_cons.2 ⟨bodyOk e117 (by kernel_rfl),
  List.forall_mem_cons.2 ⟨bodyOk e118 (by kernel_rfl),
  List.forall_mem_cons.2 ⟨bodyOk e119 (by kernel_rfl),
  List.forall_mem_cons.2 ⟨bodyOk e120 (by kernel_rfl),
  List.forall_mem_cons.2 ⟨bodyOk e129 (by kernel_rfl),
  List.forall_mem_cons.2 ⟨bodyOk e130 (by kernel_rfl),
  List.forall_mem_cons.2 ⟨bodyOk e131 (by kernel_rfl),
  List.forall_mem_cons.2 ⟨bodyOk e132 (by kernel_rfl),
  List.forall_mem_cons.2 ⟨bodyOk e135 (by kernel_rfl),
  List.forall_mem_cons.2 ⟨bodyOk e142 (by kernel_rfl),
  List.forall_mem_cons.2 ⟨bodyOk e143 (by kernel_rfl),
  List.forall_mem_cons.2 ⟨bodyOk e144 (by kernel_rfl),
  List.forall_mem_cons.2 ⟨bodyOk e148 (by kernel_rfl),
  List.forall_mem_cons.2 ⟨bodyOk e149 (by kernel_rfl),
  List.forall_mem_cons.2 ⟨bodyOk e150 (by kernel_rfl),
  List.forall_mem_cons.2 ⟨bodyOk e151 (by kernel_rfl),
  List.forall_mem_cons.2 ⟨bodyOk e153 (by kernel_rfl),
  List.forall_mem_cons.2 ⟨bodyOk e154 (by kernel_rfl),
  List.forall_mem_cons.2 ⟨bodyOk e155 (by kernel_rfl),
  List.forall_mem_cons.2 ⟨bodyOk e156 (by kernel_rfl),
  List.forall_mem_cons.2 ⟨bodyOk e160 (by kernel_rfl),
  List.forall_mem_cons.2 ⟨bodyOk e161 (by kernel_rfl),
  List.forall_mem_cons.2 ⟨bodyOk e162 (by kernel_rfl),
  List.forall_mem_cons.2 ⟨bodyOk e163 (by kernel_rfl),
  List.forall_mem_cons.2 ⟨bodyOk e164 (by kernel_rfl),
  List.forall_mem_cons.2 ⟨bodyOk e165 (by kernel_rfl),
  List.forall_mem_cons.2 ⟨bodyOk e166 (by kernel_rfl),
  List.forall_mem_cons.2 ⟨bodyOk e167 (by kernel_rfl),
  List.forall_mem_cons.2 ⟨bodyOk e169 (by kernel_rfl),
  List.forall_mem_cons.2 ⟨bodyOk e170 (by kernel_rfl),
  List.forall_mem_cons.2 ⟨bodyOk e171 (by kernel_rfl),
  List.forall_mem_cons.2 ⟨bodyOk e172 (by kernel_rfl),
  List.forall_mem_cons.2 ⟨bodyOk e173 (by kernel_rfl),
  List.forall_mem_cons.2 ⟨bodyOk e174 (by kernel_rfl),
  List.forall_mem_cons.2 ⟨bodyOk e175 (by kernel_rfl),
  List.forall_mem_cons.2 ⟨bodyOk e176 (by kernel_rfl),
  List.forall_mem_cons.2 ⟨bodyOk e177 (by kernel_rfl),
  List.forall_mem_cons.2 ⟨bodyOk e178 (by kernel_rfl),
  List.forall_mem_cons.2 ⟨bodyOk e179 (by kernel_rfl),
  List.forall_mem_cons.2 ⟨bodyOk e180 (by kernel_rfl),
  List.forall_mem_cons.2 ⟨bodyOk e181 (by kernel_rfl),
  List.forall_mem_cons.2 ⟨bodyOk e182 (by kernel_rfl),
  List.forall_mem_cons.2 ⟨bodyOk e183 (by kernel_rfl),
  List.forall_mem_cons.2 ⟨bodyOk e184 (by kernel_rfl),
  List.forall_mem_cons.2 ⟨bodyOk e185 (by kernel_rfl),
  List.forall_mem_cons.2 ⟨bodyOk e186 (by kernel_rfl),
  List.forall_mem_cons.2 ⟨bodyOk e187 (by kernel_rfl),
  List.forall_mem_cons.2 ⟨bodyOk e188 (by kernel_rfl),
  List.forall_mem_cons.2 ⟨bodyOk e189 (by kernel_rfl),
  List.forall_mem_cons.2 ⟨bodyOk e190 (by kernel_rfl),
  List.forall_mem_cons.2 ⟨bodyOk e191 (by kernel_rfl),
  List.forall_mem_cons.2 ⟨bodyOk e192 (by kernel_rfl),
  List.forall_mem_cons.2 ⟨bodyOk e193 (by kernel_rfl),
  List.forall_mem_cons.2 ⟨bodyOk e195 (by kernel_rfl),
  List.forall_mem_cons.2 ⟨bodyOk e196 (by kernel_rfl),
  List.forall_mem_cons.2 ⟨bodyOk e197 (by kernel_rfl),
  List.forall_mem_cons.2 ⟨bodyOk e198 (by kernel_rfl),
  List.forall_mem_cons.2 ⟨bodyOk e203 (by kernel_rfl),
  List.forall_mem_cons.2 ⟨bodyOk e205 (by kernel_rfl),
  List.forall_mem_cons.2 ⟨bodyOk e206 (by kernel_rfl),
  List.forall_mem_cons.2 ⟨bodyOk e207 (by kernel_rfl),
  fun p hp => (by cases hp)⟩⟩⟩⟩⟩⟩⟩⟩⟩⟩⟩⟩⟩⟩⟩⟩⟩⟩⟩⟩⟩⟩⟩⟩⟩⟩⟩⟩⟩⟩⟩⟩⟩⟩⟩⟩⟩⟩⟩⟩⟩⟩⟩⟩⟩⟩⟩⟩⟩⟩⟩⟩⟩⟩⟩⟩⟩⟩⟩⟩⟩⟩⟩⟩⟩⟩⟩⟩⟩⟩⟩⟩⟩⟩⟩⟩⟩⟩⟩⟩⟩⟩⟩⟩⟩⟩⟩⟩⟩⟩⟩⟩⟩⟩⟩⟩⟩⟩⟩⟩⟩⟩⟩⟩⟩⟩⟩⟩⟩⟩
noncomputable def hTab : Tr HBody := mkTr wTab
set_option maxRecDepth 1000000 in
theorem hTab_ok (f : Nat) (b : HBody) (h : hTab.get f = some b) : BodyOk E0 An0 f b :=
  wTab_ok (f, b) (mkTr_get (fun p hp => Nat.le_of_ble_eq_true (List.all_eq_true.1 wTab_low p hp)) h)
def isTrue : Option (AV × Store) → Bool
  | some (.bool b, _) => b
  | _ => false
set_option maxRecDepth 1000000 in
theorem works_true : isTrue (hcall E0 An0 pr0 hTab.get 5000 (.func (.func 18) [] []) [] Store.empty) = true := by kernel_rfl
theorem p0_18 : pr0 18 = none := by kernel_rfl
set_option maxRecDepth 1000000 in
/-- The chapter's examples hold. -/
theorem works_run : PureRun E0 18 [] (.bool true) := by
  have h := works_true
  cases hr : hcall E0 An0 pr0 hTab.get 5000 (.func (.func 18) [] []) [] Store.empty with
  | none => rw [hr] at h; cases h
  | some r =>
    obtain ⟨v, st1⟩ := r
    rw [hr] at h
    have ha := hcall_ok fok0 hTab_ok (pr := pr0) 5000 _ _ _ _ hr
    cases v with
    | bool b =>
      have hb : b = true := h
      subst hb
      have ha' : afun E0 (fun f => (An0 f).ann) (acall E0 (fun f => (An0 f).ann) pr0 4999) 4999 18 [] Store.empty = some (.bool true, st1) := by
        have : acall E0 (fun f => (An0 f).ann) pr0 (4999 + 1) (.func (.func 18) [] []) [] Store.empty = (match pr0 18 with
          | some p => (match p ([] ++ [] ++ []) Store.empty with
            | some r => some r
            | none => afun E0 (fun f => (An0 f).ann) (acall E0 (fun f => (An0 f).ann) pr0 4999) 4999 18 ([] ++ [] ++ []) Store.empty)
          | none => afun E0 (fun f => (An0 f).ann) (acall E0 (fun f => (An0 f).ann) pr0 4999) 4999 18 ([] ++ [] ++ []) Store.empty) := rfl
        rw [this, p0_18] at ha
        simpa using ha
      have wf : ∀ (f : FuncId) (t b : Nat), ((fun f => (An0 f).ann) f).base t = some b → ((fun f => (An0 f).ann) f).base b = some b := fun f t b hh => wf0 f t b hh
      exact @pureRun_scalar E0 mix0 (fun f => (An0 f).ann) wf name0 glob0 pr0 prims0 4999 18 [] (.bool true) st1 rfl ha' rfl
    | _ => cases h
end Go.Sim

namespace Go.Sim
open Go.Proofs

def byteA (b : UInt8) : AV := .int .u8 (.ofNat b.toNat)
/-- Bytes that are handed in. -/
def IsB0 (B : AV) (xs : List UInt8) : Prop := ((B = .nils ∨ B = .zsl) ∧ xs = []) ∨ B = .row 1 none none (xs.map byteA)
theorem plain_bytes : ∀ xs : List UInt8, plainVs (xs.map byteA) = true
  | [] => rfl
  | x :: xs => by simp [plainVs, plainV, byteA, plain_bytes xs]
theorem strip_bytes : ∀ xs : List UInt8, stripVs (xs.map byteA) = xs.map byteA
  | [] => rfl
  | x :: xs => by simp [stripVs, stripV, byteA, strip_bytes xs]
theorem isB0_plain {B : AV} {xs : List UInt8} (h : IsB0 B xs) : plainV B = true ∧ stripV B = B := by
  rcases h with ⟨rfl | rfl, _⟩ | rfl
  · exact ⟨rfl, rfl⟩
  · exact ⟨rfl, rfl⟩
  · exact ⟨by simp [plainV, plain_bytes], by simp [stripV, strip_bytes]⟩
def GDrawn (args : List AV) (v : AV) : Prop := ∀ B fn xs, args = [B, .bool fn] → IsB0 B xs → ∃ a, IsV v a ∧ Neat v ∧ stripV v = v ∧ Dr fn 3 a
set_option maxRecDepth 1000000 in
theorem fn14 : E0.L.fn 14 = some Tryz.f14 := by kernel_rfl
set_option maxRecDepth 1000000 in
theorem fn20 : E0.L.fn 20 = some Tryz.f20 := by kernel_rfl
set_option maxRecDepth 1000000 in
theorem el22 : elemT E0.L 22 = some 5 := by kernel_rfl
set_option maxRecDepth 1000000 in
theorem size5 : sizeT E0.L 5 = some 1 := by kernel_rfl
theorem szB3 : szB 3 < big - 10 := by decide
theorem cost3 : 0 + cost 3 < big := by decide
theorem min40 (n : Nat) (st : Store) : aBuiltin E0.L 0 .min #[3, 3] [.val (.int .i64 (.ofNat n)), .val (.int .i64 (.ofNat 40))] st = some (.val (.int .i64 (.ofNat (min n 40))), st) := by
  simp only [aBuiltin, aMin]
  have : (if (Int.ofNat 40) < (Int.ofNat n) then (Int.ofNat 40) else (Int.ofNat n)) = Int.ofNat (min n 40) := by
    split
    · rename_i h
      have : 40 < n := Int.ofNat_lt.1 h
      rw [Nat.min_eq_right (by omega)]
    · rename_i h
      have : ¬ 40 < n := fun q => h (Int.ofNat_lt.2 q)
      rw [Nat.min_eq_left (by omega)]
  rw [this]
set_option maxRecDepth 1000000 in
theorem slice40 {B : AV} {xs : List UInt8} (h : IsB0 B xs) (st : Store) : ∃ B', sliceV E0.L 22 st B none (some (.int .i64 (.ofNat (min xs.length 40)))) none = some B' ∧ IsB B' (xs.take (min xs.length 40)) ∧ oneC B' = true := by
  rcases h with ⟨rfl | rfl, rfl⟩ | rfl
  · refine ⟨.nils, ?_, .inl ⟨.inl rfl, rfl⟩, rfl⟩
    simp only [sliceV, el22, size5, capOf, bounds, bnd, Option.getD_some, List.length_nil]
    rfl
  · refine ⟨.zsl, ?_, .inl ⟨.inr rfl, rfl⟩, rfl⟩
    simp only [sliceV, el22, size5, capOf, bounds, bnd, Option.getD_some, List.length_nil]
    rfl
  · refine ⟨.row 1 none none ((xs.map byteA).take (min xs.length 40)), ?_, .inr ⟨none, none, by rw [← List.map_take]; rfl⟩, rfl⟩
    have hb : bnd (some (.int .i64 (.ofNat (min xs.length 40)))) xs.length xs.length = some (min xs.length 40) := by
      simp only [bnd]
      rw [if_pos ⟨by simp, by simp; omega⟩]
      rfl
    have hb2 : bounds none (some (.int .i64 (.ofNat (min xs.length 40)))) xs.length xs.length = some (0, min xs.length 40) := by
      unfold bounds
      rw [hb]
      rfl
    simp only [sliceV, el22, size5, if_true, sliceRow, capOf, List.length_map, Option.getD_none, Nat.min_self, hb2, List.drop_zero, Nat.sub_zero]
theorem x_hFill1 {o : Nat} {v : AV} {cs : List AV} {k : List AV → Rs} (h : oneC v = true) : hFill [(o, 1, v)] cs k = hPut cs o v k := by
  cases v <;> first | rfl | cases h
set_option maxRecDepth 1000000 in
set_option maxHeartbeats 1000000 in
theorem drawn_run {B : AV} {xs : List UInt8} (hB : IsB0 B xs) (fn : Bool) : ∃ v, PureRun E0 14 [B, .bool fn] v ∧ GDrawn [B, .bool fn] v := by
  obtain ⟨hp, hs⟩ := isB0_plain hB
  obtain ⟨B', hsl, hB', hone⟩ := slice40 hB (S0 [])
  have hsl' : ∀ st, sliceV E0.L 22 st B none (some (.int .i64 (.ofNat (min xs.length 40)))) none = some B' := by
    intro st
    rcases hB with ⟨rfl | rfl, rfl⟩ | rfl
    · exact hsl
    · exact hsl
    · exact hsl
  obtain ⟨w, a, a', _, h2, h3, h4, h5, h6⟩ := value_call (fn := fn) hB' (by simp; unfold big; omega) 3 0 szB3 (by omega) cost3
  refine ⟨w, ?_, ?_⟩
  · refine pure_body e14 fn14 (by show (plainV B && (true && true)) = true; rw [hp]; rfl) (by show [stripV B, .bool fn] = _; rw [hs]) fun ts => ?_
    obtain ⟨v, more, e1, e2, e3⟩ := h6 20 ts (by omega)
    obtain ⟨c1, c2, c3, c4, c5, c6, c7, rfl⟩ := cells7 h3
    obtain ⟨d1, d2, d3, d4, d5, d6, d7, rfl⟩ := strip_agg7 e2
    refine ⟨prD, 20, _, SD B' a' (more ++ ts), more, prD_ok, ?_, rfl, e3, e2⟩
    have hlenB : ∀ k : AV → Rs, hLenR B k = k (.int .i64 (.ofNat xs.length)) := by
      intro k
      rcases hB with ⟨rfl | rfl, rfl⟩ | rfl
      · rfl
      · rfl
      · rw [x_hLenR_r, List.length_map]
    simp only [b14, x_un1, x_un0, hlenB, x_hVal (min40 _ _), x_hV (hsl' _), x_hFill1 hone, x_hPut0, x_hCells, x_hNew]
    have e1' : Call prD 20 (Fv 46) [.ptr (S0 ts).nobj 0, .int .i64 (.ofNat 3), .bool fn] ((S0 ts).new (.cells [B', .int .i64 (.ofNat 0)])) = some (.agg [d1, d2, d3, d4, d5, d6, d7], SD B' a' (more ++ ts)) := e1
    simp only [x_hCall e1', x_hStLN7, x_hLocN, x_hCut7]
  · intro B2 fn2 xs2 h hb2
    injection h with q1 q2
    injection q2 with q2
    injection q2 with q2
    subst q1 q2
    exact ⟨a, h3, h4, h2, h5⟩
def keys8 : List Bytes := [[97], [98], [], [107], [122, 122], [99], [0], [97, 97]]
def key8 (m : Nat) : Bytes := keys8.getD (m % 8) []
theorem key8_len (m : Nat) : (key8 m).length ≤ 2 := by
  have : ∀ j, j < 8 → (keys8.getD j []).length ≤ 2 := by decide
  exact this _ (Nat.mod_lt _ (by omega))
def GKey (args : List AV) (v : AV) : Prop := ∀ m, args = [.int .u8 (.ofNat m)] → v = .str (key8 m)
set_option maxRecDepth 1000000 in
theorem build8 (st : Store) : aBuildSlice E0.L 0 25 8 [0, 1, 2, 3, 4, 5, 6, 7] [.str [97], .str [98], .str [], .str [107], .str [122, 122], .str [99], .str [0], .str [97, 97]] st = some (.val (.row 1 none (some 8) (keys8.map .str)), st) := by kernel_rfl
set_option maxRecDepth 1000000 in
theorem key_run (m : Nat) : PureRun E0 20 [.int .u8 (.ofNat m)] (.str (key8 m)) := by
  refine pure_body e20 fn20 rfl rfl fun ts => ?_
  refine ⟨pr0, 1, .str (key8 m), S0 ts, [], prOk0, ?_, rfl, rfl, rfl⟩
  have hlt : m % 8 < keys8.length := Nat.mod_lt _ (by decide)
  have hg : keys8[m % 8]? = some (key8 m) := by
    rw [List.getElem?_eq_getElem hlt]
    simp only [key8, List.getD, List.getElem?_eq_getElem hlt, Option.getD_some]
  simp only [b20, x_un1, x_un0, x_hVal (build8 _), x_hVal (int_rem 5 .u8 m 8 (by omega) true _)]
  rw [x_hElem (y := .str (key8 m)) (by simp [hg])]
  rfl
end Go.Sim

namespace Go.Sim
open Go.Proofs

/-! ### Sizes, and data -/
theorem ksum_append : ∀ (a b : List Bytes), ksum (a ++ b) = ksum a + ksum b
  | [], b => by simp [ksum]
  | x :: a, b => by simp only [List.cons_append, ksum, ksum_append a b]; omega
theorem vsum_append : ∀ (a b : List Vl), vsum (a ++ b) = vsum a + vsum b
  | [], b => by simp [vsum]
  | x :: a, b => by simp only [List.cons_append, vsum, vsum_append a b]; omega
theorem dall_append : ∀ (a b : List Vl), dall (a ++ b) = (dall a && dall b)
  | [], b => by simp [dall]
  | x :: a, b => by simp only [List.cons_append, dall, dall_append a b, Bool.and_assoc]
theorem ksum_ins (ks : List Bytes) (i : Nat) (k : Bytes) : ksum (ks.take i ++ k :: ks.drop i) = ksum ks + (1 + k.length) := by
  have := ksum_append (ks.take i) (ks.drop i)
  rw [List.take_append_drop] at this
  rw [ksum_append]; simp only [ksum]; omega
theorem vsum_ins (vs : List Vl) (i : Nat) (v : Vl) : vsum (vs.take i ++ v :: vs.drop i) = vsum vs + v.size := by
  have := vsum_append (vs.take i) (vs.drop i)
  rw [List.take_append_drop] at this
  rw [vsum_append]; simp only [vsum]; omega
theorem dall_ins (vs : List Vl) (i : Nat) (v : Vl) : dall (vs.take i ++ v :: vs.drop i) = (dall vs && v.data) := by
  have := dall_append (vs.take i) (vs.drop i)
  rw [List.take_append_drop] at this
  rw [dall_append, this]; simp only [dall]
  cases dall (vs.take i) <;> cases dall (vs.drop i) <;> cases v.data <;> rfl
theorem vsum_set : ∀ {vs : List Vl} {i : Nat} {v b : Vl}, vs[i]? = some v → vsum (vs.set i b) + v.size = vsum vs + b.size
  | [], i, v, b, h => by simp at h
  | w :: vs, 0, v, b, h => by simp at h; subst h; simp only [List.set_cons_zero, vsum]; omega
  | w :: vs, i + 1, v, b, h => by
    have := vsum_set (vs := vs) (i := i) (v := v) (b := b) (by simpa using h)
    simp only [List.set_cons_succ, vsum]; omega
/-- What is drawn is in order. -/
structure Fine (a : Vl) : Prop where
  ri : Rising a.ks
  le : a.ks.length ≤ a.vs.length
  di : a.tag = 4 → a.ks.length = a.vs.length
  sz : a.size ≤ 1010
theorem Dr_fine {fn : Bool} {a : Vl} (h : Dr fn 3 a) : Fine a := by
  have hs : a.size ≤ 1010 := Dr_size h
  have base : ∀ t b n s, (Vl.mk t b n s [] [] 0).size ≤ 1010 → Fine (.mk t b n s [] [] 0) := fun t b n s h => ⟨List.Pairwise.nil, Nat.le_refl _, fun _ => rfl, h⟩
  rcases h with h | ⟨ks, vs, rfl, hr, hl, _⟩ | ⟨_, vs, f, _, rfl, _⟩
  · rcases h with rfl | ⟨b, rfl⟩ | ⟨n, h, rfl⟩ | ⟨n, h, rfl⟩ | rfl
    · exact base _ _ _ _ hs
    · exact base _ _ _ _ hs
    · exact base _ _ _ _ hs
    · exact base _ _ _ _ hs
    · exact base _ _ _ _ hs
  · exact ⟨hr, by simp only [Vl.ks, Vl.vs]; omega, fun _ => hl, hs⟩
  · exact ⟨List.Pairwise.nil, Nat.zero_le _, fun h => (by cases h), hs⟩

/-! ### Calls -/
def GWorks (args : List AV) (v : AV) : Prop := v = .bool true
section
variable {pr : Prims}
set_option maxRecDepth 1000000 in
theorem call_works (h : pr 18 = some (pureP E0 18 GWorks)) (n : Nat) (st : Store) : Call pr (n + 1) (Fv 18) [] st = some (.bool true, st) := by
  obtain ⟨v, h1, h2⟩ := call_pure h (args := []) rfl ⟨_, works_run, rfl⟩ n st
  rw [h1, show v = .bool true from h2]
theorem call_drawn (h : pr 14 = some (pureP E0 14 GDrawn)) {B : AV} {xs : List UInt8} (hB : IsB0 B xs) (fn : Bool) : ∃ v a, (∀ n st, Call pr (n + 1) (Fv 14) [B, .bool fn] st = some (v, st)) ∧ IsV v a ∧ Neat v ∧ stripV v = v ∧ Dr fn 3 a := by
  obtain ⟨hp, hs⟩ := isB0_plain hB
  have hst : stripVs [B, .bool fn] = [B, .bool fn] := by show [stripV B, .bool fn] = _; rw [hs]
  have hpl : plainVs [B, .bool fn] = true := by show (plainV B && (true && true)) = true; rw [hp]; rfl
  obtain ⟨v, h1, h2⟩ := pureP_some (E := E0) (k := 14) (Good := GDrawn) (args := [B, .bool fn]) hpl (by rw [hst]; exact drawn_run hB fn) (S0 [])
  rw [hst] at h2
  obtain ⟨a, q1, q2, q3, q4⟩ := h2 B fn xs rfl hB
  exact ⟨v, a, fun n st => call_prim h (pureP_det h1 rfl hpl), q1, q2, q3, q4⟩
set_option maxRecDepth 1000000 in
theorem call_key (h : pr 20 = some (pureP E0 20 GKey)) (m n : Nat) (st : Store) : Call pr (n + 1) (Fv 20) [.int .u8 (.ofNat m)] st = some (.str (key8 m), st) := by
  obtain ⟨v, h1, h2⟩ := call_pure h (args := [.int .u8 (.ofNat m)]) rfl ⟨_, key_run m, fun m' e => by
    injection e with e; injection e with _ e; rw [Int.ofNat.inj e]⟩ n st
  rw [h1, h2 m rfl]
set_option maxRecDepth 1000000 in
theorem call_size (h : pr 21 = some (pureP E0 21 GSize)) {x : AV} {a : Vl} (hx : IsV x a) (ha : a.size < big) (n : Nat) (st : Store) : Call pr (n + 1) (Fv 21) [x] st = some (.int .i64 (.ofNat a.size), st) := by
  obtain ⟨v, h1, h2⟩ := call_pure h (args := [x]) (by simp [plainVs, isV_plain hx]) ⟨_, size_run a.size a _ (Nat.le_refl _) ha (isV_strip hx) (strip_strip _), fun x' a' e ha' => by
    injection e with e; rw [isV_inj ha' (e ▸ isV_strip hx)]⟩ n st
  rw [h1, h2 _ _ rfl (isV_strip hx)]
set_option maxRecDepth 1000000 in
theorem call_data (h : pr 22 = some (pureP E0 22 GData)) {x : AV} {a : Vl} (hx : IsV x a) (ha : a.size < big) (n : Nat) (st : Store) : Call pr (n + 1) (Fv 22) [x] st = some (.bool a.data, st) := by
  obtain ⟨v, h1, h2⟩ := call_pure h (args := [x]) (by simp [plainVs, isV_plain hx]) ⟨_, data_run a.size a _ (Nat.le_refl _) ha (isV_strip hx) (strip_strip _), gData_of (isV_strip hx)⟩ n st
  rw [h1, h2 _ _ rfl (isV_strip hx)]
open Classical in
set_option maxRecDepth 1000000 in
theorem call_same (h : pr 17 = some (pureP E0 17 GSame)) {x y : AV} {a b : Vl} (hx : IsV x a) (hy : IsV y b) (ha : a.size < big) (hb : b.size < big) (n : Nat) (st : Store) : Call pr (n + 1) (Fv 17) [x, y] st = some (.bool (decide (a = b)), st) := by
  obtain ⟨v, h1, h2⟩ := call_pure h (args := [x, y]) (by simp [plainVs, isV_plain hx, isV_plain hy]) ⟨_, same_run ha hb (isV_strip hx) (isV_strip hy) (strip_strip _) (strip_strip _), gSame_of (isV_strip hx) (isV_strip hy)⟩ n st
  rw [h1, h2 _ _ _ _ rfl (isV_strip hx) (isV_strip hy)]
set_option maxRecDepth 1000000 in
theorem call_get (h : pr 23 = some (pureP E0 23 GGet)) {x : AV} {a : Vl} (k : Bytes) (hx : IsV x a) (ha : a.size < big) (hr : Rising a.ks) (hl : a.ks.length ≤ a.vs.length) (n : Nat) (st : Store) :
    ∃ y b c, Call pr (n + 1) (Fv 23) [x, .str k] st = some (.tuple [y, .bool c], st) ∧ IsV y b ∧ ((getV a k = some b ∧ c = true) ∨ (getV a k = none ∧ b = zeroVl ∧ c = false)) := by
  obtain ⟨v, h1, h2⟩ := call_pure h (args := [x, .str k]) (by simp [plainVs, plainV, isV_plain hx]) (get_run (isV_strip hx) ha hr hl (strip_strip _)) n st
  obtain ⟨y, b, hy, hv⟩ := h2 _ _ _ rfl (isV_strip hx)
  rcases hv with ⟨q1, rfl⟩ | ⟨q1, q2, rfl⟩
  · exact ⟨y, b, true, h1, hy, .inl ⟨q1, rfl⟩⟩
  · exact ⟨y, b, false, h1, hy, .inr ⟨q1, q2, rfl⟩⟩
set_option maxRecDepth 1000000 in
theorem call_set (h : pr 19 = some (pureP E0 19 GSet)) {x y : AV} {a b : Vl} (k : Bytes) (hx : IsV x a) (hy : IsV y b) (ha : a.size < big - 1) (hr : Rising a.ks) (hl : a.tag = 4 → a.ks.length = a.vs.length) (hn : Neat x) (n : Nat) (st : Store) :
    ∃ v, Call pr (n + 1) (Fv 19) [x, .str k, y] st = some (v, st) ∧ IsV v (setV a k b) ∧ Neat v ∧ stripV v = v := by
  obtain ⟨v, h1, h2⟩ := call_pure h (args := [x, .str k, y]) (plain3 (isV_plain hx) (isV_plain hy)) (set_run (isV_strip hx) (isV_strip hy) ha hr hl (neat_strip hn) (strip_strip _) (strip_strip _)) n st
  exact ⟨v, h1, h2 _ _ _ _ _ rfl (isV_strip hx) (isV_strip hy)⟩
end
noncomputable def prV : Prims := prWith (prWith (prWith (prWith (prWith (prWith (prWith (prWith pr0 18 (pureP E0 18 GWorks)) 14 (pureP E0 14 GDrawn)) 20 (pureP E0 20 GKey)) 21 (pureP E0 21 GSize)) 22 (pureP E0 22 GData)) 17 (pureP E0 17 GSame)) 23 (pureP E0 23 GGet)) 19 (pureP E0 19 GSet)
set_option maxRecDepth 1000000 in
theorem prV_ok : PrOk prV := prWith_ok (prWith_ok (prWith_ok (prWith_ok (prWith_ok (prWith_ok (prWith_ok (prWith_ok prOk0 pureP_ok) pureP_ok) pureP_ok) pureP_ok) pureP_ok) pureP_ok) pureP_ok) pureP_ok
theorem pV18 : prV 18 = some (pureP E0 18 GWorks) := by simp [prV, prWith]
theorem pV14 : prV 14 = some (pureP E0 14 GDrawn) := by simp [prV, prWith]
theorem pV20 : prV 20 = some (pureP E0 20 GKey) := by simp [prV, prWith]
theorem pV21 : prV 21 = some (pureP E0 21 GSize) := by simp [prV, prWith]
theorem pV22 : prV 22 = some (pureP E0 22 GData) := by simp [prV, prWith]
theorem pV17 : prV 17 = some (pureP E0 17 GSame) := by simp [prV, prWith]
theorem pV23 : prV 23 = some (pureP E0 23 GGet) := by simp [prV, prWith]
theorem pV19 : prV 19 = some (pureP E0 19 GSet) := by simp [prV, prWith]
noncomputable def sizesBody (call : Caller) : (List AV → Store → Rs) → List AV → Store → Rs :=
  (fun h12 v13 s14 =>
  un1 v13 fun a19 v20 =>
  unAgg a19 fun c15 =>
  un1 v20 fun a21 v22 =>
  unAgg a21 fun c16 =>
  un1 v22 fun x17 v23 =>
  un1 v23 fun x18 v24 =>
  hLoc1 c15 5 fun x25 =>
  hLenR x25 fun x26 =>
  hCmpI iLt x17 x26 fun x27 =>
  hIf x27 (
  hLoc1 c15 5 fun x32 =>
  hElem 7 x32 x17 fun x33 =>
  hLdN 7 x33 s14 fun x34 =>
  hCall call (.func (.func 21) [] []) [x34] s14 fun x35 s36 =>
  hFrees [.loc 7 0 c15] (
  hLocN 7 c15 0 fun x37 =>
  hCall call (.func (.func 21) [] []) [x37] s36 fun x38 s39 =>
  hCmpI (fun x y => !(iLt x y)) x35 x38 fun x40 =>
  hlet (α := AV → Store → Rs) (fun x41 s42 =>
  hlet (α := AV → Store → Rs) (fun x44 s45 =>
  hlet (α := AV → Store → Rs) (fun x47 s48 =>
  hWB x47 (
  hlet (α := AV → Store → Rs) (fun x50 s51 =>
  hlet (α := AV → Store → Rs) (fun x53 s54 =>
  hlet (α := AV → Store → Rs) (fun x56 s57 =>
  hlet (α := AV → Store → Rs) (fun x59 s60 =>
  hlet (α := AV → Store → Rs) (fun x62 s63 =>
  hlet (α := AV → Store → Rs) (fun x65 s66 =>
  hlet (α := AV → Store → Rs) (fun x68 s69 =>
  hPick x40 (.bool true) x68 fun x71 =>
  hIf x71 (
  some ((.bool false), s69)) (
  hArith Int.add x17 (.int .i64 (.ofNat 1)) fun x85 =>
  h12 [.agg c15, .agg c16, x85, x18] s69)) fun j70 =>
  hWant x40 false (
  hPick x47 x65 (.bool false) fun x75 =>
  j70 x75 s66) (j70 aundef s66)) fun j67 =>
  hWant x47 true (
  hNot x62 fun x76 =>
  j67 x76 s63) (j67 aundef s63)) fun j64 =>
  hWant x47 true (
  hCall call (.func (.func 22) [] []) [x59] s60 fun x77 s78 =>
  j64 x77 s78) (j64 aundef s60)) fun j61 =>
  hWant x47 true (
  hLdN 7 x56 s57 fun x79 =>
  j61 x79 s57) (j61 aundef s57)) fun j58 =>
  hWant x47 true (
  hElem 7 x50 x53 fun x80 =>
  j58 x80 s54) (j58 aundef s54)) fun j55 =>
  hWant x47 true (
  j55 x17 s51) (j55 aundef s51)) fun j52 =>
  hWant x47 true (
  hLoc1 c15 5 fun x81 =>
  j52 x81 s48) (j52 aundef s48))) fun j49 =>
  hWant x40 false (
  j49 x44 s45) (j49 aundef s45)) fun j46 =>
  hWant x40 false (
  hCall call (.func (.func 22) [] []) [x41] s42 fun x82 s83 =>
  j46 x82 s83) (j46 aundef s42)) fun j43 =>
  hWant x40 false (
  hLocN 7 c15 0 fun x84 =>
  j43 x84 s39) (j43 aundef s39))) (
  hFrees [.loc 7 0 c15] (
  hLocN 7 c15 0 fun x86 =>
  hCall call (.func (.func 20) [] []) [x18] s14 fun x87 s88 =>
  hFrees [.loc 8 0 c16] (
  hLocN 7 c16 0 fun x89 =>
  hCall call (.func (.func 19) [] []) [x86, x87, x89] s88 fun x90 s91 =>
  hStLN 7 [(.int .i64 (.ofNat 0)), (.bool false), (.str []), (.str []), .nils, .nils, (.int .i64 (.ofNat 0))] 0 x90 fun c92 =>
  hLoc1 c15 0 fun x93 =>
  hCmpI (fun x y => !(iEq x y)) x93 (.int .i64 (.ofNat 4)) fun x94 =>
  hIf x94 (
  hLocN 7 c92 0 fun x96 =>
  hLocN 7 c15 0 fun x97 =>
  hCall call (.func (.func 17) [] []) [x96, x97] s91 fun x98 s99 =>
  hlet (α := AV → Store → Rs) (fun x100 s101 =>
  hlet (α := AV → Store → Rs) (fun x103 s104 =>
  hlet (α := AV → Store → Rs) (fun x106 s107 =>
  hPick x98 x106 (.bool false) fun x109 =>
  some (x109, s107)) fun j108 =>
  hWant x98 true (
  hCmpI (fun x y => !(iLt x y)) x103 (.int .i64 (.ofNat 1)) fun x110 =>
  j108 x110 s104) (j108 aundef s104)) fun j105 =>
  hWant x98 true (
  hCall call (.func (.func 21) [] []) [x100] s101 fun x111 s112 =>
  j105 x111 s112) (j105 aundef s101)) fun j102 =>
  hWant x98 true (
  hLocN 7 c15 0 fun x113 =>
  j102 x113 s99) (j102 aundef s99)) (
  hFrees [.loc 7 0 c15] (
  hLocN 7 c15 0 fun x115 =>
  hCall call (.func (.func 20) [] []) [x18] s91 fun x116 s117 =>
  hCall call (.func (.func 23) [] []) [x115, x116] s117 fun x118 s119 =>
  hExt 0 x118 fun x120 =>
  hExt 1 x118 fun x121 =>
  hStLN 7 [(.int .i64 (.ofNat 0)), (.bool false), (.str []), (.str []), .nils, .nils, (.int .i64 (.ofNat 0))] 0 x120 fun c122 =>
  hLocN 7 c92 0 fun x123 =>
  hCall call (.func (.func 21) [] []) [x123] s119 fun x124 s125 =>
  hFrees [.loc 7 0 c15] (
  hLocN 7 c15 0 fun x126 =>
  hCall call (.func (.func 21) [] []) [x126] s125 fun x127 s128 =>
  hArith Int.sub x124 x127 fun x129 =>
  hIf x121 (
  hLocN 7 c16 0 fun x131 =>
  hCall call (.func (.func 21) [] []) [x131] s128 fun x132 s133 =>
  hFrees [.loc 11 0 c122] (
  hLocN 7 c122 0 fun x134 =>
  hCall call (.func (.func 21) [] []) [x134] s133 fun x135 s136 =>
  hArith Int.sub x132 x135 fun x137 =>
  hCmpI iEq x129 x137 fun x138 =>
  some (x138, s136))) (
  hCall call (.func (.func 20) [] []) [x18] s128 fun x140 s141 =>
  hFrees [.val x140] (
  hLenS x140 fun x142 =>
  hNotPtrs [.val (.int .i64 (.ofNat 1)), .val x142] (
  hArith Int.add (.int .i64 (.ofNat 1)) x142 fun x143 =>
  hFrees [.loc 8 0 c16] (
  hLocN 7 c16 0 fun x144 =>
  hCall call (.func (.func 21) [] []) [x144] s141 fun x145 s146 =>
  hArith Int.add x143 x145 fun x147 =>
  hCmpI iEq x129 x147 fun x148 =>
  hlet (α := AV → Store → Rs) (fun x149 s150 =>
  hlet (α := AV → Store → Rs) (fun x152 s153 =>
  hlet (α := AV → Store → Rs) (fun x155 s156 =>
  hlet (α := AV → Store → Rs) (fun x158 s159 =>
  hlet (α := AV → Store → Rs) (fun x161 s162 =>
  hlet (α := AV → Store → Rs) (fun x164 s165 =>
  hlet (α := AV → Store → Rs) (fun x167 s168 =>
  hlet (α := AV → Store → Rs) (fun x170 s171 =>
  hlet (α := AV → Store → Rs) (fun x173 s174 =>
  hPick x148 x173 (.bool false) fun x176 =>
  some (x176, s174)) fun j175 =>
  hWant x148 true (
  hVal (aBinC E0.L 4 .eql false x152 x170 s171) fun x177 s178 =>
  j175 x177 s178) (j175 aundef s171)) fun j172 =>
  hWant x148 true (
  hPick x161 x167 (.bool false) fun x179 =>
  j172 x179 s168) (j172 aundef s168)) fun j169 =>
  hWant x161 true (
  hCall call (.func (.func 22) [] []) [x164] s165 fun x180 s181 =>
  j169 x180 s181) (j169 aundef s165)) fun j166 =>
  hWant x161 true (
  hLocN 7 c16 0 fun x182 =>
  j166 x182 s162) (j166 aundef s162)) fun j163 =>
  hWant x148 true (
  j163 x158 s159) (j163 aundef s159)) fun j160 =>
  hWant x148 true (
  hCall call (.func (.func 22) [] []) [x155] s156 fun x183 s184 =>
  j160 x183 s184) (j160 aundef s156)) fun j157 =>
  hWant x148 true (
  hFrees [.loc 7 0 c15] (
  hLocN 7 c15 0 fun x185 =>
  j157 x185 s153)) (j157 aundef s153)) fun j154 =>
  hWant x148 true (
  hCall call (.func (.func 22) [] []) [x149] s150 fun x186 s187 =>
  j154 x186 s187) (j154 aundef s150)) fun j151 =>
  hWant x148 true (
  hLocN 7 c92 0 fun x188 =>
  j151 x188 s146) (j151 aundef s146))))))))))))
theorem b5_eq : b5 = fun call n args st =>
  un1 args fun p0 r0 =>
  un1 r0 fun p1 r1 =>
  un1 r1 fun p2 r2 =>
  un0 r2 (
  hCall call (.func (.func 18) [] []) [] st fun x0 s1 =>
  hNot x0 fun x2 =>
  hIf x2 (
  some ((.bool false), s1)) (
  hCall call (.func (.func 14) [] []) [p0, (.bool true)] s1 fun x5 s6 =>
  hCall call (.func (.func 14) [] []) [p1, (.bool true)] s6 fun x7 s8 =>
  hStLN 7 [(.int .i64 (.ofNat 0)), (.bool false), (.str []), (.str []), .nils, .nils, (.int .i64 (.ofNat 0))] 0 x5 fun c9 =>
  hStLN 7 [(.int .i64 (.ofNat 0)), (.bool false), (.str []), (.str []), .nils, .nils, (.int .i64 (.ofNat 0))] 0 x7 fun c10 =>
  hloop (sizesBody call) n [.agg c9, .agg c10, (.int .i64 (.ofNat 0)), p2] s8)) := rfl
set_option maxRecDepth 1000000 in
theorem bool_eql (a b : Bool) (st : Store) : aBinC E0.L 4 .eql false (.bool a) (.bool b) st = some (.val (.bool (a == b)), st) := by
  simp only [aBinC, binC, otherV, eqV, und4, eqBool]
theorem x_iLt' (a b : Nat) : (!(iLt (.ofNat a) (.ofNat b))) = decide (b ≤ a) := by
  rw [x_iLt, Bool.eq_iff_iff]; simp
theorem getV_mk (t : Int) (b1 : Bool) (n s : Bytes) (ks : List Bytes) (vs : List Vl) (f : Int) (k : Bytes) : getV (.mk t b1 n s ks vs f) k = if ks[lbnd k ks]? = some k then vs[lbnd k ks]? else none := rfl
set_option maxRecDepth 1000000 in
set_option maxHeartbeats 4000000 in
theorem sizes_true {B1 B2 : AV} {xs1 xs2 : List UInt8} (h1 : IsB0 B1 xs1) (h2 : IsB0 B2 xs2) (m : Nat) : ∃ n, b5 (Call prV n) n [B1, B2, .int .u8 (.ofNat m)] (S0 []) = some (.bool true, S0 []) := by
  obtain ⟨x, a, hx, hxa, hxn, hxs, hxd⟩ := call_drawn pV14 h1 true
  obtain ⟨y, b, hy, hyb, hyn, hys, hyd⟩ := call_drawn pV14 h2 true
  have fa := Dr_fine hxd
  have fb := Dr_fine hyd
  obtain ⟨y1, y2, y3, y4, y5, y6, y7, rfl⟩ := cells7 hyb
  have hbig : big = 1099511627776 := rfl
  cases a with
  | mk t b1 nn ss ks vs f =>
  obtain ⟨K, W, rfl, hk, hw⟩ := isV_iff.1 hxa
  have hsz : (Vl.mk t b1 nn ss ks vs f).size = 1 + nn.length + ss.length + ksum ks + vsum vs := by simp only [Vl.size]
  have hvl := vsum_len vs
  have hsa := fa.sz
  have hsb := fb.sz
  refine ⟨vs.length + 2, ?_⟩
  simp only [b5_eq, x_un1, x_un0, x_hCall (call_works pV18 _ _), x_hNot, Bool.not_true, x_hIf_f, x_hCall (hx _ _), x_hCall (hy _ _), x_hStLN7]
  refine loop_rule (fun j vals st => ∃ i, vals = [.agg [.int .i64 t, .bool b1, .str nn, .str ss, K, W, .int .i64 f], .agg [y1, y2, y3, y4, y5, y6, y7], .int .i64 (.ofNat i), .int .u8 (.ofNat m)] ∧ i + j = vs.length ∧ st = S0 []) ?_ ?_ vs.length _ _ _ ⟨0, rfl, by omega, rfl⟩ (by omega)
  · intro j vals st ih ⟨i, hv, hi, hst⟩ hnext
    subst hv hst
    have hlt : i < vs.length := by omega
    have hg : vs[i]? = some vs[i] := List.getElem?_eq_getElem hlt
    have hvg := vsum_get hg
    obtain ⟨cs, hcs, hlen, hel⟩ := x_elemW hw hg
    have hs1 := call_size pV21 hcs (by omega) (vs.length + 1) (S0 [])
    have hs2 := call_size pV21 hxa (by omega) (vs.length + 1) (S0 [])
    have hlt2 : decide ((Vl.mk t b1 nn ss ks vs f).size ≤ vs[i].size) = false := decide_eq_false (by omega)
    have hd1 := call_data pV22 hxa (by omega) (vs.length + 1) (S0 [])
    have hd2 := call_data pV22 hcs (by omega) (vs.length + 1) (S0 [])
    unfold sizesBody
    simp only [x_un1, x_unAgg, x_hLoc1, x_hNth0, x_hNthS, x_lenW hw, x_hCmpI, x_iLt, decide_eq_true hlt, x_hIf_t, hel, x_hLdN_r, x_hCut_all hlen, x_hCall hs1, x_hFrees_loc, x_hLocN, x_hCut7, x_hCall hs2, x_hlet]
    rw [show (!decide (vs[i].size < (Vl.mk t b1 nn ss ks vs f).size)) = false by simp; omega]
    simp only [x_hWant_ff, x_hCall hd1]
    cases hda : (Vl.mk t b1 nn ss ks vs f).data with
    | false =>
      simp only [x_hWB, x_hWant_ft, x_hWant_ff, x_hPick_f, x_hIf_f]
      rw [x_add (by omega)]
      exact hnext _ _ ⟨i + 1, rfl, by omega, rfl⟩
    | true =>
      have hdv : vs[i].data = true := by
        cases h : vs[i].data with
        | true => rfl
        | false =>
          have := dall_get hg h
          simp only [Vl.data, this, Bool.and_false] at hda
          cases hda
      simp only [x_hWB, x_hWant_tt, x_hWant_ff, x_hPick_t, x_hPick_f, hel, x_hLdN_r, x_hCut_all hlen, x_hCall hd2, hdv, x_hNot, Bool.not_true, x_hIf_f]
      rw [x_add (by omega)]
      exact hnext _ _ ⟨i + 1, rfl, by omega, rfl⟩
  · intro vals st ih ⟨i, hv, hi, hst⟩
    subst hv hst
    have hi : i = vs.length := by omega
    subst hi
    have hkey := call_key pV20 m (vs.length + 1) (S0 [])
    have hkl := key8_len m
    generalize key8 m = k at hkey hkl
    obtain ⟨d, hd1, hd2, hd3, hd4⟩ := call_set pV19 k hxa hyb (by omega) fa.ri fa.di hxn (vs.length + 1) (S0 [])
    obtain ⟨z1, z2, z3, z4, z5, z6, z7, rfl⟩ := cells7 hd2
    unfold sizesBody
    simp only [x_un1, x_unAgg, x_hLoc1, x_hNth0, x_hNthS, x_lenW hw, x_hCmpI, x_iLt, decide_eq_false (Nat.lt_irrefl _), x_hIf_f, x_hFrees_loc, x_hLocN, x_hCut7, x_hCall hkey, x_hCall hd1, x_hStLN7]
    have hsx := call_size pV21 hxa (by omega) (vs.length + 1) (S0 [])
    have hsy := call_size pV21 hyb (by omega) (vs.length + 1) (S0 [])
    by_cases ht : t = 4
    rotate_left
    · have hne : iEq t (Int.ofNat 4) = false := by rw [x_iEq]; simpa using ht
      have hset : setV (.mk t b1 nn ss ks vs f) k b = .mk t b1 nn ss ks vs f := by simp only [setV, if_neg ht]
      rw [hset] at hd2
      have hsm := call_same pV17 hd2 hxa (by omega) (by omega) (vs.length + 1) (S0 [])
      simp only [decide_true] at hsm
      simp only [hne, Bool.not_false, x_hIf_t, x_hCall hsm, x_hlet, x_hWant_tt, x_hCall hsx, x_hCmpI, x_iLt', x_hPick_t]
      rw [decide_eq_true (show 1 ≤ (Vl.mk t b1 nn ss ks vs f).size by omega)]
    · subst ht
      have heq : iEq 4 (Int.ofNat 4) = true := by decide
      obtain ⟨g, gb, c, hg1, hg2, hg3⟩ := call_get pV23 k hxa (by omega) fa.ri fa.le (vs.length + 1) (S0 [])
      obtain ⟨g1, g2, g3, g4, g5, g6, g7, rfl⟩ := cells7 hg2
      simp only [heq, Bool.not_true, x_hIf_f, x_hCall hg1, x_hExt, x_hNth0, x_hNthS, x_hStLN7]
      rcases hg3 with ⟨hget, rfl⟩ | ⟨hget, rfl, rfl⟩
      · -- the key is there
        rw [getV_mk] at hget
        have hf : ks[lbnd k ks]? = some k := by
          by_cases hf : ks[lbnd k ks]? = some k
          · exact hf
          · rw [if_neg hf] at hget; cases hget
        have hvg : vs[lbnd k ks]? = some gb := by
          rw [if_pos hf] at hget
          exact hget
        have hgs := vsum_get hvg
        have hvs := vsum_set (b := b) hvg
        have hset : setV (.mk 4 b1 nn ss ks vs f) k b = .mk 4 b1 nn ss ks (vs.set (lbnd k ks) b) f := by simp only [setV, if_true, if_pos hf]
        rw [hset] at hd2
        have hsd : (Vl.mk 4 b1 nn ss ks (vs.set (lbnd k ks) b) f).size = 1 + nn.length + ss.length + ksum ks + vsum (vs.set (lbnd k ks) b) := by simp only [Vl.size]
        have hsd' := call_size pV21 hd2 (by omega) (vs.length + 1) (S0 [])
        have hsg := call_size pV21 hg2 (by omega) (vs.length + 1) (S0 [])
        simp only [x_hCall hsd', x_hCall hsx, x_hArith, x_hIf_t, x_hCall hsy, x_hCut7, x_hFrees_loc, x_hLocN, x_hCall hsg, x_hCmpI, x_iEq]
        have : Int.sub (Int.ofNat (Vl.mk 4 b1 nn ss ks (vs.set (lbnd k ks) b) f).size) (Int.ofNat (Vl.mk 4 b1 nn ss ks vs f).size) = Int.sub (Int.ofNat b.size) (Int.ofNat gb.size) := by
          show ((_ : Nat) : Int) - ((_ : Nat) : Int) = ((_ : Nat) : Int) - ((_ : Nat) : Int)
          omega
        rw [this]
        simp
      · -- it is not
        have hlv : ks.length = vs.length := fa.di rfl
        have hf : ¬ ks[lbnd k ks]? = some k := by
          intro hf
          rw [getV_mk, if_pos hf] at hget
          have := (List.getElem?_eq_some_iff.1 hf).1
          rw [List.getElem?_eq_getElem (by omega)] at hget
          cases hget
        have hset : setV (.mk 4 b1 nn ss ks vs f) k b = .mk 4 b1 nn ss (ks.take (lbnd k ks) ++ k :: ks.drop (lbnd k ks)) (vs.take (lbnd k ks) ++ b :: vs.drop (lbnd k ks)) f := by simp only [setV, if_true, if_neg hf]
        rw [hset] at hd2
        have hsd : (Vl.mk 4 b1 nn ss (ks.take (lbnd k ks) ++ k :: ks.drop (lbnd k ks)) (vs.take (lbnd k ks) ++ b :: vs.drop (lbnd k ks)) f).size = 1 + nn.length + ss.length + (ksum ks + (1 + k.length)) + (vsum vs + b.size) := by
          simp only [Vl.size, ksum_ins, vsum_ins]
        have hdd : (Vl.mk 4 b1 nn ss (ks.take (lbnd k ks) ++ k :: ks.drop (lbnd k ks)) (vs.take (lbnd k ks) ++ b :: vs.drop (lbnd k ks)) f).data = ((Vl.mk 4 b1 nn ss ks vs f).data && b.data) := by
          simp only [Vl.data, dall_ins, Bool.and_assoc]
        have hsd' := call_size pV21 hd2 (by omega) (vs.length + 1) (S0 [])
        have hdx := call_data pV22 hxa (by omega) (vs.length + 1) (S0 [])
        have hdy := call_data pV22 hyb (by omega) (vs.length + 1) (S0 [])
        have hdd' := call_data pV22 hd2 (by omega) (vs.length + 1) (S0 [])
        simp only [x_hCall hsd', x_hCall hsx, x_hIf_f]
        rw [x_sub (by omega) (by omega)]
        simp only [x_hCall hkey, x_hFrees_v (show freeIn (.str k) = true from rfl), x_hLenS, x_hNotPtrs, x_hFrees_loc, x_hLocN, x_hCut7, x_hCall hsy]
        rw [x_add (by omega), x_add (by omega)]
        simp only [x_hCmpI, x_iEq]
        rw [show decide (Int.ofNat ((Vl.mk 4 b1 nn ss (ks.take (lbnd k ks) ++ k :: ks.drop (lbnd k ks)) (vs.take (lbnd k ks) ++ b :: vs.drop (lbnd k ks)) f).size - (Vl.mk 4 b1 nn ss ks vs f).size) = Int.ofNat (1 + k.length + b.size)) = true by
          refine decide_eq_true (congrArg Int.ofNat ?_); omega]
        simp only [x_hlet, x_hWant_tt, x_hCall hdd', x_hFrees_loc, x_hCall hdx]
        rw [hdd]
        cases (Vl.mk 4 b1 nn ss ks vs f).data <;> cases hbd : b.data <;> simp only [x_hWant_tt, x_hWant_ft, x_hCall hdy, hbd, x_hPick_t, x_hPick_f, x_hVal (bool_eql _ _ _), Bool.and_true, Bool.and_false, Bool.true_and, Bool.false_and, beq_self_eq_true]
set_option maxRecDepth 1000000 in
theorem fn5 : E0.L.fn 5 = some Tryz.f5 := by kernel_rfl
theorem p0_5 : pr0 5 = none := by kernel_rfl
theorem pV5 : prV 5 = none := by simp [prV, prWith, p0_5]

end Go.Sim

namespace Go.Sim
open Go.Proofs

noncomputable def uTab : List (Nat × HBody) := [(77, b77), (78, b78), (109, b109), (110, b110), (111, b111), (112, b112), (113, b113), (132, b132), (136, b136), (138, b138), (139, b139), (140, b140), (141, b141), (142, b142), (143, b143), (144, b144), (155, b155), (160, b160), (161, b161), (162, b162), (163, b163), (164, b164), (165, b165), (166, b166), (167, b167), (189, b189), (190, b190), (191, b191), (192, b192), (203, b203)]
set_option maxRecDepth 1000000 in
theorem uTab_low : uTab.all (fun p => Nat.blt p.1 8000) = true := by kernel_rfl
set_option maxRecDepth 1000000 in
theorem uTab_ok : ∀ p ∈ uTab, BodyOk E0 An0 p.1 p.2 := 
  List.forall_mem_cons.2 ⟨bodyOk e77 (by kernel_rfl),
  List.forall_mem_cons.2 ⟨bodyOk e78 (by kernel_rfl),
  List.forall_mem_cons.2 ⟨bodyOk e109 (by kernel_rfl),
  List.forall_mem_cons.2 ⟨bodyOk e110 (by kernel_rfl),
  List.forall_mem_cons.2 ⟨bodyOk e111 (by kernel_rfl),
  List.forall_mem_cons.2 ⟨bodyOk e112 (by kernel_rfl),
  List.forall_mem_cons.2 ⟨bodyOk e113 (by kernel_rfl),
  List.forall_mem_cons.2 ⟨bodyOk e132 (by kernel_rfl),
  List.forall_mem_cons.2 ⟨bodyOk e136 (by kernel_rfl),
  List.forall_mem_cons.2 ⟨bodyOk e138 (by kernel_rfl),
  List.forall_mem_cons.2 ⟨bodyOk e139 (by kernel_rfl),
  List.forall_mem_cons.2 ⟨bodyOk e140 (by kernel_rfl),
  List.forall_mem_cons.2 ⟨bodyOk e141 (by kernel_rfl),
  List.forall_mem_cons.2 ⟨bodyOk e142 (by kernel_rfl),
  List.forall_mem_cons.2 ⟨bodyOk e143 (by kernel_rfl),
  List.forall_mem_cons.2 ⟨bodyOk e144 (by kernel_rfl),
  List.forall_mem_cons.2 ⟨bodyOk e155 (by kernel_rfl),
  List.forall_mem_cons.2 ⟨bodyOk e160 (by kernel_rfl),
  List.forall_mem_cons.2 ⟨bodyOk e161 (by kernel_rfl),
  List.forall_mem_cons.2 ⟨bodyOk e162 (by kernel_rfl),
  List.forall_mem_cons.2 ⟨bodyOk e163 (by kernel_rfl),
  List.forall_mem_cons.2 ⟨bodyOk e164 (by kernel_rfl),
  List.forall_mem_cons.2 ⟨bodyOk e165 (by kernel_rfl),
  List.forall_mem_cons.2 ⟨bodyOk e166 (by kernel_rfl),
  List.forall_mem_cons.2 ⟨bodyOk e167 (by kernel_rfl),
  List.forall_mem_cons.2 ⟨bodyOk e189 (by kernel_rfl),
  List.forall_mem_cons.2 ⟨bodyOk e190 (by kernel_rfl),
  List.forall_mem_cons.2 ⟨bodyOk e191 (by kernel_rfl),
  List.forall_mem_cons.2 ⟨bodyOk e192 (by kernel_rfl),
  List.forall_mem_cons.2 ⟨bodyOk e203 (by kernel_rfl),
  fun p hp => (by cases hp)⟩⟩⟩⟩⟩⟩⟩⟩⟩⟩⟩⟩⟩⟩⟩⟩⟩⟩⟩⟩⟩⟩⟩⟩⟩⟩⟩⟩⟩⟩
noncomputable def hTabU : Tr HBody := mkTr uTab
set_option maxRecDepth 1000000 in
theorem hTabU_ok (f : Nat) (b : HBody) (h : hTabU.get f = some b) : BodyOk E0 An0 f b :=
  uTab_ok (f, b) (mkTr_get (fun p hp => Nat.le_of_ble_eq_true (List.all_eq_true.1 uTab_low p hp)) h)
set_option maxRecDepth 1000000 in
theorem whole_true : numsL.all (fun n => isTrue (hcall E0 An0 pr0 hTabU.get 500 (.func (.func 136) [] []) [.str n] Store.empty)) = true := by kernel_rfl
theorem p0_136 : pr0 136 = none := by kernel_rfl
set_option maxRecDepth 1000000 in
theorem whole_run {s : Bytes} (hs : s ∈ numsL) : PureRun E0 136 [.str s] (.bool true) := by
  have h := List.all_eq_true.1 whole_true s hs
  cases hr : hcall E0 An0 pr0 hTabU.get 500 (.func (.func 136) [] []) [.str s] Store.empty with
  | none => rw [hr] at h; cases h
  | some r =>
    obtain ⟨v, st1⟩ := r
    rw [hr] at h
    have ha := hcall_ok fok0 hTabU_ok (pr := pr0) 500 _ _ _ _ hr
    cases v with
    | bool b =>
      have hb : b = true := h
      subst hb
      have ha' : afun E0 (fun f => (An0 f).ann) (acall E0 (fun f => (An0 f).ann) pr0 499) 499 136 [.str s] Store.empty = some (.bool true, st1) := by
        have : acall E0 (fun f => (An0 f).ann) pr0 (499 + 1) (.func (.func 136) [] []) [.str s] Store.empty = (match pr0 136 with
          | some p => (match p ([] ++ [.str s] ++ []) Store.empty with
            | some r => some r
            | none => afun E0 (fun f => (An0 f).ann) (acall E0 (fun f => (An0 f).ann) pr0 499) 499 136 ([] ++ [.str s] ++ []) Store.empty)
          | none => afun E0 (fun f => (An0 f).ann) (acall E0 (fun f => (An0 f).ann) pr0 499) 499 136 ([] ++ [.str s] ++ []) Store.empty) := rfl
        rw [this, p0_136] at ha
        simpa using ha
      have wf : ∀ (f : FuncId) (t b : Nat), ((fun f => (An0 f).ann) f).base t = some b → ((fun f => (An0 f).ann) f).base b = some b := fun f t b hh => wf0 f t b hh
      exact @pureRun_scalar E0 mix0 (fun f => (An0 f).ann) wf name0 glob0 pr0 prims0 499 136 [.str s] (.bool true) st1 rfl ha' rfl
    | _ => cases h
noncomputable def risingBody (call : Caller) : (List AV → Store → Rs) → List AV → Store → Rs :=
  (fun h2 v3 s4 =>
  un1 v3 fun x5 v8 =>
  un1 v8 fun x6 v9 =>
  un1 v9 fun x7 v10 =>
  hCmpI iLt x5 x7 fun x11 =>
  hIf x11 (
  hCmpI (fun x y => iLt y x) x5 (.int .i64 (.ofNat 0)) fun x16 =>
  hlet (α := AV → Store → Rs) (fun x17 s18 =>
  hlet (α := AV → Store → Rs) (fun x20 s21 =>
  hlet (α := AV → Store → Rs) (fun x23 s24 =>
  hlet (α := AV → Store → Rs) (fun x26 s27 =>
  hlet (α := AV → Store → Rs) (fun x29 s30 =>
  hlet (α := AV → Store → Rs) (fun x32 s33 =>
  hlet (α := AV → Store → Rs) (fun x35 s36 =>
  hlet (α := AV → Store → Rs) (fun x38 s39 =>
  hlet (α := AV → Store → Rs) (fun x41 s42 =>
  hlet (α := AV → Store → Rs) (fun x44 s45 =>
  hPick x16 x44 (.bool false) fun x47 =>
  hIf x47 (
  some ((.bool false), s45)) (
  hArith Int.add x5 (.int .i64 (.ofNat 1)) fun x58 =>
  h2 [x58, x6, x7] s45)) fun j46 =>
  hWant x16 true (
  hVal (aBinC E0.L 9 .leq false x26 x41 s42) fun x51 s52 =>
  j46 x51 s52) (j46 aundef s42)) fun j43 =>
  hWant x16 true (
  hLd1 x38 s39 fun x53 =>
  j43 x53 s39) (j43 aundef s39)) fun j40 =>
  hWant x16 true (
  hElem 1 x29 x35 fun x54 =>
  j40 x54 s36) (j40 aundef s36)) fun j37 =>
  hWant x16 true (
  hArith Int.sub x32 (.int .i64 (.ofNat 1)) fun x55 =>
  j37 x55 s33) (j37 aundef s33)) fun j34 =>
  hWant x16 true (
  j34 x5 s30) (j34 aundef s30)) fun j31 =>
  hWant x16 true (
  j31 x6 s27) (j31 aundef s27)) fun j28 =>
  hWant x16 true (
  hLd1 x23 s24 fun x56 =>
  j28 x56 s24) (j28 aundef s24)) fun j25 =>
  hWant x16 true (
  hElem 1 x17 x20 fun x57 =>
  j25 x57 s21) (j25 aundef s21)) fun j22 =>
  hWant x16 true (
  j22 x5 s18) (j22 aundef s18)) fun j19 =>
  hWant x16 true (
  j19 x6 s4) (j19 aundef s4)) (
  some ((.bool true), s4)))
theorem b137_eq : b137 = fun call n args st =>
  un1 args fun p0 r0 =>
  un0 r0 (
  hLenR p0 fun x0 =>
  hloop (risingBody call) n [(.int .i64 (.ofNat 0)), p0, x0] st) := rfl
set_option maxRecDepth 1000000 in
theorem fn137 : E0.L.fn 137 = some Tryz.f137 := by kernel_rfl
theorem str_leq (t : TypeId) (a b : Bytes) (st : Store) : aBinC E0.L t .leq false (.str a) (.str b) st = some (.val (.bool (blt a b || a == b)), st) := rfl
theorem rising_lt {ks : List Bytes} (hr : Rising ks) {i : Nat} {a b : Bytes} (ha : ks[i]? = some a) (hb : ks[i + 1]? = some b) : blt a b = true := by
  have h1 := (List.getElem?_eq_some_iff.1 ha)
  have h2 := (List.getElem?_eq_some_iff.1 hb)
  obtain ⟨h1, rfl⟩ := h1
  obtain ⟨h2, rfl⟩ := h2
  exact List.pairwise_iff_getElem.1 hr i (i + 1) h1 h2 (by omega)
set_option maxRecDepth 1000000 in
set_option maxHeartbeats 1000000 in
theorem rising_run {K : AV} {ks : List Bytes} (hk : IsKs K ks) (hr : Rising ks) (hl : ks.length < big) (hs : stripV K = K) : PureRun E0 137 [K] (.bool true) := by
  unfold big at hl
  refine pure_body e137 fn137 (by simp [plainVs, isKs_plain hk]) (by simp [stripVs, hs]) fun ts => ?_
  refine ⟨pr0, ks.length + 5, .bool true, S0 ts, [], prOk0, ?_, rfl, rfl, rfl⟩
  rw [b137_eq]
  simp only [x_un1, x_un0]
  rw [x_lenK hk]
  refine loop_rule (fun m vals st => ∃ i, vals = [.int .i64 (.ofNat i), K, .int .i64 (.ofNat ks.length)] ∧ i + m = ks.length ∧ st = S0 ts) ?_ ?_ ks.length _ _ _ ⟨0, rfl, by omega, rfl⟩ (by omega)
  · intro m vals st ih ⟨i, hv, hi, hst⟩ hnext
    subst hv hst
    have hlt : i < ks.length := by omega
    have hg : ks[i]? = some ks[i] := List.getElem?_eq_getElem hlt
    have fin := hnext [.int .i64 (.ofNat (i + 1)), K, .int .i64 (.ofNat ks.length)] (S0 ts) ⟨i + 1, rfl, by omega, rfl⟩
    simp only [risingBody, x_un1, x_hCmpI, x_iLt, decide_eq_true hlt, x_hIf_t, x_hlet]
    cases i with
    | zero =>
      simp only [Nat.lt_irrefl, decide_false, x_hWant_ft, x_hPick_f, x_hIf_f]
      rw [x_add (by omega)]
      exact fin
    | succ j =>
      have hlt' : j < ks.length := by omega
      have hg' : ks[j]? = some ks[j] := List.getElem?_eq_getElem hlt'
      have hb := rising_lt hr hg' hg
      have hq : (blt ks[j + 1] ks[j] || ks[j + 1] == ks[j]) = false := by
        rw [blt_asymm hb, Bool.false_or]
        refine beq_eq_false_iff_ne.2 fun e => ?_
        rw [e, blt_irrefl] at hb
        cases hb
      simp only [decide_eq_true (Nat.succ_pos j), x_hWant_tt, x_elemK hk hg, x_hLd1_r]
      rw [x_sub (by omega) (by omega)]
      simp only [Nat.add_sub_cancel, x_elemK hk hg', x_hLd1_r, x_hVal (str_leq 9 _ _ _), hq, x_hPick_t, x_hIf_f]
      rw [x_add (by omega)]
      exact fin
  · intro vals st ih ⟨i, hv, hi, hst⟩
    subst hv hst
    have hi : i = ks.length := by omega
    subst hi
    simp only [risingBody, x_un1, x_hCmpI, x_iLt, decide_eq_false (Nat.lt_irrefl _), x_hIf_f]
end Go.Sim

namespace Go.Sim
open Go.Proofs

def GTrue (_ : List AV) (v : AV) : Prop := v = .bool true
/-- What bare answers of what is right. -/
def GBare (_ : List AV) (v : AV) : Prop := ∃ t K W, v = .tuple [.agg [.int .i64 t, .bool false, .str [], .str [], K, W, .int .i64 (.ofNat 0)], .bool true] ∧ IsKs K [] ∧ IsW W []
theorem iq01 : iEq (0 : Int) (Int.ofNat 1) = false := rfl
theorem iq02 : iEq (0 : Int) (Int.ofNat 2) = false := rfl
theorem iq03 : iEq (0 : Int) (Int.ofNat 3) = false := rfl
theorem iq04 : iEq (0 : Int) (Int.ofNat 4) = false := rfl
theorem iq05 : iEq (0 : Int) (Int.ofNat 5) = false := rfl
theorem iq11 : iEq (1 : Int) (Int.ofNat 1) = true := rfl
theorem iq12 : iEq (1 : Int) (Int.ofNat 2) = false := rfl
theorem iq13 : iEq (1 : Int) (Int.ofNat 3) = false := rfl
theorem iq14 : iEq (1 : Int) (Int.ofNat 4) = false := rfl
theorem iq15 : iEq (1 : Int) (Int.ofNat 5) = false := rfl
theorem iq21 : iEq (2 : Int) (Int.ofNat 1) = false := rfl
theorem iq22 : iEq (2 : Int) (Int.ofNat 2) = true := rfl
theorem iq23 : iEq (2 : Int) (Int.ofNat 3) = false := rfl
theorem iq24 : iEq (2 : Int) (Int.ofNat 4) = false := rfl
theorem iq25 : iEq (2 : Int) (Int.ofNat 5) = false := rfl
theorem iq31 : iEq (3 : Int) (Int.ofNat 1) = false := rfl
theorem iq32 : iEq (3 : Int) (Int.ofNat 2) = false := rfl
theorem iq33 : iEq (3 : Int) (Int.ofNat 3) = true := rfl
theorem iq34 : iEq (3 : Int) (Int.ofNat 4) = false := rfl
theorem iq35 : iEq (3 : Int) (Int.ofNat 5) = false := rfl
theorem iq41 : iEq (4 : Int) (Int.ofNat 1) = false := rfl
theorem iq42 : iEq (4 : Int) (Int.ofNat 2) = false := rfl
theorem iq43 : iEq (4 : Int) (Int.ofNat 3) = false := rfl
theorem iq44 : iEq (4 : Int) (Int.ofNat 4) = true := rfl
theorem iq45 : iEq (4 : Int) (Int.ofNat 5) = false := rfl
theorem iq51 : iEq (5 : Int) (Int.ofNat 1) = false := rfl
theorem iq52 : iEq (5 : Int) (Int.ofNat 2) = false := rfl
theorem iq53 : iEq (5 : Int) (Int.ofNat 3) = false := rfl
theorem iq54 : iEq (5 : Int) (Int.ofNat 4) = false := rfl
theorem iq55 : iEq (5 : Int) (Int.ofNat 5) = true := rfl
set_option maxRecDepth 1000000 in
theorem fn74 : E0.L.fn 74 = some Tryz.f74 := by kernel_rfl
set_option maxRecDepth 1000000 in
theorem fn104 : E0.L.fn 104 = some Tryz.f104 := by kernel_rfl
set_option maxRecDepth 1000000 in
theorem fn105 : E0.L.fn 105 = some Tryz.f105 := by kernel_rfl
set_option maxRecDepth 1000000 in
theorem fn106 : E0.L.fn 106 = some Tryz.f106 := by kernel_rfl
set_option maxRecDepth 1000000 in
theorem fn107 : E0.L.fn 107 = some Tryz.f107 := by kernel_rfl
set_option maxRecDepth 1000000 in
theorem fn75 : E0.L.fn 75 = some Tryz.f75 := by kernel_rfl
set_option maxRecDepth 1000000 in
theorem fn27 : E0.L.fn 27 = some Tryz.f27 := by kernel_rfl
theorem p0_74 : pr0 74 = none := by kernel_rfl
theorem p0_104 : pr0 104 = none := by kernel_rfl
theorem p0_105 : pr0 105 = none := by kernel_rfl
theorem p0_106 : pr0 106 = none := by kernel_rfl
theorem p0_107 : pr0 107 = none := by kernel_rfl
theorem p0_75 : pr0 75 = none := by kernel_rfl
theorem p0_137 : pr0 137 = none := by kernel_rfl
theorem p0_27 : pr0 27 = none := by kernel_rfl
/-- A value's shape. -/
def Shape (v : Vl) : Prop := v = zeroVl ∨ (∃ b, v = .mk 1 b [] [] [] [] 0) ∨ (∃ n, n ∈ numsL ∧ v = .mk 2 false n [] [] [] 0) ∨ (∃ s, v = .mk 3 false [] s [] [] 0) ∨ (∃ ks vs, v = .mk 4 false [] [] ks vs 0 ∧ Rising ks ∧ ks.length = vs.length) ∨ ∃ vs f, v = .mk 5 false [] [] [] vs (.ofNat f)
/-- What is right, of a depth at most. -/
def RtD : Nat → Vl → Prop
  | 0, _ => False
  | d + 1, v => Shape v ∧ ∀ w, w ∈ v.vs → RtD d w
theorem RtD_mono : ∀ {d e : Nat} {v : Vl}, d ≤ e → RtD d v → RtD e v
  | 0, _, _, _, h => h.elim
  | d + 1, 0, _, h, _ => absurd h (by omega)
  | d + 1, e + 1, _, h, ⟨h1, h2⟩ => ⟨h1, fun w hw => RtD_mono (by omega) (h2 w hw)⟩
theorem Dr_rt {fn : Bool} : ∀ {d : Nat} {v : Vl}, Dr fn d v → RtD (d + 1) v := by
  have base : ∀ {d : Nat} {v : Vl}, Dbase v → RtD (d + 1) v := by
    intro d v h
    rcases h with rfl | ⟨b, rfl⟩ | ⟨n, h, rfl⟩ | ⟨n, h, rfl⟩ | rfl
    · exact ⟨.inl rfl, fun w hw => by cases hw⟩
    · exact ⟨.inr (.inl ⟨b, rfl⟩), fun w hw => by cases hw⟩
    · exact ⟨.inr (.inr (.inl ⟨n, h, rfl⟩)), fun w hw => by cases hw⟩
    · exact ⟨.inr (.inr (.inr (.inl ⟨n, rfl⟩))), fun w hw => by cases hw⟩
    · exact ⟨.inr (.inr (.inr (.inr (.inl ⟨[], [], rfl, List.Pairwise.nil, rfl⟩)))), fun w hw => by cases hw⟩
  intro d
  induction d with
  | zero => intro v h; exact base h
  | succ d ih =>
    intro v h
    rcases h with h | ⟨ks, vs, rfl, hr, hl, _, _, hv⟩ | ⟨_, vs, f, _, rfl, _, hv⟩
    · exact base h
    · exact ⟨.inr (.inr (.inr (.inr (.inl ⟨ks, vs, rfl, hr, hl⟩)))), fun w hw => ih (hv w hw)⟩
    · exact ⟨.inr (.inr (.inr (.inr (.inr ⟨vs, f, rfl⟩)))), fun w hw => ih (hv w hw)⟩
/-- What bare leans on. -/
noncomputable def prB : Prims := prWith (prWith pr0 136 (pureP E0 136 GTrue)) 137 (pureP E0 137 GTrue)
set_option maxRecDepth 1000000 in
theorem prB_ok : PrOk prB := prWith_ok (prWith_ok prOk0 pureP_ok) pureP_ok
theorem pB136 : prB 136 = some (pureP E0 136 GTrue) := by simp [prB, prWith]
theorem pB137 : prB 137 = some (pureP E0 137 GTrue) := by simp [prB, prWith]
theorem pB104 : prB 104 = none := by simp [prB, prWith, p0_104]
theorem pB105 : prB 105 = none := by simp [prB, prWith, p0_105]
theorem pB106 : prB 106 = none := by simp [prB, prWith, p0_106]
theorem pB107 : prB 107 = none := by simp [prB, prWith, p0_107]
theorem call_104 (n : Nat) (cs : List AV) (st : Store) : Call prB (n + 1) (Fv 104) [.agg cs] st = some (.bool true, st) := by
  refine call_body e104 fn104 pB104 (first := []) (cap := []) ?_
  simp only [b104, List.nil_append, List.append_nil, x_un1, x_un0, x_hCells]
set_option maxRecDepth 1000000 in
theorem call_105 (n : Nat) (a b d e f g : AV) {s : Bytes} (hs : s ∈ numsL) (st : Store) : Call prB (n + 2) (Fv 105) [.agg [a, b, .str s, d, e, f, g]] st = some (.bool true, st) := by
  refine call_body e105 fn105 pB105 (first := []) (cap := []) ?_
  obtain ⟨v, hc1, hc2⟩ := call_pure pB136 (args := [.str s]) rfl ⟨_, whole_run hs, rfl⟩ n st
  obtain rfl : v = .bool true := hc2
  simp only [b105, List.nil_append, List.append_nil, x_un1, x_un0, x_hCells, x_hLoc1, x_hNth0, x_hNthS, x_hCall hc1]
set_option maxRecDepth 1000000 in
theorem call_106 (n : Nat) (a b c d g : AV) {K W : AV} {ks : List Bytes} {vs : List Vl} (hk : IsKs K ks) (hw : IsW W vs) (hr : Rising ks) (hl : ks.length = vs.length) (hb : ks.length < big) (st : Store) : Call prB (n + 2) (Fv 106) [.agg [a, b, c, d, K, W, g]] st = some (.bool true, st) := by
  refine call_body e106 fn106 pB106 (first := []) (cap := []) ?_
  obtain ⟨v, hc1, hc2⟩ := call_pure pB137 (args := [K]) (by simp [plainVs, isKs_plain hk]) ⟨_, rising_run (isKs_strip hk) hr hb (strip_strip _), rfl⟩ n st
  obtain rfl : v = .bool true := hc2
  simp only [b106, List.nil_append, List.append_nil, x_un1, x_un0, x_hCells, x_hLoc1, x_hNth0, x_hNthS, x_hCall hc1, x_hWB, x_hlet, x_hWant_tt, x_lenW hw, x_lenK hk, x_hCmpI, x_iEq, hl, decide_true, x_hPick_t]
theorem call_107 (n : Nat) (a b c d e f : AV) (m : Nat) (st : Store) : Call prB (n + 1) (Fv 107) [.agg [a, b, c, d, e, f, .int .i64 (.ofNat m)]] st = some (.bool true, st) := by
  refine call_body e107 fn107 pB107 (first := []) (cap := []) ?_
  simp only [b107, List.nil_append, List.append_nil, x_un1, x_un0, x_hCells, x_hLoc1, x_hNth0, x_hNthS, x_hCmpI, x_iLt, Nat.not_lt_zero, decide_false, Bool.not_false]
/-- The six tests, by tag. -/
def testF : Nat → Nat
  | 2 => 105
  | 4 => 106
  | 5 => 107
  | _ => 104
def mapS (ts : List (Nat × TypeId)) : Store := ⟨[.map ((List.range 6).map fun i => (.int .i64 (.ofNat i), Fv (testF i), i)) 6], 1, ts, ts.length⟩
set_option maxRecDepth 1000000 in
theorem x_map (ts : List (Nat × TypeId)) (k : Nat → Store → Rs) : (hNewO (S0 ts) (.map [] 0) fun o1 s2 =>
  hVal (aMapSet E0.L 142 [.val (.map o1), .val (.int .i64 (.ofNat 0)), .val (.func (.func 104) [] [])] s2) fun x3 s4 =>
  hVal (aMapSet E0.L 142 [.val (.map o1), .val (.int .i64 (.ofNat 1)), .val (.func (.func 104) [] [])] s4) fun x5 s6 =>
  hVal (aMapSet E0.L 142 [.val (.map o1), .val (.int .i64 (.ofNat 2)), .val (.func (.func 105) [] [])] s6) fun x7 s8 =>
  hVal (aMapSet E0.L 142 [.val (.map o1), .val (.int .i64 (.ofNat 3)), .val (.func (.func 104) [] [])] s8) fun x9 s10 =>
  hVal (aMapSet E0.L 142 [.val (.map o1), .val (.int .i64 (.ofNat 4)), .val (.func (.func 106) [] [])] s10) fun x11 s12 =>
  hVal (aMapSet E0.L 142 [.val (.map o1), .val (.int .i64 (.ofNat 5)), .val (.func (.func 107) [] [])] s12) fun x13 s14 => k o1 s14) = k 0 (mapS ts) := by kernel_rfl

set_option maxRecDepth 1000000 in
theorem x_look0 (ts : List (Nat × TypeId)) : aLookup E0.L 142 true [.val (.map 0), .val (.int .i64 (0 : Int))] (mapS ts) = some (.val (.tuple [Fv 104, .bool true]), mapS ts) := by kernel_rfl
set_option maxRecDepth 1000000 in
theorem x_look1 (ts : List (Nat × TypeId)) : aLookup E0.L 142 true [.val (.map 0), .val (.int .i64 (1 : Int))] (mapS ts) = some (.val (.tuple [Fv 104, .bool true]), mapS ts) := by kernel_rfl
set_option maxRecDepth 1000000 in
theorem x_look2 (ts : List (Nat × TypeId)) : aLookup E0.L 142 true [.val (.map 0), .val (.int .i64 (2 : Int))] (mapS ts) = some (.val (.tuple [Fv 105, .bool true]), mapS ts) := by kernel_rfl
set_option maxRecDepth 1000000 in
theorem x_look3 (ts : List (Nat × TypeId)) : aLookup E0.L 142 true [.val (.map 0), .val (.int .i64 (3 : Int))] (mapS ts) = some (.val (.tuple [Fv 104, .bool true]), mapS ts) := by kernel_rfl
set_option maxRecDepth 1000000 in
theorem x_look4 (ts : List (Nat × TypeId)) : aLookup E0.L 142 true [.val (.map 0), .val (.int .i64 (4 : Int))] (mapS ts) = some (.val (.tuple [Fv 106, .bool true]), mapS ts) := by kernel_rfl
set_option maxRecDepth 1000000 in
theorem x_look5 (ts : List (Nat × TypeId)) : aLookup E0.L 142 true [.val (.map 0), .val (.int .i64 (5 : Int))] (mapS ts) = some (.val (.tuple [Fv 107, .bool true]), mapS ts) := by kernel_rfl
theorem x_stB (cs : List AV) (o : Nat) (b : Bool) (k : List AV → Rs) : hStL1 cs o (.bool b) k = hPut cs o (.bool b) k := rfl
theorem x_stI (cs : List AV) (o : Nat) (kd : IntKind) (z : Int) (k : List AV → Rs) : hStL1 cs o (.int kd z) k = hPut cs o (.int kd z) k := rfl
theorem x_stS (cs : List AV) (o : Nat) (b : Bytes) (k : List AV → Rs) : hStL1 cs o (.str b) k = hPut cs o (.str b) k := rfl
set_option maxRecDepth 1000000 in
theorem bare_0 (ts : List (Nat × TypeId)) (b : Bool) (n s : Bytes) (K W : AV) (f : Int) (hc : Call prB 5 (Fv 104) [.agg [.int .i64 0, .bool b, .str n, .str s, K, W, .int .i64 f]] (mapS ts) = some (.bool true, mapS ts)) :
    b74 (Call prB 5) 5 [.agg [.int .i64 0, .bool b, .str n, .str s, K, W, .int .i64 f]] (S0 ts) = some (.tuple [.agg [.int .i64 0, .bool b, .str n, .str s, K, W, .int .i64 f], .bool true], mapS ts) := by
  simp only [b74, x_un1, x_un0, x_hCells]
  rw [x_map]
  simp only [x_hLoc1, x_hNth0, x_hNthS]
  rw [x_hVal (x_look0 ts)]
  simp only [x_hExt, x_hNot, Bool.not_true, x_hWB, x_hlet, x_hWant_ff, x_hLocN, x_hCut7, x_hPick_f, x_hIf_f, x_hIf_t, x_hStLN7, x_hCmpI, x_stNils, x_hPut0, x_hPutS, x_un1, x_unAgg, x_stB, x_stI, x_stS, x_hLoc1, x_hNth0, x_hNthS, x_hCall hc, iq01, iq02, iq03, iq04, iq05]
set_option maxRecDepth 1000000 in
theorem bare_1 (ts : List (Nat × TypeId)) (b : Bool) (n s : Bytes) (K W : AV) (f : Int) (hc : Call prB 5 (Fv 104) [.agg [.int .i64 1, .bool b, .str n, .str s, K, W, .int .i64 f]] (mapS ts) = some (.bool true, mapS ts)) :
    b74 (Call prB 5) 5 [.agg [.int .i64 1, .bool b, .str n, .str s, K, W, .int .i64 f]] (S0 ts) = some (.tuple [.agg [.int .i64 1, .bool false, .str n, .str s, K, W, .int .i64 f], .bool true], mapS ts) := by
  simp only [b74, x_un1, x_un0, x_hCells]
  rw [x_map]
  simp only [x_hLoc1, x_hNth0, x_hNthS]
  rw [x_hVal (x_look1 ts)]
  simp only [x_hExt, x_hNot, Bool.not_true, x_hWB, x_hlet, x_hWant_ff, x_hLocN, x_hCut7, x_hPick_f, x_hIf_f, x_hIf_t, x_hStLN7, x_hCmpI, x_stNils, x_hPut0, x_hPutS, x_un1, x_unAgg, x_stB, x_stI, x_stS, x_hLoc1, x_hNth0, x_hNthS, x_hCall hc, iq11, iq12, iq13, iq14, iq15]
set_option maxRecDepth 1000000 in
theorem bare_2 (ts : List (Nat × TypeId)) (b : Bool) (n s : Bytes) (K W : AV) (f : Int) (hc : Call prB 5 (Fv 105) [.agg [.int .i64 2, .bool b, .str n, .str s, K, W, .int .i64 f]] (mapS ts) = some (.bool true, mapS ts)) :
    b74 (Call prB 5) 5 [.agg [.int .i64 2, .bool b, .str n, .str s, K, W, .int .i64 f]] (S0 ts) = some (.tuple [.agg [.int .i64 2, .bool b, .str [], .str s, K, W, .int .i64 f], .bool true], mapS ts) := by
  simp only [b74, x_un1, x_un0, x_hCells]
  rw [x_map]
  simp only [x_hLoc1, x_hNth0, x_hNthS]
  rw [x_hVal (x_look2 ts)]
  simp only [x_hExt, x_hNot, Bool.not_true, x_hWB, x_hlet, x_hWant_ff, x_hLocN, x_hCut7, x_hPick_f, x_hIf_f, x_hIf_t, x_hStLN7, x_hCmpI, x_stNils, x_hPut0, x_hPutS, x_un1, x_unAgg, x_stB, x_stI, x_stS, x_hLoc1, x_hNth0, x_hNthS, x_hCall hc, iq21, iq22, iq23, iq24, iq25]
set_option maxRecDepth 1000000 in
theorem bare_3 (ts : List (Nat × TypeId)) (b : Bool) (n s : Bytes) (K W : AV) (f : Int) (hc : Call prB 5 (Fv 104) [.agg [.int .i64 3, .bool b, .str n, .str s, K, W, .int .i64 f]] (mapS ts) = some (.bool true, mapS ts)) :
    b74 (Call prB 5) 5 [.agg [.int .i64 3, .bool b, .str n, .str s, K, W, .int .i64 f]] (S0 ts) = some (.tuple [.agg [.int .i64 3, .bool b, .str n, .str [], K, W, .int .i64 f], .bool true], mapS ts) := by
  simp only [b74, x_un1, x_un0, x_hCells]
  rw [x_map]
  simp only [x_hLoc1, x_hNth0, x_hNthS]
  rw [x_hVal (x_look3 ts)]
  simp only [x_hExt, x_hNot, Bool.not_true, x_hWB, x_hlet, x_hWant_ff, x_hLocN, x_hCut7, x_hPick_f, x_hIf_f, x_hIf_t, x_hStLN7, x_hCmpI, x_stNils, x_hPut0, x_hPutS, x_un1, x_unAgg, x_stB, x_stI, x_stS, x_hLoc1, x_hNth0, x_hNthS, x_hCall hc, iq31, iq32, iq33, iq34, iq35]
set_option maxRecDepth 1000000 in
theorem bare_4 (ts : List (Nat × TypeId)) (b : Bool) (n s : Bytes) (K W : AV) (f : Int) (hc : Call prB 5 (Fv 106) [.agg [.int .i64 4, .bool b, .str n, .str s, K, W, .int .i64 f]] (mapS ts) = some (.bool true, mapS ts)) :
    b74 (Call prB 5) 5 [.agg [.int .i64 4, .bool b, .str n, .str s, K, W, .int .i64 f]] (S0 ts) = some (.tuple [.agg [.int .i64 4, .bool b, .str n, .str s, .nils, .nils, .int .i64 f], .bool true], mapS ts) := by
  simp only [b74, x_un1, x_un0, x_hCells]
  rw [x_map]
  simp only [x_hLoc1, x_hNth0, x_hNthS]
  rw [x_hVal (x_look4 ts)]
  simp only [x_hExt, x_hNot, Bool.not_true, x_hWB, x_hlet, x_hWant_ff, x_hLocN, x_hCut7, x_hPick_f, x_hIf_f, x_hIf_t, x_hStLN7, x_hCmpI, x_stNils, x_hPut0, x_hPutS, x_un1, x_unAgg, x_stB, x_stI, x_stS, x_hLoc1, x_hNth0, x_hNthS, x_hCall hc, iq41, iq42, iq43, iq44, iq45]
set_option maxRecDepth 1000000 in
theorem bare_5 (ts : List (Nat × TypeId)) (b : Bool) (n s : Bytes) (K W : AV) (f : Int) (hc : Call prB 5 (Fv 107) [.agg [.int .i64 5, .bool b, .str n, .str s, K, W, .int .i64 f]] (mapS ts) = some (.bool true, mapS ts)) :
    b74 (Call prB 5) 5 [.agg [.int .i64 5, .bool b, .str n, .str s, K, W, .int .i64 f]] (S0 ts) = some (.tuple [.agg [.int .i64 5, .bool b, .str n, .str s, K, .nils, .int .i64 (.ofNat 0)], .bool true], mapS ts) := by
  simp only [b74, x_un1, x_un0, x_hCells]
  rw [x_map]
  simp only [x_hLoc1, x_hNth0, x_hNthS]
  rw [x_hVal (x_look5 ts)]
  simp only [x_hExt, x_hNot, Bool.not_true, x_hWB, x_hlet, x_hWant_ff, x_hLocN, x_hCut7, x_hPick_f, x_hIf_f, x_hIf_t, x_hStLN7, x_hCmpI, x_stNils, x_hPut0, x_hPutS, x_un1, x_unAgg, x_stB, x_stI, x_stS, x_hLoc1, x_hNth0, x_hNthS, x_hCall hc, iq51, iq52, iq53, iq54, iq55]
set_option maxRecDepth 1000000 in
theorem bare_run {x : AV} {a : Vl} (hx : IsV x a) (ha : Shape a) (hb : a.size < big) (hs : stripV x = x) : ∃ v, PureRun E0 74 [x] v ∧ GBare [x] v := by
  have fin : ∀ (t : Int) (K' W' : AV), IsKs K' [] → IsW W' [] → (∀ ts, b74 (Call prB 5) 5 [x] (S0 ts) = some (.tuple [.agg [.int .i64 t, .bool false, .str [], .str [], K', W', .int .i64 (.ofNat 0)], .bool true], mapS ts)) → ∃ v, PureRun E0 74 [x] v ∧ GBare [x] v := by
    intro t K' W' hK hW h
    have hv : IsV (.agg [.int .i64 t, .bool false, .str [], .str [], K', W', .int .i64 (.ofNat 0)]) (.mk t false [] [] [] [] (.ofNat 0)) := isV_iff.2 ⟨K', W', rfl, hK, hW⟩
    obtain ⟨K2, W2, e, hK2, hW2⟩ := isV_iff.1 (isV_strip hv)
    refine ⟨stripV (.tuple [.agg [.int .i64 t, .bool false, .str [], .str [], K', W', .int .i64 (.ofNat 0)], .bool true]), ?_, t, K2, W2, ?_, hK2, hW2⟩
    · refine pure_body e74 fn74 (by simp [plainVs, isV_plain hx]) (by simp [stripVs, hs]) fun ts => ?_
      exact ⟨prB, 5, _, mapS ts, [], prB_ok, h ts, rfl, by show (plainV _ && (true && true)) = true; rw [isV_plain hv]; rfl, rfl⟩
    · show AV.tuple [stripV _, .bool true] = _
      rw [e]
  rcases ha with rfl | ⟨b, rfl⟩ | ⟨n, h, rfl⟩ | ⟨n, rfl⟩ | ⟨ks, vs, rfl, hr, hl⟩ | ⟨vs, f, rfl⟩
  · obtain ⟨K, W, rfl, hk, hw⟩ := isV_iff.1 hx
    exact fin 0 K W hk hw fun ts => bare_0 ts _ _ _ _ _ _ (call_104 4 _ _)
  · obtain ⟨K, W, rfl, hk, hw⟩ := isV_iff.1 hx
    exact fin 1 K W hk hw fun ts => bare_1 ts _ _ _ _ _ _ (call_104 4 _ _)
  · obtain ⟨K, W, rfl, hk, hw⟩ := isV_iff.1 hx
    exact fin 2 K W hk hw fun ts => bare_2 ts _ _ _ _ _ _ (call_105 3 _ _ _ _ _ _ h _)
  · obtain ⟨K, W, rfl, hk, hw⟩ := isV_iff.1 hx
    exact fin 3 K W hk hw fun ts => bare_3 ts _ _ _ _ _ _ (call_104 4 _ _)
  · obtain ⟨K, W, rfl, hk, hw⟩ := isV_iff.1 hx
    have hkl := ksum_len ks
    have hsz : (Vl.mk 4 false [] [] ks vs 0).size = 1 + 0 + 0 + ksum ks + vsum vs := by simp only [Vl.size, List.length_nil]
    exact fin 4 .nils .nils (.inl ⟨rfl, rfl⟩) (.inl ⟨rfl, rfl⟩) fun ts => bare_4 ts _ _ _ _ _ _ (call_106 3 _ _ _ _ _ hk hw hr hl (by omega) _)
  · obtain ⟨K, W, rfl, hk, hw⟩ := isV_iff.1 hx
    exact fin 5 K .nils hk (.inl ⟨rfl, rfl⟩) fun ts => bare_5 ts _ _ _ _ _ _ (call_107 4 _ _ _ _ _ _ _ _)
end Go.Sim

namespace Go.Sim
open Go.Proofs

noncomputable def prR : Prims := prWith (prWith pr0 74 (pureP E0 74 GBare)) 27 (pureP E0 27 GTrue)
set_option maxRecDepth 1000000 in
theorem prR_ok : PrOk prR := prWith_ok (prWith_ok prOk0 pureP_ok) pureP_ok
theorem pR74 : prR 74 = some (pureP E0 74 GBare) := by simp [prR, prWith]
theorem pR27 : prR 27 = some (pureP E0 27 GTrue) := by simp [prR, prWith]
theorem pR56 : prR 56 = none := by simp [prR, prWith, p0_56]
theorem pR95 : prR 95 = none := by simp [prR, prWith, p0_95]
theorem pR75 : prR 75 = none := by simp [prR, prWith, p0_75]
set_option maxRecDepth 1000000 in
set_option maxHeartbeats 1000000 in
theorem right_run : ∀ (d : Nat) (a : Vl) (x : AV), RtD d a → a.size < big → IsV x a → stripV x = x → PureRun E0 27 [x] (.bool true) := by
  intro d
  induction d with
  | zero => intro a x h; exact h.elim
  | succ d ih =>
    intro a x ⟨hsh, hkids⟩ hb hx hs
    refine pure_body e27 fn27 (by simp [plainVs, isV_plain hx]) (by simp [stripVs, hs]) fun ts => ?_
    refine ⟨prR, a.size + 8, .bool true, S0 ts, [], prR_ok, ?_, rfl, rfl, rfl⟩
    cases a with
    | mk t b n s ks vs f =>
    obtain ⟨K, W, rfl, hk, hw⟩ := isV_iff.1 hx
    have hsz : (Vl.mk t b n s ks vs f).size = 1 + n.length + s.length + ksum ks + vsum vs := by simp only [Vl.size]
    have hvl := vsum_len vs
    have hbare := bare_run (isV_strip hx) hsh hb (strip_strip _)
    obtain ⟨v, hc1, t2, K2, W2, rfl, hK2, hW2⟩ := call_pure pR74 (args := [_]) (by simp [plainVs, isV_plain hx]) hbare ((Vl.mk t b n s ks vs f).size + 7) (S0 ts)
    have hc := contains_call pR56 pR95 hw (by omega) (Fv 75) (fun _ => false) (S0 ts) 3 (fun cs v i hi hcs n hn => by
      obtain ⟨n, rfl⟩ : ∃ n', n = n' + 2 := ⟨n - 2, by omega⟩
      refine call_body e75 fn75 pR75 (first := []) (cap := []) ?_
      obtain ⟨t', b', n', s', K', W', f', hcs'⟩ := isV_cells hcs
      injection hcs' with hcs'
      subst hcs'
      have h3 := vsum_get hi
      obtain ⟨w, hc1, hc2⟩ := call_pure pR27 (args := [_]) (by simp [plainVs, isV_plain hcs]) ⟨_, ih v _ (hkids v (List.mem_of_getElem? hi)) (by omega) (isV_strip hcs) (strip_strip _), rfl⟩ n (S0 ts)
      obtain rfl : w = .bool true := hc2
      simp only [b75, List.nil_append, List.append_nil, x_un1, x_un0, x_hCells, x_hLocN, x_hCut7, x_hCall hc1, x_hNot, Bool.not_true]) ((Vl.mk t b n s ks vs f).size + 8) (by omega)
    have hany : vs.any (fun _ => false) = false := by induction vs with
      | nil => rfl
      | cons _ _ ih => simp
    rw [hany] at hc
    simp only [b27, x_un1, x_un0, x_hCells, x_hLocN, x_hCut7, x_hCall hc1, x_hExt, x_hNth0, x_hNthS, x_hStLN7, x_hLoc1, x_hNot, Bool.not_false, x_hWB, x_hlet, x_hWant_tt, x_hStr, x_bEq, decide_true, x_hPick_t, x_hCmpI, x_iEq, x_lenK hK2, x_lenW hW2, List.length_nil, x_hCall hc]
end Go.Sim

namespace Go.Sim
open Go.Proofs

theorem putL_get {α : Type} {l : List α} {lb e : Nat} {x : α} (h : lb ≤ l.length) (i : Nat) : (putL l lb e x)[i]? = if i < lb then l[i]? else if i = lb then some x else l[i - 1 + e]? := by
  simp only [putL]
  split
  · rename_i hi
    rw [List.getElem?_append_left (by simp; omega), List.getElem?_take, if_pos hi]
  · rename_i hi
    rw [List.getElem?_append_right (by simp; omega), List.length_take, Nat.min_eq_left h]
    split
    · rename_i hi'
      subst hi'
      simp
    · rename_i hi'
      obtain ⟨m, hm⟩ : ∃ m, i - lb = m + 1 := ⟨i - lb - 1, by omega⟩
      rw [hm, List.getElem?_cons_succ, List.getElem?_drop]
      congr 1
      omega
/-- Where a key lies. -/
theorem rising_at {ks : List Bytes} (hr : Rising ks) {i : Nat} {k : Bytes} (h : ks[i]? = some k) : lbnd k ks = i := by
  have hi := (List.getElem?_eq_some_iff.1 h).1
  rcases Nat.lt_trichotomy i (lbnd k ks) with hlt | heq | hgt
  · have := lbnd_lt hlt h
    rw [blt_irrefl] at this; cases this
  · exact heq.symm
  · have hl : lbnd k ks < ks.length := by omega
    have h1 := lbnd_ge hr (Nat.le_refl _) (List.getElem?_eq_getElem hl)
    have h2 := List.pairwise_iff_getElem.1 hr (lbnd k ks) i hl hi hgt
    have h3 : ks[i] = k := (List.getElem?_eq_some_iff.1 h).2
    rw [h3, h1] at h2; cases h2
theorem rising_ext : ∀ {a b : List Bytes}, Rising a → Rising b → (∀ k, k ∈ a ↔ k ∈ b) → a = b
  | [], [], _, _, _ => rfl
  | [], y :: b, _, _, h => absurd ((h y).2 (List.mem_cons_self ..)) (by simp)
  | x :: a, [], _, _, h => absurd ((h x).1 (List.mem_cons_self ..)) (by simp)
  | x :: a, y :: b, ha, hb, h => by
    have ha' := List.pairwise_cons.1 ha
    have hb' := List.pairwise_cons.1 hb
    have hxy : x = y := by
      rcases List.mem_cons.1 ((h x).1 (List.mem_cons_self ..)) with e | e
      · exact e
      · rcases List.mem_cons.1 ((h y).2 (List.mem_cons_self ..)) with e' | e'
        · exact e'.symm
        · have h1 := hb'.1 x e
          have h2 := ha'.1 y e'
          rw [blt_asymm h1] at h2; cases h2
    subst hxy
    rw [rising_ext ha'.2 hb'.2 fun k => ⟨fun hk => ?_, fun hk => ?_⟩]
    · rcases List.mem_cons.1 ((h k).1 (List.mem_cons_of_mem _ hk)) with e | e
      · have := ha'.1 k hk
        rw [e, blt_irrefl] at this; cases this
      · exact e
    · rcases List.mem_cons.1 ((h k).2 (List.mem_cons_of_mem _ hk)) with e | e
      · have := hb'.1 k hk
        rw [e, blt_irrefl] at this; cases this
      · exact e
def Dict (a : Vl) : Prop := ∃ ks vs, a = .mk 4 false [] [] ks vs 0 ∧ Rising ks ∧ ks.length = vs.length
theorem getV_iff {ks : List Bytes} {vs : List Vl} (hr : Rising ks) (hl : ks.length = vs.length) {k : Bytes} {v : Vl} : getV (.mk 4 false [] [] ks vs 0) k = some v ↔ ∃ i : Nat, ks[i]? = some k ∧ vs[i]? = some v := by
  show (if ks[lbnd k ks]? = some k then vs[lbnd k ks]? else none) = some v ↔ _
  constructor
  · intro h
    split at h
    · exact ⟨_, by assumption, h⟩
    · cases h
  · rintro ⟨i, h1, h2⟩
    rw [rising_at hr h1, if_pos h1, h2]
theorem dict_ext {a b : Vl} (ha : Dict a) (hb : Dict b) (h : ∀ k, getV a k = getV b k) : a = b := by
  obtain ⟨ks, vs, rfl, hr, hl⟩ := ha
  obtain ⟨ks', vs', rfl, hr', hl'⟩ := hb
  have mem : ∀ {ks ks' : List Bytes} {vs vs' : List Vl}, Rising ks → ks.length = vs.length → Rising ks' → ks'.length = vs'.length → (∀ k, getV (.mk 4 false [] [] ks vs 0) k = getV (.mk 4 false [] [] ks' vs' 0) k) → ∀ k, k ∈ ks → k ∈ ks' := by
    intro ks ks' vs vs' hr hl hr' hl' h k hk
    obtain ⟨i, hi, e⟩ := List.getElem_of_mem hk
    have h1 : getV (.mk 4 false [] [] ks vs 0) k = some (vs[i]'(hl ▸ hi)) := (getV_iff hr hl).2 ⟨i, by rw [List.getElem?_eq_getElem hi, e], List.getElem?_eq_getElem (hl ▸ hi)⟩
    rw [h k] at h1
    obtain ⟨j, hj, _⟩ := (getV_iff hr' hl').1 h1
    exact List.mem_of_getElem? hj
  have e : ks = ks' := rising_ext hr hr' fun k => ⟨mem hr hl hr' hl' h k, mem hr' hl' hr hl (fun k => (h k).symm) k⟩
  subst e
  have e2 : vs = vs' := List.ext_getElem? fun i => by
    by_cases hi : i < ks.length
    · have h1 : getV (.mk 4 false [] [] ks vs 0) ks[i] = some (vs[i]'(hl ▸ hi)) := (getV_iff hr hl).2 ⟨i, List.getElem?_eq_getElem hi, List.getElem?_eq_getElem (hl ▸ hi)⟩
      rw [h ks[i]] at h1
      obtain ⟨j, hj, h2⟩ := (getV_iff hr hl').1 h1
      have e1 := rising_at hr hj
      have e2 := rising_at hr (List.getElem?_eq_getElem hi)
      have : j = i := e1.symm.trans e2
      subst this
      rw [h2, List.getElem?_eq_getElem (hl ▸ hi)]
    · rw [List.getElem?_eq_none (by omega), List.getElem?_eq_none (by omega)]
  rw [e2]
theorem setV_dict {a : Vl} (ha : Dict a) (k : Bytes) (b : Vl) : Dict (setV a k b) := by
  obtain ⟨ks, vs, rfl, hr, hl⟩ := ha
  rw [setV_put hl]
  exact ⟨_, _, rfl, put_rising hr k, put_lens hl⟩
theorem getV_setV {a : Vl} (ha : Dict a) (k : Bytes) (b : Vl) : getV (setV a k b) k = some b := by
  obtain ⟨ks, vs, rfl, hr, hl⟩ := ha
  rw [setV_put hl]
  have h1 := lbnd_le k ks
  refine (getV_iff (put_rising hr k) (put_lens hl)).2 ⟨lbnd k ks, ?_, ?_⟩
  · rw [putL_get h1, if_neg (Nat.lt_irrefl _), if_pos rfl]
  · rw [putL_get (hl ▸ h1), if_neg (Nat.lt_irrefl _), if_pos rfl]
theorem getV_setV_ne {a : Vl} (ha : Dict a) {j k : Bytes} (hne : j ≠ k) (b : Vl) : getV (setV a j b) k = getV a k := by
  obtain ⟨ks, vs, rfl, hr, hl⟩ := ha
  rw [setV_put hl]
  have h1 := lbnd_le j ks
  have he := hasK_le ks j
  refine Option.ext fun v => ?_
  rw [getV_iff (put_rising hr j) (put_lens hl), getV_iff hr hl]
  constructor
  · rintro ⟨i, hi, hv⟩
    rw [putL_get h1] at hi
    rw [putL_get (hl ▸ h1)] at hv
    by_cases q1 : i < lbnd j ks
    · rw [if_pos q1] at hi hv
      exact ⟨i, hi, hv⟩
    · rw [if_neg q1] at hi hv
      by_cases q2 : i = lbnd j ks
      · rw [if_pos q2] at hi
        injection hi with hi
        exact absurd hi hne
      · rw [if_neg q2] at hi hv
        exact ⟨_, hi, hv⟩
  · rintro ⟨i, hi, hv⟩
    by_cases q1 : i < lbnd j ks
    · exact ⟨i, by rw [putL_get h1, if_pos q1, hi], by rw [putL_get (hl ▸ h1), if_pos q1, hv]⟩
    · have hlt : lbnd j ks + hasK ks j ≤ i := by
        rcases Nat.lt_or_ge i (lbnd j ks + hasK ks j) with q | q
        · exfalso
          have e0 : i = lbnd j ks := by omega
          have e1 : hasK ks j = 1 := by omega
          unfold hasK at e1
          split at e1
          · rename_i e2
            rw [← e0, hi] at e2
            injection e2 with e2
            exact hne e2.symm
          · cases e1
        · exact q
      refine ⟨i + 1 - hasK ks j, ?_, ?_⟩
      · rw [putL_get h1, if_neg (by omega), if_neg (by omega), show i + 1 - hasK ks j - 1 + hasK ks j = i by omega, hi]
      · rw [putL_get (hl ▸ h1), if_neg (by omega), if_neg (by omega), show i + 1 - hasK ks j - 1 + hasK ks j = i by omega, hv]
theorem setV_setV {a : Vl} (ha : Dict a) (k : Bytes) (v w : Vl) : setV (setV a k v) k w = setV a k w := by
  refine dict_ext (setV_dict (setV_dict ha k v) k w) (setV_dict ha k w) fun i => ?_
  by_cases h : k = i
  · subst h; rw [getV_setV (setV_dict ha k v), getV_setV ha]
  · rw [getV_setV_ne (setV_dict ha k v) h, getV_setV_ne ha h, getV_setV_ne ha h]
theorem setV_comm {a : Vl} (ha : Dict a) {j k : Bytes} (hne : j ≠ k) (v w : Vl) : setV (setV a j v) k w = setV (setV a k w) j v := by
  refine dict_ext (setV_dict (setV_dict ha j v) k w) (setV_dict (setV_dict ha k w) j v) fun i => ?_
  by_cases h : k = i
  · subst h; rw [getV_setV (setV_dict ha j v), getV_setV_ne (setV_dict ha k w) hne, getV_setV ha]
  · rw [getV_setV_ne (setV_dict ha j v) h]
    by_cases h' : j = i
    · subst h'; rw [getV_setV ha, getV_setV (setV_dict ha k w)]
    · rw [getV_setV_ne ha h', getV_setV_ne (setV_dict ha k w) h', getV_setV_ne ha h]
theorem setV_getV {a : Vl} (ha : Dict a) {k : Bytes} {b : Vl} (h : getV a k = some b) : setV a k b = a := by
  refine dict_ext (setV_dict ha k b) ha fun i => ?_
  by_cases h' : k = i
  · subst h'; rw [getV_setV ha, h]
  · rw [getV_setV_ne ha h']
/-- What is set in stays right. -/
theorem setV_rt {a b : Vl} {k : Bytes} {d : Nat} (ha : Dict a) (hk : RtD (d + 1) a) (hb : RtD d b) : RtD (d + 1) (setV a k b) := by
  obtain ⟨ks, vs, rfl, hr, hl⟩ := ha
  rw [setV_put hl]
  refine ⟨.inr (.inr (.inr (.inr (.inl ⟨_, _, rfl, put_rising hr k, put_lens hl⟩)))), fun w hw => ?_⟩
  rcases put_mem hw with rfl | hw
  · exact hb
  · exact hk.2 w hw
theorem setV_size {a b : Vl} {k : Bytes} (ha : Dict a) : (setV a k b).size ≤ a.size + 1 + k.length + b.size := by
  obtain ⟨ks, vs, rfl, hr, hl⟩ := ha
  simp only [setV, if_true]
  split
  · rename_i h
    have hi := (List.getElem?_eq_some_iff.1 h).1
    have := vsum_set (b := b) (List.getElem?_eq_getElem (show lbnd k ks < vs.length by omega))
    simp only [Vl.size]; omega
  · simp only [Vl.size, ksum_ins, vsum_ins]; omega
end Go.Sim

namespace Go.Sim
open Go.Proofs

noncomputable def prS : Prims := prWith prV 27 (pureP E0 27 GTrue)
set_option maxRecDepth 1000000 in
theorem prS_ok : PrOk prS := prWith_ok prV_ok pureP_ok
theorem pS27 : prS 27 = some (pureP E0 27 GTrue) := by simp [prS, prWith]
theorem pS18 : prS 18 = some (pureP E0 18 GWorks) := by simp [prS, prV, prWith]
theorem pS14 : prS 14 = some (pureP E0 14 GDrawn) := by simp [prS, prV, prWith]
theorem pS20 : prS 20 = some (pureP E0 20 GKey) := by simp [prS, prV, prWith]
theorem pS17 : prS 17 = some (pureP E0 17 GSame) := by simp [prS, prV, prWith]
theorem pS23 : prS 23 = some (pureP E0 23 GGet) := by simp [prS, prV, prWith]
theorem pS19 : prS 19 = some (pureP E0 19 GSet) := by simp [prS, prV, prWith]
theorem big_lt : 100000 < big - 1 := by decide
set_option maxRecDepth 1000000 in
theorem right_call {x : AV} {a : Vl} {d : Nat} (hx : IsV x a) (hr : RtD d a) (ha : a.size < 100000) (n : Nat) (st : Store) : Call prS (n + 1) (Fv 27) [x] st = some (.bool true, st) := by
  have := big_lt
  obtain ⟨v, h1, h2⟩ := call_pure pS27 (args := [x]) (by simp [plainVs, isV_plain hx]) ⟨_, right_run d a _ hr (by omega) (isV_strip hx) (strip_strip _), rfl⟩ n st
  obtain rfl : v = .bool true := h2
  exact h1
theorem dset {x y : AV} {a b : Vl} (k : Bytes) (hx : IsV x a) (hn : Neat x) (hd : Dict a) (ha : a.size < 100000) (hy : IsV y b) (n : Nat) (st : Store) :
    ∃ c1 c2 c3 c4 c5 c6 c7, Call prS (n + 1) (Fv 19) [x, .str k, y] st = some (.agg [c1, c2, c3, c4, c5, c6, c7], st) ∧ IsV (.agg [c1, c2, c3, c4, c5, c6, c7]) (setV a k b) ∧ Neat (.agg [c1, c2, c3, c4, c5, c6, c7]) := by
  have := big_lt
  obtain ⟨ks, vs, rfl, hr, hl⟩ := hd
  obtain ⟨v, h1, h2, h3, _⟩ := call_set pS19 k hx hy (by omega) hr (fun _ => hl) hn n st
  obtain ⟨c1, c2, c3, c4, c5, c6, c7, rfl⟩ := cells7 h2
  exact ⟨c1, c2, c3, c4, c5, c6, c7, h1, h2, h3⟩
theorem dget {x : AV} {a : Vl} (k : Bytes) (hx : IsV x a) (hd : Dict a) (ha : a.size < 100000) (n : Nat) (st : Store) :
    ∃ c1 c2 c3 c4 c5 c6 c7 b c, Call prS (n + 1) (Fv 23) [x, .str k] st = some (.tuple [.agg [c1, c2, c3, c4, c5, c6, c7], .bool c], st) ∧ IsV (.agg [c1, c2, c3, c4, c5, c6, c7]) b ∧ b.size < 100000 ∧ ((getV a k = some b ∧ c = true) ∨ (getV a k = none ∧ b = zeroVl ∧ c = false)) := by
  have := big_lt
  obtain ⟨ks, vs, rfl, hr, hl⟩ := hd
  obtain ⟨y, b, c, h1, h2, h3⟩ := call_get pS23 k hx (by omega) hr (Nat.le_of_eq hl) n st
  obtain ⟨c1, c2, c3, c4, c5, c6, c7, rfl⟩ := cells7 h2
  refine ⟨c1, c2, c3, c4, c5, c6, c7, b, c, h1, h2, ?_, h3⟩
  rcases h3 with ⟨h3, _⟩ | ⟨_, rfl, _⟩
  · obtain ⟨i, _, hi⟩ := (getV_iff hr hl).1 h3
    have := vsum_get hi
    simp only [Vl.size] at ha
    omega
  · simp [zeroVl, Vl.size, ksum, vsum]
theorem dsame {x y : AV} {a b : Vl} (hx : IsV x a) (hy : IsV y b) (e : a = b) (ha : a.size < 100000) (n : Nat) (st : Store) : Call prS (n + 1) (Fv 17) [x, y] st = some (.bool true, st) := by
  have := big_lt
  subst e
  rw [call_same pS17 hx hy (by omega) (by omega) n st]
  simp
theorem x_hIdx (i : Nat) (h : i < 3) (k : Nat → Rs) : hIdx (.int .i64 (.ofNat i)) 3 k = k i := by
  match i, h with
  | 0, _ => rfl
  | 1, _ => rfl
  | 2, _ => rfl
theorem x_nth0 (a b c : AV) (k : AV → Rs) : hNth [a, b, c] (0 + 0 * 1) k = k a := rfl
theorem x_nth1 (a b c : AV) (k : AV → Rs) : hNth [a, b, c] (0 + 1 * 1) k = k b := rfl
theorem x_nth2 (a b c : AV) (k : AV → Rs) : hNth [a, b, c] (0 + 2 * 1) k = k c := rfl
theorem int_quo8 (p : Nat) (hp : p < 256) (st : Store) : aBinC E0.L 5 .quo true (.int .u8 (.ofNat p)) (.int .u8 (.ofNat 8)) st = some (.val (.int .u8 (.ofNat (p / 8))), st) := by
  have h0 : ¬ (Int.ofNat 8 = 0) := by decide
  have h2 : IntKind.u8.wrap ((Int.ofNat p).tdiv (Int.ofNat 8)) = Int.ofNat (p / 8) := by
    have : IntKind.u8.wrap (.ofNat (p / 8)) = .ofNat ((p / 8) % 256) := wrap_u8 _
    rw [Nat.mod_eq_of_lt (by omega)] at this
    exact this
  simp only [aBinC, binC, intV, if_true, intOp, if_neg h0, h2]
theorem x_hNot_t (k : AV → Rs) : hNot (.bool true) k = k (.bool false) := rfl
theorem x_hNot_f (k : AV → Rs) : hNot (.bool false) k = k (.bool true) := rfl
theorem zero_dict : Dict (.mk 4 false [] [] [] [] 0) := ⟨[], [], rfl, List.Pairwise.nil, rfl⟩
theorem zero_rt : RtD 5 (.mk 4 false [] [] [] [] 0) := ⟨.inr (.inr (.inr (.inr (.inl ⟨[], [], rfl, List.Pairwise.nil, rfl⟩)))), fun w hw => by cases hw⟩
theorem zero_isV : IsV (.agg [.int .i64 (.ofNat 4), .bool false, .str [], .str [], .nils, .nils, .int .i64 (.ofNat 0)]) (.mk 4 false [] [] [] [] 0) := isV_iff.2 ⟨.nils, .nils, rfl, .inl ⟨rfl, rfl⟩, .inl ⟨rfl, rfl⟩⟩
theorem zero_neat : Neat (.agg [.int .i64 (.ofNat 4), .bool false, .str [], .str [], .nils, .nils, .int .i64 (.ofNat 0)]) := by simp [Neat, neatR]
set_option maxRecDepth 1000000 in
set_option maxHeartbeats 4000000 in
theorem sets_true {B1 B2 : AV} {xs1 xs2 : List UInt8} (h1 : IsB0 B1 xs1) (h2 : IsB0 B2 xs2) (n0 n1 n2 : Nat) (hn2 : n2 < 256) : ∃ n, b8 (Call prS n) n [B1, B2, .agg [.int .u8 (.ofNat n0), .int .u8 (.ofNat n1), .int .u8 (.ofNat n2)]] (S0 []) = some (.bool true, S0 []) := by
  obtain ⟨a1x, a1, ca1, ha1, na1, _, da1⟩ := call_drawn pS14 h1 true
  obtain ⟨a2x, a2, ca2, ha2, na2, _, da2⟩ := call_drawn pS14 h2 false
  obtain ⟨vx, v, cv, hv, nv, _, dv⟩ := call_drawn pS14 h1 false
  obtain ⟨wx, w, cw, hw, nw, _, dw⟩ := call_drawn pS14 h2 true
  have za1 := (Dr_fine da1).sz
  have za2 := (Dr_fine da2).sz
  have zv := (Dr_fine dv).sz
  have zw := (Dr_fine dw).sz
  obtain ⟨v1, v2, v3, v4, v5, v6, v7, rfl⟩ := cells7 hv
  obtain ⟨w1, w2, w3, w4, w5, w6, w7, rfl⟩ := cells7 hw
  have cwk := call_works pS18 4 (S0 [])
  have ck0 := call_key pS20 n2 4 (S0 [])
  have ck1 := call_key pS20 (n2 / 8) 4 (S0 [])
  have cj := call_key pS20 n0 4 (S0 [])
  have ck := call_key pS20 n1 4 (S0 [])
  have lk0 := key8_len n2
  have lk1 := key8_len (n2 / 8)
  have lj := key8_len n0
  have lk := key8_len n1
  generalize key8 n2 = k0 at ck0 lk0
  generalize key8 (n2 / 8) = k1 at ck1 lk1
  generalize key8 n0 = j at cj lj
  generalize key8 n1 = k at ck lk
  -- d
  have z0 : (Vl.mk 4 false [] [] [] [] 0).size = 1 := by simp [Vl.size, ksum, vsum]
  obtain ⟨p1, p2, p3, p4, p5, p6, p7, cp, hp, np⟩ := dset k0 zero_isV zero_neat zero_dict (by omega) ha1 4 (S0 [])
  have dp := setV_dict zero_dict k0 a1
  have zp := setV_size (b := a1) (k := k0) zero_dict
  have rp := setV_rt (k := k0) zero_dict zero_rt (Dr_rt da1)
  generalize setV (.mk 4 false [] [] [] [] 0) k0 a1 = pp at hp dp zp rp
  obtain ⟨d1, d2, d3, d4, d5, d6, d7, cd, hd, nd⟩ := dset k1 hp np dp (by omega) ha2 4 (S0 [])
  have dd := setV_dict dp k1 a2
  have zd := setV_size (b := a2) (k := k1) dp
  have rd := setV_rt (k := k1) dp rp (Dr_rt da2)
  generalize setV pp k1 a2 = D at hd dd zd rd
  -- e
  obtain ⟨e1, e2, e3, e4, e5, e6, e7, ce, he, ne⟩ := dset j hd nd dd (by omega) hv 4 (S0 [])
  have de := setV_dict dd j v
  have ze := setV_size (b := v) (k := j) dd
  have re := setV_rt (k := j) dd rd (Dr_rt dv)
  obtain ⟨g1, g2, g3, g4, g5, g6, g7, gb, gc, cg, hg, zg, qg⟩ := dget j he de (by omega) 4 (S0 [])
  obtain ⟨o1, o2, o3, o4, o5, o6, o7, ob, oc, co, ho, zo, qo⟩ := dget k he de (by omega) 4 (S0 [])
  obtain ⟨u1, u2, u3, u4, u5, u6, u7, ub, uc, cu, hu, zu, qu⟩ := dget k hd dd (by omega) 4 (S0 [])
  rw [getV_setV dd] at qg
  have hgc : gc = true ∧ gb = v := by
    rcases qg with ⟨q, q'⟩ | ⟨q, _⟩
    · injection q with q; exact ⟨q', q.symm⟩
    · cases q
  obtain ⟨rfl, rfl⟩ := hgc
  have s1 := dsame hg hv rfl (by omega) 4 (S0 [])
  have cr := right_call he re (by omega) 4 (S0 [])
  -- set again
  obtain ⟨f1, f2, f3, f4, f5, f6, f7, cf, hf, nf⟩ := dset j he ne de (by omega) hw 4 (S0 [])
  obtain ⟨i1, i2, i3, i4, i5, i6, i7, ci, hi, ni⟩ := dset j hd nd dd (by omega) hw 4 (S0 [])
  have zf := setV_size (b := w) (k := j) de
  have s2 := dsame hf hi (setV_setV dd j gb w) (by omega) 4 (S0 [])
  obtain ⟨l1, l2, l3, l4, l5, l6, l7, cl, hl, nl⟩ := dset j he ne de (by omega) hv 4 (S0 [])
  have zl := setV_size (b := gb) (k := j) de
  have s3 := dsame hl he (setV_setV dd j gb gb) (by omega) 4 (S0 [])
  refine ⟨5, ?_⟩
  unfold b8
  by_cases hjk : j = k
  · have hb : bEq j k = true := by rw [x_bEq]; exact decide_eq_true hjk
    have hstr : ∀ kk : AV → Rs, hStr (fun x y => !(bEq x y)) (.str j) (.str k) kk = kk (.bool false) := fun kk => by rw [x_hStr]; simp only [hb, Bool.not_true]
    rcases qu with ⟨qu, rfl⟩ | ⟨qu, _, rfl⟩
    · obtain ⟨m1, m2, m3, m4, m5, m6, m7, cm, hm, nm⟩ := dset k hd nd dd (by omega) hu 4 (S0 [])
      have zm := setV_size (b := ub) (k := k) dd
      have s4 := dsame hm hd (setV_getV dd qu) (by rw [setV_getV dd qu]; omega) 4 (S0 [])
      repeat (first
        | with_reducible refine Eq.trans (hstr _) ?_
        | with_reducible refine Eq.trans (x_hlet _ _) ?_
        | with_reducible refine Eq.trans (x_hWant_tt _ _) ?_
        | with_reducible refine Eq.trans (x_hWant_tf _ _) ?_
        | with_reducible refine Eq.trans (x_hWant_ft _ _) ?_
        | with_reducible refine Eq.trans (x_hWant_ff _ _) ?_
        | with_reducible refine Eq.trans (x_hPick_t _ _ _) ?_
        | with_reducible refine Eq.trans (x_hWant_u _ _ _) ?_
        | with_reducible refine Eq.trans (x_hWB _ _) ?_
        | with_reducible refine Eq.trans (x_hWB_u _) ?_
        | with_reducible refine Eq.trans (x_hPick_f _ _ _) ?_
        | with_reducible refine Eq.trans (x_hLocN _ _ _ _) ?_
        | with_reducible refine Eq.trans (x_hCut7 _ _ _ _ _ _ _ _) ?_
        | with_reducible refine Eq.trans (x_hNth0 _ _ _) ?_
        | with_reducible refine Eq.trans (x_hNthS _ _ _ _) ?_
        | with_reducible refine Eq.trans (x_hNot_t _) ?_
        | with_reducible refine Eq.trans (x_hNot_f _) ?_
        | with_reducible refine Eq.trans (x_hIf_f _ _) ?_
        | with_reducible refine Eq.trans (x_hIf_t _ _) ?_
        | with_reducible refine Eq.trans (x_un1 _ _ _) ?_
        | with_reducible refine Eq.trans (x_un0 _) ?_
        | with_reducible refine Eq.trans (x_hCells _ _) ?_
        | with_reducible refine Eq.trans (x_hFrees_loc _ _ _ _) ?_
        | with_reducible refine Eq.trans (x_hStLN7 _ _ _ _ _ _ _ _ _ _ _ _ _ _ _) ?_
        | with_reducible refine Eq.trans (x_hExt _ _ _) ?_
        | with_reducible refine Eq.trans (x_hFillI _ _ _ _ _ _) ?_
        | with_reducible refine Eq.trans (x_hFill0 _ _) ?_
        | with_reducible refine Eq.trans (x_hPut0 _ _ _ _) ?_
        | with_reducible refine Eq.trans (x_hIdx 0 (by omega) _) ?_
        | with_reducible refine Eq.trans (x_hIdx 1 (by omega) _) ?_
        | with_reducible refine Eq.trans (x_hIdx 2 (by omega) _) ?_
        | with_reducible refine Eq.trans (x_hLoc1 _ _ _) ?_
        | with_reducible refine Eq.trans (x_nth0 _ _ _ _) ?_
        | with_reducible refine Eq.trans (x_nth1 _ _ _ _) ?_
        | with_reducible refine Eq.trans (x_nth2 _ _ _ _) ?_
        | with_reducible refine Eq.trans (x_hNotPtrs _ _ _ _ _) ?_
        | with_reducible refine Eq.trans (x_hVal (int_quo8 n2 hn2 _)) ?_
        | with_reducible refine Eq.trans (x_hCall cwk) ?_
        | with_reducible refine Eq.trans (x_hCall ck0) ?_
        | with_reducible refine Eq.trans (x_hCall (ca1 4 (S0 []))) ?_
        | with_reducible refine Eq.trans (x_hCall cp) ?_
        | with_reducible refine Eq.trans (x_hCall ck1) ?_
        | with_reducible refine Eq.trans (x_hCall (ca2 4 (S0 []))) ?_
        | with_reducible refine Eq.trans (x_hCall cd) ?_
        | with_reducible refine Eq.trans (x_hCall (cv 4 (S0 []))) ?_
        | with_reducible refine Eq.trans (x_hCall (cw 4 (S0 []))) ?_
        | with_reducible refine Eq.trans (x_hCall cj) ?_
        | with_reducible refine Eq.trans (x_hCall ck) ?_
        | with_reducible refine Eq.trans (x_hCall ce) ?_
        | with_reducible refine Eq.trans (x_hCall cg) ?_
        | with_reducible refine Eq.trans (x_hCall co) ?_
        | with_reducible refine Eq.trans (x_hCall cu) ?_
        | with_reducible refine Eq.trans (x_hCall s1) ?_
        | with_reducible refine Eq.trans (x_hCall cr) ?_
        | with_reducible refine Eq.trans (x_hCall cf) ?_
        | with_reducible refine Eq.trans (x_hCall ci) ?_
        | with_reducible refine Eq.trans (x_hCall s2) ?_
        | with_reducible refine Eq.trans (x_hCall cl) ?_
        | with_reducible refine Eq.trans (x_hCall s3) ?_
        | with_reducible refine Eq.trans (x_hCall cm) ?_
        | with_reducible refine Eq.trans (x_hCall s4) ?_)
      rfl
    · repeat (first
        | with_reducible refine Eq.trans (hstr _) ?_
        | with_reducible refine Eq.trans (x_hlet _ _) ?_
        | with_reducible refine Eq.trans (x_hWant_tt _ _) ?_
        | with_reducible refine Eq.trans (x_hWant_tf _ _) ?_
        | with_reducible refine Eq.trans (x_hWant_ft _ _) ?_
        | with_reducible refine Eq.trans (x_hWant_ff _ _) ?_
        | with_reducible refine Eq.trans (x_hPick_t _ _ _) ?_
        | with_reducible refine Eq.trans (x_hWant_u _ _ _) ?_
        | with_reducible refine Eq.trans (x_hWB _ _) ?_
        | with_reducible refine Eq.trans (x_hWB_u _) ?_
        | with_reducible refine Eq.trans (x_hPick_f _ _ _) ?_
        | with_reducible refine Eq.trans (x_hLocN _ _ _ _) ?_
        | with_reducible refine Eq.trans (x_hCut7 _ _ _ _ _ _ _ _) ?_
        | with_reducible refine Eq.trans (x_hNth0 _ _ _) ?_
        | with_reducible refine Eq.trans (x_hNthS _ _ _ _) ?_
        | with_reducible refine Eq.trans (x_hNot_t _) ?_
        | with_reducible refine Eq.trans (x_hNot_f _) ?_
        | with_reducible refine Eq.trans (x_hIf_f _ _) ?_
        | with_reducible refine Eq.trans (x_hIf_t _ _) ?_
        | with_reducible refine Eq.trans (x_un1 _ _ _) ?_
        | with_reducible refine Eq.trans (x_un0 _) ?_
        | with_reducible refine Eq.trans (x_hCells _ _) ?_
        | with_reducible refine Eq.trans (x_hFrees_loc _ _ _ _) ?_
        | with_reducible refine Eq.trans (x_hStLN7 _ _ _ _ _ _ _ _ _ _ _ _ _ _ _) ?_
        | with_reducible refine Eq.trans (x_hExt _ _ _) ?_
        | with_reducible refine Eq.trans (x_hFillI _ _ _ _ _ _) ?_
        | with_reducible refine Eq.trans (x_hFill0 _ _) ?_
        | with_reducible refine Eq.trans (x_hPut0 _ _ _ _) ?_
        | with_reducible refine Eq.trans (x_hIdx 0 (by omega) _) ?_
        | with_reducible refine Eq.trans (x_hIdx 1 (by omega) _) ?_
        | with_reducible refine Eq.trans (x_hIdx 2 (by omega) _) ?_
        | with_reducible refine Eq.trans (x_hLoc1 _ _ _) ?_
        | with_reducible refine Eq.trans (x_nth0 _ _ _ _) ?_
        | with_reducible refine Eq.trans (x_nth1 _ _ _ _) ?_
        | with_reducible refine Eq.trans (x_nth2 _ _ _ _) ?_
        | with_reducible refine Eq.trans (x_hNotPtrs _ _ _ _ _) ?_
        | with_reducible refine Eq.trans (x_hVal (int_quo8 n2 hn2 _)) ?_
        | with_reducible refine Eq.trans (x_hCall cwk) ?_
        | with_reducible refine Eq.trans (x_hCall ck0) ?_
        | with_reducible refine Eq.trans (x_hCall (ca1 4 (S0 []))) ?_
        | with_reducible refine Eq.trans (x_hCall cp) ?_
        | with_reducible refine Eq.trans (x_hCall ck1) ?_
        | with_reducible refine Eq.trans (x_hCall (ca2 4 (S0 []))) ?_
        | with_reducible refine Eq.trans (x_hCall cd) ?_
        | with_reducible refine Eq.trans (x_hCall (cv 4 (S0 []))) ?_
        | with_reducible refine Eq.trans (x_hCall (cw 4 (S0 []))) ?_
        | with_reducible refine Eq.trans (x_hCall cj) ?_
        | with_reducible refine Eq.trans (x_hCall ck) ?_
        | with_reducible refine Eq.trans (x_hCall ce) ?_
        | with_reducible refine Eq.trans (x_hCall cg) ?_
        | with_reducible refine Eq.trans (x_hCall co) ?_
        | with_reducible refine Eq.trans (x_hCall cu) ?_
        | with_reducible refine Eq.trans (x_hCall s1) ?_
        | with_reducible refine Eq.trans (x_hCall cr) ?_
        | with_reducible refine Eq.trans (x_hCall cf) ?_
        | with_reducible refine Eq.trans (x_hCall ci) ?_
        | with_reducible refine Eq.trans (x_hCall s2) ?_
        | with_reducible refine Eq.trans (x_hCall cl) ?_
        | with_reducible refine Eq.trans (x_hCall s3) ?_)
      rfl
  · have hb : bEq j k = false := by rw [x_bEq]; exact decide_eq_false hjk
    have hstr : ∀ kk : AV → Rs, hStr (fun x y => !(bEq x y)) (.str j) (.str k) kk = kk (.bool true) := fun kk => by rw [x_hStr]; simp only [hb, Bool.not_false]
    rw [getV_setV_ne dd hjk] at qo
    have hou : oc = uc ∧ ob = ub := by
      rcases qo with ⟨q, rfl⟩ | ⟨q, rfl, rfl⟩ <;> rcases qu with ⟨q', rfl⟩ | ⟨q', rfl, rfl⟩
      · rw [q] at q'; injection q' with q'; exact ⟨rfl, q'⟩
      · rw [q] at q'; cases q'
      · rw [q] at q'; cases q'
      · exact ⟨rfl, rfl⟩
    obtain ⟨rfl, rfl⟩ := hou
    have hneq : aBinC E0.L 4 .neq false (.bool oc) (.bool oc) (S0 []) = some (.val (.bool false), S0 []) := by rw [bool_neq]; simp
    have s5 := dsame ho hu rfl (by omega) 4 (S0 [])
    obtain ⟨q1, q2, q3, q4, q5, q6, q7, cq, hq, nq⟩ := dset k he ne de (by omega) hw 4 (S0 [])
    obtain ⟨r1, r2, r3, r4, r5, r6, r7, crr, hr, nr⟩ := dset k hd nd dd (by omega) hw 4 (S0 [])
    have zq := setV_size (b := w) (k := k) de
    have zr := setV_size (b := w) (k := k) dd
    obtain ⟨t1, t2, t3, t4, t5, t6, t7, ct, ht, nt⟩ := dset j hr nr (setV_dict dd k w) (by omega) hv 4 (S0 [])
    have s6 := dsame hq ht (setV_comm dd hjk gb w) (by omega) 4 (S0 [])
    rcases qu with ⟨qu, rfl⟩ | ⟨qu, _, rfl⟩
    · obtain ⟨m1, m2, m3, m4, m5, m6, m7, cm, hm, nm⟩ := dset k hd nd dd (by omega) hu 4 (S0 [])
      have zm := setV_size (b := ob) (k := k) dd
      have s4 := dsame hm hd (setV_getV dd qu) (by rw [setV_getV dd qu]; omega) 4 (S0 [])
      repeat (first
        | with_reducible refine Eq.trans (hstr _) ?_
        | with_reducible refine Eq.trans (x_hVal hneq) ?_
        | with_reducible refine Eq.trans (x_hlet _ _) ?_
        | with_reducible refine Eq.trans (x_hWant_tt _ _) ?_
        | with_reducible refine Eq.trans (x_hWant_tf _ _) ?_
        | with_reducible refine Eq.trans (x_hWant_ft _ _) ?_
        | with_reducible refine Eq.trans (x_hWant_ff _ _) ?_
        | with_reducible refine Eq.trans (x_hPick_t _ _ _) ?_
        | with_reducible refine Eq.trans (x_hWant_u _ _ _) ?_
        | with_reducible refine Eq.trans (x_hWB _ _) ?_
        | with_reducible refine Eq.trans (x_hWB_u _) ?_
        | with_reducible refine Eq.trans (x_hPick_f _ _ _) ?_
        | with_reducible refine Eq.trans (x_hLocN _ _ _ _) ?_
        | with_reducible refine Eq.trans (x_hCut7 _ _ _ _ _ _ _ _) ?_
        | with_reducible refine Eq.trans (x_hNth0 _ _ _) ?_
        | with_reducible refine Eq.trans (x_hNthS _ _ _ _) ?_
        | with_reducible refine Eq.trans (x_hNot_t _) ?_
        | with_reducible refine Eq.trans (x_hNot_f _) ?_
        | with_reducible refine Eq.trans (x_hIf_f _ _) ?_
        | with_reducible refine Eq.trans (x_hIf_t _ _) ?_
        | with_reducible refine Eq.trans (x_un1 _ _ _) ?_
        | with_reducible refine Eq.trans (x_un0 _) ?_
        | with_reducible refine Eq.trans (x_hCells _ _) ?_
        | with_reducible refine Eq.trans (x_hFrees_loc _ _ _ _) ?_
        | with_reducible refine Eq.trans (x_hStLN7 _ _ _ _ _ _ _ _ _ _ _ _ _ _ _) ?_
        | with_reducible refine Eq.trans (x_hExt _ _ _) ?_
        | with_reducible refine Eq.trans (x_hFillI _ _ _ _ _ _) ?_
        | with_reducible refine Eq.trans (x_hFill0 _ _) ?_
        | with_reducible refine Eq.trans (x_hPut0 _ _ _ _) ?_
        | with_reducible refine Eq.trans (x_hIdx 0 (by omega) _) ?_
        | with_reducible refine Eq.trans (x_hIdx 1 (by omega) _) ?_
        | with_reducible refine Eq.trans (x_hIdx 2 (by omega) _) ?_
        | with_reducible refine Eq.trans (x_hLoc1 _ _ _) ?_
        | with_reducible refine Eq.trans (x_nth0 _ _ _ _) ?_
        | with_reducible refine Eq.trans (x_nth1 _ _ _ _) ?_
        | with_reducible refine Eq.trans (x_nth2 _ _ _ _) ?_
        | with_reducible refine Eq.trans (x_hNotPtrs _ _ _ _ _) ?_
        | with_reducible refine Eq.trans (x_hVal (int_quo8 n2 hn2 _)) ?_
        | with_reducible refine Eq.trans (x_hCall cwk) ?_
        | with_reducible refine Eq.trans (x_hCall ck0) ?_
        | with_reducible refine Eq.trans (x_hCall (ca1 4 (S0 []))) ?_
        | with_reducible refine Eq.trans (x_hCall cp) ?_
        | with_reducible refine Eq.trans (x_hCall ck1) ?_
        | with_reducible refine Eq.trans (x_hCall (ca2 4 (S0 []))) ?_
        | with_reducible refine Eq.trans (x_hCall cd) ?_
        | with_reducible refine Eq.trans (x_hCall (cv 4 (S0 []))) ?_
        | with_reducible refine Eq.trans (x_hCall (cw 4 (S0 []))) ?_
        | with_reducible refine Eq.trans (x_hCall cj) ?_
        | with_reducible refine Eq.trans (x_hCall ck) ?_
        | with_reducible refine Eq.trans (x_hCall ce) ?_
        | with_reducible refine Eq.trans (x_hCall cg) ?_
        | with_reducible refine Eq.trans (x_hCall co) ?_
        | with_reducible refine Eq.trans (x_hCall cu) ?_
        | with_reducible refine Eq.trans (x_hCall s1) ?_
        | with_reducible refine Eq.trans (x_hCall cr) ?_
        | with_reducible refine Eq.trans (x_hCall cf) ?_
        | with_reducible refine Eq.trans (x_hCall ci) ?_
        | with_reducible refine Eq.trans (x_hCall s2) ?_
        | with_reducible refine Eq.trans (x_hCall cl) ?_
        | with_reducible refine Eq.trans (x_hCall s3) ?_
        | with_reducible refine Eq.trans (x_hCall cm) ?_
        | with_reducible refine Eq.trans (x_hCall s4) ?_
        | with_reducible refine Eq.trans (x_hCall s5) ?_
        | with_reducible refine Eq.trans (x_hCall cq) ?_
        | with_reducible refine Eq.trans (x_hCall crr) ?_
        | with_reducible refine Eq.trans (x_hCall ct) ?_
        | with_reducible refine Eq.trans (x_hCall s6) ?_)
      rfl
    · repeat (first
        | with_reducible refine Eq.trans (hstr _) ?_
        | with_reducible refine Eq.trans (x_hVal hneq) ?_
        | with_reducible refine Eq.trans (x_hlet _ _) ?_
        | with_reducible refine Eq.trans (x_hWant_tt _ _) ?_
        | with_reducible refine Eq.trans (x_hWant_tf _ _) ?_
        | with_reducible refine Eq.trans (x_hWant_ft _ _) ?_
        | with_reducible refine Eq.trans (x_hWant_ff _ _) ?_
        | with_reducible refine Eq.trans (x_hPick_t _ _ _) ?_
        | with_reducible refine Eq.trans (x_hWant_u _ _ _) ?_
        | with_reducible refine Eq.trans (x_hWB _ _) ?_
        | with_reducible refine Eq.trans (x_hWB_u _) ?_
        | with_reducible refine Eq.trans (x_hPick_f _ _ _) ?_
        | with_reducible refine Eq.trans (x_hLocN _ _ _ _) ?_
        | with_reducible refine Eq.trans (x_hCut7 _ _ _ _ _ _ _ _) ?_
        | with_reducible refine Eq.trans (x_hNth0 _ _ _) ?_
        | with_reducible refine Eq.trans (x_hNthS _ _ _ _) ?_
        | with_reducible refine Eq.trans (x_hNot_t _) ?_
        | with_reducible refine Eq.trans (x_hNot_f _) ?_
        | with_reducible refine Eq.trans (x_hIf_f _ _) ?_
        | with_reducible refine Eq.trans (x_hIf_t _ _) ?_
        | with_reducible refine Eq.trans (x_un1 _ _ _) ?_
        | with_reducible refine Eq.trans (x_un0 _) ?_
        | with_reducible refine Eq.trans (x_hCells _ _) ?_
        | with_reducible refine Eq.trans (x_hFrees_loc _ _ _ _) ?_
        | with_reducible refine Eq.trans (x_hStLN7 _ _ _ _ _ _ _ _ _ _ _ _ _ _ _) ?_
        | with_reducible refine Eq.trans (x_hExt _ _ _) ?_
        | with_reducible refine Eq.trans (x_hFillI _ _ _ _ _ _) ?_
        | with_reducible refine Eq.trans (x_hFill0 _ _) ?_
        | with_reducible refine Eq.trans (x_hPut0 _ _ _ _) ?_
        | with_reducible refine Eq.trans (x_hIdx 0 (by omega) _) ?_
        | with_reducible refine Eq.trans (x_hIdx 1 (by omega) _) ?_
        | with_reducible refine Eq.trans (x_hIdx 2 (by omega) _) ?_
        | with_reducible refine Eq.trans (x_hLoc1 _ _ _) ?_
        | with_reducible refine Eq.trans (x_nth0 _ _ _ _) ?_
        | with_reducible refine Eq.trans (x_nth1 _ _ _ _) ?_
        | with_reducible refine Eq.trans (x_nth2 _ _ _ _) ?_
        | with_reducible refine Eq.trans (x_hNotPtrs _ _ _ _ _) ?_
        | with_reducible refine Eq.trans (x_hVal (int_quo8 n2 hn2 _)) ?_
        | with_reducible refine Eq.trans (x_hCall cwk) ?_
        | with_reducible refine Eq.trans (x_hCall ck0) ?_
        | with_reducible refine Eq.trans (x_hCall (ca1 4 (S0 []))) ?_
        | with_reducible refine Eq.trans (x_hCall cp) ?_
        | with_reducible refine Eq.trans (x_hCall ck1) ?_
        | with_reducible refine Eq.trans (x_hCall (ca2 4 (S0 []))) ?_
        | with_reducible refine Eq.trans (x_hCall cd) ?_
        | with_reducible refine Eq.trans (x_hCall (cv 4 (S0 []))) ?_
        | with_reducible refine Eq.trans (x_hCall (cw 4 (S0 []))) ?_
        | with_reducible refine Eq.trans (x_hCall cj) ?_
        | with_reducible refine Eq.trans (x_hCall ck) ?_
        | with_reducible refine Eq.trans (x_hCall ce) ?_
        | with_reducible refine Eq.trans (x_hCall cg) ?_
        | with_reducible refine Eq.trans (x_hCall co) ?_
        | with_reducible refine Eq.trans (x_hCall cu) ?_
        | with_reducible refine Eq.trans (x_hCall s1) ?_
        | with_reducible refine Eq.trans (x_hCall cr) ?_
        | with_reducible refine Eq.trans (x_hCall cf) ?_
        | with_reducible refine Eq.trans (x_hCall ci) ?_
        | with_reducible refine Eq.trans (x_hCall s2) ?_
        | with_reducible refine Eq.trans (x_hCall cl) ?_
        | with_reducible refine Eq.trans (x_hCall s3) ?_
        | with_reducible refine Eq.trans (x_hCall s5) ?_
        | with_reducible refine Eq.trans (x_hCall cq) ?_
        | with_reducible refine Eq.trans (x_hCall crr) ?_
        | with_reducible refine Eq.trans (x_hCall ct) ?_
        | with_reducible refine Eq.trans (x_hCall s6) ?_)
      rfl
end Go.Sim
