/- The reading at this seat's program: what all functions are, how they are read; ValueKnown. -/
import Derived.Test.YtnplidplamoejaaGreatDoorSimIns4
import Derived.Test.YtnplidplamoejaaGreatDoorSimTab
set_option linter.unusedVariables false
set_option linter.unusedSimpArgs false
set_option linter.unnecessarySimpa false
namespace Go.Sim
open Go.Proofs

def pNoEscape : List AV → Store → Option (AV × Store)
  | [x], st => some (x, st)
  | _, _ => none
theorem pNoEscape_ok {E : Env} {f : Nat} {fn : Func} (hf : E.P.funcs[f]? = some fn) (hb : fn.body = none) (hn : fn.name ≠ "runtime.NumGoroutine") (h1 : Extern.findNext fn = none) (h2 : Extern.find fn = some Extern.AbiNoEscape.same) : PrimOk E f pNoEscape := by
  intro args st v st' h g w vals hr hi hgl
  unfold pNoEscape at h
  split at h
  · rename_i x
    simp only [Option.some.injEq, Prod.mk.injEq] at h
    obtain ⟨rfl, rfl⟩ := h
    generalize hl : vals.toList = l at hr
    cases hr with
    | cons a _ _ _ ha hr1 =>
      cases hr1
      have hv : vals = #[a] := by rw [← hl]
      subst hv
      unfold FnApplies
      rw [callFunc_extern hf hb hn h1 h2 _ w (Lib.run_noEscape w a)]
      exact ⟨g, Adv.refl g w, hi, ha⟩
  · cases h
noncomputable def E0 : Env := { P := Tryz.prog, globals := fun _ => none, L := Look.of Tryz.prog, hL := rfl }
noncomputable def An0 : FuncId → FAnn := fun f => (rows (mkTr fTab) f).ann
noncomputable def prTab : Tr (List AV → Store → Option (AV × Store)) :=
  mkTr [(134, pNoEscape), (204, pIndexByte), (133, pCmp), (91, pOverlaps), (93, pOverlaps), (54, pInsert (Look.of Tryz.prog) 9 1 16), (55, pInsert (Look.of Tryz.prog) 28 7 104)]
noncomputable def pr0 : Prims := prTab.get

theorem mix0 : E0.P.follows .mixedOrders = true := by kernel_rfl
theorem sl9 : SlT (Look.of E0.P) 25 9 1 16 (.str []) := by
  refine ⟨by kernel_rfl, by kernel_rfl, by kernel_rfl, by kernel_rfl, by kernel_rfl, rfl, by decide, by kernel_rfl, .inr ⟨by kernel_rfl, rfl⟩⟩
theorem sl28 : SlT (Look.of E0.P) 26 28 7 104 (.agg [.int .i64 0, .bool false, .str [], .str [], .nils, .nils, .int .i64 0]) := by
  refine ⟨by kernel_rfl, by kernel_rfl, by kernel_rfl, by kernel_rfl, by kernel_rfl, rfl, by decide, by kernel_rfl, .inl (by kernel_rfl)⟩
def allF (P : Program) (n : Nat) (p : Nat → Func → Bool) : Bool := (List.range n).all fun f => match P.funcs[f]? with
  | some fn => p f fn
  | none => true
theorem allF_ok {P : Program} {n : Nat} {p : Nat → Func → Bool} (hn : decide (P.funcs.size ≤ n) = true) (h : allF P n p = true) (f : Nat) (fn : Func) (hf : P.funcs[f]? = some fn) : p f fn = true := by
  have hlt : f < n := Nat.lt_of_lt_of_le (Array.getElem?_eq_some_iff.1 hf).1 (of_decide_eq_true hn)
  have := List.all_eq_true.1 h f (List.mem_range.2 hlt)
  rw [hf] at this
  exact this
theorem size0 : decide (Tryz.prog.funcs.size ≤ 240) = true := by kernel_rfl
theorem name0 (f : Nat) (fn : Func) (hf : E0.P.funcs[f]? = some fn) (hb : fn.body ≠ none) : fn.name ≠ "runtime.NumGoroutine" := by
  have := allF_ok (p := fun _ fn => fn.body.isNone || !(fn.name == "runtime.NumGoroutine")) size0 (by kernel_rfl) f fn hf
  cases hbb : fn.body with
  | none => exact absurd hbb hb
  | some c =>
    simp only [hbb, Option.isNone_some, Bool.false_or, Bool.not_eq_true', beq_eq_false_iff_ne] at this
    exact this
theorem rows0 : fTab.all (fun p => Nat.blt p.1 8000 && p.2.ok) = true := by kernel_rfl
set_option maxRecDepth 1000000 in
theorem code0 : allF Tryz.prog 240 (fun f fn => match fn.body with | some c => codeOk (An0 f) c | none => true) = true := by kernel_rfl
theorem fok0 : FOk E0 An0 := by
  refine ⟨fun f => rows_ok rows0 f, fun f fn c hf hb => ?_⟩
  have := allF_ok (p := fun f fn => match fn.body with | some c => codeOk (An0 f) c | none => true) size0 code0 f fn hf
  rw [hb] at this
  exact this
theorem wf0 (f : FuncId) (t b : Nat) (h : ((An0 f).ann).base t = some b) : ((An0 f).ann).base b = some b := (fok0.ann f).wf t b h
theorem glob0 (g : Gh) : GlobOk E0 g := fun k v h => by cases h
set_option maxRecDepth 1000000 in
set_option maxHeartbeats 4000000 in
theorem prims0 (f : FuncId) (p : List AV → Store → Option (AV × Store)) (h : pr0 f = some p) : PrimOk E0 f p := by
  have h91 : PrimOk E0 91 pOverlaps := pOverlaps_ok (fn := Tryz.f91) (T := 25) (e := 9) (sz := 1) (by kernel_rfl) rfl (by decide) (by kernel_rfl) (by kernel_rfl) (by kernel_rfl) (by kernel_rfl)
  have h93 : PrimOk E0 93 pOverlaps := pOverlaps_ok (fn := Tryz.f93) (T := 26) (e := 28) (sz := 7) (by kernel_rfl) rfl (by decide) (by kernel_rfl) (by kernel_rfl) (by kernel_rfl) (by kernel_rfl)
  have hm := mkTr_get (l := [(134, pNoEscape), (204, pIndexByte), (133, pCmp), (91, pOverlaps), (93, pOverlaps), (54, pInsert (Look.of Tryz.prog) 9 1 16), (55, pInsert (Look.of Tryz.prog) 28 7 104)]) (by
    intro q hq
    simp only [List.mem_cons, List.not_mem_nil, or_false] at hq
    rcases hq with rfl | rfl | rfl | rfl | rfl | rfl | rfl <;> decide) h
  simp only [List.mem_cons, List.not_mem_nil, or_false, Prod.mk.injEq] at hm
  rcases hm with ⟨rfl, rfl⟩ | ⟨rfl, rfl⟩ | ⟨rfl, rfl⟩ | ⟨rfl, rfl⟩ | ⟨rfl, rfl⟩ | ⟨rfl, rfl⟩ | ⟨rfl, rfl⟩
  · exact pNoEscape_ok (fn := Tryz.f134) (by kernel_rfl) rfl (by decide) (by kernel_rfl) (by kernel_rfl)
  · exact pIndexByte_ok (fn := Tryz.f204) (by kernel_rfl) rfl (by decide) (by kernel_rfl) (by kernel_rfl)
  · exact pCmp_ok (fn := Tryz.f133) (by kernel_rfl) rfl (by decide) (by kernel_rfl) (by kernel_rfl)
  · exact h91
  · exact h93
  · exact pInsert54_ok mix0 name0 (by kernel_rfl) h91 sl9
  · exact pInsert55_ok mix0 name0 (by kernel_rfl) h93 sl28
end Go.Sim
