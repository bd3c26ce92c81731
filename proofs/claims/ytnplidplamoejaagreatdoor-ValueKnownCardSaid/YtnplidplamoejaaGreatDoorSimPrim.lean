/- Primitives: what the model's own functions answer. -/
import Derived.Test.YtnplidplamoejaaGreatDoorSimZ
import Derived.Lib.Bytealg
set_option linter.unusedVariables false
set_option linter.unusedSimpArgs false
set_option linter.unnecessarySimpa false
namespace Go.Sim

def pIndexByte : List AV → Store → Option (AV × Store)
  | [.str s, .int .u8 c], st => some (.int .i64 (Lib.indexByte s c.toNat.toUInt8), st)
  | _, _ => none
def pCmp : List AV → Store → Option (AV × Store)
  | [.str a, .str b], st => some (.int .i64 (Lib.compareBytes a b), st)
  | _, _ => none

theorem callFunc_extern {P : Program} {f : Nat} {fn : Func} {e : Array Value → Sem Value} (hf : P.funcs[f]? = some fn) (hb : fn.body = none) (hn : fn.name ≠ "runtime.NumGoroutine") (h1 : Extern.findNext fn = none) (h2 : Extern.find fn = some e) (args : Array Value) (w : World) {v : Value} {w' : World}
    (hr : (e args).run P w = .ok v w') : (callFunc f args).run P w = .ok (.value v) w' := by
  simp [callFunc, hf, hn, hb, h1, h2, hr]
section
variable {E : Env} {f : Nat} {fn : Func}
theorem pIndexByte_ok (hf : E.P.funcs[f]? = some fn) (hb : fn.body = none) (hn : fn.name ≠ "runtime.NumGoroutine") (h1 : Extern.findNext fn = none) (h2 : Extern.find fn = some Extern.BytealgIndexByte.indexByte) : PrimOk E f pIndexByte := by
  intro args st v st' h g w vals hr hi hgl
  match args, h with
  | [.str s, .int .u8 c], h =>
    simp only [pIndexByte, Option.some.injEq, Prod.mk.injEq] at h
    obtain ⟨rfl, rfl⟩ := h
    generalize hl : vals.toList = l at hr
    match l, hr with
    | [a, b], .cons _ _ _ _ ha (.cons _ _ _ _ hb' .nil) =>
      cases ha with
      | str s =>
        cases hb' with
        | int k n =>
          have hv : vals = #[.string s, .int .u8 c] := by rw [← hl]
          subst hv
          unfold FnApplies
          rw [callFunc_extern hf hb hn h1 h2 _ w (Lib.run_indexByteString s c w)]
          exact ⟨g, Adv.refl g w, hi, .int _ _⟩
theorem pCmp_ok (hf : E.P.funcs[f]? = some fn) (hb : fn.body = none) (hn : fn.name ≠ "runtime.NumGoroutine") (h1 : Extern.findNext fn = none) (h2 : Extern.find fn = some Extern.BytealgCompare.compare) : PrimOk E f pCmp := by
  intro args st v st' h g w vals hr hi hgl
  match args, h with
  | [.str s, .str t], h =>
    simp only [pCmp, Option.some.injEq, Prod.mk.injEq] at h
    obtain ⟨rfl, rfl⟩ := h
    generalize hl : vals.toList = l at hr
    match l, hr with
    | [a, b], .cons _ _ _ _ ha (.cons _ _ _ _ hb' .nil) =>
      cases ha with
      | str s =>
        cases hb' with
        | str t =>
          have hv : vals = #[.string s, .string t] := by rw [← hl]
          subst hv
          unfold FnApplies
          rw [callFunc_extern hf hb hn h1 h2 _ w (Lib.run_compareString s t w)]
          exact ⟨g, Adv.refl g w, hi, .int _ _⟩
end
end Go.Sim
