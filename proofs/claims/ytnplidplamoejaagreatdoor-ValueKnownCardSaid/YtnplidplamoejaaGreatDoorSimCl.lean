/- Closed calls: ValueKnown. -/
import Derived.Test.YtnplidplamoejaaGreatDoorSimMz
set_option linter.unusedVariables false
set_option linter.unusedSimpArgs false
set_option linter.unnecessarySimpa false
namespace Go.Sim
open Go.Proofs

def saysTrue : Option (AV × Store) → Bool
  | some (.bool b, _) => b
  | _ => false
set_option maxRecDepth 1000000 in
/-- A closed call that is read as true answers true. -/
theorem closed_true {pr : Prims} (hpr : ∀ f p, pr f = some p → PrimOk E0 f p) {k n : Nat} {fn : Func} (hk : Tryz.prog.funcs[k]? = some fn) (hb : fn.body.isSome = true) (hp : (pr k).isNone = true) (h : saysTrue (fcall E0 An0 pr (n + 1) (.func (.func k) [] []) [] Store.empty) = true) (W : World) :
    Calls Tryz.prog k #[] W fun e W' => e = .returned (.bool true) ∧ Kept W W' := by
  cases hr : fcall E0 An0 pr (n + 1) (.func (.func k) [] []) [] Store.empty with
  | none => rw [hr] at h; cases h
  | some r =>
    obtain ⟨v, st⟩ := r
    rw [hr] at h
    have ha := fcall_ok fok0 (pr := pr) (n + 1) _ _ _ _ hr
    cases v with
    | bool b =>
      have hbt : b = true := h
      subst hbt
      have := calls_of_reading (E := E0) mix0 (An := fun f => (An0 f).ann) (fun f t b hh => wf0 f t b hh) name0 hpr (n := n) (k := k) (fn := fn) hk (by cases hbb : fn.body with
        | none => rw [hbb] at hb; cases hb
        | some c => simp) (by cases hpp : pr k with
        | none => rfl
        | some p => rw [hpp] at hp; cases hp) (W := W) (args := #[]) (xs := []) ha .nil (glob0 _)
      refine this.mono fun e W' ⟨u, he, hkept, g, hrep⟩ => ?_
      rw [rep_bool hrep] at he
      exact ⟨he, hkept⟩
    | _ => cases h
set_option maxRecDepth 1000000 in
theorem known9 : saysTrue (fcall E0 An0 pr2 5000 (.func (.func 9) [] []) [] Store.empty) = true := by kernel_rfl
set_option maxRecDepth 1000000 in
theorem known_calls (W : World) : Calls Tryz.prog 9 #[] W fun e W' => e = .returned (.bool true) ∧ Kept W W' :=
  closed_true prims2 (n := 4999) (fn := Tryz.f9) Tryz.func9 rfl (by kernel_rfl) known9 W
end Go.Sim
