/- From the reading to a contract: what lies there at the call's beginning is for good. -/
import Derived.Test.YtnplidplamoejaaGreatDoorSimY
import Derived.RowKit3
set_option linter.unusedVariables false
set_option linter.unusedSimpArgs false
set_option linter.unnecessarySimpa false
namespace Go.Sim

/-- Everything that lies there is for good. -/
def Gh.start (W : World) : Gh := { blk := fun b => match W.heap[b]? with | some (.cells c _ _) => some (.stat c.toList) | _ => none, dead := fun _ => False }
theorem start_stat {W : World} {b : Nat} {x : GB} (h : (Gh.start W).blk b = some x) : ∃ c e fr, W.heap[b]? = some (.cells c e fr) ∧ x = .stat c.toList := by
  simp only [Gh.start] at h
  split at h
  · rename_i c e fr hb
    injection h with h
    exact ⟨c, e, fr, hb, h.symm⟩
  · cases h
theorem start_inv (W : World) : Inv (Gh.start W) Store.empty W := by
  refine ⟨rfl, rfl, fun b t s sz tot cs h => ?_, fun b cs h => ?_, fun b o tot h => ?_, fun b b' o n n' h _ => ?_, fun _ h => h.elim⟩
  · obtain ⟨_, _, _, _, h⟩ := start_stat h; cases h
  · obtain ⟨c, e, fr, h1, h2⟩ := start_stat h
    injection h2 with h2
    exact ⟨c, e, fr, h1, h2.symm⟩
  · obtain ⟨_, _, _, _, h⟩ := start_stat h; cases h
  · obtain ⟨_, _, _, _, h⟩ := start_stat h; cases h
/-- What lay there lies there. -/
structure Kept (W W' : World) : Prop where
  old : ∀ b, b < W.heap.size → W'.heap[b]? = W.heap[b]?
  size : W.heap.size ≤ W'.heap.size
  os : W'.os = W.os
  output : W'.output = W.output
theorem adv_kept {W W' : World} {g' : Gh} (h : Adv (Gh.start W) W g' W') : Kept W W' where
  old b hb := by
    cases hx : (Gh.start W).blk b with
    | none => exact (h.keep b hb hx).1
    | some x =>
      obtain ⟨c, e, fr, _, rfl⟩ := start_stat hx
      exact h.stat b _ hx
  size := h.size
  os := h.os
  output := h.output
theorem Kept.keptBut {W W' : World} (h : Kept W W') (may : MemPlace → Prop) : W.keptBut W' may := by
  refine ⟨h.os, h.output, fun i hi => ?_⟩
  rw [h.old i hi]
  have : W.heap[i]? = some W.heap[i] := Array.getElem?_eq_getElem hi
  rw [this]
  cases W.heap[i] with
  | cells c t fr => exact ⟨rfl, rfl, rfl, fun _ _ => rfl⟩
  | map es clock => exact .inr ⟨rfl, rfl⟩
  | _ => rfl
theorem Kept.frozen {W W' : World} (h : Kept W W') (a : Addr) (ha : a.block < W.heap.size) : W'.frozen? a = W.frozen? a := by
  simp [World.frozen?, h.old _ ha]
theorem Kept.cell {W W' : World} (h : Kept W W') (a : Addr) (ha : a.block < W.heap.size) : W'.cell? a = W.cell? a := by
  simp [World.cell?, h.old _ ha]

theorem fnApplies_calls {P : Program} {f : FuncId} {fn : Func} {args : Array Value} {w : World} {R : Value → World → Prop} (hf : P.funcs[f]? = some fn) (hb : fn.body ≠ none) (hn : fn.name ≠ "runtime.NumGoroutine") (h : FnApplies P f args w R) :
    Calls P f args w fun e w' => ∃ v, e = .returned v ∧ R v w' := by
  have hrun : (callFunc f args).run P w = .ok (.enter f args) w := by
    simp [callFunc, hf, hn, hb]
  unfold FnApplies at h
  rw [hrun] at h
  refine callsIn_wide.1 (h.mono fun e w' he => ?_)
  cases e with
  | returned v => exact ⟨v, rfl, he⟩
  | panicked ch => exact he.elim
  | outgrown => exact he.elim
/-- **A CONTRACT FROM THE READING.** -/
theorem calls_of_reading {E : Env} (hmix : E.P.follows .mixedOrders = true) {An : FuncId → Ann} (wf : ∀ f t b, (An f).base t = some b → (An f).base b = some b) (hname : ∀ (f : Nat) fn, E.P.funcs[f]? = some fn → fn.body ≠ none → fn.name ≠ "runtime.NumGoroutine")
    {pr : Prims} (hpr : ∀ f p, pr f = some p → PrimOk E f p) {n k : Nat} {fn : Func} (hk : E.P.funcs[k]? = some fn) (hb : fn.body ≠ none) (hp : pr k = none) {W : World} {args : Array Value} {xs : List AV} {v : AV} {st : Store}
    (h : acall E An pr (n + 1) (.func (.func k) [] []) xs Store.empty = some (v, st)) (hargs : Reps (Gh.start W) args.toList xs) (hgl : GlobOk E (Gh.start W)) :
    Calls E.P k args W fun e W' => ∃ u, e = .returned u ∧ Kept W W' ∧ ∃ g, Rep g u v := by
  simp only [acall, hp, List.nil_append, List.append_nil] at h
  have := afun_ok (acall_ok hmix wf hname hpr n) hmix wf hname h hargs (start_inv W) hgl
  refine (fnApplies_calls hk hb (hname k fn hk hb) this).mono fun e W' ⟨u, he, g', ha, _, hr⟩ => ⟨u, he, adv_kept ha, g', hr⟩
end Go.Sim
