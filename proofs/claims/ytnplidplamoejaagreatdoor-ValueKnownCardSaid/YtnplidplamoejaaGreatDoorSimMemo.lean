/- A call that was read once need not be read again. -/
import Derived.Test.YtnplidplamoejaaGreatDoorSimKn
set_option linter.unusedVariables false
set_option linter.unusedSimpArgs false
set_option linter.unnecessarySimpa false
namespace Go.Sim
open Go.Proofs

/-- What has to do with no memory. -/
def scalar : AV → Bool
  | .bool _ | .int _ _ | .str _ => true
  | _ => false
def eqS : AV → AV → Bool
  | .bool a, .bool b => a == b
  | .int k a, .int l b => k == l && a == b
  | .str a, .str b => a == b
  | _, _ => false
theorem eqS_ok {a b : AV} (h : eqS a b = true) : a = b := by
  unfold eqS at h
  split at h
  · rw [show _ = _ from eq_of_beq h]
  · simp only [Bool.and_eq_true] at h
    rw [eq_of_beq h.1, eq_of_beq h.2]
  · rw [show _ = _ from eq_of_beq h]
  · cases h
def eqArgs : List AV → List AV → Bool
  | [], [] => true
  | a :: as', b :: bs => eqS a b && eqArgs as' bs
  | _, _ => false
theorem eqArgs_ok : ∀ {a b : List AV}, eqArgs a b = true → a = b
  | [], [], _ => rfl
  | x :: a, y :: b, h => by
    simp only [eqArgs, Bool.and_eq_true] at h
    rw [eqS_ok h.1, eqArgs_ok h.2]
  | [], _ :: _, h => by simp [eqArgs] at h
  | _ :: _, [], h => by simp [eqArgs] at h
mutual
/-- What is data that lies there for good. -/
def plainV : AV → Bool
  | .bool _ | .int _ _ | .str _ | .nilptr | .nils | .nilmap | .nilFunc | .nilIface => true
  | .row _ _ _ xs => plainVs xs
  | .agg xs => plainVs xs
  | .tuple xs => plainVs xs
  | .iface _ v => plainV v
  | _ => false
def plainVs : List AV → Bool
  | [] => true
  | x :: xs => plainV x && plainVs xs
end
mutual
/-- Rows do not grow any more. -/
def stripV : AV → AV
  | .row sz _ cap xs => .row sz none cap (stripVs xs)
  | .agg xs => .agg (stripVs xs)
  | .tuple xs => .tuple (stripVs xs)
  | .iface t v => .iface t (stripV v)
  | v => v
def stripVs : List AV → List AV
  | [] => []
  | x :: xs => stripV x :: stripVs xs
end
theorem strip_len : ∀ xs : List AV, (stripVs xs).length = xs.length
  | [] => rfl
  | _ :: xs => by simp [stripVs, strip_len xs]
theorem strip_cells (x : AV) : (stripV x).cells = stripVs x.cells := by
  cases x <;> simp [stripV, stripVs, AV.cells]
def Gh.zero : Gh := { blk := fun _ => none, dead := fun _ => False }
theorem zero_inv (W : World) : Inv Gh.zero Store.empty W := by
  refine ⟨rfl, rfl, fun b t s sz tot cs h => ?_, fun b cs h => ?_, fun b o tot h => ?_, fun b b' o n n' h _ => ?_, fun _ h => h.elim⟩ <;> cases h
/-- What was made lies there for good. -/
def Gh.with (g : Gh) (n : Nat) (W' : World) : Gh := { blk := fun b => if b < n then g.blk b else (match W'.heap[b]? with | some (.cells c _ _) => some (.stat c.toList) | _ => none), dead := g.dead }
section
variable {g g' : Gh} {st st' : Store} {W W' : World}
theorem imm_with (ha : Adv Gh.zero W g' W') (hi : Inv g' st' W') {b o : Nat} {vs : List Value} (h : Imm g' b o vs) : Imm (g.with W.heap.size W') b o vs := by
  rcases h with h | ⟨x, cs, hb, hx, hp⟩
  · exact .inl h
  · refine .inr ?_
    have hnb : ¬ b < W.heap.size := by
      intro hlt
      have := (ha.keep b hlt rfl).2
      rw [hb] at this; cases this
    cases x with
    | row t s z n c0 =>
      injection hx with hx; subst hx
      obtain ⟨_, c, e, fr, _, _, hh, hpre, _⟩ := hi.row _ _ _ _ _ _ hb
      refine ⟨.stat c.toList, c.toList, ?_, rfl, hp.trans (List.IsPrefix.drop' hpre o)⟩
      simp only [Gh.with, if_neg hnb, hh]
    | stat c0 =>
      injection hx with hx; subst hx
      obtain ⟨c, e, fr, hh, hc⟩ := hi.stat _ _ hb
      subst hc
      refine ⟨.stat c.toList, c.toList, ?_, rfl, hp⟩
      simp only [Gh.with, if_neg hnb, hh]
    | obj _ _ => cases hx
end
theorem plain_cells {x : AV} (h : plainV x = true) : plainVs x.cells = true := by
  cases x <;> first | (simpa [plainV, AV.cells] using h) | (simp [plainV, plainVs, AV.cells] at h ⊢; try exact h)
mutual
theorem rep_with {g g' : Gh} {st' : Store} {W W' : World} (ha : Adv Gh.zero W g' W') (hi : Inv g' st' W') : ∀ {u : Value} {v : AV}, Rep g' u v → plainV v = true → Rep (g.with W.heap.size W') u (stripV v)
  | _, _, .bool b, _ => .bool b
  | _, _, .int k n, _ => .int k n
  | _, _, .str s, _ => .str s
  | _, _, .nilptr, _ => .nilptr
  | _, _, .nils, _ => .nils
  | _, _, .nilmap, _ => .nilmap
  | _, _, .nilFunc, _ => .nilFunc
  | _, _, .nilIface, _ => .nilIface
  | _, _, .row b o n c sz tok cap xs vs hi' he hn hc hz hcap ht, hp =>
    .row b o n c sz none cap (stripVs xs) vs (imm_with ha hi hi') (repE_with ha hi he (by simpa [plainV] using hp)) (by rw [strip_len]; exact hn) hc hz hcap (fun _ _ h => by cases h)
  | _, _, .agg cs xs h1 h, hp => .agg cs (stripVs xs) h1 (reps_with ha hi h (by simpa [plainV] using hp))
  | _, _, .tuple cs xs h, hp => .tuple cs (stripVs xs) (reps_with ha hi h (by simpa [plainV] using hp))
  | _, _, .iface t v x h, hp => .iface t v (stripV x) (rep_with ha hi h (by simpa [plainV] using hp))
theorem reps_with {g g' : Gh} {st' : Store} {W W' : World} (ha : Adv Gh.zero W g' W') (hi : Inv g' st' W') : ∀ {u : List Value} {v : List AV}, Reps g' u v → plainVs v = true → Reps (g.with W.heap.size W') u (stripVs v)
  | _, _, .nil, _ => .nil
  | _, _, .cons v x vs xs h hs, hp => .cons v (stripV x) vs (stripVs xs) (rep_with ha hi h (by simp [plainVs] at hp; exact hp.1)) (reps_with ha hi hs (by simp [plainVs] at hp; exact hp.2))
theorem repE_with {g g' : Gh} {st' : Store} {W W' : World} (ha : Adv Gh.zero W g' W') (hi : Inv g' st' W') : ∀ {sz : Nat} {u : List Value} {v : List AV}, RepE g' sz u v → plainVs v = true → RepE (g.with W.heap.size W') sz u (stripVs v)
  | _, _, _, .nil sz, _ => .nil sz
  | _, _, _, .cons sz c x vs xs hl h1 h hs, hp => .cons sz c (stripV x) vs (stripVs xs) hl h1 (by rw [strip_cells]; exact reps_with ha hi h (plain_cells (by simp [plainVs] at hp; exact hp.1))) (repE_with ha hi hs (by simp [plainVs] at hp; exact hp.2))
end
theorem inv_with {g g' : Gh} {st : Store} {W W' : World} (hi : Inv g st W) (ha : Adv Gh.zero W g' W') : Inv (g.with W.heap.size W') st W' ∧ Adv g W (g.with W.heap.size W') W' := by
  have lt : ∀ {b : Nat} {x : GB}, g.blk b = some x → b < W.heap.size := fun h => hi.lt (by rw [h]; simp)
  have old : ∀ {b : Nat}, b < W.heap.size → (g.with W.heap.size W').blk b = g.blk b := fun h => by simp only [Gh.with, if_pos h]
  have same : ∀ b, b < W.heap.size → W'.heap[b]? = W.heap[b]? := fun b hb => (ha.keep b hb rfl).1
  have new : ∀ {b : Nat} {x : GB}, ¬ b < W.heap.size → (g.with W.heap.size W').blk b = some x → ∃ c e fr, W'.heap[b]? = some (.cells c e fr) ∧ x = .stat c.toList := by
    intro b x hb hx
    simp only [Gh.with, if_neg hb] at hx
    split at hx
    · rename_i c e fr hh; injection hx with hx; exact ⟨c, e, fr, hh, hx.symm⟩
    · cases hx
  have hle : Le g (g.with W.heap.size W') := by
    refine ⟨fun b t s z n cs hb => ⟨cs, (old (lt hb)).trans hb, List.prefix_rfl⟩, fun b cs hb => (old (lt hb)).trans hb, fun b o n hb => .inr ⟨n, (old (lt hb)).trans hb, Nat.le_refl _⟩, fun _ h => h⟩
  refine ⟨⟨hi.wfo, hi.wft, fun b t s sz tot cs hb => ?_, fun b cs hb => ?_, fun b o tot hb => ?_, fun b b' o n n' hb hb' => ?_, hi.dead⟩, ⟨hle, ha.size, fun b hb hn => ⟨same b hb, (old hb).trans hn⟩, fun b cs hb => same b (lt hb), ha.os, ha.tape, ha.output⟩⟩
  · by_cases h : b < W.heap.size
    · rw [old h] at hb
      obtain ⟨q0, c, e, fr, top, k, q1, q2⟩ := hi.row _ _ _ _ _ _ hb
      exact ⟨q0, c, e, fr, top, k, (same b h).trans q1, q2⟩
    · obtain ⟨_, _, _, _, q⟩ := new h hb; cases q
  · by_cases h : b < W.heap.size
    · rw [old h] at hb
      obtain ⟨c, e, fr, q1, q2⟩ := hi.stat _ _ hb
      exact ⟨c, e, fr, (same b h).trans q1, q2⟩
    · obtain ⟨c, e, fr, q1, q⟩ := new h hb
      injection q with q
      exact ⟨c, e, fr, q1, q.symm⟩
  · by_cases h : b < W.heap.size
    · rw [old h] at hb
      obtain ⟨x, q1, q2⟩ := hi.obj _ _ _ hb
      exact ⟨x, q1, (q2.of_same (same b h)).mono hle⟩
    · obtain ⟨_, _, _, _, q⟩ := new h hb; cases q
  · by_cases h : b < W.heap.size
    · by_cases h' : b' < W.heap.size
      · rw [old h] at hb; rw [old h'] at hb'
        exact hi.inj _ _ _ _ _ hb hb'
      · obtain ⟨_, _, _, _, q⟩ := new h' hb'; cases q
    · obtain ⟨_, _, _, _, q⟩ := new h hb; cases q
theorem scalar_rep {g g' : Gh} {v : Value} {x : AV} (hs : scalar x = true) (h : Rep g v x) : Rep g' v x := by
  cases h <;> first | (cases hs; done) | constructor
theorem scalar_reps {g g' : Gh} : ∀ {vs : List Value} {xs : List AV}, Reps g vs xs → xs.all scalar = true → Reps g' vs xs
  | _, _, .nil, _ => .nil
  | _, _, .cons v x vs xs h hr, hs => by
    simp only [List.all_cons, Bool.and_eq_true] at hs
    exact .cons v x vs xs (scalar_rep hs.1 h) (scalar_reps hr hs.2)
/-- What is kept of calls that were read: arguments, and the answer. -/
def memoP (l : List (List AV × AV)) (args : List AV) (st : Store) : Option (AV × Store) := match l.find? (fun e => eqArgs args e.1) with
  | some e => some (e.2, st)
  | none => none
/-- What a call that was read answers, kept. -/
def kept : Option (AV × Store) → Option AV
  | some r => if plainV r.1 = true then some (stripV r.1) else none
  | none => none
def memoOk (l : List (List AV × AV)) : Bool := l.all fun e => e.1.all scalar
set_option maxRecDepth 1000000 in
/-- **KEPT CALLS ARE PRIMITIVES.** -/
theorem memo_ok {pr : Prims} (hpr : ∀ f p, pr f = some p → PrimOk E0 f p) {k n : Nat} {fn : Func} (hk : Tryz.prog.funcs[k]? = some fn) (hb : fn.body.isSome = true) (hp : (pr k).isNone = true) {l : List (List AV × AV)} (hl : memoOk l = true)
    (h : ∀ e ∈ l, kept (fcall E0 An0 pr (n + 1) (.func (.func k) [] []) e.1 Store.empty) = some e.2) : PrimOk E0 k (memoP l) := by
  intro args st v st' hm g w vals hr hi hgl
  unfold memoP at hm
  split at hm
  · rename_i e he
    injection hm with hm
    injection hm with h1 h2
    subst h1 h2
    have hmem := List.mem_of_find?_eq_some he
    have hargs := eqArgs_ok (List.find?_some (p := fun e : List AV × AV => eqArgs args e.1) he)
    subst hargs
    have hle := List.all_eq_true.1 hl e hmem
    have hrun := h e hmem
    cases hr' : fcall E0 An0 pr (n + 1) (.func (.func k) [] []) e.1 Store.empty with
    | none => rw [hr'] at hrun; cases hrun
    | some r =>
      rw [hr'] at hrun
      obtain ⟨v, st1⟩ := r
      unfold kept at hrun
      split at hrun
      rotate_left
      · cases hrun
      rename_i r0 hr0
      injection hr0 with hr0
      subst hr0
      split at hrun
      rotate_left
      · cases hrun
      rename_i hplain
      injection hrun with hrun
      rw [← hrun]
      have ha := fcall_ok fok0 (pr := pr) (n + 1) _ _ _ _ hr'
      have hpk : pr k = none := by
        cases hpp : pr k with
        | none => rfl
        | some p => rw [hpp] at hp; cases hp
      have ha' : afun E0 (fun f => (An0 f).ann) (acall E0 (fun f => (An0 f).ann) pr n) n k e.1 Store.empty = some (v, st1) := by
        have : acall E0 (fun f => (An0 f).ann) pr (n + 1) (.func (.func k) [] []) e.1 Store.empty = (match pr k with
          | some p => (match p ([] ++ e.1 ++ []) Store.empty with
            | some r => some r
            | none => afun E0 (fun f => (An0 f).ann) (acall E0 (fun f => (An0 f).ann) pr n) n k ([] ++ e.1 ++ []) Store.empty)
          | none => afun E0 (fun f => (An0 f).ann) (acall E0 (fun f => (An0 f).ann) pr n) n k ([] ++ e.1 ++ []) Store.empty) := rfl
        rw [this, hpk] at ha
        simpa using ha
      have := afun_ok (E := E0) (acall_ok mix0 (fun f t b hh => wf0 f t b hh) name0 hpr n) mix0 (fun f t b hh => wf0 f t b hh) name0 ha' (scalar_reps (g' := Gh.zero) hr hle) (zero_inv w) (glob0 _)
      refine fnApplies_mono this fun u w' ⟨g', a1, i1, r1⟩ => ?_
      obtain ⟨i2, a2⟩ := inv_with hi a1
      exact ⟨_, a2, i2, rep_with a1 i1 r1 hplain⟩
  · cases hm
end Go.Sim
