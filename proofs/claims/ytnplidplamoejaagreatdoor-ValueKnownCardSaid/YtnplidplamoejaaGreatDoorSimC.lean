/- What memory has to do with the store; what a step may change; small laws. -/
import Derived.Test.YtnplidplamoejaaGreatDoorSimB
import Derived.WideShapes
set_option linter.unusedVariables false
set_option linter.unusedSimpArgs false
set_option linter.unnecessarySimpa false
namespace Go.Sim
open Go.WideShapes (add_plain)

def Unfrozen (c : Array Value) (fr : Nat × Nat) (lo : Nat) : Prop := ∀ i, lo ≤ i → i < c.size → ¬ (fr.1 ≤ i ∧ i < fr.2)

inductive EntsRep (g : Gh) : List MapEntry → List (AV × AV × Nat) → Prop
  | nil : EntsRep g [] []
  | cons (e : MapEntry) (k v : AV) (es : List MapEntry) (xs : List (AV × AV × Nat)) (hk : Rep g e.key k) (hv : Rep g e.val v) (h : EntsRep g es xs) : EntsRep g (e :: es) ((k, v, e.born) :: xs)

def ObjOk (g : Gh) (w : World) (b tot : Nat) : AObj → Prop
  | .cells xs => ∃ c e fr vs rest, w.heap[b]? = some (.cells c e fr) ∧ c.toList = vs ++ rest ∧ Reps g vs xs ∧ AllOne c.toList ∧ fr.2 ≤ fr.1 ∧ c.size = tot
  | .tcells t n xs => ∃ c fr vs rest, w.heap[b]? = some (.cells c t fr) ∧ c.toList = vs ++ rest ∧ Reps g vs xs ∧ AllOne c.toList ∧ fr.2 ≤ fr.1 ∧ c.size = tot ∧ n = tot
  | .scells xs => ∃ c e fr vs rest, w.heap[b]? = some (.cells c e fr) ∧ c.toList = vs ++ rest ∧ Reps g vs xs ∧ AllOne c.toList ∧ Unfrozen c fr 0 ∧ c.size = tot
  | .map es clock => ∃ ces, w.heap[b]? = some (.map ces clock) ∧ EntsRep g ces.toList es
  | .siter s pos => w.heap[b]? = some (.stringIter ⟨s.toArray⟩ pos)
  | .loop state pend f tmps params assign body => ∃ l : Loop, w.heap[b]? = some (.loop l) ∧ l.state = state ∧ l.pending = pend ∧ Reps g l.tmps.toList tmps ∧ l.params = params.toArray ∧ l.assign = assign ∧ l.body = body
  | .dead => False

structure Inv (g : Gh) (st : Store) (w : World) : Prop where
  wfo : st.objs.length = st.nobj
  wft : st.tops.length = st.ntop
  row : ∀ b t s sz tot cs, g.blk b = some (.row t s sz tot cs) → 0 < sz ∧ ∃ c e fr top k, w.heap[b]? = some (.cells c e fr) ∧ cs <+: c.toList ∧ cs.length = k * sz ∧ st.top t = some (top, e) ∧ s + k ≤ top ∧ fr.2 ≤ cs.length ∧ c.size = tot
  stat : ∀ b cs, g.blk b = some (.stat cs) → ∃ c e fr, w.heap[b]? = some (.cells c e fr) ∧ c.toList = cs
  obj : ∀ b o tot, g.blk b = some (.obj o tot) → ∃ x, st.get o = some x ∧ ObjOk g w b tot x
  inj : ∀ b b' o n n', g.blk b = some (.obj o n) → g.blk b' = some (.obj o n') → b = b'
  dead : ∀ o, g.dead o → st.get o = some .dead

/-- What a step may change: nothing that nobody told of. -/
structure Adv (g : Gh) (w : World) (g' : Gh) (w' : World) : Prop where
  le : Le g g'
  size : w.heap.size ≤ w'.heap.size
  keep : ∀ b, b < w.heap.size → g.blk b = none → w'.heap[b]? = w.heap[b]? ∧ g'.blk b = none
  stat : ∀ b cs, g.blk b = some (.stat cs) → w'.heap[b]? = w.heap[b]?
  os : w'.os = w.os
  tape : w'.tape = w.tape
  output : w'.output = w.output

theorem Adv.refl (g : Gh) (w : World) : Adv g w g w := ⟨Le.refl g, Nat.le_refl _, fun _ _ h => ⟨rfl, h⟩, fun _ _ _ => rfl, rfl, rfl, rfl⟩
theorem Adv.trans {g g1 g2 : Gh} {w w1 w2 : World} (h : Adv g w g1 w1) (h' : Adv g1 w1 g2 w2) : Adv g w g2 w2 where
  le := h.le.trans h'.le
  size := Nat.le_trans h.size h'.size
  keep b hb hn := by
    obtain ⟨e1, n1⟩ := h.keep b hb hn
    obtain ⟨e2, n2⟩ := h'.keep b (Nat.lt_of_lt_of_le hb h.size) n1
    exact ⟨e2.trans e1, n2⟩
  stat b cs hb := (h'.stat b cs (h.le.stat b cs hb)).trans (h.stat b cs hb)
  os := h'.os.trans h.os
  tape := h'.tape.trans h.tape
  output := h'.output.trans h.output
theorem Adv.drew (g : Gh) (w : World) (n : Nat) : Adv g w g { w with drawn := n } := ⟨Le.refl g, Nat.le_refl _, fun _ _ h => ⟨rfl, h⟩, fun _ _ _ => rfl, rfl, rfl, rfl⟩

section reps
variable {g : Gh}
theorem Reps.length {vs : List Value} {xs : List AV} (h : Reps g vs xs) : vs.length = xs.length := by
  match h with
  | .nil => rfl
  | .cons v x vs xs _ hs => simp [Reps.length hs]
theorem Reps.get {vs : List Value} {xs : List AV} (h : Reps g vs xs) (i : Nat) (x : AV) (hx : xs[i]? = some x) : ∃ v, vs[i]? = some v ∧ Rep g v x := by
  match h, i with
  | .nil, _ => simp at hx
  | .cons v y vs ys h hs, 0 => simp at hx; subst hx; exact ⟨v, rfl, h⟩
  | .cons v y vs ys h hs, i + 1 => simpa using Reps.get hs i x (by simpa using hx)
theorem Reps.append {vs vs' : List Value} {xs xs' : List AV} (h : Reps g vs xs) (h' : Reps g vs' xs') : Reps g (vs ++ vs') (xs ++ xs') := by
  match h with
  | .nil => exact h'
  | .cons v x vs xs h hs => exact .cons _ _ _ _ h (Reps.append hs h')
theorem Reps.take {vs : List Value} {xs : List AV} (h : Reps g vs xs) (n : Nat) : Reps g (vs.take n) (xs.take n) := by
  match h, n with
  | .nil, _ => simp; exact .nil
  | .cons v x vs xs h hs, 0 => exact .nil
  | .cons v x vs xs h hs, n + 1 => exact .cons _ _ _ _ h (Reps.take hs n)
theorem Reps.drop {vs : List Value} {xs : List AV} (h : Reps g vs xs) (n : Nat) : Reps g (vs.drop n) (xs.drop n) := by
  match h, n with
  | .nil, _ => simp; exact .nil
  | .cons v x vs xs h hs, 0 => exact .cons _ _ _ _ h hs
  | .cons v x vs xs h hs, n + 1 => exact Reps.drop hs n
theorem Reps.set {vs : List Value} {xs : List AV} (h : Reps g vs xs) (n : Nat) {v : Value} {x : AV} (hx : Rep g v x) : Reps g (vs.set n v) (xs.set n x) := by
  match h, n with
  | .nil, _ => simp; exact .nil
  | .cons u y vs xs h hs, 0 => exact .cons _ _ _ _ hx hs
  | .cons u y vs xs h hs, n + 1 => exact .cons _ _ _ _ h (Reps.set hs n hx)
theorem Reps.replicate {v : Value} {x : AV} (h : Rep g v x) : ∀ n, Reps g (List.replicate n v) (List.replicate n x)
  | 0 => .nil
  | n + 1 => .cons _ _ _ _ h (Reps.replicate h n)
theorem AllOne.append {a b : List Value} (h : AllOne a) (h' : AllOne b) : AllOne (a ++ b) := fun v hv => (List.mem_append.1 hv).elim (h v) (h' v)
theorem AllOne.take {a : List Value} (h : AllOne a) (n : Nat) : AllOne (a.take n) := fun v hv => h v (List.mem_of_mem_take hv)
theorem AllOne.drop {a : List Value} (h : AllOne a) (n : Nat) : AllOne (a.drop n) := fun v hv => h v (List.mem_of_mem_drop hv)

theorem Rep.cells {v : Value} {x : AV} (h : Rep g v x) (ht : x.noTuple = true) : Reps g v.cells.toList x.cells ∧ AllOne v.cells.toList := by
  have one : ∀ {v : Value} {x : AV}, Rep g v x → v.oneCell' = true → Reps g [v] [x] ∧ AllOne [v] := fun h h1 => ⟨.cons _ _ _ _ h .nil, fun u hu => by rw [List.mem_singleton.1 hu]; exact h1⟩
  cases h with
  | tuple => simp [AV.noTuple] at ht
  | junk => simp [AV.noTuple] at ht
  | uptr b t tot cs vs xs hb hv he => exact one (.uptr b t tot cs vs xs hb hv he) rfl
  | agg cs xs h1 h => exact ⟨h, h1⟩
  | bool b => exact one (.bool b) rfl
  | int k n => exact one (.int k n) rfl
  | str s => exact one (.str s) rfl
  | nilptr => exact one .nilptr rfl
  | ptr b off o h => exact one (.ptr b off o h) rfl
  | rptr b o vs cs h h1 hr => exact one (.rptr b o vs cs h h1 hr) rfl
  | nils => exact one .nils rfl
  | row b o n c sz tok cap xs vs hi he hn hc hz hcap htk => exact one (.row b o n c sz tok cap xs vs hi he hn hc hz hcap htk) rfl
  | arr b off o len c sz cap h hc hz hcap => exact one (.arr b off o len c sz cap h hc hz hcap) rfl
  | nilmap => exact one .nilmap rfl
  | map b o h => exact one (.map b o h) rfl
  | func fn a b x y hf ha hb => exact one (.func fn a b x y hf ha hb) rfl
  | yield b o h => exact one (.yield b o h) rfl
  | nilFunc => exact one .nilFunc rfl
  | iface t v x h => exact one (.iface t v x h) rfl
  | nilIface => exact one .nilIface rfl

theorem RepE.flat' {sz : Nat} {vs : List Value} {xs : List AV} (h : RepE g sz vs xs) : Reps g vs (flat xs) ∧ AllOne vs ∧ vs.length = xs.length * sz := by
  match h with
  | .nil sz => exact ⟨.nil, fun v hv => by simp at hv, by simp⟩
  | .cons sz c x vs xs hl h1 h hs =>
    obtain ⟨a, b, d⟩ := RepE.flat' hs
    refine ⟨?_, h1.append b, by simp [hl, d, Nat.add_mul, Nat.add_comm]⟩
    simp only [flat, List.flatMap_cons]
    exact h.append a
theorem RepE.get {sz : Nat} {vs : List Value} {xs : List AV} (h : RepE g sz vs xs) (i : Nat) (x : AV) (hx : xs[i]? = some x) :
    Reps g ((vs.drop (i * sz)).take sz) x.cells ∧ ((vs.drop (i * sz)).take sz).length = sz := by
  match h, i with
  | .nil _, _ => simp at hx
  | .cons sz c y vs ys hl h1 h hs, 0 =>
    simp at hx; subst hx
    simp [← hl]; exact h
  | .cons sz c y vs ys hl h1 h hs, i + 1 =>
    have e : (c ++ vs).drop ((i + 1) * sz) = vs.drop (i * sz) := by
      rw [List.drop_append, List.drop_eq_nil_of_le (by rw [hl, Nat.add_mul]; omega)]
      simp [hl, Nat.add_mul]
    rw [e]
    exact RepE.get hs i x (by simpa using hx)
theorem RepE.append {sz : Nat} {vs vs' : List Value} {xs xs' : List AV} (h : RepE g sz vs xs) (h' : RepE g sz vs' xs') : RepE g sz (vs ++ vs') (xs ++ xs') := by
  match h with
  | .nil sz => exact h'
  | .cons sz c x vs xs hl h1 h hs => rw [List.append_assoc]; exact .cons _ _ _ _ _ hl h1 h (RepE.append hs h')
theorem RepE.take {sz : Nat} {vs : List Value} {xs : List AV} (h : RepE g sz vs xs) (n : Nat) : RepE g sz (vs.take (n * sz)) (xs.take n) := by
  match h, n with
  | .nil sz, _ => simp; exact .nil _
  | .cons sz c x vs xs hl h1 h hs, 0 => simp; exact .nil _
  | .cons sz c x vs xs hl h1 h hs, n + 1 =>
    have e : (c ++ vs).take ((n + 1) * sz) = c ++ vs.take (n * sz) := by
      rw [List.take_append, List.take_of_length_le (by rw [hl, Nat.add_mul]; omega)]
      simp [hl, Nat.add_mul]
    rw [e]
    exact .cons _ _ _ _ _ hl h1 h (RepE.take hs n)
theorem RepE.drop {sz : Nat} {vs : List Value} {xs : List AV} (h : RepE g sz vs xs) (n : Nat) : RepE g sz (vs.drop (n * sz)) (xs.drop n) := by
  match h, n with
  | .nil sz, _ => simp; exact .nil _
  | .cons sz c x vs xs hl h1 h hs, 0 => simp; exact .cons _ _ _ _ _ hl h1 h hs
  | .cons sz c x vs xs hl h1 h hs, n + 1 =>
    have e : (c ++ vs).drop ((n + 1) * sz) = vs.drop (n * sz) := by
      rw [List.drop_append, List.drop_eq_nil_of_le (by rw [hl, Nat.add_mul]; omega)]
      simp [hl, Nat.add_mul]
    rw [e]
    exact RepE.drop hs n
end reps

section imm
variable {g : Gh} {st : Store} {w : World}
theorem Imm.nil (g : Gh) (b o : Nat) : Imm g b o [] := .inl rfl
theorem Imm.sub {b o : Nat} {vs : List Value} (h : Imm g b o vs) (j k : Nat) : Imm g b (o + j) ((vs.drop j).take k) := by
  rcases h with rfl | ⟨x, cs, hb, hx, hp⟩
  · exact .inl (by simp)
  · refine .inr ⟨x, cs, hb, hx, ?_⟩
    have := List.IsPrefix.drop' hp j
    rw [List.drop_drop] at this
    exact (List.take_prefix _ _).trans this
theorem Imm.drop {b o : Nat} {vs : List Value} (h : Imm g b o vs) (j : Nat) : Imm g b (o + j) (vs.drop j) := by
  have := h.sub j vs.length
  rwa [List.take_of_length_le (by simp)] at this
theorem Imm.take {b o : Nat} {vs : List Value} (h : Imm g b o vs) (k : Nat) : Imm g b o (vs.take k) := by simpa using h.sub 0 k
theorem getElem?_of_prefix {α : Type} {a b : List α} (h : a <+: b) {j : Nat} {x : α} (hx : a[j]? = some x) : b[j]? = some x := by
  obtain ⟨t, rfl⟩ := h
  rw [List.getElem?_append_left (List.getElem?_eq_some_iff.1 hx).1]
  exact hx
/-- Its cells, in memory. -/
theorem Imm.cell {b o : Nat} {vs : List Value} (h : Imm g b o vs) (hi : Inv g st w) (j : Nat) (v : Value) (hv : vs[j]? = some v) : w.cell? ⟨b, o + j, none⟩ = some v := by
  rcases h with rfl | ⟨x, cs, hb, hx, hp⟩
  · simp at hv
  · have hv' := getElem?_of_prefix hp hv
    rw [List.getElem?_drop] at hv'
    cases x with
    | row t s z n c0 =>
      injection hx with hx; subst hx
      obtain ⟨_, c, e, fr, top, k, hh, hpre, _⟩ := hi.row b t s z n c0 hb
      have := getElem?_of_prefix hpre hv'
      simp [World.cell?, hh]
      simpa using this
    | stat c0 =>
      injection hx with hx; subst hx
      obtain ⟨c, e, fr, hh, hc⟩ := hi.stat b c0 hb
      subst hc
      simp [World.cell?, hh]
      simpa using hv'
    | obj _ _ => cases hx
end imm

section runs
variable {P : Program} {w : World}
theorem sizeT_some {t sz : Nat} (h : sizeT P t = some sz) : ∃ i, P.info? t = some i ∧ i.size = sz := by
  unfold sizeT at h
  split at h
  · injection h with h; exact ⟨_, by assumption, h⟩
  · cases h
theorem run_sizeOf {t sz : Nat} (h : sizeT P t = some sz) (w : World) : (sizeOf t).run P w = .ok sz w := by
  obtain ⟨i, hi, rfl⟩ := sizeT_some h
  simp [sizeOf, typeInfo, hi]
theorem run_isAgg {t : Nat} {b : Bool} (h : aggT P t = some b) (w : World) : (isAgg t).run P w = .ok b w := by
  unfold aggT at h
  simp only [Look.of] at h
  split at h <;> rename_i hu
  · injection h with h; subst h; simp [isAgg, underlying, hu]
  · injection h with h; subst h; simp [isAgg, underlying, hu]
  · injection h with h; subst h
    rename_i d _ h1 h2
    simp only [isAgg, underlying, Sem.run_bind, run_program, Result.andThen_ok, hu]
    cases d <;> first | rfl | (exact absurd rfl (h1 _)) | (exact absurd rfl (h2 _ _)) | skip
    all_goals simp_all
  · cases h
theorem mkT_some {t : Nat} {cs : List AV} {x : AV} (h : mkT P t cs = some x) : (aggT P t = some true ∧ x = .agg cs) ∨ (aggT P t = some false ∧ cs = [x]) := by
  unfold mkT at h
  split at h <;> rename_i ha
  · injection h with h; exact .inl ⟨ha, h.symm⟩
  · split at h
    · injection h with h; subst h; exact .inr ⟨ha, rfl⟩
    · cases h
  · cases h
theorem mkT_cells {t : Nat} {cs : List AV} {x : AV} (h : mkT P t cs = some x) (hn : ∀ y ∈ cs, ∀ ys, y ≠ .agg ys) : x.cells = cs := by
  rcases mkT_some h with ⟨_, rfl⟩ | ⟨_, rfl⟩
  · rfl
  · cases x <;> first | rfl | exact absurd rfl (hn _ (List.mem_singleton.2 rfl) _)
/-- Cells that lie there are read as a value of their type. -/
theorem run_loadVar_of {g : Gh} {t b o sz : Nat} {vs : List Value} {cs : List AV} {x : AV} (hsz : sizeT P t = some sz) (hl : vs.length = sz) (hm : mkT P t cs = some x) (hr : Reps g vs cs) (h1 : AllOne vs)
    (hc : ∀ j v, vs[j]? = some v → w.cell? ⟨b, o + j, none⟩ = some v) : ∃ v, (loadVar t ⟨b, o, none⟩).run P w = .ok v w ∧ Rep g v x := by
  rcases mkT_some hm with ⟨ha, rfl⟩ | ⟨ha, rfl⟩
  · refine ⟨.agg vs.toArray, ?_, .agg _ _ (by simpa using h1) (by simpa using hr)⟩
    have := run_loadCells_list (P := P) w ⟨b, o, none⟩ vs (fun j v hv => by rw [add_plain]; exact hc j v hv)
    rw [hl] at this
    simp [loadVar, run_isAgg ha, run_sizeOf hsz, this]
  · match vs, hr with
    | [v], .cons _ _ _ _ h .nil =>
      refine ⟨v, ?_, h⟩
      have := hc 0 v rfl
      simp only [Nat.add_zero] at this
      simp [loadVar, run_isAgg ha, this]
end runs
end Go.Sim
