/- New blocks, stores: what they do to what is known. -/
import Derived.Test.YtnplidplamoejaaGreatDoorSimC
set_option linter.unusedVariables false
set_option linter.unusedSimpArgs false
set_option linter.unnecessarySimpa false
namespace Go.Sim
open Go.WideShapes (add_plain)

section store
theorem Store.get_lt {s : Store} {o : Nat} {x : AObj} (h : s.get o = some x) : o < s.nobj := by
  unfold Store.get at h
  split at h
  · assumption
  · cases h
theorem Store.get_new {s : Store} (x : AObj) : (s.new x).get s.nobj = some x := by simp [Store.get, Store.new]
theorem Store.get_old {s : Store} {o : Nat} (x : AObj) (h : o < s.nobj) : (s.new x).get o = s.get o := by
  unfold Store.get Store.new
  have e : s.nobj + 1 - 1 - o = (s.nobj - 1 - o) + 1 := by omega
  simp only [e]
  rw [if_pos (by omega), if_pos h]
  simp
theorem Store.get_set_same {s : Store} {o : Nat} {x y : AObj} (hl : s.objs.length = s.nobj) (h : s.get o = some y) : (s.set o x).get o = some x := by
  have := Store.get_lt h
  unfold Store.get Store.set
  simp only []
  rw [if_pos this, List.getElem?_set_self (by omega)]
theorem Store.get_set_other {s : Store} {o o' : Nat} {x : AObj} (ho : o < s.nobj) (h : o ≠ o') : (s.set o x).get o' = s.get o' := by
  unfold Store.get Store.set
  simp only []
  split
  · rw [List.getElem?_set_ne (by omega)]
  · rfl
theorem Store.top_lt {s : Store} {t : Nat} {n : Nat × TypeId} (h : s.top t = some n) : t < s.ntop := by
  unfold Store.top at h
  split at h
  · assumption
  · cases h
theorem Store.top_new {s : Store} (n : Nat × TypeId) : (s.newTop n).top s.ntop = some n := by simp [Store.top, Store.newTop]
theorem Store.top_old {s : Store} {t : Nat} (n : Nat × TypeId) (h : t < s.ntop) : (s.newTop n).top t = s.top t := by
  unfold Store.top Store.newTop
  have e : s.ntop + 1 - 1 - t = (s.ntop - 1 - t) + 1 := by omega
  simp only [e]
  rw [if_pos (by omega), if_pos h]
  simp
theorem Store.top_set_same {s : Store} {t : Nat} {n m : Nat × TypeId} (hl : s.tops.length = s.ntop) (h : s.top t = some m) : (s.setTop t n).top t = some n := by
  have := Store.top_lt h
  unfold Store.top Store.setTop
  simp only []
  rw [if_pos this, List.getElem?_set_self (by omega)]
theorem Store.top_set_other {s : Store} {t t' : Nat} {n : Nat × TypeId} (ht : t < s.ntop) (h : t ≠ t') : (s.setTop t n).top t' = s.top t' := by
  unfold Store.top Store.setTop
  simp only []
  split
  · rw [List.getElem?_set_ne (by omega)]
  · rfl
@[simp] theorem Store.get_newTop {s : Store} (n : Nat × TypeId) (o : Nat) : (s.newTop n).get o = s.get o := rfl
@[simp] theorem Store.get_setTop {s : Store} (t : Nat) (n : Nat × TypeId) (o : Nat) : (s.setTop t n).get o = s.get o := rfl
@[simp] theorem Store.top_newObj {s : Store} (x : AObj) (t : Nat) : (s.new x).top t = s.top t := rfl
@[simp] theorem Store.top_setObj {s : Store} (o : Nat) (x : AObj) (t : Nat) : (s.set o x).top t = s.top t := rfl
end store

def Gh.upd (g : Gh) (b : Nat) (x : GB) : Gh := { g with blk := fun i => if i = b then some x else g.blk i }
def Gh.kill (g : Gh) (o : Nat) : Gh := { g with dead := fun i => i = o ∨ g.dead i }
theorem Gh.upd_same (g : Gh) (b : Nat) (x : GB) : (g.upd b x).blk b = some x := by simp [Gh.upd]
theorem Gh.upd_other (g : Gh) {b i : Nat} (x : GB) (h : i ≠ b) : (g.upd b x).blk i = g.blk i := by simp [Gh.upd, h]

theorem ObjOk.of_same {g : Gh} {w w' : World} {b tot : Nat} {x : AObj} (h : ObjOk g w b tot x) (hb : w'.heap[b]? = w.heap[b]?) : ObjOk g w' b tot x := by
  cases x <;> simp only [ObjOk, hb] at h ⊢ <;> exact h
theorem EntsRep.mono {g g' : Gh} (hl : Le g g') {a : List MapEntry} {b : List (AV × AV × Nat)} (h : EntsRep g a b) : EntsRep g' a b := by
  induction h with
  | nil => exact .nil
  | cons e k v es xs hk hv _ ih => exact .cons e k v es xs (hk.mono hl) (hv.mono hl) ih
theorem ObjOk.mono {g g' : Gh} {w : World} {b tot : Nat} {x : AObj} (hl : Le g g') (h : ObjOk g w b tot x) : ObjOk g' w b tot x := by
  cases x with
  | cells xs => obtain ⟨c, e, fr, vs, rest, h1, h2, h3, h4, h5⟩ := h; exact ⟨c, e, fr, vs, rest, h1, h2, h3.mono hl, h4, h5⟩
  | scells xs => obtain ⟨c, e, fr, vs, rest, h1, h2, h3, h4, h5⟩ := h; exact ⟨c, e, fr, vs, rest, h1, h2, h3.mono hl, h4, h5⟩
  | tcells t n xs => obtain ⟨c, fr, vs, rest, h1, h2, h3, h4, h5⟩ := h; exact ⟨c, fr, vs, rest, h1, h2, h3.mono hl, h4, h5⟩
  | map es clock => obtain ⟨ces, h1, h2⟩ := h; exact ⟨ces, h1, h2.mono hl⟩
  | siter s pos => exact h
  | loop => obtain ⟨l, h1, h2, h3, h5, h6⟩ := h; exact ⟨l, h1, h2, h3, h5.mono hl, h6⟩
  | dead => exact h

section inv
variable {g : Gh} {st : Store} {w : World}
theorem Inv.lt (hi : Inv g st w) {b : Nat} (h : g.blk b ≠ none) : b < w.heap.size := by
  cases hb : g.blk b with
  | none => exact absurd hb h
  | some x =>
    cases x with
    | row t s z n cs => obtain ⟨_, c, e, fr, top, k, hh, _⟩ := hi.row _ _ _ _ _ _ hb; exact (Array.getElem?_eq_some_iff.1 hh).1
    | stat cs => obtain ⟨c, e, fr, hh, _⟩ := hi.stat _ _ hb; exact (Array.getElem?_eq_some_iff.1 hh).1
    | obj o n =>
      obtain ⟨x, _, hx⟩ := hi.obj _ _ _ hb
      cases x with
      | cells xs => obtain ⟨c, e, fr, vs, rest, h1, _⟩ := hx; exact (Array.getElem?_eq_some_iff.1 h1).1
      | scells xs => obtain ⟨c, e, fr, vs, rest, h1, _⟩ := hx; exact (Array.getElem?_eq_some_iff.1 h1).1
      | tcells t n xs => obtain ⟨c, fr, vs, rest, h1, _⟩ := hx; exact (Array.getElem?_eq_some_iff.1 h1).1
      | map es clock => obtain ⟨ces, h1, _⟩ := hx; exact (Array.getElem?_eq_some_iff.1 h1).1
      | siter s pos => exact (Array.getElem?_eq_some_iff.1 hx).1
      | loop => obtain ⟨l, h1, _⟩ := hx; exact (Array.getElem?_eq_some_iff.1 h1).1
      | dead => exact hx.elim
theorem Inv.none_of_ge (hi : Inv g st w) {b : Nat} (h : w.heap.size ≤ b) : g.blk b = none := by
  cases hb : g.blk b with
  | none => rfl
  | some x => exact absurd (hi.lt (by rw [hb]; simp)) (by omega)
/-- Memory that is told of is as it was. -/
theorem Inv.same {w' : World} (hi : Inv g st w) (hs : ∀ b, g.blk b ≠ none → w'.heap[b]? = w.heap[b]?) : Inv g st w' where
  wfo := hi.wfo
  wft := hi.wft
  row b t s sz n cs hb := by
    obtain ⟨h0, c, e, fr, top, k, hh, r⟩ := hi.row b t s sz n cs hb
    exact ⟨h0, c, e, fr, top, k, (hs b (by simp [hb])).trans hh, r⟩
  stat b cs hb := by
    obtain ⟨c, e, fr, hh, r⟩ := hi.stat b cs hb
    exact ⟨c, e, fr, (hs b (by simp [hb])).trans hh, r⟩
  obj b o n hb := by
    obtain ⟨x, h1, h2⟩ := hi.obj b o n hb
    exact ⟨x, h1, h2.of_same (hs b (by simp [hb]))⟩
  inj := hi.inj
  dead := hi.dead
theorem heap_alloc_old (w : World) (o : Obj) {b : Nat} (h : b < w.heap.size) : (w.alloc o).heap[b]? = w.heap[b]? := by
  show (w.heap.push o)[b]? = _
  rw [Array.getElem?_push, if_neg (Nat.ne_of_lt h)]
theorem heap_alloc_new (w : World) (o : Obj) : (w.alloc o).heap[w.heap.size]? = some o := by
  show (w.heap.push o)[w.heap.size]? = _
  simp
theorem Inv.alloc (hi : Inv g st w) (o : Obj) : Inv g st (w.alloc o) := hi.same fun b hb => heap_alloc_old w o (hi.lt hb)
theorem Adv.alloc (g : Gh) (w : World) (o : Obj) (hn : ∀ b, w.heap.size ≤ b → g.blk b = none) : Adv g w g (w.alloc o) where
  le := Le.refl g
  size := by show w.heap.size ≤ (w.heap.push o).size; simp
  keep b hb h := ⟨heap_alloc_old w o hb, h⟩
  stat b cs hb := heap_alloc_old w o (by
    rcases Nat.lt_or_ge b w.heap.size with h | h
    · exact h
    · rw [hn b h] at hb; cases hb)
  os := rfl
  tape := rfl
  output := rfl
theorem Le.upd_new (g : Gh) {b : Nat} (x : GB) (h : g.blk b = none) : Le g (g.upd b x) where
  row b' t s z n cs hb := by
    have : b' ≠ b := by rintro rfl; rw [h] at hb; cases hb
    exact ⟨cs, (Gh.upd_other g x this).trans hb, List.prefix_rfl⟩
  stat b' cs hb := by
    have : b' ≠ b := by rintro rfl; rw [h] at hb; cases hb
    exact (Gh.upd_other g x this).trans hb
  obj b' o n hb := by
    have : b' ≠ b := by rintro rfl; rw [h] at hb; cases hb
    exact .inr ⟨n, (Gh.upd_other g x this).trans hb, Nat.le_refl n⟩
  dead o h := h
theorem Adv.alloc_upd (hi : Inv g st w) (o : Obj) (x : GB) : Adv g w (g.upd w.heap.size x) (w.alloc o) where
  le := Le.upd_new g x (hi.none_of_ge (Nat.le_refl _))
  size := by show w.heap.size ≤ (w.heap.push o).size; simp
  keep b hb h := ⟨heap_alloc_old w o hb, (Gh.upd_other g x (Nat.ne_of_lt hb)).trans h⟩
  stat b cs hb := heap_alloc_old w o (hi.lt (by simp [hb]))
  os := rfl
  tape := rfl
  output := rfl
/-- A new block that is for good. -/
theorem Inv.alloc_stat (hi : Inv g st w) (c : Array Value) (e : TypeId) (fr : Nat × Nat) : Inv (g.upd w.heap.size (.stat c.toList)) st (w.alloc (.cells c e fr)) := by
  have hle : Le g (g.upd w.heap.size (.stat c.toList)) := Le.upd_new g _ (hi.none_of_ge (Nat.le_refl _))
  have h1 := hi.alloc (.cells c e fr)
  refine ⟨hi.wfo, hi.wft, fun b t s sz tot cs hb => ?_, fun b cs hb => ?_, fun b o tot hb => ?_, fun b b' o n n' hb hb' => ?_, hi.dead⟩
  · by_cases h : b = w.heap.size
    · subst h; simp [Gh.upd] at hb
    · rw [Gh.upd_other _ _ h] at hb; exact h1.row b t s sz tot cs hb
  · by_cases h : b = w.heap.size
    · subst h; simp [Gh.upd] at hb; subst hb; exact ⟨c, e, fr, heap_alloc_new w _, rfl⟩
    · rw [Gh.upd_other _ _ h] at hb; exact h1.stat b cs hb
  · by_cases h : b = w.heap.size
    · subst h; simp [Gh.upd] at hb
    · rw [Gh.upd_other _ _ h] at hb
      obtain ⟨x, h2, h3⟩ := h1.obj b o tot hb
      exact ⟨x, h2, h3.mono hle⟩
  · by_cases h : b = w.heap.size
    · subst h; simp [Gh.upd] at hb
    · by_cases h' : b' = w.heap.size
      · subst h'; simp [Gh.upd] at hb'
      · rw [Gh.upd_other _ _ h] at hb; rw [Gh.upd_other _ _ h'] at hb'
        exact hi.inj b b' o n n' hb hb'
/-- A new row that may grow. -/
theorem Inv.alloc_row (hi : Inv g st w) (c : Array Value) (e : TypeId) (fr : Nat × Nat) (sz n : Nat) (cs : List Value) (hz : 0 < sz) (hp : cs <+: c.toList) (hl : cs.length = n * sz) (hu : fr.2 ≤ cs.length) :
    Inv (g.upd w.heap.size (.row st.ntop 0 sz c.size cs)) (st.newTop (n, e)) (w.alloc (.cells c e fr)) := by
  have hle : Le g (g.upd w.heap.size (.row st.ntop 0 sz c.size cs)) := Le.upd_new g _ (hi.none_of_ge (Nat.le_refl _))
  have h1 := hi.alloc (.cells c e fr)
  refine ⟨hi.wfo, by simp [Store.newTop, hi.wft], fun b t s sz' tot cs' hb => ?_, fun b cs hb => ?_, fun b o tot hb => ?_, fun b b' o n n' hb hb' => ?_, hi.dead⟩
  · by_cases h : b = w.heap.size
    · subst h
      simp [Gh.upd] at hb
      obtain ⟨rfl, rfl, rfl, rfl, rfl⟩ := hb
      exact ⟨hz, c, e, fr, n, n, heap_alloc_new w _, hp, hl, Store.top_new (n, e), by omega, hu, rfl⟩
    · rw [Gh.upd_other _ _ h] at hb
      obtain ⟨h0, c', e', fr', top, k, h2, h3, h4, h5, h6⟩ := h1.row b t s sz' tot cs' hb
      exact ⟨h0, c', e', fr', top, k, h2, h3, h4, by rw [Store.top_old (n, e) (Store.top_lt h5)]; exact h5, h6⟩
  · by_cases h : b = w.heap.size
    · subst h; simp [Gh.upd] at hb
    · rw [Gh.upd_other _ _ h] at hb; exact h1.stat b cs hb
  · by_cases h : b = w.heap.size
    · subst h; simp [Gh.upd] at hb
    · rw [Gh.upd_other _ _ h] at hb
      obtain ⟨x, h2, h3⟩ := h1.obj b o tot hb
      exact ⟨x, h2, h3.mono hle⟩
  · by_cases h : b = w.heap.size
    · subst h; simp [Gh.upd] at hb
    · by_cases h' : b' = w.heap.size
      · subst h'; simp [Gh.upd] at hb'
      · rw [Gh.upd_other _ _ h] at hb; rw [Gh.upd_other _ _ h'] at hb'
        exact hi.inj b b' o n n' hb hb'
/-- A new object. -/
theorem Inv.alloc_obj (hi : Inv g st w) (o : Obj) (x : AObj) (tot : Nat) (hx : ObjOk (g.upd w.heap.size (.obj st.nobj tot)) (w.alloc o) w.heap.size tot x) :
    Inv (g.upd w.heap.size (.obj st.nobj tot)) (st.new x) (w.alloc o) := by
  have hle : Le g (g.upd w.heap.size (.obj st.nobj tot)) := Le.upd_new g _ (hi.none_of_ge (Nat.le_refl _))
  have h1 := hi.alloc o
  refine ⟨by simp [Store.new, hi.wfo], hi.wft, fun b t s sz' n' cs' hb => ?_, fun b cs hb => ?_, fun b o' n' hb => ?_, fun b b' o' n n' hb hb' => ?_, fun o' hd => ?_⟩
  · by_cases h : b = w.heap.size
    · subst h; simp [Gh.upd] at hb
    · rw [Gh.upd_other _ _ h] at hb
      exact h1.row b t s sz' n' cs' hb
  · by_cases h : b = w.heap.size
    · subst h; simp [Gh.upd] at hb
    · rw [Gh.upd_other _ _ h] at hb; exact h1.stat b cs hb
  · by_cases h : b = w.heap.size
    · subst h; simp [Gh.upd] at hb; obtain ⟨rfl, rfl⟩ := hb; exact ⟨x, Store.get_new x, hx⟩
    · rw [Gh.upd_other _ _ h] at hb
      obtain ⟨y, h2, h3⟩ := h1.obj b o' n' hb
      exact ⟨y, by rw [Store.get_old x (Store.get_lt h2)]; exact h2, h3.mono hle⟩
  · have old : ∀ b n, b ≠ w.heap.size → (g.upd w.heap.size (.obj st.nobj tot)).blk b = some (.obj o' n) → o' < st.nobj := by
      intro b n h hb
      rw [Gh.upd_other _ _ h] at hb
      obtain ⟨y, h2, _⟩ := h1.obj b o' n hb
      exact Store.get_lt h2
    by_cases h : b = w.heap.size
    · by_cases h' : b' = w.heap.size
      · omega
      · have := old b' n' h' hb'
        subst h; simp [Gh.upd] at hb; omega
    · by_cases h' : b' = w.heap.size
      · have := old b n h hb
        subst h'; simp [Gh.upd] at hb'; omega
      · rw [Gh.upd_other _ _ h] at hb; rw [Gh.upd_other _ _ h'] at hb'
        exact hi.inj b b' o' n n' hb hb'
  · have hd' := hi.dead o' hd
    rw [Store.get_old x (Store.get_lt hd')]; exact hd'

/-- One block is another one. -/
structure Upd (w : World) (b : Nat) (x : Obj) (w' : World) : Prop where
  here : w'.heap[b]? = some x
  other : ∀ i, i ≠ b → w'.heap[i]? = w.heap[i]?
  size : w'.heap.size = w.heap.size
  os : w'.os = w.os
  tape : w'.tape = w.tape
  output : w'.output = w.output
/-- An object is written. -/
theorem Inv.write (hi : Inv g st w) {b o tot : Nat} (hb : g.blk b = some (.obj o tot)) {x : Obj} {w' : World} (hu : Upd w b x w') (y : AObj) (hy : ObjOk g w' b tot y) : Inv g (st.set o y) w' ∧ Adv g w g w' := by
  obtain ⟨z, hz, hzo⟩ := hi.obj b o tot hb
  have hne : z ≠ .dead := by rintro rfl; exact hzo
  have hlt := Store.get_lt hz
  refine ⟨⟨by simp [Store.set, hi.wfo], hi.wft, fun b' t s sz n cs hb' => ?_, fun b' cs hb' => ?_, fun b' o' n hb' => ?_, hi.inj, fun o' hd => ?_⟩,
    ⟨Le.refl g, Nat.le_of_eq hu.size.symm, fun b' _ hn => ⟨hu.other b' (by rintro rfl; rw [hb] at hn; cases hn), hn⟩, fun b' cs hb' => hu.other b' (by rintro rfl; rw [hb] at hb'; cases hb'), hu.os, hu.tape, hu.output⟩⟩
  · obtain ⟨h0, c, e, fr, top, k, hh, r⟩ := hi.row b' t s sz n cs hb'
    exact ⟨h0, c, e, fr, top, k, (hu.other b' (by rintro rfl; rw [hb] at hb'; cases hb')).trans hh, r⟩
  · obtain ⟨c, e, fr, hh, r⟩ := hi.stat b' cs hb'
    exact ⟨c, e, fr, (hu.other b' (by rintro rfl; rw [hb] at hb'; cases hb')).trans hh, r⟩
  · by_cases h : b' = b
    · subst h
      rw [hb] at hb'
      injection hb' with hb'; injection hb' with hb' hn; subst hb' hn
      exact ⟨y, Store.get_set_same hi.wfo hz, hy⟩
    · obtain ⟨q, h2, h3⟩ := hi.obj b' o' n hb'
      have : o ≠ o' := by rintro rfl; exact h (hi.inj b' b o n tot hb' hb)
      exact ⟨q, by rw [Store.get_set_other hlt this]; exact h2, h3.of_same (hu.other b' h)⟩
  · have hd' := hi.dead o' hd
    have : o ≠ o' := by rintro rfl; rw [hz] at hd'; injection hd' with hd'; exact hne hd'
    rw [Store.get_set_other hlt this]; exact hd'
/-- A row grows at its end. -/
theorem Inv.grow (hi : Inv g st w) {b t s sz n tot : Nat} {cs new : List Value} (hb : g.blk b = some (.row t s sz tot cs)) {c : Array Value} {e : TypeId} {fr : Nat × Nat} {w' : World} (hu : Upd w b (.cells c e fr) w')
    (hp : cs ++ new <+: c.toList) (hn : new.length = n * sz) (hf : fr.2 ≤ cs.length + new.length) (hct : c.size = tot) (top : Nat) (ht : st.top t = some (top, e)) (hs : s * sz + cs.length = top * sz) :
    Inv (g.upd b (.row t s sz tot (cs ++ new))) (st.setTop t (top + n, e)) w' ∧ Adv g w (g.upd b (.row t s sz tot (cs ++ new))) w' := by
  have hlt := Store.top_lt ht
  have hle : Le g (g.upd b (.row t s sz tot (cs ++ new))) := by
    refine ⟨fun b' t' s' z' n' cs' hb' => ?_, fun b' cs' hb' => ?_, fun b' o n' hb' => ?_, fun _ h => h⟩
    · by_cases h : b' = b
      · subst h
        rw [hb] at hb'
        injection hb' with hb'; injection hb' with a1 a2 a3 a5 a4; subst a1 a2 a3 a4 a5
        exact ⟨cs ++ new, Gh.upd_same _ _ _, List.prefix_append _ _⟩
      · exact ⟨cs', (Gh.upd_other g _ h).trans hb', List.prefix_rfl⟩
    · exact (Gh.upd_other g _ (by rintro rfl; rw [hb] at hb'; cases hb')).trans hb'
    · exact .inr ⟨n', (Gh.upd_other g _ (by rintro rfl; rw [hb] at hb'; cases hb')).trans hb', Nat.le_refl _⟩
  refine ⟨⟨hi.wfo, by simp [Store.setTop, hi.wft], fun b' t' s' sz' n' cs' hb' => ?_, fun b' cs' hb' => ?_, fun b' o n' hb' => ?_, fun b1 b2 o n1 n2 h1 h2 => ?_, hi.dead⟩,
    ⟨hle, Nat.le_of_eq hu.size.symm, fun b' _ hn' => ?_, fun b' cs' hb' => hu.other b' (by rintro rfl; rw [hb] at hb'; cases hb'), hu.os, hu.tape, hu.output⟩⟩
  · obtain ⟨hz, c0, e0, fr0, top0, k, h2, h3, h4, h5, h6, h7, h8⟩ := hi.row b t s sz tot cs hb
    rw [ht] at h5; injection h5 with h5; injection h5 with h5 he5; subst h5 he5
    by_cases h : b' = b
    · subst h
      simp [Gh.upd] at hb'
      obtain ⟨rfl, rfl, rfl, rfl, rfl⟩ := hb'
      refine ⟨hz, c, e, fr, top + n, k + n, hu.here, hp, by rw [List.length_append, h4, hn, Nat.add_mul], Store.top_set_same hi.wft ht, ?_, by rw [List.length_append]; exact hf, hct⟩
      have : (s + k) * sz = top * sz := by rw [Nat.add_mul, ← h4]; exact hs
      have := Nat.eq_of_mul_eq_mul_right hz this
      omega
    · rw [Gh.upd_other _ _ h] at hb'
      obtain ⟨hz', c', e', fr', top', k', g2, g3, g4, g5, g6, g7⟩ := hi.row b' t' s' sz' n' cs' hb'
      by_cases ht' : t = t'
      · subst ht'
        rw [ht] at g5; injection g5 with g5; injection g5 with g5 ge5; subst g5 ge5
        exact ⟨hz', c', _, fr', _, k', (hu.other b' h).trans g2, g3, g4, Store.top_set_same hi.wft ht, by omega, g7⟩
      · exact ⟨hz', c', e', fr', top', k', (hu.other b' h).trans g2, g3, g4, by rw [Store.top_set_other hlt ht']; exact g5, g6, g7⟩
  · have h : b' ≠ b := by rintro rfl; simp [Gh.upd] at hb'
    rw [Gh.upd_other _ _ h] at hb'
    obtain ⟨c', e', fr', hh, r⟩ := hi.stat b' cs' hb'
    exact ⟨c', e', fr', (hu.other b' h).trans hh, r⟩
  · have h : b' ≠ b := by rintro rfl; simp [Gh.upd] at hb'
    rw [Gh.upd_other _ _ h] at hb'
    obtain ⟨x, h2, h3⟩ := hi.obj b' o n' hb'
    exact ⟨x, h2, (h3.of_same (hu.other b' h)).mono hle⟩
  · have h : b1 ≠ b := by rintro rfl; simp [Gh.upd] at h1
    have h' : b2 ≠ b := by rintro rfl; simp [Gh.upd] at h2
    rw [Gh.upd_other _ _ h] at h1; rw [Gh.upd_other _ _ h'] at h2
    exact hi.inj b1 b2 o n1 n2 h1 h2
  · have h : b' ≠ b := by rintro rfl; rw [hb] at hn'; cases hn'
    exact ⟨hu.other b' h, (Gh.upd_other _ _ h).trans hn'⟩
/-- An object that dies: its block is nobody's. -/
def Gh.drop (g : Gh) (b o : Nat) : Gh := { blk := fun i => if i = b then none else g.blk i, dead := fun i => i = o ∨ g.dead i }
theorem Gh.drop_some {g : Gh} {b o i : Nat} {x : GB} (h : (g.drop b o).blk i = some x) : i ≠ b ∧ g.blk i = some x := by
  unfold Gh.drop at h
  by_cases e : i = b
  · simp [e] at h
  · simp [e] at h; exact ⟨e, h⟩
theorem Gh.drop_other {g : Gh} {b o i : Nat} (h : i ≠ b) : (g.drop b o).blk i = g.blk i := by simp [Gh.drop, h]
theorem Gh.drop_same {g : Gh} {b o : Nat} : (g.drop b o).blk b = none := by simp [Gh.drop]
theorem Le.drop {g : Gh} {b o tot : Nat} (hb : g.blk b = some (.obj o tot)) : Le g (g.drop b o) := by
  refine ⟨fun b' t s z n cs hb' => ⟨cs, ?_, List.prefix_rfl⟩, fun b' cs hb' => ?_, fun b' o' n hb' => ?_, fun _ h => Or.inr h⟩
  · rw [Gh.drop_other]; exact hb'
    rintro rfl; rw [hb] at hb'; cases hb'
  · rw [Gh.drop_other]; exact hb'
    rintro rfl; rw [hb] at hb'; cases hb'
  · by_cases e : b' = b
    · subst e; rw [hb] at hb'; injection hb' with hb'; injection hb' with hb'; exact .inl (.inl hb'.symm)
    · exact .inr ⟨n, by rw [Gh.drop_other e]; exact hb', Nat.le_refl n⟩
theorem Inv.die (hi : Inv g st w) {b o tot : Nat} (hb : g.blk b = some (.obj o tot)) : Inv (g.drop b o) (st.set o .dead) w := by
  obtain ⟨z, hz, hzo⟩ := hi.obj b o tot hb
  have hlt := Store.get_lt hz
  have hle := Le.drop hb
  refine ⟨by simp [Store.set, hi.wfo], hi.wft, fun b' t s sz n cs hb' => hi.row b' t s sz n cs (Gh.drop_some hb').2, fun b' cs hb' => hi.stat b' cs (Gh.drop_some hb').2, fun b' o' n hb' => ?_,
    fun b1 b2 o' n1 n2 h1 h2 => hi.inj b1 b2 o' n1 n2 (Gh.drop_some h1).2 (Gh.drop_some h2).2, fun o' h => ?_⟩
  · obtain ⟨h1, h2⟩ := Gh.drop_some hb'
    obtain ⟨x, h3, h4⟩ := hi.obj b' o' n h2
    have : o ≠ o' := by rintro rfl; exact h1 (hi.inj b' b o n tot h2 hb)
    exact ⟨x, by rw [Store.get_set_other hlt this]; exact h3, h4.mono hle⟩
  · by_cases e : o = o'
    · subst e; exact Store.get_set_same hi.wfo hz
    · rw [Store.get_set_other hlt e]; exact hi.dead o' (h.resolve_left (fun h => e h.symm))
/-- A block of nobody's that is an object's from now on. -/
theorem Inv.adopt (hi : Inv g st w) {b tot : Nat} (hb : g.blk b = none) (x : AObj) (hx : ObjOk (g.upd b (.obj st.nobj tot)) w b tot x) : Inv (g.upd b (.obj st.nobj tot)) (st.new x) w := by
  have hle : Le g (g.upd b (.obj st.nobj tot)) := Le.upd_new g _ hb
  have old : ∀ {b' o' n}, b' ≠ b → (g.upd b (.obj st.nobj tot)).blk b' = some (.obj o' n) → o' < st.nobj := by
    intro b' o' n h hb'
    rw [Gh.upd_other _ _ h] at hb'
    obtain ⟨y, h2, _⟩ := hi.obj b' o' n hb'
    exact Store.get_lt h2
  refine ⟨by simp [Store.new, hi.wfo], hi.wft, fun b' t s sz' n' cs' hb' => ?_, fun b' cs hb' => ?_, fun b' o' n' hb' => ?_, fun b1 b2 o' n n' h1 h2 => ?_, fun o' hd => ?_⟩
  · have h : b' ≠ b := by rintro rfl; simp [Gh.upd] at hb'
    rw [Gh.upd_other _ _ h] at hb'; exact hi.row b' t s sz' n' cs' hb'
  · have h : b' ≠ b := by rintro rfl; simp [Gh.upd] at hb'
    rw [Gh.upd_other _ _ h] at hb'; exact hi.stat b' cs hb'
  · by_cases h : b' = b
    · subst h; simp [Gh.upd] at hb'; obtain ⟨rfl, rfl⟩ := hb'; exact ⟨x, Store.get_new x, hx⟩
    · rw [Gh.upd_other _ _ h] at hb'
      obtain ⟨y, h2, h3⟩ := hi.obj b' o' n' hb'
      exact ⟨y, by rw [Store.get_old x (Store.get_lt h2)]; exact h2, h3.mono hle⟩
  · by_cases h : b1 = b
    · by_cases h' : b2 = b
      · omega
      · have := old h' h2
        subst h; simp [Gh.upd] at h1; omega
    · by_cases h' : b2 = b
      · have := old h h1
        subst h'; simp [Gh.upd] at h2; omega
      · rw [Gh.upd_other _ _ h] at h1; rw [Gh.upd_other _ _ h'] at h2
        exact hi.inj b1 b2 o' n n' h1 h2
  · have hd' := hi.dead o' hd
    rw [Store.get_old x (Store.get_lt hd')]; exact hd'
end inv
end Go.Sim
