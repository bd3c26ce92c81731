/- Frames: what a function's own values and boxes are. -/
import Derived.Test.YtnplidplamoejaaGreatDoorSimR
set_option linter.unusedVariables false
set_option linter.unusedSimpArgs false
set_option linter.unnecessarySimpa false
namespace Go.Sim
open Go.WideShapes (add_plain)

section
variable {E : Env} {A : Ann} {g g0 : Gh} {B : Nat → Nat} {st st' : Store} {w w0 : World} {out : Out}

structure FR (A : Ann) (n0 : Nat) (g : Gh) (B : Nat → Nat) (w : World) (fr : AFr) (a : Act) : Prop where
  lt : fr.tmps.length = a.tmps.size
  lo : fr.offs.length = a.tmps.size
  ll : fr.lbs.length = a.tmps.size
  wf : ∀ t b, A.base t = some b → A.base b = some b
  tmp : ∀ t v, A.base t = none → fr.tmps[t]? = some v → Rep g (a.tmps.getD t undef) v
  off : ∀ t b off ob, A.base t = some b → fr.offs[b]? = some (some ob) → fr.offs[t]? = some (some off) → a.tmps.getD t undef = .pointer (some ⟨B b, off, none⟩)
  box : ∀ b ob cs, A.base b = some b → fr.offs[b]? = some (some ob) → fr.lbs[b]? = some cs → Box g w (B b) cs ∧ n0 ≤ B b
  inj : ∀ b b' o o', A.base b = some b → A.base b' = some b' → fr.offs[b]? = some (some o) → fr.offs[b']? = some (some o') → B b = B b' → b = b'

def GlobOk (E : Env) (g : Gh) : Prop := ∀ k v, E.globals k = some v → Rep g (.pointer (some ⟨k, 0, none⟩)) v
theorem GlobOk.mono {g g' : Gh} (h : GlobOk E g) (hl : Le g g') : GlobOk E g' := fun k v hk => (h k v hk).mono hl

/-- Deferred calls: the marks of loops over functions alone, whose blocks lie there, open and empty. -/
def Marks (n0 : Nat) (g : Gh) (w : World) : List Deferred → Prop
  | [] => True
  | d :: ds => (∃ r, d = { target := .collected r, args := #[] } ∧ n0 ≤ r ∧ g.blk r = none ∧ w.heap[r]? = some (.deferred (some [])) ∧ ∀ d' ∈ ds, d'.target ≠ .collected r) ∧ Marks n0 g w ds
theorem Marks.adv {n0 : Nat} {g' : Gh} {w' : World} (ha : Adv g w g' w') : ∀ {ds : List Deferred}, Marks n0 g w ds → Marks n0 g' w' ds
  | [], _ => trivial
  | d :: ds, ⟨⟨r, h1, h2, h3, h4, h5⟩, h6⟩ => by
    obtain ⟨k1, k2⟩ := ha.keep r (Array.getElem?_eq_some_iff.1 h4).1 h3
    exact ⟨⟨r, h1, h2, k2, k1.trans h4, h5⟩, Marks.adv ha h6⟩
theorem Marks.other {n0 : Nat} {w' : World} {b : Nat} {c : Array Value} {e : TypeId} {fr : Nat × Nat} (hb : w.heap[b]? = some (.cells c e fr)) (ho : ∀ i, i ≠ b → w'.heap[i]? = w.heap[i]?) : ∀ {ds : List Deferred}, Marks n0 g w ds → Marks n0 g w' ds
  | [], _ => trivial
  | d :: ds, ⟨⟨r, h1, h2, h3, h4, h5⟩, h6⟩ => by
    have : r ≠ b := by rintro rfl; rw [hb] at h4; cases h4
    exact ⟨⟨r, h1, h2, h3, (ho r this).trans h4, h5⟩, Marks.other hb ho h6⟩
structure FS (E : Env) (A : Ann) (g0 : Gh) (w0 : World) (g : Gh) (B : Nat → Nat) (st : Store) (w : World) (fr : AFr) (a : Act) : Prop where
  fr : FR A w0.heap.size g B w fr a
  inv : Inv g st w
  adv : Adv g0 w0 g w
  glob : GlobOk E g
  df : Marks w0.heap.size g w a.defers

theorem Box.lt {b : Nat} {cs : List AV} (h : Box g w b cs) : b < w.heap.size := by
  obtain ⟨c, e, fr, h1, _⟩ := h
  exact (Array.getElem?_eq_some_iff.1 h1).1
theorem Box.adv {g' : Gh} {w' : World} {b : Nat} {cs : List AV} (h : Box g w b cs) (ha : Adv g w g' w') : Box g' w' b cs := by
  have hlt := h.lt
  obtain ⟨c, e, fr, h1, h2, h3, h4, h5⟩ := h
  obtain ⟨k1, k2⟩ := ha.keep b hlt h5
  exact ⟨c, e, fr, k1.trans h1, h2.mono ha.le, h3, h4, k2⟩
theorem FR.adv {n0 : Nat} {fr : AFr} {a : Act} {g' : Gh} {w' : World} (h : FR A n0 g B w fr a) (ha : Adv g w g' w') : FR A n0 g' B w' fr a :=
  ⟨h.lt, h.lo, h.ll, h.wf, fun t v hb hv => (h.tmp t v hb hv).mono ha.le, h.off, fun b ob cs h1 h2 h3 => (h.box b ob cs h1 h2 h3).imp (·.adv ha) id, h.inj⟩
theorem FS.adv' {fr : AFr} {a : Act} {g' : Gh} {w' : World} {st' : Store} (h : FS E A g0 w0 g B st w fr a) (ha : Adv g w g' w') (hi : Inv g' st' w') : FS E A g0 w0 g' B st' w' fr a :=
  ⟨h.fr.adv ha, hi, h.adv.trans ha, h.glob.mono ha.le, h.df.adv ha⟩

theorem aeval_ok {n0 : Nat} {fr : AFr} {a : Act} (h : FR A n0 g B w fr a) (hg : GlobOk E g) {x : Operand} {i : In} (he : aeval E.globals A fr x = some i) : InRel g B w i (a.eval x) := by
  cases x with
  | tmp t =>
    simp only [aeval] at he
    split at he
    · rename_i hb
      cases hv : fr.tmps[t]? with
      | none => simp [hv] at he
      | some v =>
        simp only [hv, Option.map_some, Option.some.injEq] at he; subst he
        exact h.tmp t v hb hv
    · rename_i b hb
      split at he
      · rename_i ob off cs h1 h2 h3
        simp only [Option.some.injEq] at he; subst he
        exact ⟨h.off t b off ob hb h1 h2, (h.box b ob cs (h.wf t b hb) h1 h3).1⟩
      · cases he
  | const v =>
    simp only [aeval] at he
    cases hv : absC v with
    | none => simp [hv] at he
    | some y =>
      simp only [hv, Option.map_some, Option.some.injEq] at he; subst he
      exact absC_ok v y hv
  | global k =>
    simp only [aeval] at he
    cases hv : E.globals k with
    | none => simp [hv] at he
    | some y =>
      simp only [hv, Option.map_some, Option.some.injEq] at he; subst he
      exact hg k y hv
  | func f =>
    simp only [aeval, Option.some.injEq] at he; subst he
    exact .func _ _ _ _ _ rfl .nil .nil
theorem aevals_ok {n0 : Nat} {fr : AFr} {a : Act} (h : FR A n0 g B w fr a) (hg : GlobOk E g) : ∀ {xs : List Operand} {ins : List In}, aevals E.globals A fr xs = some ins → InsRel g B w ins (xs.map a.eval)
  | [], ins, he => by
    simp [aevals] at he; subst he; exact .nil
  | x :: xs, ins, he => by
    simp only [aevals] at he
    split at he
    · rename_i v hv
      split at he
      · rename_i vs hvs
        simp only [Option.some.injEq] at he; subst he
        exact .cons _ _ _ _ (aeval_ok h hg hv) (aevals_ok h hg hvs)
      · cases he
    · cases he

theorem getD_set_same {a : Array Value} {d : Nat} {v u : Value} (h : d < a.size) : (a.setIfInBounds d v).getD d u = v := by simp [Array.getD, h]
theorem getD_set_other {a : Array Value} {d t : Nat} {v u : Value} (h : d ≠ t) : (a.setIfInBounds d v).getD t u = a.getD t u := by
  simp only [Array.getD_eq_getD_getElem?]
  rw [Array.getElem?_setIfInBounds_ne h]
theorem list_set_some {α : Type} {l : List α} {d t : Nat} {v x : α} (h : (l.set d v)[t]? = some x) : (t = d ∧ x = v ∧ d < l.length) ∨ (t ≠ d ∧ l[t]? = some x) := by
  rw [List.getElem?_set] at h
  split at h
  · rename_i e
    split at h
    · injection h with h; exact .inl ⟨e.symm, h.symm, by assumption⟩
    · cases h
  · rename_i e
    exact .inr ⟨fun e' => e e'.symm, h⟩
theorem purge_len (A : Ann) (b : Nat) : ∀ (i : Nat) (os : List (Option Nat)), (purge A b i os).length = os.length
  | _, [] => rfl
  | i, _ :: os => by simp [purge, purge_len A b (i + 1) os]
theorem purge_get (A : Ann) (b : Nat) : ∀ (os : List (Option Nat)) (i t : Nat) (off : Nat), (purge A b i os)[t]? = some (some off) → A.base (i + t) ≠ some b ∧ os[t]? = some (some off)
  | [], i, t, off, h => by simp [purge] at h
  | o :: os, i, 0, off, h => by
    simp only [purge, List.getElem?_cons_zero, Option.some.injEq] at h
    split at h
    · cases h
    · rename_i hb; exact ⟨by simpa using hb, by simp [h]⟩
  | o :: os, i, t + 1, off, h => by
    simp only [purge, List.getElem?_cons_succ] at h
    obtain ⟨h1, h2⟩ := purge_get A b os (i + 1) t off h
    exact ⟨by rwa [show i + (t + 1) = i + 1 + t by omega], by simpa using h2⟩
theorem Act.put_size (a : Act) (dst : Option Tmp) (v : Value) : (a.put dst v).tmps.size = a.tmps.size := by
  cases dst <;> simp [Act.put]
theorem Act.put_defs (a : Act) (dst : Option Tmp) (v : Value) : (a.put dst v).defers = a.defers := by
  cases dst <;> simp [Act.put]

theorem FS.setVal {fr : AFr} {a : Act} (h : FS E A g0 w0 g B st w fr a) {d : Nat} {v : Value} {x : AV} (hb : A.base d = none) (hr : Rep g v x) : FS E A g0 w0 g B st w { fr with tmps := fr.tmps.set d x } (a.put (some d) v) := by
  obtain ⟨hf, hi, ha, hgl, hdf⟩ := h
  refine ⟨⟨by simp [Act.put, hf.lt], by simp [Act.put, hf.lo], by simp [Act.put, hf.ll], hf.wf, fun t y ht hy => ?_, fun t b off ob ht h1 h2 => ?_, hf.box, hf.inj⟩, hi, ha, hgl, by rw [Act.put_defs]; exact hdf⟩
  · rcases list_set_some hy with ⟨rfl, rfl, hlt⟩ | ⟨hne, hy⟩
    · simp only [Act.put]
      rw [getD_set_same (by rw [← hf.lt]; exact hlt)]; exact hr
    · simp only [Act.put]
      rw [getD_set_other (fun e => hne e.symm)]; exact hf.tmp t y ht hy
  · have hne : d ≠ t := by rintro rfl; rw [hb] at ht; cases ht
    simp only [Act.put]
    rw [getD_set_other hne]; exact hf.off t b off ob ht h1 h2
theorem FS.setNone {fr fr' : AFr} {a : Act} (h : FS E A g0 w0 g B st w fr a) {dst : Option Tmp} (hp : aputNone A fr dst = some fr') : FS E A g0 w0 g B st w fr' (a.put dst undef) := by
  cases dst with
  | none => simp only [aputNone, Option.some.injEq] at hp; subst hp; exact h
  | some d =>
    simp only [aputNone] at hp
    split at hp
    · rename_i hb
      simp only [Option.some.injEq] at hp; subst hp
      exact h.setVal hb (.tuple _ _ .nil)
    · rename_i b hb
      simp only [Option.some.injEq] at hp; subst hp
      obtain ⟨hf, hi, ha, hgl, hdf⟩ := h
      have get : ∀ {t o}, (fr.offs.set d none)[t]? = some (some o) → t ≠ d ∧ fr.offs[t]? = some (some o) := by
        intro t o ht
        rcases list_set_some ht with ⟨_, h2, _⟩ | h2
        · cases h2
        · exact h2
      refine ⟨⟨by simp [Act.put, hf.lt], by simp [Act.put, hf.lo], by simp [Act.put, hf.ll], hf.wf, fun t y ht hy => ?_, fun t b' off ob ht h1 h2 => ?_, fun b' ob cs h1 h2 h3 => hf.box b' ob cs h1 (get h2).2 h3, fun b1 b2 o o' h1 h2 h3 h4 => hf.inj b1 b2 o o' h1 h2 (get h3).2 (get h4).2⟩, hi, ha, hgl, by rw [Act.put_defs]; exact hdf⟩
      · have hne : d ≠ t := by rintro rfl; rw [hb] at ht; cases ht
        simp only [Act.put]
        rw [getD_set_other hne]; exact hf.tmp t y ht hy
      · simp only [Act.put]
        rw [getD_set_other (fun e => (get h2).1 e.symm)]
        exact hf.off t b' off ob ht (get h1).2 (get h2).2
/-- What an operation answers is laid down. -/
theorem aput_ok {fr fr' : AFr} {a : Act} (h : FS E A g0 w0 g B st w fr a) {op : Op} {dst : Option Tmp} {v : Value} {w' : World} (ho : OutOk g B st' w out v w') (hp : aput A fr op dst out = some fr') (hu : dst = none → True) :
    ∃ g' B', FS E A g0 w0 g' B' st' w' fr' (a.put dst v) := by
  cases out with
  | val x =>
    obtain ⟨g', a1, i1, r1⟩ := ho
    have h' := h.adv' a1 i1
    cases dst with
    | none => simp only [aput, Option.some.injEq] at hp; subst hp; exact ⟨g', B, h'⟩
    | some d =>
      simp only [aput] at hp
      split at hp
      · rename_i hb
        simp only [Option.some.injEq] at hp; subst hp
        exact ⟨g', B, h'.setVal hb r1⟩
      · cases hp
  | loc b off =>
    obtain ⟨rfl, rfl, hi⟩ := ho
    cases dst with
    | none => simp [aput] at hp
    | some d =>
      simp only [aput] at hp
      split at hp
      · rename_i ob hlive
        split at hp
        · rename_i hbd
          obtain ⟨hb, hne⟩ := hbd
          simp only [Option.some.injEq] at hp; subst hp
          obtain ⟨hf, _, ha, hgl, hdf⟩ := h
          have get : ∀ {t o}, (fr.offs.set d (some off))[t]? = some (some o) → t ≠ d → fr.offs[t]? = some (some o) := by
            intro t o ht hne
            rcases list_set_some ht with ⟨h1, _, _⟩ | h2
            · exact absurd h1 hne
            · exact h2.2
          have bd : ∀ b', A.base b' = some b' → b' ≠ d := by rintro b' hb' rfl; rw [hb] at hb'; injection hb' with hb'; exact hne hb'.symm
          refine ⟨g, B, ⟨by simp [Act.put, hf.lt], by simp [Act.put, hf.lo], by simp [Act.put, hf.ll], hf.wf, fun t y ht hy => ?_, fun t b' off' ob' ht h1 h2 => ?_,
            fun b' ob cs h1 h2 h3 => hf.box b' ob cs h1 (get h2 (bd b' h1)) h3, fun b1 b2 o o' h1 h2 h3 h4 => hf.inj b1 b2 o o' h1 h2 (get h3 (bd b1 h1)) (get h4 (bd b2 h2))⟩, hi, ha, hgl, by rw [Act.put_defs]; exact hdf⟩
          · have hne : d ≠ t := by rintro rfl; rw [hb] at ht; cases ht
            simp only [Act.put]
            rw [getD_set_other hne]; exact hf.tmp t y ht hy
          · have hb'd : b' ≠ d := bd b' (hf.wf t b' ht)
            rcases list_set_some h2 with ⟨rfl, e, hlt⟩ | ⟨hne', h2⟩
            · injection e with e; subst e
              rw [hb] at ht; injection ht with ht; subst ht
              simp only [Act.put]
              rw [getD_set_same (by rw [← hf.lo]; exact hlt)]
            · simp only [Act.put]
              rw [getD_set_other (fun e => hne' e.symm)]
              exact hf.off t b' off' ob' ht (get h1 hb'd) h2
        · cases hp
      · cases hp
  | box cs =>
    obtain ⟨c, e, rfl, rfl, hr, h1, hi⟩ := ho
    cases dst with
    | none => simp [aput] at hp
    | some d =>
      simp only [aput] at hp
      split at hp
      · rename_i hb
        simp only [Option.some.injEq] at hp; subst hp
        obtain ⟨hf, _, ha, hgl, hdf⟩ := h
        have adv1 : Adv g w g (w.alloc (.cells c e)) := Adv.alloc g w _ (fun b hb => hi.none_of_ge hb)
        have get : ∀ {t o}, ((purge A d 0 fr.offs).set d (some 0))[t]? = some (some o) → (t = d ∧ o = 0 ∧ d < fr.offs.length) ∨ (t ≠ d ∧ A.base t ≠ some d ∧ fr.offs[t]? = some (some o)) := by
          intro t o ht
          rcases list_set_some ht with ⟨h1, h2, h3⟩ | ⟨h1, h2⟩
          · injection h2 with h2; exact .inl ⟨h1, h2, by simpa [purge_len] using h3⟩
          · obtain ⟨p1, p2⟩ := purge_get A d fr.offs 0 t o h2
            exact .inr ⟨h1, by simpa using p1, p2⟩
        have hsz : ∀ {b ob}, A.base b = some b → fr.offs[b]? = some (some ob) → B b < w.heap.size := by
          intro b ob hb1 hb2
          have hlt : b < fr.lbs.length := by rw [hf.ll, ← hf.lo]; exact (List.getElem?_eq_some_iff.1 hb2).1
          exact (hf.box b ob fr.lbs[b] hb1 hb2 (List.getElem?_eq_getElem hlt)).1.lt
        refine ⟨g, fun i => if i = d then w.heap.size else B i, ⟨by simp [Act.put, hf.lt], by simp [Act.put, purge_len, hf.lo], by simp [Act.put, hf.ll], hf.wf, fun t y ht hy => ?_, fun t b' off' ob' ht k1 k2 => ?_,
          fun b' ob cs' k1 k2 k3 => ?_, fun b1 b2 o o' k1 k2 k3 k4 ke => ?_⟩, hi.alloc _, ha.trans adv1, hgl, by rw [Act.put_defs]; exact hdf.adv adv1⟩
        · have hne : d ≠ t := by rintro rfl; rw [hb] at ht; cases ht
          simp only [Act.put]
          rw [getD_set_other hne]; exact hf.tmp t y ht hy
        · rcases get k2 with ⟨rfl, rfl, hlt⟩ | ⟨hne, hnb, k2⟩
          · rw [hb] at ht; injection ht with ht; subst ht
            simp only [Act.put, if_true]
            rw [getD_set_same (by rw [← hf.lo]; exact hlt)]
          · have hb'd : b' ≠ d := by rintro rfl; exact hnb ht
            rcases get k1 with ⟨e', _, _⟩ | ⟨_, _, k1⟩
            · exact absurd e' hb'd
            · simp only [Act.put, if_neg hb'd]
              rw [getD_set_other (fun e => hne e.symm)]
              exact hf.off t b' off' ob' ht k1 k2
        · rcases get k2 with ⟨rfl, rfl, hlt⟩ | ⟨hne, hnb, k2⟩
          · rcases list_set_some k3 with ⟨_, rfl, _⟩ | ⟨k4, _⟩
            · simp only [if_true]
              exact ⟨⟨c, e, (0, 0), heap_alloc_new w _, hr, h1, fun i _ _ => by simp, hi.none_of_ge (Nat.le_refl _)⟩, ha.size⟩
            · exact absurd rfl k4
          · rcases list_set_some k3 with ⟨k4, _⟩ | ⟨_, k3⟩
            · exact absurd k4 hne
            · simp only [if_neg hne]
              exact (hf.box b' ob cs' k1 k2 k3).imp (·.adv adv1) id
        · rcases get k3 with ⟨e3, _, _⟩ | ⟨n1, _, l3⟩ <;> rcases get k4 with ⟨e4, _, _⟩ | ⟨n2, _, l4⟩
          · rw [e3, e4]
          · simp only [if_pos e3, if_neg n2] at ke
            have := hsz k2 l4; omega
          · simp only [if_pos e4, if_neg n1] at ke
            have := hsz k1 l3; omega
          · simp only [if_neg n1, if_neg n2] at ke
            exact hf.inj b1 b2 o o' k1 k2 l3 l4 ke
      · cases hp
  | lst b cs =>
    obtain ⟨c, e, fz, hup, hr, h1, hu', hi⟩ := ho
    cases dst with
    | some d => simp [aput] at hp
    | none =>
      simp only [aput] at hp
      split at hp
      rotate_left
      · cases hp
      split at hp
      · rename_i ob hlive
        split at hp
        · rename_i hb
          obtain ⟨_, hb⟩ := hb
          simp only [Option.some.injEq] at hp; subst hp
          obtain ⟨hf, _, ha, hgl, hdf⟩ := h
          have hlt : b < fr.lbs.length := by rw [hf.ll, ← hf.lo]; exact (List.getElem?_eq_some_iff.1 hlive).1
          obtain ⟨hbox, hn0⟩ := hf.box b ob fr.lbs[b] hb hlive (List.getElem?_eq_getElem hlt)
          have hnone : g.blk (B b) = none := by obtain ⟨_, _, _, _, _, _, _, q⟩ := hbox; exact q
          refine ⟨g, B, ⟨hf.lt, hf.lo, by simp [hf.ll, Act.put], hf.wf, hf.tmp, hf.off, fun b' ob' cs' k1 k2 k3 => ?_, hf.inj⟩, hi.same fun i hne => hup.other i (by rintro rfl; exact hne hnone), ?_, hgl, by rw [Act.put_defs]; obtain ⟨_, _, _, q0, _⟩ := hbox; exact hdf.other q0 (fun i hne => hup.other i hne)⟩
          · rcases list_set_some k3 with ⟨rfl, rfl, _⟩ | ⟨hne, k3⟩
            · exact ⟨⟨c, e, fz, hup.here, hr, h1, hu', hnone⟩, hn0⟩
            · obtain ⟨⟨c', e', fz', q1, q2, q3, q4, q5⟩, q6⟩ := hf.box b' ob' cs' k1 k2 k3
              have : B b' ≠ B b := fun e => hne (hf.inj b' b ob' ob k1 hb k2 hlive e)
              exact ⟨⟨c', e', fz', (hup.other _ this).trans q1, q2, q3, q4, q5⟩, q6⟩
          · refine ⟨ha.le, Nat.le_trans ha.size (Nat.le_of_eq hup.size.symm), fun b' hb' hn => ?_, fun b' cs' hb' => ?_, hup.os.trans ha.os, hup.tape.trans ha.tape, hup.output.trans ha.output⟩
            · obtain ⟨q1, q2⟩ := ha.keep b' hb' hn
              exact ⟨(hup.other b' (by omega)).trans q1, q2⟩
            · have := ha.le.stat b' cs' hb'
              exact (hup.other b' (by rintro rfl; rw [hnone] at this; cases this)).trans (ha.stat b' cs' hb')
        · cases hp
      · cases hp
theorem aYield_ok {n0 : Nat} {fr : AFr} {a : Act} (h : FR A n0 g B w fr a) {ops : Array Oper} {j : Nat} {r : Option Bool} (he : aYield ops.toList fr A j = some r) : yielded ops a.tmps j = r := by
  unfold aYield at he
  unfold yielded
  rw [← Array.getElem?_toList]
  split at he
  · rename_i hn
    injection he with he; subst he
    simp [hn]
  · rename_i o ho
    split at he
    · rename_i hd
      injection he with he; subst he
      simp [ho, hd]
    · rename_i d hd
      simp only [ho, hd, Option.bind_some]
      split at he
      · cases he
      · rename_i hb
        have key : ∀ x, fr.tmps[d]? = some x → ∃ v, a.tmps[d]? = some v ∧ Rep g v x := by
          intro x hx
          have hlt : d < a.tmps.size := by rw [← h.lt]; exact (List.getElem?_eq_some_iff.1 hx).1
          have := h.tmp d x hb hx
          rw [Array.getD_eq_getD_getElem?] at this
          rw [Array.getElem?_eq_getElem hlt] at this ⊢
          exact ⟨_, rfl, this⟩
        split at he
        · rename_i b hx
          injection he with he; subst he
          obtain ⟨v, h1, h2⟩ := key _ hx
          cases h2
          simp [h1]
        · rename_i vs hx
          injection he with he; subst he
          obtain ⟨v, h1, h2⟩ := key _ hx
          cases h2
          simp [h1]
        · cases he
theorem aWanted_ok {n0 : Nat} {fr : AFr} {a : Act} (h : FR A n0 g B w fr a) {ops : Array Oper} {o : Oper} {r : Bool} (he : aWanted A ops.toList fr o = some r) : Region.wanted o (yielded ops a.tmps) = r := by
  unfold aWanted at he
  unfold Region.wanted
  split at he
  · rename_i hg; injection he with he; subst he; simp [hg]
  · rename_i j want hg
    simp only [hg]
    cases hy : aYield ops.toList fr A j with
    | none => simp [hy] at he
    | some q =>
      simp only [hy, Option.map_some, Option.some.injEq] at he; subst he
      rw [aYield_ok h hy]
end
end Go.Sim
