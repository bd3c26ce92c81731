/- What operations answer: one by one. -/
import Derived.Test.YtnplidplamoejaaGreatDoorSimE
set_option linter.unusedVariables false
set_option linter.unusedSimpArgs false
set_option linter.unnecessarySimpa false
namespace Go.Sim
open Go.WideShapes (add_plain)

/-- A box of the frame's own: nobody else knows of it. -/
def Box (g : Gh) (w : World) (b : Nat) (cs : List AV) : Prop := ∃ c e fr, w.heap[b]? = some (.cells c e fr) ∧ Reps g c.toList cs ∧ AllOne c.toList ∧ Unfrozen c fr 0 ∧ g.blk b = none
def InRel (g : Gh) (B : Nat → Nat) (w : World) : In → Value → Prop
  | .val x, v => Rep g v x
  | .loc b off cs, v => v = .pointer (some ⟨B b, off, none⟩) ∧ Box g w (B b) cs
inductive InsRel (g : Gh) (B : Nat → Nat) (w : World) : List In → List Value → Prop
  | nil : InsRel g B w [] []
  | cons (x : In) (v : Value) (xs : List In) (vs : List Value) (h : InRel g B w x v) (hs : InsRel g B w xs vs) : InsRel g B w (x :: xs) (v :: vs)
def OutOk (g : Gh) (B : Nat → Nat) (st' : Store) (w : World) (out : Out) (v : Value) (w' : World) : Prop := match out with
  | .val x => ∃ g', Adv g w g' w' ∧ Inv g' st' w' ∧ Rep g' v x
  | .loc b off => v = .pointer (some ⟨B b, off, none⟩) ∧ w' = w ∧ Inv g st' w
  | .box cs => ∃ c e, v = .pointer (some ⟨w.heap.size, 0, none⟩) ∧ w' = w.alloc (.cells c e) ∧ Reps g c.toList cs ∧ AllOne c.toList ∧ Inv g st' w
  | .lst b cs => ∃ c e fr, Upd w (B b) (.cells c e fr) w' ∧ Reps g c.toList cs ∧ AllOne c.toList ∧ Unfrozen c fr 0 ∧ Inv g st' w
/-- an operation that answers a value -/
def ValOk (g : Gh) (B : Nat → Nat) (P : Program) (st' : Store) (w : World) (out : Out) (s : Sem Value) : Prop := ∃ v w', s.run P w = .ok v w' ∧ OutOk g B st' w out v w'
/-- one that answers none -/
def UnitOk (g : Gh) (B : Nat → Nat) (P : Program) (st' : Store) (w : World) (out : Out) (s : Sem Unit) : Prop := ∃ w', s.run P w = .ok () w' ∧ OutOk g B st' w out undef w'

section
variable {P : Program} {g : Gh} {B : Nat → Nat} {st st' : Store} {w : World} {out : Out}

theorem OutOk.pure {v : Value} {x : AV} (hi : Inv g st w) (h : Rep g v x) : OutOk g B st w (.val x) v w := ⟨g, Adv.refl g w, hi, h⟩
theorem ValOk.pure {v : Value} {x : AV} (hi : Inv g st w) (h : Rep g v x) : ValOk g B P st w (.val x) (Pure.pure v) := ⟨v, w, rfl, OutOk.pure hi h⟩

theorem aMove_ok {md type : Nat} {ins : List In} {v : Value} (h : aMove P md type ins st = some (out, st')) (hin : InsRel g B w ins [v]) (hi : Inv g st w) : OutOk g B st' w out v w := by
  match ins, hin with
  | [.val x], .cons _ _ _ _ hx .nil =>
    simp only [aMove] at h
    split at h
    · split at h
      · rename_i r hr
        obtain ⟨x', st1⟩ := r
        simp only [Option.some.injEq, Prod.mk.injEq] at h
        obtain ⟨rfl, rfl⟩ := h
        obtain ⟨g', a, b, c⟩ := freezeV_ok hr hx hi
        exact ⟨g', a, b, c⟩
      · cases h
    · simp only [Option.some.injEq, Prod.mk.injEq] at h
      obtain ⟨rfl, rfl⟩ := h
      exact OutOk.pure hi hx
  | [.loc b off cs], .cons _ _ _ _ hx .nil =>
    simp only [aMove, Option.some.injEq, Prod.mk.injEq] at h
    obtain ⟨rfl, rfl⟩ := h
    exact ⟨hx.1, rfl, hi⟩

theorem aPick_ok {ins : List In} {vc va vb : Value} (h : aPick ins st = some (out, st')) (hin : InsRel g B w ins [vc, va, vb]) (hi : Inv g st w) :
    ValOk g B P st' w out (do pure (if ← asBool vc then va else vb)) := by
  match ins, hin with
  | [.val c, .val a, .val b], .cons _ _ _ _ hc (.cons _ _ _ _ ha (.cons _ _ _ _ hb .nil)) =>
    cases hc with
    | bool c =>
      simp only [aPick, Option.some.injEq, Prod.mk.injEq] at h
      obtain ⟨rfl, rfl⟩ := h
      cases c
      · exact ⟨vb, w, by simp [asBool], OutOk.pure hi hb⟩
      · exact ⟨va, w, by simp [asBool], OutOk.pure hi ha⟩
    | _ => simp [aPick] at h
  | [.val _, .val _, .loc ..], _ => simp [aPick] at h
  | [.val _, .loc .., _], _ => simp [aPick] at h
  | [.loc .., _, _], _ => simp [aPick] at h

mutual
theorem absC_ok : ∀ (v : Value) (x : AV), absC v = some x → Rep g v x
  | .bool b, x, h => by simp only [absC, Option.some.injEq] at h; subst h; exact .bool b
  | .int k n, x, h => by simp only [absC, Option.some.injEq] at h; subst h; exact .int k n
  | .string s, x, h => by simp only [absC, Option.some.injEq] at h; subst h; exact .str s
  | .pointer none, x, h => by simp only [absC, Option.some.injEq] at h; subst h; exact .nilptr
  | .slice none 0 0, x, h => by simp only [absC, Option.some.injEq] at h; subst h; exact .nils
  | .map none, x, h => by simp only [absC, Option.some.injEq] at h; subst h; exact .nilmap
  | .nilFunc, x, h => by simp only [absC, Option.some.injEq] at h; subst h; exact .nilFunc
  | .nilIface, x, h => by simp only [absC, Option.some.injEq] at h; subst h; exact .nilIface
  | .func (.func f) ⟨[]⟩ ⟨[]⟩, x, h => by simp only [absC, Option.some.injEq] at h; subst h; exact .func _ _ _ _ _ rfl .nil .nil
  | .agg ⟨cs⟩, x, h => by
    simp only [absC] at h
    split at h
    · rename_i xs hx
      split at h
      · rename_i h1
        injection h with h; subst h
        refine .agg _ _ (fun v hv => ?_) (absCs_ok cs xs hx)
        exact List.all_eq_true.1 h1 v hv
      · cases h
    · cases h
  | .tuple ⟨cs⟩, x, h => by
    simp only [absC] at h
    split at h
    · rename_i xs hx
      injection h with h; subst h
      exact .tuple _ _ (absCs_ok cs xs hx)
    · cases h
  | .func (.func f) ⟨_ :: _⟩ _, x, h => by simp [absC] at h
  | .func (.func f) ⟨[]⟩ ⟨_ :: _⟩, x, h => by simp [absC] at h
  | .func (.method _) _ _, x, h => by simp [absC] at h
  | .func (.methodOf _ _) _ _, x, h => by simp [absC] at h
  | .func (.via _ _ _ _) _ _, x, h => by simp [absC] at h
  | .func (.yield _) _ _, x, h => by simp [absC] at h
  | .float _ _, x, h => by simp [absC] at h
  | .complex _ _ _, x, h => by simp [absC] at h
  | .pointer (some _), x, h => by simp [absC] at h
  | .slice (some _) _ _, x, h => by simp [absC] at h
  | .slice none (_ + 1) _, x, h => by simp [absC] at h
  | .slice none 0 (_ + 1), x, h => by simp [absC] at h
  | .map (some _), x, h => by simp [absC] at h
  | .chan _, x, h => by simp [absC] at h
  | .iface _ _, x, h => by simp [absC] at h
theorem absCs_ok : ∀ (vs : List Value) (xs : List AV), absCs vs = some xs → Reps g vs xs
  | [], xs, h => by simp only [absCs, Option.some.injEq] at h; subst h; exact .nil
  | v :: vs, xs, h => by
    simp only [absCs] at h
    split at h
    · rename_i x hx
      split at h
      · rename_i ys hy
        injection h with h; subst h
        exact .cons _ _ _ _ (absC_ok v x hx) (absCs_ok vs ys hy)
      · cases h
    · cases h
end
theorem zeroT_ok {t : Nat} {z : AV} (h : zeroT P t = some z) : ∃ i v, P.info? t = some i ∧ i.zero = some v ∧ (∀ g, Rep g v z) ∧ z.noTuple = true := by
  unfold zeroT at h
  split at h
  · rename_i i hi
    split at h
    · rename_i v hv
      split at h
      · rename_i x hx
        split at h
        · rename_i hn
          injection h with h; subst h
          exact ⟨i, v, hi, hv, fun g => absC_ok v x hx, hn⟩
        · cases h
      · cases h
    · cases h
  · cases h
theorem run_zeroValue {t : Nat} {i : TypeInfo} {v : Value} (hi : P.info? t = some i) (hv : i.zero = some v) (w : World) : (zeroValue t).run P w = .ok v w := by
  simp [zeroValue, typeInfo, hi, hv]
/-- A new variable. -/
theorem newVar_obj {v : Value} {cs : List AV} (hi : Inv g st w) (hr : Reps g v.cells.toList cs) (h1 : AllOne v.cells.toList) (t : TypeId) :
    ∃ g', Adv g w g' (w.alloc (.cells v.cells t)) ∧ Inv g' (st.new (.cells cs)) (w.alloc (.cells v.cells t)) ∧ Rep g' (.pointer (some ⟨w.heap.size, 0, none⟩)) (.ptr st.nobj 0) := by
  refine ⟨_, Adv.alloc_upd hi _ (.obj st.nobj v.cells.size), hi.alloc_obj _ _ _ ?_, .ptr _ _ _ (.inr ⟨_, Gh.upd_same _ _ _, Nat.zero_le _⟩)⟩
  refine ⟨v.cells, t, (0, 0), v.cells.toList, [], heap_alloc_new w _, by simp, hr.mono (Le.upd_new g _ (hi.none_of_ge (Nat.le_refl _))), h1, Nat.le_refl _, rfl⟩
theorem aAlloc_ok {md t : Nat} (h : aAlloc P md t st = some (out, st')) (hi : Inv g st w) : ValOk g B P st' w out (Instr.alloc t true (.tuple #[])) := by
  unfold aAlloc at h
  split at h
  · rename_i z hz
    obtain ⟨i, v, h1, h2, h3, h4⟩ := zeroT_ok hz
    obtain ⟨hr, ho⟩ := (h3 g).cells h4
    have hrun : (Instr.alloc t true (.tuple #[])).run P w = .ok (.pointer (some ⟨w.heap.size, 0, none⟩)) (w.alloc (.cells v.cells t)) := by
      simp [Instr.alloc, run_zeroValue h1 h2, newVar, newRow]
    split at h
    · simp only [Option.some.injEq, Prod.mk.injEq] at h
      obtain ⟨rfl, rfl⟩ := h
      exact ⟨_, _, hrun, v.cells, t, rfl, rfl, hr, ho, hi⟩
    · split at h
      · simp only [Option.some.injEq, Prod.mk.injEq] at h
        obtain ⟨rfl, rfl⟩ := h
        refine ⟨_, _, hrun, _, Adv.alloc_upd hi _ (.obj st.nobj v.cells.size), hi.alloc_obj _ _ _ ?_, .ptr _ _ _ (.inr ⟨_, Gh.upd_same _ _ _, Nat.zero_le _⟩)⟩
        exact ⟨v.cells, (0, 0), v.cells.toList, [], heap_alloc_new w _, by simp, hr.mono (Le.upd_new g _ (hi.none_of_ge (Nat.le_refl _))), ho, Nat.le_refl _, rfl, by have := hr.length; simpa using this.symm⟩
      · simp only [Option.some.injEq, Prod.mk.injEq] at h
        obtain ⟨rfl, rfl⟩ := h
        exact ⟨_, _, hrun, newVar_obj hi hr ho t⟩
  · cases h
theorem aBox_ok {md t : Nat} {ins : List In} {v : Value} (h : aBox md ins st = some (out, st')) (hin : InsRel g B w ins [v]) (hi : Inv g st w) : ValOk g B P st' w out (Instr.box t v) := by
  match ins, hin with
  | [.val x], .cons _ _ _ _ hx .nil =>
    simp only [aBox] at h
    split at h <;> rename_i hn
    · obtain ⟨hr, ho⟩ := Rep.cells hx hn
      have hrun : (Instr.box t v).run P w = .ok (.pointer (some ⟨w.heap.size, 0, none⟩)) (w.alloc (.cells v.cells t)) := by
        simp [Instr.box, newVar, newRow]
      split at h
      · simp only [Option.some.injEq, Prod.mk.injEq] at h
        obtain ⟨rfl, rfl⟩ := h
        exact ⟨_, _, hrun, v.cells, t, rfl, rfl, hr, ho, hi⟩
      · split at h
        · simp only [Option.some.injEq, Prod.mk.injEq] at h
          obtain ⟨rfl, rfl⟩ := h
          refine ⟨_, _, hrun, _, Adv.alloc_upd hi _ _, hi.alloc_stat v.cells t (0, 0), ?_⟩
          exact .rptr _ _ v.cells.toList _ (.inr ⟨_, _, Gh.upd_same _ _ _, rfl, by simp⟩) ho (hr.mono (Le.upd_new g _ (hi.none_of_ge (Nat.le_refl _))))
        · simp only [Option.some.injEq, Prod.mk.injEq] at h
          obtain ⟨rfl, rfl⟩ := h
          exact ⟨_, _, hrun, newVar_obj hi hr ho t⟩
    · cases h
  | [.loc ..], _ => simp [aBox] at h
end
end Go.Sim
