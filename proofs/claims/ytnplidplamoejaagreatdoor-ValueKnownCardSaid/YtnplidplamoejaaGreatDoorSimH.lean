/- What operations answer: arithmetic, comparison, parts, places, interfaces, functions. -/
import Derived.LaidEqlPtr
import Derived.Lib.Builder
import Derived.Lib.UnsafeStr
import Derived.Test.YtnplidplamoejaaGreatDoorSimG
import Derived.Laws.Strings
set_option linter.unusedVariables false
set_option linter.unusedSimpArgs false
set_option linter.unnecessarySimpa false
namespace Go.Sim
open Go.WideShapes (add_plain)

section
variable {P : Program} {g : Gh} {B : Nat → Nat} {st st' : Store} {w : World} {out : Out}

/-- nothing but what is given is looked at -/
def RunsTo (P : Program) (g : Gh) (w : World) (s : Sem Value) (x : AV) : Prop := ∃ v, s.run P w = .ok v w ∧ Rep g v x
theorem RunsTo.mk {s : Sem Value} {x : AV} {v : Value} (h : s.run P w = .ok v w) (hr : Rep g v x) : RunsTo P g w s x := ⟨v, h, hr⟩
theorem RunsTo.ok {s : Sem Value} {x : AV} (hi : Inv g st w) (h : RunsTo P g w s x) : ValOk g B P st w (.val x) s := let ⟨v, h1, h2⟩ := h; ⟨v, w, h1, OutOk.pure hi h2⟩

theorem bitsOf_run {op : BinOp} {k : IntKind} {a b n : Int} (h : bitsOf op k a b = some n) (w : World) : (Op.intBits op k a b).run P w = .ok (.int k n) w := by
  cases op <;> simp [bitsOf] at h <;> subst h <;> simp [Op.intBits]
theorem intOp_run {op : BinOp} {k : IntKind} {a b : Int} {x : AV} (t : TypeId) (h : intOp op k a b = some x) : RunsTo P g w (binOp op t (.int k a) (.int k b)) x := by
  cases op with
  | add => simp [intOp] at h; subst h; exact .mk (by simp [binOp, Op.intArith]) (.int _ _)
  | sub => simp [intOp] at h; subst h; exact .mk (by simp [binOp, Op.intArith]) (.int _ _)
  | mul => simp [intOp] at h; subst h; exact .mk (by simp [binOp, Op.intArith]) (.int _ _)
  | quo =>
    simp only [intOp] at h
    split at h
    · cases h
    · rename_i hb; injection h with h; subst h; exact .mk (by simp [binOp, Op.intDiv, hb]) (.int _ _)
  | rem =>
    simp only [intOp] at h
    split at h
    · cases h
    · rename_i hb; injection h with h; subst h; exact .mk (by simp [binOp, Op.intDiv, hb]) (.int _ _)
  | eql => simp [intOp] at h; subst h; exact .mk (by simp [binOp, Op.intCmp]) (.bool _)
  | neq => simp [intOp] at h; subst h; exact .mk (by simp [binOp, Op.intCmp]) (.bool _)
  | lss => simp [intOp] at h; subst h; exact .mk (by simp [binOp, Op.intCmp]) (.bool _)
  | leq => simp [intOp] at h; subst h; exact .mk (by simp [binOp, Op.intCmp]) (.bool _)
  | gtr => simp [intOp] at h; subst h; exact .mk (by simp [binOp, Op.intCmp]) (.bool _)
  | geq => simp [intOp] at h; subst h; exact .mk (by simp [binOp, Op.intCmp]) (.bool _)
  | shl => simp [intOp] at h
  | shr => simp [intOp] at h
  | and =>
    simp only [intOp] at h
    split at h
    · injection h with h; subst h; rename_i hb; exact .mk (by simpa [binOp] using bitsOf_run hb w) (.int _ _)
    · cases h
  | or =>
    simp only [intOp] at h
    split at h
    · injection h with h; subst h; rename_i hb; exact .mk (by simpa [binOp] using bitsOf_run hb w) (.int _ _)
    · cases h
  | xor =>
    simp only [intOp] at h
    split at h
    · injection h with h; subst h; rename_i hb; exact .mk (by simpa [binOp] using bitsOf_run hb w) (.int _ _)
    · cases h
  | andNot =>
    simp only [intOp] at h
    split at h
    · injection h with h; subst h; rename_i hb; exact .mk (by simpa [binOp] using bitsOf_run hb w) (.int _ _)
    · cases h
theorem shiftOp_run {op : BinOp} {k yk : IntKind} {a b : Int} {x : AV} (h : shiftOp op k a b = some x) : RunsTo P g w (Op.shift op k a yk b) x := by
  unfold shiftOp at h
  split at h
  · cases h
  · rename_i hb
    cases op <;> simp at h <;> subst h
    · exact .mk (by simp [Op.shift, hb]) (.int _ _)
    · exact .mk (by simp [Op.shift, hb]) (.int _ _)
theorem intV_run {op : BinOp} {k k' : IntKind} {a b : Int} {x : AV} (t : TypeId) (h : intV op k k' a b = some x) : RunsTo P g w (binOp op t (.int k a) (.int k' b)) x := by
  by_cases h1 : op = .shl
  · subst h1; exact shiftOp_run (op := .shl) (k := k) (yk := k') (a := a) (b := b) h
  · by_cases h2 : op = .shr
    · subst h2; exact shiftOp_run (op := .shr) (k := k) (yk := k') (a := a) (b := b) h
    · have h3 : (if k = k' then intOp op k a b else none) = some x := by
        cases op <;> first | exact absurd rfl h1 | exact absurd rfl h2 | exact h
      split at h3
      · rename_i e; subst e; exact intOp_run t h3
      · cases h3
theorem toList_eq (s : ByteArray) : s.toList = s.data.toList := ByteArray.toList_eq s
theorem strOp_run {op : BinOp} {a b : ByteArray} {x : AV} (t : TypeId) (h : strOp op a.data.toList b.data.toList = some x) : RunsTo P g w (binOp op t (.string a) (.string b)) x := by
  have ea := toList_eq a
  have eb := toList_eq b
  have run : ∀ op, binOp op t (.string a) (.string b) = Op.stringOp op a b := fun op => by cases op <;> rfl
  rw [run]
  cases op with
  | add =>
    simp only [strOp] at h
    split at h
    · rename_i hb
      injection h with h; subst h
      have hs : ¬ (((a.size + b.size : Nat) : Int) > IntKind.i64.max) := by
        have : a.size = a.data.toList.length := rfl
        have : b.size = b.data.toList.length := rfl
        have : IntKind.i64.max = 9223372036854775807 := by decide
        omega
      refine .mk (v := .string (a ++ b)) (by simp only [Op.stringOp, if_neg hs]; rfl) ?_
      have : a.data.toList ++ b.data.toList = (a ++ b).data.toList := by simp
      rw [this]; exact .str _
    · cases h
  | eql => simp [strOp] at h; subst h; exact .mk (by simp [Op.stringOp, ea, eb]) (.bool _)
  | neq => simp [strOp] at h; subst h; exact .mk (by simp [Op.stringOp, ea, eb]) (.bool _)
  | lss => simp [strOp] at h; subst h; exact .mk (by simp [Op.stringOp, ea, eb]) (.bool _)
  | leq => simp [strOp] at h; subst h; exact .mk (by simp [Op.stringOp, ea, eb]) (.bool _)
  | gtr => simp [strOp] at h; subst h; exact .mk (by simp [Op.stringOp, ea, eb]) (.bool _)
  | geq => simp [strOp] at h; subst h; exact .mk (by simp [Op.stringOp, ea, eb]) (.bool _)
  | _ => simp [strOp] at h

theorem guard_plain (op : BinOp) (t : TypeId) (xo yo : Operand) (a b : Value) (hn : ¬ (a = .nilIface ∧ b = .nilIface)) (hg : ∀ u v, ¬ (a = .agg u ∧ b = .agg v)) (w : World) : (eqGuard op t xo yo a b).run P w = .ok () w := by
  unfold eqGuard
  have core : ∀ (s1 s2 : Sem Unit), ((match (generalizing := false) a, b with
      | .nilIface, .nilIface => s1
      | .agg _, .agg _ => s2
      | _, _ => pure ()) : Sem Unit).run P w = .ok () w := by
    intro s1 s2
    split
    · exact absurd ⟨rfl, rfl⟩ hn
    · exact absurd ⟨rfl, rfl⟩ (hg _ _)
    · rfl
  cases op <;> first | rfl | exact core _ _
theorem ptrNil_ok {a : Value} {x : AV} {r : Bool} (h : ptrNil x = some r) (hx : Rep g a x) : ∃ p, a = .pointer p ∧ p.isNone = r := by
  cases hx <;> simp [ptrNil] at h <;> subst h <;> exact ⟨_, rfl, rfl⟩
theorem sliceNil_ok {a : Value} {x : AV} {r : Bool} (h : sliceNil x = some r) (hx : Rep g a x) : ∃ p n c, a = .slice p n c ∧ p.isNone = r := by
  cases hx <;> simp [sliceNil] at h <;> subst h <;> exact ⟨_, _, _, rfl, rfl⟩
theorem mapNil_ok {a : Value} {x : AV} {r : Bool} (h : mapNil x = some r) (hx : Rep g a x) : ∃ p, a = .map p ∧ p.isNone = r := by
  cases hx <;> simp [mapNil] at h <;> subst h <;> exact ⟨_, rfl, rfl⟩
theorem funcNil_ok {a : Value} {x : AV} {r : Bool} (h : funcNil x = some r) (hx : Rep g a x) : (a = .nilFunc ∧ r = true) ∨ (∃ f b c, a = .func f b c ∧ r = false) := by
  cases hx <;> simp [funcNil] at h <;> subst h <;> first | exact .inl ⟨rfl, rfl⟩ | exact .inr ⟨_, _, _, rfl, rfl⟩
theorem ifaceNil_ok {a : Value} {x : AV} {r : Bool} (h : ifaceNil x = some r) (hx : Rep g a x) : (a = .nilIface ∧ r = true) ∨ (∃ t v, a = .iface t v ∧ r = false) := by
  cases hx <;> simp [ifaceNil] at h <;> subst h <;> first | exact .inl ⟨rfl, rfl⟩ | exact .inr ⟨_, _, rfl, rfl⟩
theorem eqNil_some {a b : Option Bool} {r : Bool} (h : eqNil a b = some r) : ∃ x y, a = some x ∧ b = some y ∧ ((x = true ∧ r = y) ∨ (x = false ∧ y = true ∧ r = false)) := by
  unfold eqNil at h
  split at h
  · exact ⟨true, r, rfl, h, .inl ⟨rfl, rfl⟩⟩
  · split at h
    · injection h with h; subst h; exact ⟨false, true, rfl, rfl, .inr ⟨rfl, rfl, rfl⟩⟩
    · cases h
  · cases h
theorem eq_bool {t : TypeId} (x y : Bool) (hu : P.underlying t = some (.bool)) (d : Nat) (w : World) : (Op.equalIn (d + 1) t (.bool x) (.bool y)).run P w = .ok (x == y) w := by
  unfold Op.equalIn
  simp only [underlying, Sem.run_bind, run_program, Result.andThen_ok, hu, Sem.run_pure]
theorem eq_ptr1 {t : TypeId} {e : TypeId} (v : Option Addr) (hu : P.underlying t = some (.pointer e)) (d : Nat) (w : World) : (Op.equalIn (d + 1) t (.pointer none) (.pointer v)).run P w = .ok v.isNone w := by
  unfold Op.equalIn
  simp only [underlying, Sem.run_bind, run_program, Result.andThen_ok, hu, Sem.run_pure]
theorem eq_ptr2 {t : TypeId} {e : TypeId} (v : Addr) (hu : P.underlying t = some (.pointer e)) (d : Nat) (w : World) : (Op.equalIn (d + 1) t (.pointer (some v)) (.pointer none)).run P w = .ok false w := by
  unfold Op.equalIn
  simp only [underlying, Sem.run_bind, run_program, Result.andThen_ok, hu, Sem.run_pure]
theorem eq_sl1 {t : TypeId} {e : TypeId} (v : Option Addr) (n c n1 c1 : Nat) (hu : P.underlying t = some (.slice e)) (d : Nat) (w : World) : (Op.equalIn (d + 1) t (.slice none n c) (.slice v n1 c1)).run P w = .ok v.isNone w := by
  unfold Op.equalIn
  simp only [underlying, Sem.run_bind, run_program, Result.andThen_ok, hu, Sem.run_pure]
theorem eq_sl2 {t : TypeId} {e : TypeId} (v : Addr) (n c n1 c1 : Nat) (hu : P.underlying t = some (.slice e)) (d : Nat) (w : World) : (Op.equalIn (d + 1) t (.slice (some v) n c) (.slice none n1 c1)).run P w = .ok false w := by
  unfold Op.equalIn
  simp only [underlying, Sem.run_bind, run_program, Result.andThen_ok, hu, Sem.run_pure]
theorem eq_map1 {t : TypeId} {k e : TypeId} (v : Option Nat) (hu : P.underlying t = some (.map k e)) (d : Nat) (w : World) : (Op.equalIn (d + 1) t (.map none) (.map v)).run P w = .ok v.isNone w := by
  unfold Op.equalIn
  simp only [underlying, Sem.run_bind, run_program, Result.andThen_ok, hu, Sem.run_pure]
theorem eq_map2 {t : TypeId} {k e : TypeId} (v : Nat) (hu : P.underlying t = some (.map k e)) (d : Nat) (w : World) : (Op.equalIn (d + 1) t (.map (some v)) (.map none)).run P w = .ok false w := by
  unfold Op.equalIn
  simp only [underlying, Sem.run_bind, run_program, Result.andThen_ok, hu, Sem.run_pure]
theorem eq_fn1 {t : TypeId} {ps rs : Array TypeId} {va : Bool} (hu : P.underlying t = some (.func ps rs va)) (d : Nat) (w : World) : (Op.equalIn (d + 1) t (.nilFunc) (.nilFunc)).run P w = .ok true w := by
  unfold Op.equalIn
  simp only [underlying, Sem.run_bind, run_program, Result.andThen_ok, hu, Sem.run_pure]
theorem eq_fn2 {t : TypeId} {ps rs : Array TypeId} {va : Bool} (f : Fn) (b c : Array Value) (hu : P.underlying t = some (.func ps rs va)) (d : Nat) (w : World) : (Op.equalIn (d + 1) t (.nilFunc) (.func f b c)).run P w = .ok false w := by
  unfold Op.equalIn
  simp only [underlying, Sem.run_bind, run_program, Result.andThen_ok, hu, Sem.run_pure]
theorem eq_fn3 {t : TypeId} {ps rs : Array TypeId} {va : Bool} (f : Fn) (b c : Array Value) (hu : P.underlying t = some (.func ps rs va)) (d : Nat) (w : World) : (Op.equalIn (d + 1) t (.func f b c) (.nilFunc)).run P w = .ok false w := by
  unfold Op.equalIn
  simp only [underlying, Sem.run_bind, run_program, Result.andThen_ok, hu, Sem.run_pure]
theorem eq_if1 {t : TypeId} {ms : Array (String × TypeId)} (hu : P.underlying t = some (.interface ms)) (d : Nat) (w : World) : (Op.equalIn (d + 1) t (.nilIface) (.nilIface)).run P w = .ok true w := by
  unfold Op.equalIn
  simp only [underlying, Sem.run_bind, run_program, Result.andThen_ok, hu, Sem.run_pure]
theorem eq_if2 {t : TypeId} {ms : Array (String × TypeId)} (u : TypeId) (v : Value) (hu : P.underlying t = some (.interface ms)) (d : Nat) (w : World) : (Op.equalIn (d + 1) t (.nilIface) (.iface u v)).run P w = .ok false w := by
  unfold Op.equalIn
  simp only [underlying, Sem.run_bind, run_program, Result.andThen_ok, hu, Sem.run_pure]
theorem eq_if3 {t : TypeId} {ms : Array (String × TypeId)} (u : TypeId) (v : Value) (hu : P.underlying t = some (.interface ms)) (d : Nat) (w : World) : (Op.equalIn (d + 1) t (.iface u v) (.nilIface)).run P w = .ok false w := by
  unfold Op.equalIn
  simp only [underlying, Sem.run_bind, run_program, Result.andThen_ok, hu, Sem.run_pure]
theorem equal_of {t : TypeId} {a b : Value} {r : Bool} {w : World} (h : ∀ d, (Op.equalIn (d + 1) t a b).run P w = .ok r w) : (Op.equal t a b).run P w = .ok r w := h 9999
def EqOk (P : Program) (t : TypeId) (a b : Value) (r : Bool) (w : World) : Prop := (Op.equal t a b).run P w = .ok r w ∧ (∀ op : BinOp, ∀ xo yo : Operand, (eqGuard op t xo yo a b).run P w = .ok () w)
theorem eqV_bool {t : TypeId} {a b : Value} {x y : AV} {r : Bool} (hu : P.underlying t = some .bool) (h : eqBool x y = some r) (hx : Rep g a x) (hy : Rep g b y) (w : World) : EqOk P t a b r w := by
  unfold eqBool at h
  split at h
  · injection h with h; subst h
    cases hx; cases hy
    exact ⟨equal_of fun d => eq_bool _ _ hu d w, fun op xo yo => guard_plain op t xo yo _ _ (by simp) (by simp) w⟩
  · cases h
theorem eqV_ptr {t e : TypeId} {a b : Value} {x y : AV} {r : Bool} (hu : P.underlying t = some (.pointer e)) (h : eqNil (ptrNil x) (ptrNil y) = some r) (hx : Rep g a x) (hy : Rep g b y) (w : World) : EqOk P t a b r w := by
  obtain ⟨p, q, h1, h2, h3⟩ := eqNil_some h
  obtain ⟨u, rfl, hp⟩ := ptrNil_ok h1 hx
  obtain ⟨v, rfl, hq⟩ := ptrNil_ok h2 hy
  refine ⟨equal_of fun d => ?_, fun op xo yo => guard_plain op t xo yo _ _ (by simp) (by simp) w⟩
  cases u with
  | none =>
    simp at hp; subst hp
    rcases h3 with ⟨_, rfl⟩ | ⟨h, _⟩
    · rw [← hq]; exact eq_ptr1 v hu d w
    · cases h
  | some u =>
    simp at hp; subst hp
    rcases h3 with ⟨h, _⟩ | ⟨_, rfl, rfl⟩
    · cases h
    · cases v with
      | none => exact eq_ptr2 u hu d w
      | some v => cases hq
theorem eqV_slice {t e : TypeId} {a b : Value} {x y : AV} {r : Bool} (hu : P.underlying t = some (.slice e)) (h : eqNil (sliceNil x) (sliceNil y) = some r) (hx : Rep g a x) (hy : Rep g b y) (w : World) : EqOk P t a b r w := by
  obtain ⟨p, q, h1, h2, h3⟩ := eqNil_some h
  obtain ⟨u, n, c, rfl, hp⟩ := sliceNil_ok h1 hx
  obtain ⟨v, n', c', rfl, hq⟩ := sliceNil_ok h2 hy
  refine ⟨equal_of fun d => ?_, fun op xo yo => guard_plain op t xo yo _ _ (by simp) (by simp) w⟩
  cases u with
  | none =>
    simp at hp; subst hp
    rcases h3 with ⟨_, rfl⟩ | ⟨h, _⟩
    · rw [← hq]; exact eq_sl1 v n c n' c' hu d w
    · cases h
  | some u =>
    simp at hp; subst hp
    rcases h3 with ⟨h, _⟩ | ⟨_, rfl, rfl⟩
    · cases h
    · cases v with
      | none => exact eq_sl2 u n c n' c' hu d w
      | some v => cases hq
theorem eqV_map {t k e : TypeId} {a b : Value} {x y : AV} {r : Bool} (hu : P.underlying t = some (.map k e)) (h : eqNil (mapNil x) (mapNil y) = some r) (hx : Rep g a x) (hy : Rep g b y) (w : World) : EqOk P t a b r w := by
  obtain ⟨p, q, h1, h2, h3⟩ := eqNil_some h
  obtain ⟨u, rfl, hp⟩ := mapNil_ok h1 hx
  obtain ⟨v, rfl, hq⟩ := mapNil_ok h2 hy
  refine ⟨equal_of fun d => ?_, fun op xo yo => guard_plain op t xo yo _ _ (by simp) (by simp) w⟩
  cases u with
  | none =>
    simp at hp; subst hp
    rcases h3 with ⟨_, rfl⟩ | ⟨h, _⟩
    · rw [← hq]; exact eq_map1 v hu d w
    · cases h
  | some u =>
    simp at hp; subst hp
    rcases h3 with ⟨h, _⟩ | ⟨_, rfl, rfl⟩
    · cases h
    · cases v with
      | none => exact eq_map2 u hu d w
      | some v => cases hq
theorem eqV_func {t : TypeId} {ps rs : Array TypeId} {va : Bool} {a b : Value} {x y : AV} {r : Bool} (hu : P.underlying t = some (.func ps rs va)) (h : eqNil (funcNil x) (funcNil y) = some r) (hx : Rep g a x) (hy : Rep g b y) (w : World) : EqOk P t a b r w := by
  obtain ⟨p, q, h1, h2, h3⟩ := eqNil_some h
  rcases funcNil_ok h1 hx with ⟨rfl, rfl⟩ | ⟨f1, a1, b1, rfl, rfl⟩
  · rcases h3 with ⟨_, rfl⟩ | ⟨h, _⟩
    · rcases funcNil_ok h2 hy with ⟨rfl, rfl⟩ | ⟨f2, a2, b2, rfl, rfl⟩
      · exact ⟨equal_of fun d => eq_fn1 hu d w, fun op xo yo => guard_plain op t xo yo _ _ (by simp) (by simp) w⟩
      · exact ⟨equal_of fun d => eq_fn2 f2 a2 b2 hu d w, fun op xo yo => guard_plain op t xo yo _ _ (by simp) (by simp) w⟩
    · cases h
  · rcases h3 with ⟨h, _⟩ | ⟨_, rfl, rfl⟩
    · cases h
    · rcases funcNil_ok h2 hy with ⟨rfl, _⟩ | ⟨f2, a2, b2, rfl, h⟩
      · exact ⟨equal_of fun d => eq_fn3 f1 a1 b1 hu d w, fun op xo yo => guard_plain op t xo yo _ _ (by simp) (by simp) w⟩
      · cases h
theorem eqV_iface {t : TypeId} {ms : Array (String × TypeId)} {a b : Value} {x y : AV} {r : Bool} (hu : P.underlying t = some (.interface ms)) (h : (match ifaceNil x with
    | some true => (match ifaceNil y with | some false => some false | _ => none)
    | some false => (match ifaceNil y with | some true => some false | _ => none)
    | none => none) = some r) (hx : Rep g a x) (hy : Rep g b y) (w : World) : EqOk P t a b r w := by
  split at h
  · rename_i h1
    split at h
    · rename_i h2
      injection h with h; subst h
      rcases ifaceNil_ok h1 hx with ⟨rfl, hp⟩ | ⟨t1, v1, rfl, hp⟩ <;> rcases ifaceNil_ok h2 hy with ⟨rfl, hq⟩ | ⟨t2, v2, rfl, hq⟩ <;> simp at hp hq
      exact ⟨equal_of fun d => eq_if2 t2 v2 hu d w, fun op xo yo => guard_plain op t xo yo _ _ (by simp) (by simp) w⟩
    · cases h
  · rename_i h1
    split at h
    · rename_i h2
      injection h with h; subst h
      rcases ifaceNil_ok h1 hx with ⟨rfl, hp⟩ | ⟨t1, v1, rfl, hp⟩ <;> rcases ifaceNil_ok h2 hy with ⟨rfl, hq⟩ | ⟨t2, v2, rfl, hq⟩ <;> simp at hp hq
      exact ⟨equal_of fun d => eq_if3 t1 v1 hu d w, fun op xo yo => guard_plain op t xo yo _ _ (by simp) (by simp) w⟩
    · cases h
  · cases h
theorem eqV_run {t : TypeId} {a b : Value} {x y : AV} {r : Bool} (h : eqV P t x y = some r) (hx : Rep g a x) (hy : Rep g b y) (w : World) : EqOk P t a b r w := by
  unfold eqV at h
  split at h <;> rename_i hu
  · exact eqV_bool hu h hx hy w
  · exact eqV_ptr hu h hx hy w
  · exact eqV_slice hu h hx hy w
  · exact eqV_map hu h hx hy w
  · exact eqV_func hu h hx hy w
  · exact eqV_iface hu h hx hy w
  · cases h
end
end Go.Sim
