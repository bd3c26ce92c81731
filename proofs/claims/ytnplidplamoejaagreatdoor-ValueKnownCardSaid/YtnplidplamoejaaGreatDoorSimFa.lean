/- The same reading, made for the kernel: frames are trees, not lists. -/
import Derived.Test.YtnplidplamoejaaGreatDoorSimY
set_option linter.unusedVariables false
set_option linter.unusedSimpArgs false
set_option linter.unnecessarySimpa false
namespace Go.Sim

/-- Things by number. -/
inductive Tr (α : Type) where
  | e
  | n (v : Option α) (l r : Tr α)
section tr
variable {α : Type}
noncomputable def Tr.get (t : Tr α) : Nat → Option α :=
  Tr.rec (motive := fun _ => Nat → Option α) (fun _ => none) (fun v _ _ gl gr k => Bool.rec (Bool.rec (gr (Nat.sub (Nat.div k 2) 1)) (gl (Nat.div k 2)) (Nat.beq (Nat.mod k 2) 1)) v (Nat.beq k 0)) t
/-- What lies there is another one, or none. -/
noncomputable def Tr.putF (x : Option α) (fuel : Nat) : Tr α → Nat → Tr α :=
  Nat.rec (motive := fun _ => Tr α → Nat → Tr α) (fun t _ => t) (fun _ ih t k => Tr.rec (motive := fun _ => Tr α)
    (Bool.rec (Bool.rec (.n none .e (ih .e (Nat.sub (Nat.div k 2) 1))) (.n none (ih .e (Nat.div k 2)) .e) (Nat.beq (Nat.mod k 2) 1)) (.n x .e .e) (Nat.beq k 0))
    (fun v l r _ _ => Bool.rec (Bool.rec (.n v l (ih r (Nat.sub (Nat.div k 2) 1))) (.n v (ih l (Nat.div k 2)) r) (Nat.beq (Nat.mod k 2) 1)) (.n x l r) (Nat.beq k 0)) t) fuel
noncomputable def Tr.set (t : Tr α) (k : Nat) (v : α) : Tr α := Tr.putF (some v) 13 t k
noncomputable def Tr.del (t : Tr α) (k : Nat) : Tr α := Tr.putF none 13 t k
theorem Tr.get_e (k : Nat) : (Tr.e : Tr α).get k = none := rfl
theorem Tr.get_n (v : Option α) (l r : Tr α) (k : Nat) : (Tr.n v l r).get k = if k = 0 then v else if k % 2 = 1 then l.get (k / 2) else r.get (k / 2 - 1) := by
  show @Bool.rec (fun _ => Option α) (@Bool.rec (fun _ => Option α) (r.get (Nat.sub (Nat.div k 2) 1)) (l.get (Nat.div k 2)) (Nat.beq (Nat.mod k 2) 1)) v (Nat.beq k 0) = _
  cases h : Nat.beq k 0 with
  | true => rw [if_pos (Nat.eq_of_beq_eq_true h)]
  | false =>
    rw [if_neg (Nat.ne_of_beq_eq_false h)]
    cases h2 : Nat.beq (Nat.mod k 2) 1 with
    | true => rw [if_pos (show k % 2 = 1 from Nat.eq_of_beq_eq_true h2)]; rfl
    | false => rw [if_neg (show ¬ k % 2 = 1 from Nat.ne_of_beq_eq_false h2)]; rfl
theorem Tr.put_e (x : Option α) (f k : Nat) : Tr.putF x (f + 1) .e k = if k = 0 then .n x .e .e else if k % 2 = 1 then .n none (Tr.putF x f .e (k / 2)) .e else .n none .e (Tr.putF x f .e (k / 2 - 1)) := by
  show @Bool.rec (fun _ => Tr α) (@Bool.rec (fun _ => Tr α) (Tr.n none .e (Tr.putF x f .e (Nat.sub (Nat.div k 2) 1))) (.n none (Tr.putF x f .e (Nat.div k 2)) .e) (Nat.beq (Nat.mod k 2) 1)) (.n x .e .e) (Nat.beq k 0) = _
  cases h : Nat.beq k 0 with
  | true => rw [if_pos (Nat.eq_of_beq_eq_true h)]
  | false =>
    rw [if_neg (Nat.ne_of_beq_eq_false h)]
    cases h2 : Nat.beq (Nat.mod k 2) 1 with
    | true => rw [if_pos (show k % 2 = 1 from Nat.eq_of_beq_eq_true h2)]; rfl
    | false => rw [if_neg (show ¬ k % 2 = 1 from Nat.ne_of_beq_eq_false h2)]; rfl
theorem Tr.put_n (x : Option α) (f k : Nat) (v : Option α) (l r : Tr α) : Tr.putF x (f + 1) (.n v l r) k = if k = 0 then .n x l r else if k % 2 = 1 then .n v (Tr.putF x f l (k / 2)) r else .n v l (Tr.putF x f r (k / 2 - 1)) := by
  show @Bool.rec (fun _ => Tr α) (@Bool.rec (fun _ => Tr α) (Tr.n v l (Tr.putF x f r (Nat.sub (Nat.div k 2) 1))) (.n v (Tr.putF x f l (Nat.div k 2)) r) (Nat.beq (Nat.mod k 2) 1)) (.n x l r) (Nat.beq k 0) = _
  cases h : Nat.beq k 0 with
  | true => rw [if_pos (Nat.eq_of_beq_eq_true h)]
  | false =>
    rw [if_neg (Nat.ne_of_beq_eq_false h)]
    cases h2 : Nat.beq (Nat.mod k 2) 1 with
    | true => rw [if_pos (show k % 2 = 1 from Nat.eq_of_beq_eq_true h2)]; rfl
    | false => rw [if_neg (show ¬ k % 2 = 1 from Nat.ne_of_beq_eq_false h2)]; rfl
/-- Elsewhere nothing changes; there lies what was put, or what lay there. -/
theorem Tr.get_put (x : Option α) : ∀ (f : Nat) (t : Tr α) (k j : Nat), (Tr.putF x f t k).get j = t.get j ∨ (j = k ∧ (Tr.putF x f t k).get j = x)
  | 0, t, k, j => .inl rfl
  | f + 1, .e, k, j => by
    rw [Tr.put_e]
    split
    · rename_i hk; subst hk
      rw [Tr.get_n]
      split
      · exact .inr ⟨by assumption, rfl⟩
      · simp [Tr.get_e]
    · split <;> rename_i hk0 hk
      · rw [Tr.get_n]
        split
        · exact .inl rfl
        · split
          · rcases Tr.get_put x f .e (k / 2) (j / 2) with h | ⟨h, h'⟩
            · exact .inl h
            · exact .inr ⟨by omega, h'⟩
          · exact .inl rfl
      · rw [Tr.get_n]
        split
        · exact .inl rfl
        · split
          · exact .inl rfl
          · rcases Tr.get_put x f .e (k / 2 - 1) (j / 2 - 1) with h | ⟨h, h'⟩
            · exact .inl h
            · exact .inr ⟨by omega, h'⟩
  | f + 1, .n v l r, k, j => by
    rw [Tr.put_n]
    split
    · rename_i hk; subst hk
      rw [Tr.get_n, Tr.get_n]
      split
      · exact .inr ⟨by assumption, rfl⟩
      · exact .inl rfl
    · split <;> rename_i hk0 hk
      · rw [Tr.get_n, Tr.get_n]
        split
        · exact .inl rfl
        · split
          · rcases Tr.get_put x f l (k / 2) (j / 2) with h | ⟨h, h'⟩
            · exact .inl h
            · exact .inr ⟨by omega, h'⟩
          · exact .inl rfl
      · rw [Tr.get_n, Tr.get_n]
        split
        · exact .inl rfl
        · split
          · exact .inl rfl
          · rcases Tr.get_put x f r (k / 2 - 1) (j / 2 - 1) with h | ⟨h, h'⟩
            · exact .inl h
            · exact .inr ⟨by omega, h'⟩
/-- What is put lies there, if the number is not too large. -/
theorem Tr.get_put_same (x : Option α) : ∀ (f : Nat) (t : Tr α) (k : Nat), k + 1 < 2 ^ f → (Tr.putF x f t k).get k = x
  | 0, t, k, h => by simp at h
  | f + 1, .e, k, h => by
    have hp : 2 ^ (f + 1) = 2 * 2 ^ f := by rw [Nat.pow_succ]; omega
    rw [Tr.put_e]
    split
    · rename_i hk; subst hk; rw [Tr.get_n, if_pos rfl]
    · split <;> rename_i hk0 hk
      · rw [Tr.get_n, if_neg hk0, if_pos hk]; exact Tr.get_put_same x f _ _ (by omega)
      · rw [Tr.get_n, if_neg hk0, if_neg hk]; exact Tr.get_put_same x f _ _ (by omega)
  | f + 1, .n v l r, k, h => by
    have hp : 2 ^ (f + 1) = 2 * 2 ^ f := by rw [Nat.pow_succ]; omega
    rw [Tr.put_n]
    split
    · rename_i hk; subst hk; rw [Tr.get_n, if_pos rfl]
    · split <;> rename_i hk0 hk
      · rw [Tr.get_n, if_neg hk0, if_pos hk]; exact Tr.get_put_same x f _ _ (by omega)
      · rw [Tr.get_n, if_neg hk0, if_neg hk]; exact Tr.get_put_same x f _ _ (by omega)
theorem Tr.get_put_if (x : Option α) (t : Tr α) {k : Nat} (hk : k < 8000) (j : Nat) : (Tr.putF x 13 t k).get j = if j = k then x else t.get j := by
  split
  · rename_i e; subst e
    exact Tr.get_put_same x 13 t j (by simp; omega)
  · rename_i e
    rcases Tr.get_put x 13 t k j with h | ⟨h, _⟩
    · exact h
    · exact absurd h e
theorem Tr.get_set {t : Tr α} {k j : Nat} {v y : α} (hk : k < 8000) (h : (t.set k v).get j = some y) : (j = k ∧ y = v) ∨ (j ≠ k ∧ t.get j = some y) := by
  rw [Tr.set, Tr.get_put_if _ _ hk] at h
  split at h
  · rename_i e; exact .inl ⟨e, (Option.some.inj h).symm⟩
  · rename_i e; exact .inr ⟨e, h⟩
theorem Tr.get_del {t : Tr α} {k j : Nat} {y : α} (h : (t.del k).get j = some y) : t.get j = some y := by
  rcases Tr.get_put none 13 t k j with e | ⟨e, e'⟩
  · exact e.symm.trans h
  · rw [Tr.del, e'] at h; cases h
theorem Tr.get_del_ne {t : Tr α} {k j : Nat} {y : α} (hk : k < 8000) (h : (t.del k).get j = some y) : j ≠ k := by
  rintro rfl
  rw [Tr.del, Tr.get_put_same none 13 t j (by simp; omega)] at h
  cases h
noncomputable def Tr.dels (ks : List Nat) (t : Tr α) : Tr α := ks.foldl Tr.del t
theorem Tr.get_dels {j : Nat} {y : α} : ∀ {ks : List Nat} {t : Tr α}, (Tr.dels ks t).get j = some y → t.get j = some y
  | [], _, h => h
  | k :: ks, t, h => Tr.get_del (Tr.get_dels (ks := ks) (t := t.del k) h)
theorem Tr.get_dels_ne {j : Nat} {y : α} : ∀ {ks : List Nat} {t : Tr α}, (∀ k ∈ ks, k < 8000) → (Tr.dels ks t).get j = some y → j ∉ ks
  | [], _, _, _ => by simp
  | k :: ks, t, hk, h => by
    have h1 : (t.del k).get j = some y := Tr.get_dels (ks := ks) h
    have h2 := Tr.get_dels_ne (ks := ks) (t := t.del k) (fun k hk' => hk k (List.mem_cons_of_mem _ hk')) h
    simp only [List.mem_cons, not_or]
    exact ⟨Tr.get_del_ne (hk k List.mem_cons_self) h1, h2⟩
end tr

/-- A frame, in trees. -/
structure FFr where
  n : Nat
  t : Tr AV
  of : Tr Nat
  bx : Tr (List AV)
noncomputable def FFr.setT (fr : FFr) (d : Nat) (v : AV) : FFr := match fr with | ⟨n, t, of, bx⟩ => ⟨n, t.set d v, of, bx⟩
noncomputable def FFr.setOf (fr : FFr) (d : Nat) (o : Nat) : FFr := match fr with | ⟨n, t, of, bx⟩ => ⟨n, t, of.set d o, bx⟩
noncomputable def FFr.setBx (fr : FFr) (b : Nat) (cs : List AV) : FFr := match fr with | ⟨n, t, of, bx⟩ => ⟨n, t, of, bx.set b cs⟩
noncomputable def FFr.newBx (fr : FFr) (ks : List Nat) (d : Nat) (cs : List AV) : FFr := match fr with | ⟨n, t, of, bx⟩ => ⟨n, t, (Tr.dels ks of).set d 0, bx.set d cs⟩
noncomputable def FFr.delBx (fr : FFr) (d : Nat) : FFr := match fr with | ⟨n, t, of, bx⟩ => ⟨n, t, of.del d, bx.del d⟩
@[simp] theorem FFr.n_setT (fr : FFr) (d : Nat) (v : AV) : (fr.setT d v).n = fr.n := rfl
@[simp] theorem FFr.n_setOf (fr : FFr) (d o : Nat) : (fr.setOf d o).n = fr.n := rfl
@[simp] theorem FFr.n_setBx (fr : FFr) (b : Nat) (cs : List AV) : (fr.setBx b cs).n = fr.n := rfl
@[simp] theorem FFr.n_newBx (fr : FFr) (ks : List Nat) (d : Nat) (cs : List AV) : (fr.newBx ks d cs).n = fr.n := rfl
@[simp] theorem FFr.n_delBx (fr : FFr) (d : Nat) : (fr.delBx d).n = fr.n := rfl
/-- How a function is read: boxes, kinds, what must stand before what. -/
structure FAnn where
  base : Nat → Option Nat
  subs : Nat → List Nat
  mode : Nat → Nat → Nat
  labs : Nat → Option (List Nat)
def FAnn.ann (A : FAnn) : Ann := ⟨A.base, A.mode⟩
structure FAnn.Ok (A : FAnn) : Prop where
  wf : ∀ t b, A.base t = some b → A.base b = some b
  subs : ∀ t b, A.base t = some b → t = b ∨ t ∈ A.subs b
  low : ∀ b, ∀ k ∈ A.subs b, k < 8000

structure FRel (A : FAnn) (ff : FFr) (fr : AFr) : Prop where
  low : ff.n ≤ 8000
  lt : fr.tmps.length = ff.n
  lo : fr.offs.length = ff.n
  ll : fr.lbs.length = ff.n
  ex : ∀ t, t < ff.n → fr.tmps[t]? = some (match ff.t.get t with | some v => v | none => aundef)
  hi : ∀ t v, ff.t.get t = some v → t < ff.n
  of : ∀ t o, ff.of.get t = some o → fr.offs[t]? = some (some o)
  bx : ∀ b cs, ff.bx.get b = some cs → A.base b = some b ∧ fr.lbs[b]? = some cs ∧ ∃ o, fr.offs[b]? = some (some o)

theorem FRel.t {A : FAnn} {ff : FFr} {fr : AFr} (h : FRel A ff fr) (t : Nat) (v : AV) (hv : ff.t.get t = some v) : fr.tmps[t]? = some v := by
  have := h.ex t (h.hi t v hv)
  simpa only [hv] using this
noncomputable def feval (G : Nat → Option AV) (A : FAnn) (fr : FFr) : Operand → Option In
  | .tmp t => (match A.base t with
    | none => (match fr.t.get t with
      | some v => some (.val v)
      | none => none)
    | some b => (match fr.bx.get b with
      | some cs => (match fr.of.get t with
        | some off => some (.loc b off cs)
        | none => none)
      | none => none))
  | .const v => (match absC v with
    | some x => some (.val x)
    | none => none)
  | .global g => (match G g with
    | some x => some (.val x)
    | none => none)
  | .func f => some (.val (.func (.func f) [] []))
noncomputable def fevals (G : Nat → Option AV) (A : FAnn) (fr : FFr) : List Operand → Option (List In)
  | [] => some []
  | x :: xs => (match feval G A fr x with
    | some v => (match fevals G A fr xs with
      | some vs => some (v :: vs)
      | none => none)
    | none => none)
noncomputable def fput (A : FAnn) (fr : FFr) (op : Op) (dst : Option Tmp) (out : Out) : Option FFr :=
  match out with
  | .val v => (match dst with
    | some d => (match A.base d with
      | none => Bool.rec none (some (fr.setT d v)) (Nat.blt d fr.n)
      | some _ => none)
    | none => some fr)
  | .loc b off => (match dst with
    | some d => (match fr.bx.get b with
      | some _ => if A.base d = some b ∧ d ≠ b ∧ d < fr.n then some (fr.setOf d off) else none
      | none => none)
    | none => none)
  | .box cs => (match dst with
    | some d => if A.base d = some d ∧ d < fr.n then some (fr.newBx (A.subs d) d cs) else none
    | none => none)
  | .lst b cs => (match dst with
    | some _ => none
    | none => (match op with
      | .store _ (.tmp t) _ => (match fr.bx.get b with
        | some _ => if A.base t = some b then some (fr.setBx b cs) else none
        | none => none)
      | _ => none))
noncomputable def fputNone (A : FAnn) (fr : FFr) (dst : Option Tmp) : Option FFr :=
  match dst with
  | none => some fr
  | some d => if d < fr.n ∧ d < 8000 then (match A.base d with
    | none => some (fr.setT d aundef)
    | some _ => some (fr.delBx d)) else none
noncomputable def fYield (ops : List Oper) (fr : FFr) (A : FAnn) (j : Nat) : Option (Option Bool) :=
  match ops[j]? with
  | none => some none
  | some o => (match o.dst with
    | none => some none
    | some d => (match A.base d with
      | some _ => none
      | none => (match fr.t.get d with
        | some (.bool b) => some (some b)
        | some (.tuple _) => some none
        | _ => none)))
noncomputable def fWanted (A : FAnn) (ops : List Oper) (fr : FFr) (o : Oper) : Option Bool :=
  match o.guard with
  | none => some true
  | some (j, want) => (match fYield ops fr A j with
    | some y => some (y == some want)
    | none => none)
noncomputable def fops (E : Env) (call : Caller) (A : FAnn) (rid : Nat) (all : List Oper) : List Oper → Nat → FFr → Store → Option (FFr × Store)
  | [], _, fr, st => some (fr, st)
  | o :: rest, i, fr, st => (match fWanted A all fr o with
    | some true => (match fevals E.globals A fr o.op.operands.toList with
      | none => none
      | some ins => (match aout E call (A.mode rid i) o ins st with
        | some r => (match fput A fr o.op o.dst r.1 with
          | some fr' => fops E call A rid all rest (i + 1) fr' r.2
          | none => none)
        | none => none))
    | some false => (match fputNone A fr o.dst with
      | some fr' => fops E call A rid all rest (i + 1) fr' st
      | none => none)
    | none => none)
noncomputable def fopsL (E : Env) (call : Caller) (A : FAnn) (rid : Nat) (all : List Oper) : List Oper → List Nat → Nat → FFr → Store → Option (FFr × Store)
  | [], _, _, fr, st => some (fr, st)
  | o :: rest, ls, i, fr, st => (match ls with
    | [] => none
    | l :: ls => (match fWanted A all fr o with
      | some true => (match fevals E.globals A fr o.op.operands.toList with
        | none => none
        | some ins => (match aout E call (A.mode rid i) o ins st with
          | some r => (match fput A fr o.op o.dst r.1 with
            | some fr' => Bool.rec (Bool.rec none (fopsL E call A rid all rest ls (i + 1) fr' r.2) (Nat.ble (labOp E.L (A.mode rid i) o.op ins) l)) (fopsL E call A rid all rest ls (i + 1) fr' r.2) (Nat.beq l 2)
            | none => none)
          | none => none))
      | some false => (match fputNone A fr o.dst with
        | some fr' => fopsL E call A rid all rest ls (i + 1) fr' st
        | none => none)
      | none => none))

section
variable {E : Env} {call : Caller} {A : FAnn} {ff ff' : FFr} {fr : AFr}
theorem feval_ok (h : FRel A ff fr) {x : Operand} {i : In} (he : feval E.globals A ff x = some i) : aeval E.globals A.ann fr x = some i := by
  cases x with
  | tmp t =>
    simp only [feval] at he
    simp only [aeval, FAnn.ann]
    cases hb : A.base t with
    | none =>
      simp only [hb] at he
      split at he
      · rename_i v hv
        simp only [h.t t v hv, Option.map_some]; exact he
      · cases he
    | some b =>
      simp only [hb] at he
      split at he
      · rename_i cs hcs
        split at he
        · rename_i off hoff
          obtain ⟨_, h1, o, h2⟩ := h.bx b cs hcs
          simp only [h2, h.of t off hoff, h1]; exact he
        · cases he
      · cases he
  | const v =>
    simp only [feval] at he
    simp only [aeval]
    split at he
    · rename_i x hx; simp only [hx, Option.map_some]; exact he
    · cases he
  | global k =>
    simp only [feval] at he
    simp only [aeval]
    split at he
    · rename_i x hx; simp only [hx, Option.map_some]; exact he
    · cases he
  | func f => exact he
theorem fevals_ok (h : FRel A ff fr) : ∀ {xs : List Operand} {ins : List In}, fevals E.globals A ff xs = some ins → aevals E.globals A.ann fr xs = some ins
  | [], ins, he => he
  | x :: xs, ins, he => by
    simp only [fevals] at he
    split at he
    · rename_i v hv
      split at he
      · rename_i vs hvs
        simp only [aevals, feval_ok h hv, fevals_ok h hvs]; exact he
      · cases he
    · cases he
theorem FRel.setT (h : FRel A ff fr) {d : Nat} (hd : d < ff.n) (v : AV) : FRel A { ff with t := ff.t.set d v } { fr with tmps := fr.tmps.set d v } := by
  have hl := h.low
  refine ⟨h.low, by simp [h.lt], h.lo, h.ll, fun t ht => ?_, fun t y ht => ?_, h.of, h.bx⟩
  · show (fr.tmps.set d v)[t]? = some (match (Tr.putF (some v) 13 ff.t d).get t with | some v => v | none => aundef)
    rw [Tr.get_put_if _ _ (by omega)]
    by_cases e : t = d
    · subst e
      rw [if_pos rfl]
      exact List.getElem?_set_self (by rw [h.lt]; exact hd)
    · rw [if_neg e, List.getElem?_set_ne (fun e' => e e'.symm)]
      exact h.ex t ht
  · rcases Tr.get_set (by omega) ht with ⟨rfl, rfl⟩ | ⟨e, h1⟩
    · exact hd
    · exact h.hi t y h1
theorem fputNone_ok (h : FRel A ff fr) {dst : Option Tmp} (he : fputNone A ff dst = some ff') : ∃ fr', aputNone A.ann fr dst = some fr' ∧ FRel A ff' fr' := by
  cases dst with
  | none => simp only [fputNone, Option.some.injEq] at he; subst he; exact ⟨fr, rfl, h⟩
  | some d =>
    simp only [fputNone] at he
    split at he
    · rename_i hd
      simp only [aputNone, FAnn.ann]
      split at he
      · rename_i hb
        injection he with he; subst he
        exact ⟨_, by simp only [hb], h.setT hd.1 _⟩
      · rename_i b hb
        injection he with he; subst he
        refine ⟨{ fr with offs := fr.offs.set d none }, by simp only [hb], h.low, h.lt, by simp [h.lo], h.ll, h.ex, h.hi, fun t o ht => ?_, fun b cs hb' => ?_⟩
        · have := Tr.get_del_ne hd.2 ht
          rw [List.getElem?_set_ne (fun e => this e.symm)]
          exact h.of t o (Tr.get_del ht)
        · have := Tr.get_del_ne hd.2 hb'
          obtain ⟨q1, q2, q3⟩ := h.bx b cs (Tr.get_del hb')
          exact ⟨q1, q2, by rw [List.getElem?_set_ne (fun e => this e.symm)]; exact q3⟩
    · cases he
theorem fput_ok (hA : A.Ok) (h : FRel A ff fr) {op : Op} {dst : Option Tmp} {out : Out} (he : fput A ff op dst out = some ff') : ∃ fr', aput A.ann fr op dst out = some fr' ∧ FRel A ff' fr' := by
  have hl := h.low
  cases out with
  | val v =>
    cases dst with
    | none => simp only [fput, Option.some.injEq] at he; subst he; exact ⟨fr, rfl, h⟩
    | some d =>
      simp only [fput] at he
      simp only [aput, FAnn.ann]
      split at he
      · rename_i hb
        cases hd : Nat.blt d ff.n with
        | false => rw [hd] at he; cases he
        | true =>
          rw [hd] at he
          injection he with he; subst he
          exact ⟨_, by simp only [hb], h.setT (Nat.le_of_ble_eq_true hd) _⟩
      · cases he
  | loc b off =>
    cases dst with
    | none => simp [fput] at he
    | some d =>
      simp only [fput] at he
      split at he
      · rename_i cs hcs
        split at he
        · rename_i hc
          injection he with he; subst he
          have hdn : (d : Nat) < 8000 := Nat.lt_of_lt_of_le hc.2.2 hl
          obtain ⟨q1, q2, o, q3⟩ := h.bx b cs hcs
          refine ⟨{ fr with offs := fr.offs.set d (some off) }, by simp only [aput, q3]; exact if_pos (show A.ann.base d = some b ∧ d ≠ b from ⟨hc.1, hc.2.1⟩), h.low, h.lt, by simp [h.lo], h.ll, h.ex, h.hi, fun t o ht => ?_, fun b' cs' hb' => ?_⟩
          · rcases Tr.get_set hdn ht with ⟨rfl, rfl⟩ | ⟨e, h1⟩
            · exact List.getElem?_set_self (by rw [h.lo]; exact hc.2.2)
            · show (fr.offs.set d (some off))[t]? = _
              rw [List.getElem?_set_ne (fun e' => e e'.symm)]; exact h.of t o h1
          · obtain ⟨p1, p2, p3⟩ := h.bx b' cs' hb'
            have : d ≠ b' := by
              rintro rfl
              rw [hc.1] at p1; injection p1 with p1; exact hc.2.1 p1.symm
            exact ⟨p1, p2, by rw [List.getElem?_set_ne this]; exact p3⟩
        · cases he
      · cases he
  | box cs =>
    cases dst with
    | none => simp [fput] at he
    | some d =>
      simp only [fput] at he
      split at he
      · rename_i hc
        injection he with he; subst he
        have hdn : (d : Nat) < 8000 := Nat.lt_of_lt_of_le hc.2 hl
        refine ⟨{ fr with offs := (purge A.ann d 0 fr.offs).set d (some 0), lbs := fr.lbs.set d cs }, by simp only [aput]; exact if_pos (show A.ann.base d = some d from hc.1), h.low, h.lt, by simp [purge_len, h.lo], by simp [h.ll], h.ex, h.hi, fun t o ht => ?_, fun b' cs' hb' => ?_⟩
        · rcases Tr.get_set hdn ht with ⟨rfl, rfl⟩ | ⟨e, h1⟩
          · exact List.getElem?_set_self (by rw [purge_len, h.lo]; exact hc.2)
          · show ((purge A.ann d 0 fr.offs).set d (some 0))[t]? = _
            rw [List.getElem?_set_ne (fun e' => e e'.symm), purge_getElem]
            have h2 := h.of t o (Tr.get_dels h1)
            have h3 := Tr.get_dels_ne (hA.low d) h1
            have h4 : A.base (0 + t) ≠ some d := by
              rw [Nat.zero_add]
              intro hb
              rcases hA.subs t d hb with q | q
              · exact e q
              · exact h3 q
            rw [h2]; exact congrArg some (if_neg (show ¬ A.ann.base (0 + t) = some d from h4))
        · rcases Tr.get_set hdn hb' with ⟨rfl, rfl⟩ | ⟨e, h1⟩
          · exact ⟨hc.1, List.getElem?_set_self (by rw [h.ll]; exact hc.2), 0, List.getElem?_set_self (by rw [purge_len, h.lo]; exact hc.2)⟩
          · obtain ⟨p1, p2, o, p3⟩ := h.bx b' cs' h1
            refine ⟨p1, (List.getElem?_set_ne (fun e' => e e'.symm)).trans p2, o, ?_⟩
            show ((purge A.ann d 0 fr.offs).set d (some 0))[b']? = _
            rw [List.getElem?_set_ne (fun e' => e e'.symm), purge_getElem]
            have h4 : A.base (0 + b') ≠ some d := by
              rw [Nat.zero_add, p1]; intro hh; injection hh with hh; exact e hh
            rw [p3]; exact congrArg some (if_neg (show ¬ A.ann.base (0 + b') = some d from h4))
      · cases he
  | lst b cs =>
    cases dst with
    | some d => simp [fput] at he
    | none =>
      simp only [fput] at he
      split at he
      · rename_i ty t v
        split at he
        · rename_i cs0 hcs
          split at he
          · rename_i hc
            injection he with he; subst he
            obtain ⟨q1, q2, o, q3⟩ := h.bx b cs0 hcs
            have hbn : b < ff.n := by rw [← h.ll]; exact (List.getElem?_eq_some_iff.1 q2).1
            refine ⟨{ fr with lbs := fr.lbs.set b cs }, by simp only [aput, q3]; exact if_pos (show A.ann.base t = some b ∧ A.ann.base b = some b from ⟨hc, q1⟩), h.low, h.lt, h.lo, by simp [h.ll], h.ex, h.hi, h.of, fun b' cs' hb' => ?_⟩
            rcases Tr.get_set (by omega) hb' with ⟨rfl, rfl⟩ | ⟨e, h1⟩
            · exact ⟨q1, List.getElem?_set_self (by rw [h.ll]; exact hbn), o, q3⟩
            · obtain ⟨p1, p2, p3⟩ := h.bx b' cs' h1
              exact ⟨p1, (List.getElem?_set_ne (fun e' => e e'.symm)).trans p2, p3⟩
          · cases he
        · cases he
      · cases he
theorem fYield_ok (h : FRel A ff fr) {ops : List Oper} {j : Nat} {r : Option Bool} (he : fYield ops ff A j = some r) : aYield ops fr A.ann j = some r := by
  unfold fYield at he
  unfold aYield
  split at he
  · rename_i hn; simp only [hn]; exact he
  · rename_i o ho
    simp only [ho]
    split at he
    · rename_i hd; simp only [hd]; exact he
    · rename_i d hd
      simp only [hd, FAnn.ann]
      split at he
      · cases he
      · rename_i hb
        simp only [hb]
        split at he
        · rename_i b hx; simp only [h.t d _ hx]; exact he
        · rename_i vs hx; simp only [h.t d _ hx]; exact he
        · cases he
theorem fWanted_ok (h : FRel A ff fr) {ops : List Oper} {o : Oper} {r : Bool} (he : fWanted A ops ff o = some r) : aWanted A.ann ops fr o = some r := by
  unfold fWanted at he
  unfold aWanted
  split at he
  · rename_i hg; simp only [hg]; exact he
  · rename_i j want hg
    simp only [hg]
    split at he
    · rename_i y hy
      simp only [fYield_ok h hy, Option.map_some]; exact he
    · cases he
theorem fops_ok (hA : A.Ok) {rid : Nat} {all : List Oper} : ∀ {rest : List Oper} {i : Nat} {ff : FFr} {fr : AFr} {st : Store} {r : FFr × Store}, FRel A ff fr → fops E call A rid all rest i ff st = some r → ∃ fr', aops E call A.ann rid all rest i fr st = some (fr', r.2) ∧ FRel A r.1 fr'
  | [], i, ff, fr, st, r, h, he => by
    simp only [fops, Option.some.injEq] at he; subst he
    exact ⟨fr, rfl, h⟩
  | o :: rest, i, ff, fr, st, r, h, he => by
    simp only [fops] at he
    split at he
    · rename_i hw
      split at he
      · cases he
      · rename_i ins hins
        split at he
        · rename_i q hq
          split at he
          · rename_i ff1 hp
            obtain ⟨fr1, h1, h2⟩ := fput_ok hA h hp
            obtain ⟨fr2, h3, h4⟩ := fops_ok hA h2 he
            refine ⟨fr2, ?_, h4⟩
            have hq' : aout E call (A.ann.mode rid i) o ins st = some q := hq
            simp only [aops, fWanted_ok h hw, aoper, fevals_ok h hins, hq', h1]
            exact h3
          · cases he
        · cases he
    · rename_i hw
      split at he
      · rename_i ff1 hp
        obtain ⟨fr1, h1, h2⟩ := fputNone_ok h hp
        obtain ⟨fr2, h3, h4⟩ := fops_ok hA h2 he
        exact ⟨fr2, by simp only [aops, fWanted_ok h hw, h1]; exact h3, h4⟩
      · cases he
    · cases he
theorem fopsL_ok (hA : A.Ok) {rid : Nat} {all : List Oper} : ∀ {rest : List Oper} {ls : List Nat} {i : Nat} {ff : FFr} {fr : AFr} {st : Store} {r : FFr × Store}, FRel A ff fr → fopsL E call A rid all rest ls i ff st = some r →
    ∃ fr' fs, aopsF E call A.ann rid all rest i fr st = some (fr', r.2, fs) ∧ FRel A r.1 fr' ∧ ∀ k, fs.getD k 2 ≤ (ls.take rest.length).getD k 2
  | [], ls, i, ff, fr, st, r, h, he => by
    simp only [fopsL, Option.some.injEq] at he; subst he
    exact ⟨fr, [], rfl, h, fun k => by simp⟩
  | o :: rest, [], i, ff, fr, st, r, h, he => by simp [fopsL] at he
  | o :: rest, l :: ls, i, ff, fr, st, r, h, he => by
    simp only [fopsL] at he
    split at he
    · rename_i hw
      split at he
      · cases he
      · rename_i ins hins
        split at he
        · rename_i q hq
          split at he
          · rename_i ff1 hp
            obtain ⟨fr1, h1, h2⟩ := fput_ok hA h hp
            have hq' : aout E call (A.ann.mode rid i) o ins st = some q := hq
            have hlab : labOp E.L (A.ann.mode rid i) o.op ins ≤ 2 := by
              unfold labOp; split
              · omega
              · split <;> omega
            have key : fopsL E call A rid all rest ls (i + 1) ff1 q.2 = some r ∧ labOp E.L (A.ann.mode rid i) o.op ins ≤ l := by
              cases h2' : Nat.beq l 2 with
              | true =>
                rw [h2'] at he
                have := Nat.eq_of_beq_eq_true h2'
                exact ⟨he, by omega⟩
              | false =>
                rw [h2'] at he
                cases hle : Nat.ble (labOp E.L (A.mode rid i) o.op ins) l with
                | false => simp only [hle] at he; cases he
                | true => simp only [hle] at he; exact ⟨he, Nat.le_of_ble_eq_true hle⟩
            obtain ⟨fr2, fs, h3, h4, h5⟩ := fopsL_ok hA h2 key.1
            refine ⟨fr2, labOp E.L (A.ann.mode rid i) o.op ins :: fs, ?_, h4, fun k => ?_⟩
            · simp only [aopsF, fWanted_ok h hw, fevals_ok h hins, hq', h1, h3]
            · cases k with
              | zero => simpa using key.2
              | succ k => simpa using h5 k
          · cases he
        · cases he
    · rename_i hw
      split at he
      · rename_i ff1 hp
        obtain ⟨fr1, h1, h2⟩ := fputNone_ok h hp
        obtain ⟨fr2, fs, h3, h4, h5⟩ := fopsL_ok hA h2 he
        refine ⟨fr2, 0 :: fs, by simp only [aopsF, fWanted_ok h hw, h1, h3], h4, fun k => ?_⟩
        cases k with
        | zero => simp
        | succ k => simpa using h5 k
      · cases he
    · cases he
theorem labsOk_mono {a b a' b' : Nat} (h : labsOk a b = true) (ha : a' ≤ a) (hb : b' ≤ b) : labsOk a' b' = true := by
  simp only [labsOk, Bool.or_eq_true, beq_iff_eq, Bool.and_eq_true] at h ⊢
  omega
theorem pairsFrom_mono {B : Ann} {all : List Oper} {cl fs gs : List Nat} {i : Nat} {x : Oper} {fx gx : Nat} (hx : gx ≤ fx) (hf : ∀ k, gs.getD k 2 ≤ fs.getD k 2) : ∀ (r : List Oper) (j : Nat), pairsFrom B all cl fs i x fx r j = true → pairsFrom B all cl gs i x gx r j = true
  | [], _, _ => rfl
  | y :: r, j, h => by
    simp only [pairsFrom, Bool.and_eq_true, Bool.or_eq_true] at h ⊢
    exact ⟨h.1.imp id fun q => ⟨labsOk_mono q.1 hx (hf j), q.2⟩, pairsFrom_mono hx hf r (j + 1) h.2⟩
theorem pairsOk_mono {B : Ann} {all : List Oper} {cl fs gs : List Nat} (hf : ∀ k, gs.getD k 2 ≤ fs.getD k 2) : ∀ (r : List Oper) (i : Nat), pairsOk B all cl fs r i = true → pairsOk B all cl gs r i = true
  | [], _, _ => rfl
  | x :: r, i, h => by
    simp only [pairsOk, Bool.and_eq_true] at h ⊢
    exact ⟨pairsFrom_mono (hf i) hf r (i + 1) h.1, pairsOk_mono hf r (i + 1) h.2⟩
/-- A drawn region is in order, by these kinds. -/
def drawOk (A : FAnn) (rid : Nat) (all : List Oper) : Bool := match A.labs rid with
  | none => true
  | some ls => backOk 0 (all.map anyEdges) && (Nat.beq ls.length all.length && pairsOk A.ann all (closure [] (all.map anyEdges)) ls all 0)
noncomputable def fdraw (E : Env) (call : Caller) (A : FAnn) (rid : Nat) (all : List Oper) (fr : FFr) (st : Store) : Option (FFr × Store) :=
  match A.labs rid with
  | none => none
  | some ls => fopsL E call A rid all all ls 0 fr st
theorem fdraw_ok (hA : A.Ok) {rid : Nat} {all : List Oper} (hd : drawOk A rid all = true) {st : Store} {r : FFr × Store} (h : FRel A ff fr) (he : fdraw E call A rid all ff st = some r) : ∃ fr', adraw E call A.ann rid all fr st = some (fr', r.2) ∧ FRel A r.1 fr' := by
  unfold fdraw at he
  unfold drawOk at hd
  split at he
  · cases he
  · rename_i ls hls
    simp only [hls, Bool.and_eq_true] at hd
    obtain ⟨hb, hlen, hp⟩ := hd
    obtain ⟨fr', fs, h1, h2, h3⟩ := fopsL_ok hA h he
    have hlen := Nat.eq_of_beq_eq_true hlen
    rw [← hlen, List.take_length] at h3
    refine ⟨fr', ?_, h2⟩
    unfold adraw
    rw [if_pos hb]
    simp only [h1]
    rw [if_pos (pairsOk_mono h3 _ _ hp)]
end
end Go.Sim
