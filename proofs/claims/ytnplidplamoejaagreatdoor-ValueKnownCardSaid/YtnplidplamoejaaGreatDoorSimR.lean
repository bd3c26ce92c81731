/- What operations answer: all that call no function. -/
import Derived.Test.YtnplidplamoejaaGreatDoorSimR0
set_option linter.unusedVariables false
set_option linter.unusedSimpArgs false
set_option linter.unnecessarySimpa false
namespace Go.Sim
open Go.WideShapes (add_plain)

section
variable {P : Program} {g : Gh} {B : Nat → Nat} {st st' : Store} {w : World} {out : Out}

/-- What an operation that calls nothing comes to. -/
def NextOk (g : Gh) (B : Nat → Nat) (P : Program) (st' : Store) (w : World) (out : Out) (s : Sem Next) : Prop :=
  ∃ v w', (s.run P w = .ok (.value v) w' ∨ (s.run P w = .ok .skip w' ∧ v = undef)) ∧ OutOk g B st' w out v w'
theorem ValOk.next {s : Sem Value} (h : ValOk g B P st' w out s) : NextOk g B P st' w out (do Pure.pure (Next.value (← s))) := by
  obtain ⟨v, w', h1, h2⟩ := h
  exact ⟨v, w', .inl (by rw [Sem.run_bind, h1]; rfl), h2⟩
theorem UnitOk.next {s : Sem Unit} (h : UnitOk g B P st' w out s) : NextOk g B P st' w out (do s; Pure.pure Next.skip) := by
  obtain ⟨w', h1, h2⟩ := h
  exact ⟨undef, w', .inr ⟨by rw [Sem.run_bind, h1]; rfl, rfl⟩, h2⟩
theorem valsOf_ok : ∀ {ins : List In} {vs : List Value} {xs : List AV}, valsOf ins = some xs → InsRel g B w ins vs → Reps g vs xs
  | [], vs, xs, h, hin => by
    cases hin
    simp [valsOf] at h; subst h; exact .nil
  | .val x :: r, vs, xs, h, hin => by
    match vs, hin with
    | v :: vs, .cons _ _ _ _ hx hs =>
      simp only [valsOf] at h
      split at h
      · rename_i ys hy
        simp only [Option.some.injEq] at h; subst h
        exact .cons _ _ _ _ hx (valsOf_ok hy hs)
      · cases h
  | .loc .. :: r, vs, xs, h, hin => by simp [valsOf] at h
theorem aNilCheck_ok {ins : List In} {v : Value} {ρ : Operand → Value} {x : Operand} {o : Oper} (ho : o.op = .nilCheck x) (hv : ρ x = v) (h : aNilCheck ins st = some (out, st')) (hin : InsRel g B w ins [v]) (hi : Inv g st w) : NextOk g B P st' w out (execOp ρ o) := by
  match ins, hin with
  | [.val y], .cons _ _ _ _ hy .nil =>
    simp only [aNilCheck] at h
    split at h
    · rename_i hn
      simp only [Option.some.injEq, Prod.mk.injEq] at h
      obtain ⟨rfl, rfl⟩ := h
      refine ⟨v, w, .inl ?_, OutOk.pure hi hy⟩
      unfold execOp
      rw [ho]
      simp only [hv]
      cases hy with
      | func fn a b x' y' hf ha hb =>
        cases fn with
        | func f => rfl
        | _ => simp [notNil] at hn
      | ptr => rfl
      | rptr => rfl
      | iface => rfl
      | yield => simp [notNil] at hn
      | _ => simp [notNil] at hn
    · cases h
  | [.loc b off cs], .cons _ _ _ _ hy .nil =>
    simp only [aNilCheck, Option.some.injEq, Prod.mk.injEq] at h
    obtain ⟨rfl, rfl⟩ := h
    obtain ⟨rfl, _⟩ := hy
    refine ⟨_, w, .inl ?_, rfl, rfl, hi⟩
    unfold execOp
    rw [ho]
    simp only [hv]
    rfl
theorem array_of_list {α : Type} {a : Array α} {l : List α} (h : a.toList = l) : a = l.toArray := by rw [← h]
theorem InsRel.length {ins : List In} {vs : List Value} (h : InsRel g B w ins vs) : ins.length = vs.length := by
  match h with
  | .nil => rfl
  | .cons _ _ _ _ _ hs => simp [InsRel.length hs]
theorem aBuiltin_ok {md : Nat} {b : Builtin} {ts : Array TypeId} {ty : TypeId} {ins : List In} {args : Array Value} {cs : Array Bool} (h : aBuiltin P md b ts ins st = some (out, st')) (hin : InsRel g B w ins args.toList) (hi : Inv g st w) :
    NextOk g B P st' w out (builtin b ts ty cs args) := by
  have one : ∀ {ins : List In} {P' : Prop}, InsRel g B w ins args.toList → ins.length = 1 → ∃ a, args = #[a] := by
    intro ins _ h1 h2
    have h3 := h1.length
    rw [h2, Array.length_toList] at h3
    refine ⟨args[0], ?_⟩
    apply Array.ext
    · simp [← h3]
    · intro i hi1 hi2
      have : i = 0 := by simp at hi2; omega
      subst this; rfl
  have two : ∀ {ins : List In}, InsRel g B w ins args.toList → ins.length = 2 → ∃ a b, args = #[a, b] := by
    intro ins h1 h2
    have h3 := h1.length
    rw [h2, Array.length_toList] at h3
    refine ⟨args[0], args[1], ?_⟩
    apply Array.ext
    · simp [← h3]
    · intro i hi1 hi2
      have : i = 0 ∨ i = 1 := by simp at hi2; omega
      rcases this with rfl | rfl <;> rfl
  cases b with
  | len =>
    simp only [aBuiltin] at h
    split at h
    · rename_i t ht
      have hl : ins.length = 1 := by
        unfold aLen at h
        split at h
        · rfl
        · cases h
      obtain ⟨a, rfl⟩ := one (P' := True) hin hl
      exact (aLen_ok (P := P) ht h hin hi).next
    · cases h
  | cap =>
    simp only [aBuiltin] at h
    split at h
    · rename_i t ht
      have hl : ins.length = 1 := by
        unfold aCap at h
        split at h
        · rfl
        · cases h
      obtain ⟨a, rfl⟩ := one (P' := True) hin hl
      exact (aCap_ok (P := P) ht h hin hi).next
    · cases h
  | append =>
    simp only [aBuiltin] at h
    split at h
    · rename_i t ht
      split at h
      · rename_i t1 ht1
        have hl : ins.length = 2 := by
          unfold aAppend at h
          split at h
          · rfl
          · cases h
        obtain ⟨a, b, rfl⟩ := two hin hl
        exact (aAppend_ok (P := P) ht ht1 h hin hi).next
      · cases h
    · cases h
  | copy =>
    simp only [aBuiltin] at h
    split at h
    · rename_i t ht
      have hl : ins.length = 2 := by
        unfold aCopy at h
        split at h
        · rfl
        · cases h
      obtain ⟨a, b, rfl⟩ := two hin hl
      exact (aCopy_ok (P := P) ht h hin hi).next
    · cases h
  | min =>
    simp only [aBuiltin] at h
    have hl : ins.length = 2 := by
      unfold aMin at h
      split at h
      · rfl
      · cases h
    obtain ⟨a, b, rfl⟩ := two hin hl
    exact (aMin_ok (P := P) h hin hi).next
  | max =>
    simp only [aBuiltin] at h
    have hl : ins.length = 2 := by
      unfold aMax at h
      split at h
      · rfl
      · cases h
    obtain ⟨a, b, rfl⟩ := two hin hl
    exact (aMax_ok (P := P) h hin hi).next
  | unsafeSliceData =>
    simp only [aBuiltin] at h
    have hl : ins.length = 1 := by
      unfold aSliceData at h
      split at h
      · rfl
      · rfl
      · cases h
    obtain ⟨a, rfl⟩ := one (P' := True) hin hl
    exact (aSliceData_ok (P := P) h hin hi).next
  | unsafeString =>
    simp only [aBuiltin] at h
    split at h
    · rename_i pt it hts
      have hl : ins.length = 2 := by
        unfold aUnsafeStr at h
        split at h
        · rfl
        · rfl
        · cases h
      obtain ⟨a, b, rfl⟩ := two hin hl
      exact (aUnsafeStr_ok (P := P) h hin hi (array_of_list hts)).next
    · cases h
  | _ => simp [aBuiltin] at h
theorem nextOf {s : Sem Next} {s' : Sem Next} (h : NextOk g B P st' w out s) (e : s' = s) : NextOk g B P st' w out s' := e ▸ h
theorem optList {α β : Type} (x : Option α) (f : α → β) : (x.toArray.toList.map f) = (x.map f).toList := by cases x <;> simp
theorem aop_ok {md : Nat} {o : Oper} {ins : List In} {ρ : Operand → Value} (h : aop P md o.type o.op ins st = some (out, st')) (hin : InsRel g B w ins (o.op.operands.toList.map ρ)) (hi : Inv g st w) : NextOk g B P st' w out (execOp ρ o) := by
  cases ho : o.op with
  | move x =>
    simp only [ho, aop, Op.operands, List.map_cons, List.map_nil] at h hin
    exact ⟨_, w, .inl (by simp [execOp, ho]), aMove_ok (P := P) h hin hi⟩
  | assign x =>
    simp only [ho, aop, Op.operands, List.map_cons, List.map_nil] at h hin
    exact ⟨_, w, .inl (by simp [execOp, ho]), aMove_ok (P := P) h hin hi⟩
  | pick c a b =>
    simp only [ho, aop, Op.operands, List.map_cons, List.map_nil] at h hin
    obtain ⟨v, w', h1, h2⟩ := aPick_ok (P := P) h hin hi
    exact ⟨v, w', .inl (by
      simp only [execOp, ho, Sem.run_bind, Sem.run_pure] at h1 ⊢
      cases hb : (asBool (ρ c)).run P w with
      | ok b w1 => simp only [hb, Result.andThen_ok, Result.ok.injEq] at h1 ⊢; obtain ⟨rfl, rfl⟩ := h1; exact ⟨rfl, rfl⟩
      | halt a b => simp [hb] at h1), h2⟩
  | alloc t =>
    simp only [ho, aop] at h
    exact nextOf (aAlloc_ok (P := P) h hi).next (by simp only [execOp, ho])
  | box t x =>
    simp only [ho, aop, Op.operands, List.map_cons, List.map_nil] at h hin
    exact nextOf (aBox_ok (P := P) (t := t) h hin hi).next (by simp only [execOp, ho])
  | build t ps =>
    simp only [ho, aop] at h
    split at h
    · rename_i vs hv
      have hr := valsOf_ok hv hin
      simp only [ho, Op.operands] at hr
      exact nextOf (aBuild_ok (P := P) (ρ := ρ) h (by simpa [Function.comp_def] using hr) hi).next (by simp only [execOp, ho])
    · cases h
  | buildSlice t len ps =>
    simp only [ho, aop] at h
    split at h
    · rename_i vs hv
      have hr := valsOf_ok hv hin
      simp only [ho, Op.operands] at hr
      exact nextOf (aBuildSlice_ok (P := P) (ρ := ρ) h (by simpa [Function.comp_def] using hr) hi).next (by simp only [execOp, ho])
    · cases h
  | load t x =>
    simp only [ho, aop, Op.operands, List.map_cons, List.map_nil] at h hin
    exact nextOf (aLoad_ok (P := P) h hin hi).next (by simp only [execOp, ho])
  | store t a x =>
    simp only [ho, aop, Op.operands, List.map_cons, List.map_nil] at h hin
    exact nextOf (aStore_ok (P := P) h hin hi).next (by simp only [execOp, ho])
  | nilCheck x =>
    simp only [ho, aop, Op.operands, List.map_cons, List.map_nil] at h hin
    exact aNilCheck_ok ho rfl h hin hi
  | binOp op t x y r =>
    simp only [ho, aop, Op.operands, List.map_cons, List.map_nil] at h hin
    exact nextOf (aBin_ok (P := P) h hin hi).next (by simp only [execOp, ho])
  | unOp op t x =>
    simp only [ho, aop, Op.operands, List.map_cons, List.map_nil] at h hin
    exact nextOf (aUn_ok (P := P) h hin hi).next (by simp only [execOp, ho])
  | convert s d x =>
    simp only [ho, aop, Op.operands, List.map_cons, List.map_nil] at h hin
    exact nextOf (aConv_ok (P := P) h hin hi).next (by simp only [execOp, ho])
  | makeInterface t x =>
    simp only [ho, aop, Op.operands, List.map_cons, List.map_nil] at h hin
    exact nextOf (aIface_ok (P := P) h hin hi).next (by simp only [execOp, ho])
  | makeFunc fn first captured =>
    simp only [ho, aop] at h
    split at h
    · rename_i vs hv
      have hr := valsOf_ok hv hin
      simp only [ho, Op.operands] at hr
      refine nextOf (aMakeFunc_ok (a := first.map ρ) (b := captured.map ρ) (xs := vs) (by simpa using h) (by simpa [Function.comp_def] using hr) hi).next (by simp only [execOp, ho])
    · cases h
  | makeMap t r =>
    cases r with
    | none =>
      simp only [ho, aop, Option.some.injEq, Prod.mk.injEq] at h
      obtain ⟨rfl, rfl⟩ := h
      exact nextOf (aMakeMap_ok (t := t) hi).next (by simp only [execOp, ho]; rfl)
    | some r => simp [ho, aop] at h
  | makeSlice t l c =>
    simp only [ho, aop, Op.operands, List.map_cons, List.map_nil] at h hin
    exact nextOf (aMakeSlice_ok (P := P) h hin hi).next (by simp only [execOp, ho])
  | slice t x lo hi' mx =>
    simp only [ho, aop] at h
    simp only [ho, Op.operands, Array.toList_append, List.map_append, optList] at hin
    exact nextOf (aSlice_ok (P := P) (ρ := ρ) h (by simpa using hin) hi).next (by simp only [execOp, ho])
  | fieldAddr s x f =>
    simp only [ho, aop, Op.operands, List.map_cons, List.map_nil] at h hin
    exact nextOf (aFieldAddr_ok (P := P) h hin hi).next (by simp only [execOp, ho])
  | field s x f =>
    simp only [ho, aop, Op.operands, List.map_cons, List.map_nil] at h hin
    exact nextOf (aField_ok (P := P) h hin hi).next (by simp only [execOp, ho])
  | indexAddr t x i =>
    simp only [ho, aop, Op.operands, List.map_cons, List.map_nil] at h hin
    exact nextOf (aIndexAddr_ok (P := P) h hin hi).next (by simp only [execOp, ho])
  | index t x i =>
    simp only [ho, aop, Op.operands, List.map_cons, List.map_nil] at h hin
    exact nextOf (aIndex_ok (P := P) h hin hi).next (by simp only [execOp, ho])
  | lookup t x i ok =>
    simp only [ho, aop, Op.operands, List.map_cons, List.map_nil] at h hin
    exact nextOf (aLookup_ok (P := P) h hin hi).next (by simp only [execOp, ho])
  | mapUpdate t m k v =>
    simp only [ho, aop, Op.operands, List.map_cons, List.map_nil] at h hin
    exact nextOf (aMapSet_ok (P := P) h hin hi).next (by simp only [execOp, ho])
  | insert t m k v =>
    simp only [ho, aop, Op.operands, List.map_cons, List.map_nil] at h hin
    exact nextOf (aMapSet_ok (P := P) h hin hi).next (by simp only [execOp, ho])
  | extract x i =>
    simp only [ho, aop, Op.operands, List.map_cons, List.map_nil] at h hin
    exact nextOf (aExtract_ok (P := P) h hin hi).next (by simp only [execOp, ho])
  | range t x =>
    simp only [ho, aop, Op.operands, List.map_cons, List.map_nil] at h hin
    exact nextOf (aRange_ok (P := P) h hin hi).next (by simp only [execOp, ho])
  | next it s =>
    cases s with
    | true =>
      simp only [ho, aop, Op.operands, List.map_cons, List.map_nil] at h hin
      exact nextOf (aNext_ok (P := P) (ty := o.type) h hin hi).next (by simp only [execOp, ho])
    | false => simp [ho, aop] at h
  | call c =>
    simp only [ho, aop] at h
    split at h
    · rename_i b hb
      simp only [ho, Op.operands, Call.operands, hb] at hin
      have e : ∃ cs, execOp ρ o = builtin b c.argTypes o.type cs (c.args.map ρ) := ⟨_, by simp only [execOp, ho, resolve, hb, invoke, pure_bind]; exact rfl⟩
      obtain ⟨cs, e⟩ := e
      exact nextOf (aBuiltin_ok (args := c.args.map ρ) (ty := o.type) (cs := cs) h (by simpa using hin) hi) e
    · cases h
  | _ => simp [ho, aop] at h
end
end Go.Sim
