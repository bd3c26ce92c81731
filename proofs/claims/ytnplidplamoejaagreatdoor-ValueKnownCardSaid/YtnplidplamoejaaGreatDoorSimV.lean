/- Regions whose order is drawn: which operations leave the store alone. -/
import Derived.Test.YtnplidplamoejaaGreatDoorSimU
set_option linter.unusedVariables false
set_option linter.unusedSimpArgs false
set_option linter.unnecessarySimpa false
namespace Go.Sim

section
variable {E : Env} {call : Caller} {A : Ann} {P : Look} {st st' : Store} {fr fr' : AFr}

/-- The store is no matter. -/
def Free (f : Store → Ans) : Prop := ∀ st r, f st = some r → r.2 = st ∧ ∀ st', f st' = some (r.1, st')
/-- The store is kept. -/
def Keeps (f : Store → Ans) : Prop := ∀ st r, f st = some r → r.2 = st
theorem Free.keeps {f : Store → Ans} (h : Free f) : Keeps f := fun st r hh => (h st r hh).1


theorem aMove_free {md t : Nat} {ins : List In} (hm : md ≠ 2) : Free (aMove P md t ins) := by (intro st r h; unfold aMove at h ⊢; (repeat' split at h) <;> first | (simp at h; done) | contradiction | (simp only [Option.some.injEq] at h; subst h; refine ⟨rfl, fun st' => ?_⟩; simp_all []))
theorem aPick_free {ins : List In} : Free (aPick ins) := by (intro st r h; unfold aPick at h ⊢; (repeat' split at h) <;> first | (simp at h; done) | contradiction | (simp only [Option.some.injEq] at h; subst h; refine ⟨rfl, fun st' => ?_⟩; simp_all []))
theorem aAlloc_free {md t : Nat} (hm : md = 1) : Free (aAlloc P md t) := by (intro st r h; unfold aAlloc at h ⊢; (repeat' split at h) <;> first | (simp at h; done) | contradiction | (simp only [Option.some.injEq] at h; subst h; refine ⟨rfl, fun st' => ?_⟩; simp_all []))
theorem aBox_free {md : Nat} {ins : List In} (hm : md = 1 ∨ md = 2) : Free (aBox md ins) := by
  rcases hm with rfl | rfl
  · (intro st r h; unfold aBox at h ⊢; (repeat' split at h) <;> first | (simp at h; done) | contradiction | (simp only [Option.some.injEq] at h; subst h; refine ⟨rfl, fun st' => ?_⟩; simp_all []))
  · (intro st r h; unfold aBox at h ⊢; (repeat' split at h) <;> first | (simp at h; done) | contradiction | (simp only [Option.some.injEq] at h; subst h; refine ⟨rfl, fun st' => ?_⟩; simp_all []))
theorem aBuild_free {t : Nat} {ps : List Nat} {vs : List AV} : Free (aBuild P t ps vs) := by (intro st r h; unfold aBuild at h ⊢; (repeat' split at h) <;> first | (simp at h; done) | contradiction | (simp only [Option.some.injEq] at h; subst h; refine ⟨rfl, fun st' => ?_⟩; simp_all []))
theorem aBuildSlice_free {md t len : Nat} {ps : List Nat} {vs : List AV} (hm : md ≠ 1) : Free (aBuildSlice P md t len ps vs) := by (intro st r h; unfold aBuildSlice at h ⊢; (repeat' split at h) <;> first | (simp at h; done) | contradiction | (simp only [Option.some.injEq] at h; subst h; refine ⟨rfl, fun st' => ?_⟩; simp_all []))
theorem aNilCheck_free {ins : List In} : Free (aNilCheck ins) := by (intro st r h; unfold aNilCheck at h ⊢; (repeat' split at h) <;> first | (simp at h; done) | contradiction | (simp only [Option.some.injEq] at h; subst h; refine ⟨rfl, fun st' => ?_⟩; simp_all []))
theorem aBin_free {t : Nat} {op : BinOp} {x y : Operand} {ins : List In} (hp : notPtrs ins = true) : Free (aBin P t op x y ins) := by
  intro st r h
  unfold aBin at h ⊢
  split at h
  · rename_i a b
    split at h
    · rename_i v hv
      simp only [Option.some.injEq] at h; subst h
      exact ⟨rfl, fun st' => by simp only [hv]⟩
    · unfold ptrBin at h
      split at h
      · simp [notPtrs] at hp
      · cases h
  · cases h
theorem aBin_keeps {t : Nat} {op : BinOp} {x y : Operand} {ins : List In} : Keeps (aBin P t op x y ins) := by
  intro st r h
  unfold aBin ptrBin at h
  (repeat' split at h) <;> first | (simp at h; done) | (simp only [Option.some.injEq] at h; subst h; rfl)
theorem aSliceData_free {ins : List In} : Free (aSliceData ins) := by
  intro st r h
  unfold aSliceData at h ⊢
  split at h
  · simp only [Option.some.injEq] at h; subst h; exact ⟨rfl, fun _ => rfl⟩
  · simp only [Option.some.injEq] at h; subst h; exact ⟨rfl, fun _ => rfl⟩
  · cases h
theorem aUn_free {op : UnOp} {ins : List In} : Free (aUn op ins) := by (intro st r h; unfold aUn at h ⊢; (repeat' split at h) <;> first | (simp at h; done) | contradiction | (simp only [Option.some.injEq] at h; subst h; refine ⟨rfl, fun st' => ?_⟩; simp_all []))
theorem aIface_free {t : Nat} {ins : List In} : Free (aIface P t ins) := by (intro st r h; unfold aIface at h ⊢; (repeat' split at h) <;> first | (simp at h; done) | contradiction | (simp only [Option.some.injEq] at h; subst h; refine ⟨rfl, fun st' => ?_⟩; simp_all []))
theorem aMakeFunc_free {md : Nat} {fn : Fn} {n : Nat} {vs : List AV} (hm : md ≠ 2) : Free (aMakeFunc md fn n vs) := by (intro st r h; unfold aMakeFunc at h ⊢; (repeat' split at h) <;> first | (simp at h; done) | contradiction | (simp only [Option.some.injEq] at h; subst h; refine ⟨rfl, fun st' => ?_⟩; simp_all []))
theorem aFieldAddr_free {s f : Nat} {ins : List In} : Free (aFieldAddr P s f ins) := by
  intro st r h
  unfold aFieldAddr addrBy at h ⊢
  (repeat' split at h) <;> first | (simp at h; done) | (simp only [Option.some.injEq] at h; subst h; refine ⟨rfl, fun st' => ?_⟩; simp_all)
theorem aField_free {s f : Nat} {ins : List In} : Free (aField P s f ins) := by
  intro st r h
  unfold aField partV at h ⊢
  (repeat' split at h) <;> first | (simp at h; done) | (simp only [Option.some.injEq] at h; subst h; refine ⟨rfl, fun st' => ?_⟩; simp_all)
theorem aIndexAddr_free {t : Nat} {ins : List In} : Free (aIndexAddr P t ins) := by
  intro st r h
  unfold aIndexAddr addrBy elemAddr at h ⊢
  (repeat' split at h) <;> first | (simp at h; done) | (simp only [Option.some.injEq] at h; subst h; refine ⟨rfl, fun st' => ?_⟩; simp_all)
theorem aIndex_free {t : Nat} {ins : List In} : Free (aIndex P t ins) := by
  intro st r h
  unfold aIndex indexS indexC partV at h ⊢
  (repeat' split at h) <;> first | (simp at h; done) | (simp only [Option.some.injEq] at h; subst h; refine ⟨rfl, fun st' => ?_⟩; simp_all)
theorem aExtract_free {i : Nat} {ins : List In} : Free (aExtract i ins) := by (intro st r h; unfold aExtract at h ⊢; (repeat' split at h) <;> first | (simp at h; done) | contradiction | (simp only [Option.some.injEq] at h; subst h; refine ⟨rfl, fun st' => ?_⟩; simp_all []))
theorem aMin_free {ins : List In} : Free (aMin ins) := by
  intro st r h
  unfold aMin at h ⊢
  split at h
  · injection h with h; subst h; exact ⟨rfl, fun _ => rfl⟩
  · cases h
theorem aMax_free {ins : List In} : Free (aMax ins) := by
  intro st r h
  unfold aMax at h ⊢
  split at h
  · injection h with h; subst h; exact ⟨rfl, fun _ => rfl⟩
  · cases h
theorem freeIns_cons {v : AV} {r : List In} (h : freeIns (.val v :: r) = true) : freeIn v = true ∧ freeIns r = true := by
  simpa [freeIns] using h
theorem loadCs_free {sz : Nat} {x : In} (h : freeIns [x] = true) (st st' : Store) : loadCs st sz x = loadCs st' sz x := by
  cases x with
  | loc b o cs => rfl
  | val v =>
    obtain ⟨h, _⟩ := freeIns_cons h
    cases v <;> first | rfl | simp [freeIn] at h
theorem aLoad_free {md t : Nat} {ins : List In} (hm : md ≠ 2) (hf : freeIns ins = true) : Free (aLoad P md t ins) := by
  intro st r h
  unfold aLoad at h ⊢
  split at h
  · rename_i x
    have e := fun sz st' => loadCs_free (sz := sz) hf st st'
    (repeat' split at h) <;> first | (simp at h; done) | contradiction | (simp only [Option.some.injEq] at h; subst h; refine ⟨rfl, fun st' => ?_⟩; simp_all [← e])
  · cases h
theorem aLoad_keeps {md t : Nat} {ins : List In} (hm : md ≠ 2) : Keeps (aLoad P md t ins) := by
  intro st r h
  unfold aLoad at h
  (repeat' split at h) <;> first | (simp at h; done) | contradiction | (simp only [Option.some.injEq] at h; subst h; rfl)
theorem aStore_free {t : Nat} {ins : List In} (hf : (match ins with | .loc .. :: _ => true | _ => false) = true) : Free (aStore P t ins) := by
  intro st r h
  unfold aStore storeCs at h ⊢
  (repeat' split at h) <;> first | (simp at h; done) | (simp at hf; done) | (simp only [Option.some.injEq] at h; subst h; refine ⟨rfl, fun st' => ?_⟩; simp_all)
theorem aLookup_keeps {t : Nat} {ok : Bool} {ins : List In} : Keeps (aLookup P t ok ins) := by
  intro st r h
  unfold aLookup at h
  (repeat' split at h) <;> first | (simp at h; done) | (simp only [Option.some.injEq] at h; subst h; rfl)
theorem aSlice_keeps {t : Nat} {lo hi mx : Option Operand} {ins : List In} : Keeps (aSlice P t lo hi mx ins) := by
  intro st r h
  unfold aSlice at h
  (repeat' split at h) <;> first | (simp at h; done) | (simp only [Option.some.injEq] at h; subst h; rfl)
theorem aLen_keeps {t : Nat} {ins : List In} : Keeps (aLen P t ins) := by
  intro st r h
  unfold aLen at h
  (repeat' split at h) <;> first | (simp at h; done) | (simp only [Option.some.injEq] at h; subst h; rfl)
theorem aCap_keeps {t : Nat} {ins : List In} : Keeps (aCap P t ins) := by
  intro st r h
  unfold aCap at h
  (repeat' split at h) <;> first | (simp at h; done) | (simp only [Option.some.injEq] at h; subst h; rfl)
theorem aCap_free {t : Nat} {ins : List In} : Free (aCap P t ins) := by (intro st r h; unfold aCap at h ⊢; (repeat' split at h) <;> first | (simp at h; done) | contradiction | (simp only [Option.some.injEq] at h; subst h; refine ⟨rfl, fun st' => ?_⟩; simp_all []))
theorem lenV_free {d : TypeDesc} {x : AV} (h : freeIn x = true) (st st' : Store) : lenV st d x = lenV st' d x := by
  cases d <;> first | rfl | (cases x <;> first | rfl | simp [freeIn] at h)
theorem aLen_free {t : Nat} {ins : List In} (hf : freeIns ins = true) : Free (aLen P t ins) := by
  intro st r h
  unfold aLen at h ⊢
  split at h
  · rename_i x
    have e := fun d st' => lenV_free (d := d) (freeIns_cons hf).1 st st'
    (repeat' split at h) <;> first | (simp at h; done) | (simp only [Option.some.injEq] at h; subst h; refine ⟨rfl, fun st' => ?_⟩; simp_all [← e])
  · cases h
theorem sliceV_free {t : Nat} {x : AV} {lo hi mx : Option AV} (h : freeIn x = true) (st st' : Store) : sliceV P t st x lo hi mx = sliceV P t st' x lo hi mx := by
  cases x <;> first | rfl | simp [freeIn] at h
theorem aSlice_free {t : Nat} {lo hi mx : Option Operand} {ins : List In} (hf : freeIns ins = true) : Free (aSlice P t lo hi mx ins) := by
  intro st r h
  unfold aSlice at h ⊢
  split at h
  · rename_i x rr
    have e := fun lo hi mx st' => sliceV_free (P := P) (t := t) (lo := lo) (hi := hi) (mx := mx) (freeIns_cons hf).1 st st'
    (repeat' split at h) <;> first | (simp at h; done) | (simp only [Option.some.injEq] at h; subst h; refine ⟨rfl, fun st' => ?_⟩; simp_all [← e])
  · cases h

theorem readRow_free {e : Nat} {x : AV} (h : freeIn x = true) (st st' : Store) : readRow P e st x = readRow P e st' x := by
  cases x <;> first | rfl | simp [freeIn] at h
theorem convV_free {s d : Nat} {x : AV} (hf : freeIn x = true) (hd : ∀ e, P.und d ≠ some (.slice e)) (st : Store) (r : AV × Store) (h : convV P s d x st = some r) : r.2 = st ∧ ∀ st', convV P s d x st' = some (r.1, st') := by
  unfold convV at h ⊢
  split at h
  · rename_i sd hs
    split at h
    · rename_i k hk
      unfold convInt at h ⊢
      split at h
      · injection h with h; subst h; exact ⟨rfl, fun _ => by simp [hs, hk]⟩
      · cases h
    · rename_i hk
      cases x with
      | str t => simp only [convStr, Option.some.injEq] at h; subst h; exact ⟨rfl, fun _ => by simp [hs, hk, convStr]⟩
      | _ =>
        unfold convStr strOf at h ⊢
        split at h
        · rename_i hx; cases hx
        · split at h
          · rename_i e
            have e' := fun st' => readRow_free (P := P) (e := e) hf st st'
            (repeat' split at h) <;> first | (simp at h; done) | (simp only [Option.some.injEq] at h; subst h; refine ⟨rfl, fun st' => ?_⟩; simp_all [← e'])
          · cases h
    · rename_i e hk; exact absurd hk (hd e)
    · unfold toUnsafe at h
      split at h
      · simp [freeIn] at hf
      · cases h
    · unfold fromUnsafe at h
      split at h
      · simp [freeIn] at hf
      · cases h
    · cases h
  · cases h
theorem aConv_free {s d : Nat} {ins : List In} (hf : freeIns ins = true) (hd : ∀ e, P.und d ≠ some (.slice e)) : Free (aConv P s d ins) := by
  intro st r h
  unfold aConv at h ⊢
  split at h
  · rename_i x
    split at h
    · rename_i q hq
      injection h with h; subst h
      obtain ⟨h1, h2⟩ := convV_free (freeIns_cons hf).1 hd st q hq
      exact ⟨h1, fun st' => by simp [h2 st']⟩
    · cases h
  · cases h
theorem aConv_keeps {s d : Nat} {ins : List In} (hd : ∀ e, P.und d ≠ some (.slice e)) : Keeps (aConv P s d ins) := by
  intro st r h
  unfold aConv at h
  split at h
  · rename_i x
    split at h
    · rename_i q hq
      injection h with h; subst h
      show q.2 = st
      unfold convV at hq
      split at hq
      · split at hq
        · unfold convInt at hq
          split at hq
          · injection hq with hq; subst hq; rfl
          · cases hq
        · unfold convStr strOf at hq
          (repeat' split at hq) <;> first | (simp at hq; done) | (simp only [Option.some.injEq] at hq; subst hq; rfl)
        · rename_i e hk; exact absurd hk (hd e)
        · unfold toUnsafe at hq
          (repeat' split at hq) <;> first | (simp at hq; done) | (simp only [Option.some.injEq] at hq; subst hq; rfl)
        · unfold fromUnsafe at hq
          (repeat' split at hq) <;> first | (simp at hq; done) | (simp only [Option.some.injEq] at hq; subst hq; rfl)
        · cases hq
      · cases hq
    · cases h
  · cases h
theorem notSlice {d : Nat} (h : notSliceT P d = true) : ∀ e, P.und d ≠ some (.slice e) := by
  intro e he
  unfold notSliceT at h
  rw [he] at h; cases h
theorem aop_free {md ty : Nat} {o : Op} {ins : List In} (h : freeOp P md o ins = true) : Free (aop P md ty o ins) := by
  cases o with
  | move x => exact aMove_free (by simpa [freeOp] using h)
  | assign x => exact aMove_free (by simpa [freeOp] using h)
  | pick c a b => exact aPick_free
  | alloc t => exact aAlloc_free (by simpa [freeOp] using h)
  | box t x => exact aBox_free (by simpa [freeOp] using h)
  | build t ps =>
    cases hv : valsOf ins with
    | none => exact fun st r h => by simp [aop, hv] at h
    | some vs =>
      rw [show aop P md ty (.build t ps) ins = aBuild P t (ps.toList.map (·.1)) vs from by funext st; simp only [aop, hv]]
      exact aBuild_free
  | buildSlice t len ps =>
    cases hv : valsOf ins with
    | none => exact fun st r h => by simp [aop, hv] at h
    | some vs =>
      rw [show aop P md ty (.buildSlice t len ps) ins = aBuildSlice P md t len (ps.toList.map (·.1)) vs from by funext st; simp only [aop, hv]]
      exact aBuildSlice_free (by simpa [freeOp] using h)
  | load t x =>
    have h' : md ≠ 2 ∧ freeIns ins = true := by simpa [freeOp] using h
    exact aLoad_free h'.1 h'.2
  | store t a x => exact aStore_free h
  | nilCheck x => exact aNilCheck_free
  | binOp op t x y r => exact aBin_free h
  | unOp op t x => exact aUn_free
  | convert s d x =>
    have h' : freeIns ins = true ∧ notSliceT P d = true := by simpa [freeOp] using h
    exact aConv_free h'.1 (notSlice h'.2)
  | makeInterface t x => exact aIface_free
  | makeFunc fn first captured =>
    cases hv : valsOf ins with
    | none => exact fun st r h => by simp [aop, hv] at h
    | some vs =>
      rw [show aop P md ty (.makeFunc fn first captured) ins = aMakeFunc md fn first.size vs from by funext st; simp only [aop, hv]]
      exact aMakeFunc_free (by simpa [freeOp] using h)
  | slice t x lo hi mx => exact aSlice_free h
  | fieldAddr s x f => exact aFieldAddr_free
  | field s x f => exact aField_free
  | indexAddr t x i => exact aIndexAddr_free
  | index t x i => exact aIndex_free
  | extract x i => exact aExtract_free
  | call c =>
    simp only [freeOp] at h
    split at h
    · rename_i hc
      cases ht : c.argTypes[0]? with
      | none => exact fun st r h => by simp [aop, hc, aBuiltin, ht] at h
      | some t =>
        rw [show aop P md ty (.call c) ins = aLen P t ins from by funext st; simp only [aop, hc, aBuiltin, ht]]
        exact aLen_free h
    · rename_i hc
      cases ht : c.argTypes[0]? with
      | none => exact fun st r h => by simp [aop, hc, aBuiltin, ht] at h
      | some t =>
        rw [show aop P md ty (.call c) ins = aCap P t ins from by funext st; simp only [aop, hc, aBuiltin, ht]]
        exact aCap_free
    · rename_i hc
      rw [show aop P md ty (.call c) ins = aMin ins from by funext st; simp only [aop, hc, aBuiltin]]
      exact aMin_free
    · rename_i hc
      rw [show aop P md ty (.call c) ins = aMax ins from by funext st; simp only [aop, hc, aBuiltin]]
      exact aMax_free
    · rename_i hc
      rw [show aop P md ty (.call c) ins = aSliceData ins from by funext st; simp only [aop, hc, aBuiltin]]
      exact aSliceData_free
    · cases h
  | _ => simp [freeOp] at h
theorem aop_keeps {md ty : Nat} {o : Op} {ins : List In} (h : keepOp P md o = true) : Keeps (aop P md ty o ins) := by
  cases o with
  | load t x => exact aLoad_keeps (by simpa [keepOp] using h)
  | slice t x lo hi mx => exact aSlice_keeps
  | lookup t x i ok => exact aLookup_keeps
  | binOp op t x y r => exact aBin_keeps
  | convert s d x => exact aConv_keeps (notSlice (by simpa [keepOp] using h))
  | call c =>
    simp only [keepOp] at h
    split at h
    · rename_i hc
      cases ht : c.argTypes[0]? with
      | none => exact fun st r h => by simp [aop, hc, aBuiltin, ht] at h
      | some t =>
        rw [show aop P md ty (.call c) ins = aLen P t ins from by funext st; simp only [aop, hc, aBuiltin, ht]]
        exact aLen_keeps
    · rename_i hc
      cases ht : c.argTypes[0]? with
      | none => exact fun st r h => by simp [aop, hc, aBuiltin, ht] at h
      | some t =>
        rw [show aop P md ty (.call c) ins = aCap P t ins from by funext st; simp only [aop, hc, aBuiltin, ht]]
        exact aCap_keeps
    · cases h
  | _ => simp [keepOp] at h
theorem aout_eq {md : Nat} {o : Oper} {ins : List In} (h : freeOp E.L md o.op ins = true ∨ keepOp E.L md o.op = true) : aout E call md o ins = aop E.L md o.type o.op ins := by
  funext st
  unfold aout
  split
  · rename_i c hc
    rw [hc] at h
    split
    · rename_i f hf; simp [freeOp, keepOp, hf] at h
    · rename_i r n hf; simp [freeOp, keepOp, hf] at h
    · rw [hc]
  · rfl
theorem aout_lab {md : Nat} {o : Oper} {ins : List In} {r : Out × Store} (h : aout E call md o ins st = some r) :
    (labOp E.L md o.op ins = 0 → r.2 = st ∧ ∀ st', aout E call md o ins st' = some (r.1, st')) ∧ (labOp E.L md o.op ins = 1 → r.2 = st) := by
  unfold labOp
  by_cases hf : freeOp E.L md o.op ins = true
  · rw [if_pos hf]
    rw [aout_eq (.inl hf)] at h ⊢
    exact ⟨fun _ => aop_free hf st r h, fun hh => by cases hh⟩
  · rw [if_neg hf]
    by_cases hk : keepOp E.L md o.op = true
    · rw [if_pos hk]
      rw [aout_eq (.inr hk)] at h
      exact ⟨fun hh => (by cases hh), fun _ => aop_keeps hk st r h⟩
    · rw [if_neg hk]
      exact ⟨fun hh => (by cases hh), fun hh => by cases hh⟩
end
end Go.Sim
