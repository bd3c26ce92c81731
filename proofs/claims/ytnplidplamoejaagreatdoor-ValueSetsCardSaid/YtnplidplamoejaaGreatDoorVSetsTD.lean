/- Part of the proof that litmuslaw11.ValueSets answers true for every input. -/
import Derived.Test.YtnplidplamoejaaGreatDoorVSetsTC
import Derived.OrdersIn
import Derived.RangeFuncRecord
set_option linter.unusedVariables false
set_option linter.unusedSimpArgs false
set_option linter.unnecessarySimpa false
namespace Go.Sim

section
variable {E : Env} {call : Caller} {A : Ann} {P : Look} {st st' : Store} {fr fr' : AFr}

/-- The store is no matter. -/
def Free (f : Store → Ans) : Prop := ∀ st r, f st = some r → r.2 = st ∧ ∀ st', f st' = some (r.1, st')
/-- The store is kept. -/
def Keeps (f : Store → Ans) : Prop := ∀ st r, f st = some r → r.2 = st
theorem Free.keeps {f : Store → Ans} (h : Free f) : Keeps f := fun st r hh => (h st r hh).1


theorem aMove_free {md t : Nat} {ins : List In} (hm : md ≠ 2) : Free (aMove P md t ins) := by (intro st r h; unfold aMove at h ⊢; (repeat' split at h) <;> first | (simp at h; done) | contradiction | (simp only [Option.some.injEq] at h; subst h; refine ⟨rfl, fun st' => ?_⟩; simp_all []))
theorem aPick_free {ins : List In} : Free (aPick ins) := by (intro st r h; unfold aPick at h ⊢; (repeat' split at h) <;> first | (simp at h; done) | contradiction | (simp only [Option.some.injEq] at h; subst h; refine ⟨rfl, fun st' => ?_⟩; simp_all []))
theorem aAlloc_free {md t : Nat} (hm : md = 1) : Free (aAlloc P md t) := by (intro st r h; unfold aAlloc at h ⊢; (repeat' split at h) <;> first | (simp at h; done) | contradiction | (simp only [Option.some.injEq] at h; subst h; refine ⟨rfl, fun st' => ?_⟩; simp_all []))
theorem aBox_free {md : Nat} {ins : List In} (hm : md = 1 ∨ md = 2) : Free (aBox md ins) := by
  rcases hm with rfl | rfl
  · (intro st r h; unfold aBox at h ⊢; (repeat' split at h) <;> first | (simp at h; done) | contradiction | (simp only [Option.some.injEq] at h; subst h; refine ⟨rfl, fun st' => ?_⟩; simp_all []))
  · (intro st r h; unfold aBox at h ⊢; (repeat' split at h) <;> first | (simp at h; done) | contradiction | (simp only [Option.some.injEq] at h; subst h; refine ⟨rfl, fun st' => ?_⟩; simp_all []))
theorem aBuild_free {t : Nat} {ps : List Nat} {vs : List AV} : Free (aBuild P t ps vs) := by (intro st r h; unfold aBuild at h ⊢; (repeat' split at h) <;> first | (simp at h; done) | contradiction | (simp only [Option.some.injEq] at h; subst h; refine ⟨rfl, fun st' => ?_⟩; simp_all []))
theorem aBuildSlice_free {md t len : Nat} {ps : List Nat} {vs : List AV} (hm : md ≠ 1) : Free (aBuildSlice P md t len ps vs) := by (intro st r h; unfold aBuildSlice at h ⊢; (repeat' split at h) <;> first | (simp at h; done) | contradiction | (simp only [Option.some.injEq] at h; subst h; refine ⟨rfl, fun st' => ?_⟩; simp_all []))
theorem aNilCheck_free {ins : List In} : Free (aNilCheck ins) := by (intro st r h; unfold aNilCheck at h ⊢; (repeat' split at h) <;> first | (simp at h; done) | contradiction | (simp only [Option.some.injEq] at h; subst h; refine ⟨rfl, fun st' => ?_⟩; simp_all []))
theorem aBin_free {t : Nat} {op : BinOp} {x y : Operand} {ins : List In} (hp : notPtrs ins = true) : Free (aBin P t op x y ins) := by
  intro st r h
  unfold aBin at h ⊢
  split at h
  · rename_i a b
    split at h
    · rename_i v hv
      simp only [Option.some.injEq] at h; subst h
      exact ⟨rfl, fun st' => by simp only [hv]⟩
    · unfold ptrBin at h
      split at h
      · simp [notPtrs] at hp
      · cases h
  · cases h
theorem aBin_keeps {t : Nat} {op : BinOp} {x y : Operand} {ins : List In} : Keeps (aBin P t op x y ins) := by
  intro st r h
  unfold aBin ptrBin at h
  (repeat' split at h) <;> first | (simp at h; done) | (simp only [Option.some.injEq] at h; subst h; rfl)
theorem aSliceData_free {ins : List In} : Free (aSliceData ins) := by
  intro st r h
  unfold aSliceData at h ⊢
  split at h
  · simp only [Option.some.injEq] at h; subst h; exact ⟨rfl, fun _ => rfl⟩
  · simp only [Option.some.injEq] at h; subst h; exact ⟨rfl, fun _ => rfl⟩
  · cases h
theorem aUn_free {op : UnOp} {ins : List In} : Free (aUn op ins) := by (intro st r h; unfold aUn at h ⊢; (repeat' split at h) <;> first | (simp at h; done) | contradiction | (simp only [Option.some.injEq] at h; subst h; refine ⟨rfl, fun st' => ?_⟩; simp_all []))
theorem aIface_free {t : Nat} {ins : List In} : Free (aIface P t ins) := by (intro st r h; unfold aIface at h ⊢; (repeat' split at h) <;> first | (simp at h; done) | contradiction | (simp only [Option.some.injEq] at h; subst h; refine ⟨rfl, fun st' => ?_⟩; simp_all []))
theorem aMakeFunc_free {md : Nat} {fn : Fn} {n : Nat} {vs : List AV} (hm : md ≠ 2) : Free (aMakeFunc md fn n vs) := by (intro st r h; unfold aMakeFunc at h ⊢; (repeat' split at h) <;> first | (simp at h; done) | contradiction | (simp only [Option.some.injEq] at h; subst h; refine ⟨rfl, fun st' => ?_⟩; simp_all []))
theorem aFieldAddr_free {s f : Nat} {ins : List In} : Free (aFieldAddr P s f ins) := by
  intro st r h
  unfold aFieldAddr addrBy at h ⊢
  (repeat' split at h) <;> first | (simp at h; done) | (simp only [Option.some.injEq] at h; subst h; refine ⟨rfl, fun st' => ?_⟩; simp_all)
theorem aField_free {s f : Nat} {ins : List In} : Free (aField P s f ins) := by
  intro st r h
  unfold aField partV at h ⊢
  (repeat' split at h) <;> first | (simp at h; done) | (simp only [Option.some.injEq] at h; subst h; refine ⟨rfl, fun st' => ?_⟩; simp_all)
theorem aIndexAddr_free {t : Nat} {ins : List In} : Free (aIndexAddr P t ins) := by
  intro st r h
  unfold aIndexAddr addrBy elemAddr at h ⊢
  (repeat' split at h) <;> first | (simp at h; done) | (simp only [Option.some.injEq] at h; subst h; refine ⟨rfl, fun st' => ?_⟩; simp_all)
theorem aIndex_free {t : Nat} {ins : List In} : Free (aIndex P t ins) := by
  intro st r h
  unfold aIndex indexS indexC partV at h ⊢
  (repeat' split at h) <;> first | (simp at h; done) | (simp only [Option.some.injEq] at h; subst h; refine ⟨rfl, fun st' => ?_⟩; simp_all)
theorem aExtract_free {i : Nat} {ins : List In} : Free (aExtract i ins) := by (intro st r h; unfold aExtract at h ⊢; (repeat' split at h) <;> first | (simp at h; done) | contradiction | (simp only [Option.some.injEq] at h; subst h; refine ⟨rfl, fun st' => ?_⟩; simp_all []))
theorem aMin_free {ins : List In} : Free (aMin ins) := by
  intro st r h
  unfold aMin at h ⊢
  split at h
  · injection h with h; subst h; exact ⟨rfl, fun _ => rfl⟩
  · cases h
theorem aMax_free {ins : List In} : Free (aMax ins) := by
  intro st r h
  unfold aMax at h ⊢
  split at h
  · injection h with h; subst h; exact ⟨rfl, fun _ => rfl⟩
  · cases h
theorem freeIns_cons {v : AV} {r : List In} (h : freeIns (.val v :: r) = true) : freeIn v = true ∧ freeIns r = true := by
  simpa [freeIns] using h
theorem loadCs_free {sz : Nat} {x : In} (h : freeIns [x] = true) (st st' : Store) : loadCs st sz x = loadCs st' sz x := by
  cases x with
  | loc b o cs => rfl
  | val v =>
    obtain ⟨h, _⟩ := freeIns_cons h
    cases v <;> first | rfl | simp [freeIn] at h
theorem aLoad_free {md t : Nat} {ins : List In} (hm : md ≠ 2) (hf : freeIns ins = true) : Free (aLoad P md t ins) := by
  intro st r h
  unfold aLoad at h ⊢
  split at h
  · rename_i x
    have e := fun sz st' => loadCs_free (sz := sz) hf st st'
    (repeat' split at h) <;> first | (simp at h; done) | contradiction | (simp only [Option.some.injEq] at h; subst h; refine ⟨rfl, fun st' => ?_⟩; simp_all [← e])
  · cases h
theorem aLoad_keeps {md t : Nat} {ins : List In} (hm : md ≠ 2) : Keeps (aLoad P md t ins) := by
  intro st r h
  unfold aLoad at h
  (repeat' split at h) <;> first | (simp at h; done) | contradiction | (simp only [Option.some.injEq] at h; subst h; rfl)
theorem aStore_free {t : Nat} {ins : List In} (hf : (match ins with | .loc .. :: _ => true | _ => false) = true) : Free (aStore P t ins) := by
  intro st r h
  unfold aStore storeCs at h ⊢
  (repeat' split at h) <;> first | (simp at h; done) | (simp at hf; done) | (simp only [Option.some.injEq] at h; subst h; refine ⟨rfl, fun st' => ?_⟩; simp_all)
theorem aLookup_keeps {t : Nat} {ok : Bool} {ins : List In} : Keeps (aLookup P t ok ins) := by
  intro st r h
  unfold aLookup at h
  (repeat' split at h) <;> first | (simp at h; done) | (simp only [Option.some.injEq] at h; subst h; rfl)
theorem aSlice_keeps {t : Nat} {lo hi mx : Option Operand} {ins : List In} : Keeps (aSlice P t lo hi mx ins) := by
  intro st r h
  unfold aSlice at h
  (repeat' split at h) <;> first | (simp at h; done) | (simp only [Option.some.injEq] at h; subst h; rfl)
theorem aLen_keeps {t : Nat} {ins : List In} : Keeps (aLen P t ins) := by
  intro st r h
  unfold aLen at h
  (repeat' split at h) <;> first | (simp at h; done) | (simp only [Option.some.injEq] at h; subst h; rfl)
theorem aCap_keeps {t : Nat} {ins : List In} : Keeps (aCap P t ins) := by
  intro st r h
  unfold aCap at h
  (repeat' split at h) <;> first | (simp at h; done) | (simp only [Option.some.injEq] at h; subst h; rfl)
theorem aCap_free {t : Nat} {ins : List In} : Free (aCap P t ins) := by (intro st r h; unfold aCap at h ⊢; (repeat' split at h) <;> first | (simp at h; done) | contradiction | (simp only [Option.some.injEq] at h; subst h; refine ⟨rfl, fun st' => ?_⟩; simp_all []))
theorem lenV_free {d : TypeDesc} {x : AV} (h : freeIn x = true) (st st' : Store) : lenV st d x = lenV st' d x := by
  cases d <;> first | rfl | (cases x <;> first | rfl | simp [freeIn] at h)
theorem aLen_free {t : Nat} {ins : List In} (hf : freeIns ins = true) : Free (aLen P t ins) := by
  intro st r h
  unfold aLen at h ⊢
  split at h
  · rename_i x
    have e := fun d st' => lenV_free (d := d) (freeIns_cons hf).1 st st'
    (repeat' split at h) <;> first | (simp at h; done) | (simp only [Option.some.injEq] at h; subst h; refine ⟨rfl, fun st' => ?_⟩; simp_all [← e])
  · cases h
theorem sliceV_free {t : Nat} {x : AV} {lo hi mx : Option AV} (h : freeIn x = true) (st st' : Store) : sliceV P t st x lo hi mx = sliceV P t st' x lo hi mx := by
  cases x <;> first | rfl | simp [freeIn] at h
theorem aSlice_free {t : Nat} {lo hi mx : Option Operand} {ins : List In} (hf : freeIns ins = true) : Free (aSlice P t lo hi mx ins) := by
  intro st r h
  unfold aSlice at h ⊢
  split at h
  · rename_i x rr
    have e := fun lo hi mx st' => sliceV_free (P := P) (t := t) (lo := lo) (hi := hi) (mx := mx) (freeIns_cons hf).1 st st'
    (repeat' split at h) <;> first | (simp at h; done) | (simp only [Option.some.injEq] at h; subst h; refine ⟨rfl, fun st' => ?_⟩; simp_all [← e])
  · cases h

theorem readRow_free {e : Nat} {x : AV} (h : freeIn x = true) (st st' : Store) : readRow P e st x = readRow P e st' x := by
  cases x <;> first | rfl | simp [freeIn] at h
theorem convV_free {s d : Nat} {x : AV} (hf : freeIn x = true) (hd : ∀ e, P.und d ≠ some (.slice e)) (st : Store) (r : AV × Store) (h : convV P s d x st = some r) : r.2 = st ∧ ∀ st', convV P s d x st' = some (r.1, st') := by
  unfold convV at h ⊢
  split at h
  · rename_i sd hs
    split at h
    · rename_i k hk
      unfold convInt at h ⊢
      split at h
      · injection h with h; subst h; exact ⟨rfl, fun _ => by simp [hs, hk]⟩
      · cases h
    · rename_i hk
      cases x with
      | str t => simp only [convStr, Option.some.injEq] at h; subst h; exact ⟨rfl, fun _ => by simp [hs, hk, convStr]⟩
      | _ =>
        unfold convStr strOf at h ⊢
        split at h
        · rename_i hx; cases hx
        · split at h
          · rename_i e
            have e' := fun st' => readRow_free (P := P) (e := e) hf st st'
            (repeat' split at h) <;> first | (simp at h; done) | (simp only [Option.some.injEq] at h; subst h; refine ⟨rfl, fun st' => ?_⟩; simp_all [← e'])
          · cases h
    · rename_i e hk; exact absurd hk (hd e)
    · unfold toUnsafe at h
      split at h
      · simp [freeIn] at hf
      · cases h
    · unfold fromUnsafe at h
      split at h
      · simp [freeIn] at hf
      · cases h
    · cases h
  · cases h
theorem aConv_free {s d : Nat} {ins : List In} (hf : freeIns ins = true) (hd : ∀ e, P.und d ≠ some (.slice e)) : Free (aConv P s d ins) := by
  intro st r h
  unfold aConv at h ⊢
  split at h
  · rename_i x
    split at h
    · rename_i q hq
      injection h with h; subst h
      obtain ⟨h1, h2⟩ := convV_free (freeIns_cons hf).1 hd st q hq
      exact ⟨h1, fun st' => by simp [h2 st']⟩
    · cases h
  · cases h
theorem aConv_keeps {s d : Nat} {ins : List In} (hd : ∀ e, P.und d ≠ some (.slice e)) : Keeps (aConv P s d ins) := by
  intro st r h
  unfold aConv at h
  split at h
  · rename_i x
    split at h
    · rename_i q hq
      injection h with h; subst h
      show q.2 = st
      unfold convV at hq
      split at hq
      · split at hq
        · unfold convInt at hq
          split at hq
          · injection hq with hq; subst hq; rfl
          · cases hq
        · unfold convStr strOf at hq
          (repeat' split at hq) <;> first | (simp at hq; done) | (simp only [Option.some.injEq] at hq; subst hq; rfl)
        · rename_i e hk; exact absurd hk (hd e)
        · unfold toUnsafe at hq
          (repeat' split at hq) <;> first | (simp at hq; done) | (simp only [Option.some.injEq] at hq; subst hq; rfl)
        · unfold fromUnsafe at hq
          (repeat' split at hq) <;> first | (simp at hq; done) | (simp only [Option.some.injEq] at hq; subst hq; rfl)
        · cases hq
      · cases hq
    · cases h
  · cases h
theorem notSlice {d : Nat} (h : notSliceT P d = true) : ∀ e, P.und d ≠ some (.slice e) := by
  intro e he
  unfold notSliceT at h
  rw [he] at h; cases h
theorem aop_free {md ty : Nat} {o : Op} {ins : List In} (h : freeOp P md o ins = true) : Free (aop P md ty o ins) := by
  cases o with
  | move x => exact aMove_free (by simpa [freeOp] using h)
  | assign x => exact aMove_free (by simpa [freeOp] using h)
  | pick c a b => exact aPick_free
  | alloc t => exact aAlloc_free (by simpa [freeOp] using h)
  | box t x => exact aBox_free (by simpa [freeOp] using h)
  | build t ps =>
    cases hv : valsOf ins with
    | none => exact fun st r h => by simp [aop, hv] at h
    | some vs =>
      rw [show aop P md ty (.build t ps) ins = aBuild P t (ps.toList.map (·.1)) vs from by funext st; simp only [aop, hv]]
      exact aBuild_free
  | buildSlice t len ps =>
    cases hv : valsOf ins with
    | none => exact fun st r h => by simp [aop, hv] at h
    | some vs =>
      rw [show aop P md ty (.buildSlice t len ps) ins = aBuildSlice P md t len (ps.toList.map (·.1)) vs from by funext st; simp only [aop, hv]]
      exact aBuildSlice_free (by simpa [freeOp] using h)
  | load t x =>
    have h' : md ≠ 2 ∧ freeIns ins = true := by simpa [freeOp] using h
    exact aLoad_free h'.1 h'.2
  | store t a x => exact aStore_free h
  | nilCheck x => exact aNilCheck_free
  | binOp op t x y r => exact aBin_free h
  | unOp op t x => exact aUn_free
  | convert s d x =>
    have h' : freeIns ins = true ∧ notSliceT P d = true := by simpa [freeOp] using h
    exact aConv_free h'.1 (notSlice h'.2)
  | makeInterface t x => exact aIface_free
  | makeFunc fn first captured =>
    cases hv : valsOf ins with
    | none => exact fun st r h => by simp [aop, hv] at h
    | some vs =>
      rw [show aop P md ty (.makeFunc fn first captured) ins = aMakeFunc md fn first.size vs from by funext st; simp only [aop, hv]]
      exact aMakeFunc_free (by simpa [freeOp] using h)
  | slice t x lo hi mx => exact aSlice_free h
  | fieldAddr s x f => exact aFieldAddr_free
  | field s x f => exact aField_free
  | indexAddr t x i => exact aIndexAddr_free
  | index t x i => exact aIndex_free
  | extract x i => exact aExtract_free
  | call c =>
    simp only [freeOp] at h
    split at h
    · rename_i hc
      cases ht : c.argTypes[0]? with
      | none => exact fun st r h => by simp [aop, hc, aBuiltin, ht] at h
      | some t =>
        rw [show aop P md ty (.call c) ins = aLen P t ins from by funext st; simp only [aop, hc, aBuiltin, ht]]
        exact aLen_free h
    · rename_i hc
      cases ht : c.argTypes[0]? with
      | none => exact fun st r h => by simp [aop, hc, aBuiltin, ht] at h
      | some t =>
        rw [show aop P md ty (.call c) ins = aCap P t ins from by funext st; simp only [aop, hc, aBuiltin, ht]]
        exact aCap_free
    · rename_i hc
      rw [show aop P md ty (.call c) ins = aMin ins from by funext st; simp only [aop, hc, aBuiltin]]
      exact aMin_free
    · rename_i hc
      rw [show aop P md ty (.call c) ins = aMax ins from by funext st; simp only [aop, hc, aBuiltin]]
      exact aMax_free
    · rename_i hc
      rw [show aop P md ty (.call c) ins = aSliceData ins from by funext st; simp only [aop, hc, aBuiltin]]
      exact aSliceData_free
    · cases h
  | _ => simp [freeOp] at h
theorem aop_keeps {md ty : Nat} {o : Op} {ins : List In} (h : keepOp P md o = true) : Keeps (aop P md ty o ins) := by
  cases o with
  | load t x => exact aLoad_keeps (by simpa [keepOp] using h)
  | slice t x lo hi mx => exact aSlice_keeps
  | lookup t x i ok => exact aLookup_keeps
  | binOp op t x y r => exact aBin_keeps
  | convert s d x => exact aConv_keeps (notSlice (by simpa [keepOp] using h))
  | call c =>
    simp only [keepOp] at h
    split at h
    · rename_i hc
      cases ht : c.argTypes[0]? with
      | none => exact fun st r h => by simp [aop, hc, aBuiltin, ht] at h
      | some t =>
        rw [show aop P md ty (.call c) ins = aLen P t ins from by funext st; simp only [aop, hc, aBuiltin, ht]]
        exact aLen_keeps
    · rename_i hc
      cases ht : c.argTypes[0]? with
      | none => exact fun st r h => by simp [aop, hc, aBuiltin, ht] at h
      | some t =>
        rw [show aop P md ty (.call c) ins = aCap P t ins from by funext st; simp only [aop, hc, aBuiltin, ht]]
        exact aCap_keeps
    · cases h
  | _ => simp [keepOp] at h
theorem aout_eq {md : Nat} {o : Oper} {ins : List In} (h : freeOp E.L md o.op ins = true ∨ keepOp E.L md o.op = true) : aout E call md o ins = aop E.L md o.type o.op ins := by
  funext st
  unfold aout
  split
  · rename_i c hc
    rw [hc] at h
    split
    · rename_i f hf; simp [freeOp, keepOp, hf] at h
    · rename_i r n hf; simp [freeOp, keepOp, hf] at h
    · rw [hc]
  · rfl
theorem aout_lab {md : Nat} {o : Oper} {ins : List In} {r : Out × Store} (h : aout E call md o ins st = some r) :
    (labOp E.L md o.op ins = 0 → r.2 = st ∧ ∀ st', aout E call md o ins st' = some (r.1, st')) ∧ (labOp E.L md o.op ins = 1 → r.2 = st) := by
  unfold labOp
  by_cases hf : freeOp E.L md o.op ins = true
  · rw [if_pos hf]
    rw [aout_eq (.inl hf)] at h ⊢
    exact ⟨fun _ => aop_free hf st r h, fun hh => by cases hh⟩
  · rw [if_neg hf]
    by_cases hk : keepOp E.L md o.op = true
    · rw [if_pos hk]
      rw [aout_eq (.inr hk)] at h
      exact ⟨fun hh => (by cases hh), fun _ => aop_keeps hk st r h⟩
    · rw [if_neg hk]
      exact ⟨fun hh => (by cases hh), fun hh => by cases hh⟩
end
end Go.Sim

namespace Go.Sim

/-- What is laid down. -/
inductive PU where
  | nop
  | tm (d : Nat) (v : AV)
  | ofs (d : Nat) (x : Option Nat)
  | bx (d : Nat) (cs : List AV)
  | lb (b : Nat) (cs : List AV)
def PU.app (A : Ann) : PU → AFr → AFr
  | .nop, fr => fr
  | .tm d v, fr => { fr with tmps := fr.tmps.set d v }
  | .ofs d x, fr => { fr with offs := fr.offs.set d x }
  | .bx d cs, fr => { fr with offs := (purge A d 0 fr.offs).set d (some 0), lbs := fr.lbs.set d cs }
  | .lb b cs, fr => { fr with lbs := fr.lbs.set b cs }
def putU (A : Ann) (fr : AFr) (op : Op) (dst : Option Tmp) : Option Out → Option PU
  | .none => (match dst with
    | none => some .nop
    | some d => (match A.base d with
      | none => some (.tm d aundef)
      | some _ => some (.ofs d none)))
  | .some out => (match out, dst with
    | .val v, some d => (match A.base d with
      | none => some (.tm d v)
      | some _ => none)
    | .val _, none => some .nop
    | .loc b off, some d => (match fr.offs[b]? with
      | some (some _) => if A.base d = some b ∧ d ≠ b then some (.ofs d (some off)) else none
      | _ => none)
    | .box cs, some d => if A.base d = some d then some (.bx d cs) else none
    | .lst b cs, none => (match op with
      | .store _ (.tmp t) _ => (match fr.offs[b]? with
        | some (some _) => if A.base t = some b ∧ A.base b = some b then some (.lb b cs) else none
        | _ => none)
      | _ => none)
    | _, _ => none)
def putO (A : Ann) (fr : AFr) (op : Op) (dst : Option Tmp) : Option Out → Option AFr
  | .none => aputNone A fr dst
  | .some out => aput A fr op dst out
theorem putO_eq (A : Ann) (fr : AFr) (op : Op) (dst : Option Tmp) (out : Option Out) : putO A fr op dst out = (putU A fr op dst out).map (PU.app A · fr) := by
  cases out with
  | none =>
    cases dst with
    | none => rfl
    | some d =>
      simp only [putO, aputNone, putU]
      cases A.base d <;> rfl
  | some out =>
    cases out with
    | val v =>
      cases dst with
      | none => rfl
      | some d =>
        simp only [putO, aput, putU]
        cases A.base d <;> rfl
    | loc b off =>
      cases dst with
      | none => rfl
      | some d =>
        cases hx : fr.offs[b]? with
        | none => simp [putO, aput, putU, hx]
        | some q =>
          cases q with
          | none => simp [putO, aput, putU, hx]
          | some ob =>
            simp only [putO, aput, putU, hx]
            split <;> rfl
    | box cs =>
      cases dst with
      | none => rfl
      | some d =>
        simp only [putO, aput, putU]
        split <;> rfl
    | lst b cs =>
      cases dst with
      | some d => rfl
      | none =>
        cases op with
        | store ty a v =>
          cases a with
          | tmp t =>
            cases hx : fr.offs[b]? with
            | none => simp [putO, aput, putU, hx]
            | some q =>
              cases q with
              | none => simp [putO, aput, putU, hx]
              | some ob =>
                simp only [putO, aput, putU, hx]
                split <;> rfl
          | _ => rfl
        | _ => rfl
/-- What is laid down lies in the operation's own places. -/
def PU.within (A : Ann) (all : List Oper) (o : Oper) : PU → Prop
  | .nop => True
  | .tm d _ => 2 * d ∈ lays A o ∧ A.base d = .none
  | .ofs d _ => 2 * d ∈ lays A o ∧ ∃ b, A.base d = .some b ∧ (b ≠ d → 2 * b ∈ looks A all o)
  | .bx d _ => 2 * d ∈ lays A o ∧ 2 * d + 1 ∈ lays A o ∧ A.base d = .some d
  | .lb b _ => 2 * b + 1 ∈ lays A o ∧ 2 * b ∈ looks A all o ∧ A.base b = .some b
theorem lay_dst {A : Ann} {o : Oper} {d : Nat} (h : o.dst = some d) : 2 * d ∈ lays A o ∧ 2 * d + 1 ∈ lays A o := by
  simp [lays, layD, h]
theorem look_dst {A : Ann} {all : List Oper} {o : Oper} {d b : Nat} (h : o.dst = some d) (hb : A.base d = some b) (hne : b ≠ d) : 2 * b ∈ looks A all o := by
  simp [looks, lookD, h, hb, hne]
theorem putU_within {A : Ann} {all : List Oper} {fr : AFr} {o : Oper} {out : Option Out} {u : PU} (h : putU A fr o.op o.dst out = some u) : u.within A all o := by
  cases out with
  | none =>
    simp only [putU] at h
    split at h
    · injection h with h; subst h; trivial
    · rename_i d hd
      split at h
      · rename_i hb; injection h with h; subst h; exact ⟨(lay_dst hd).1, hb⟩
      · rename_i b hb; injection h with h; subst h; exact ⟨(lay_dst hd).1, b, hb, look_dst hd hb⟩
  | some out =>
    simp only [putU] at h
    split at h
    · rename_i v d hd
      split at h
      · rename_i hb; injection h with h; subst h; exact ⟨(lay_dst hd).1, hb⟩
      · cases h
    · injection h with h; subst h; trivial
    · rename_i b off d hd
      split at h
      · split at h
        · rename_i hb; injection h with h; subst h; exact ⟨(lay_dst hd).1, b, hb.1, look_dst hd hb.1⟩
        · cases h
      · cases h
    · rename_i cs d hd
      split at h
      · rename_i hb; injection h with h; subst h; exact ⟨(lay_dst hd).1, (lay_dst hd).2, hb⟩
      · cases h
    · rename_i b cs hd
      split at h
      · rename_i ty t v hop
        split at h
        · split at h
          · rename_i hb; injection h with h; subst h
            refine ⟨?_, ?_, hb.2⟩
            · simp [lays, layS, hop, hb.1]
            · simp only [looks, hop, Op.operands, List.mem_append]
              exact .inl (by simp [lookX, lookT, hb.1])
          · cases h
        · cases h
      · cases h
    · cases h

/-- The same, where it is looked at. -/
def Agree (L : List Nat) (fr fr' : AFr) : Prop := ∀ t, (2 * t ∈ L → fr.tmps[t]? = fr'.tmps[t]? ∧ fr.offs[t]? = fr'.offs[t]?) ∧ (2 * t + 1 ∈ L → fr.lbs[t]? = fr'.lbs[t]?)
theorem Agree.sub {L L' : List Nat} {fr fr' : AFr} (h : Agree L fr fr') (hs : ∀ r ∈ L', r ∈ L) : Agree L' fr fr' := fun t => ⟨fun hr => (h t).1 (hs _ hr), fun hr => (h t).2 (hs _ hr)⟩
theorem aeval_local {G : Nat → Option AV} {A : Ann} {fr fr' : AFr} {x : Operand} (h : Agree (lookX A x) fr fr') : aeval G A fr x = aeval G A fr' x := by
  cases x with
  | tmp t =>
    simp only [aeval]
    cases hb : A.base t with
    | none =>
      have : lookX A (.tmp t) = [2 * t] := by simp [lookX, lookT, hb]
      rw [this] at h
      simp only [((h t).1 (by simp)).1]
    | some b =>
      have : lookX A (.tmp t) = [2 * t, 2 * b, 2 * b + 1] := by simp [lookX, lookT, hb]
      rw [this] at h
      simp only [((h b).1 (by simp)).2, ((h t).1 (by simp)).2, (h b).2 (by simp)]
  | _ => rfl
theorem aevals_local {G : Nat → Option AV} {A : Ann} {fr fr' : AFr} : ∀ {xs : List Operand}, Agree (xs.flatMap (lookX A)) fr fr' → aevals G A fr xs = aevals G A fr' xs
  | [], _ => rfl
  | x :: xs, h => by
    simp only [aevals]
    rw [aeval_local (fr' := fr') (h.sub fun r hr => by simp [hr]), aevals_local (fr' := fr') (h.sub fun r hr => by
      rw [List.flatMap_cons]; exact List.mem_append_right _ hr)]
theorem aYield_local {A : Ann} {all : List Oper} {fr fr' : AFr} {j : Nat} {b : Bool} (h : Agree (lookG A all (some (j, b))) fr fr') : aYield all fr A j = aYield all fr' A j := by
  unfold aYield
  simp only [lookG] at h
  cases hj : all[j]? with
  | none => rfl
  | some o =>
    simp only [hj] at h
    cases hd : o.dst with
    | none => simp only [hd]
    | some d =>
      simp only [hd] at h ⊢
      cases hb : A.base d with
      | some b => rfl
      | none =>
        have : lookT A d = [2 * d] := by simp [lookT, hb]
        rw [this] at h
        simp only [((h d).1 (by simp)).1]
theorem aWanted_local {A : Ann} {all : List Oper} {fr fr' : AFr} {o : Oper} (h : Agree (lookG A all o.guard) fr fr') : aWanted A all fr o = aWanted A all fr' o := by
  unfold aWanted
  cases hg : o.guard with
  | none => rfl
  | some p =>
    obtain ⟨j, b⟩ := p
    rw [hg] at h
    simp only
    rw [aYield_local h]
theorem putU_local {A : Ann} {all : List Oper} {fr fr' : AFr} {o : Oper} {out : Option Out} {u : PU} (h : putU A fr o.op o.dst out = some u) (ha : Agree (looks A all o) fr fr') : putU A fr' o.op o.dst out = some u := by
  cases out with
  | none => exact h
  | some out =>
    simp only [putU] at h ⊢
    split at h
    · exact h
    · exact h
    · rename_i b off d hd
      split at h
      · rename_i ob hl
        split at h
        · rename_i hb
          have := ((ha b).1 (look_dst hd hb.1 (fun e => hb.2 e.symm))).2
          rw [hl] at this
          simp only [← this, if_pos hb]; exact h
        · cases h
      · cases h
    · exact h
    · rename_i b cs hd
      split at h
      · rename_i ty t v hop
        split at h
        · rename_i ob hl
          split at h
          · rename_i hb
            have hm : 2 * b ∈ looks A all o := by
              simp only [looks, hop, Op.operands, List.mem_append]
              exact .inl (by simp [lookX, lookT, hb.1])
            have := ((ha b).1 hm).2
            rw [hl] at this
            simp only [← this, if_pos hb]; exact h
          · cases h
        · cases h
      · cases h
    · cases h
/-- Where a pointer into a box is looked at, its box is. -/
theorem looks_closed {A : Ann} (wf : ∀ t b, A.base t = some b → A.base b = some b) {all : List Oper} {o : Oper} {t b : Nat} (h : 2 * t ∈ looks A all o) (hb : A.base t = some b) : 2 * b ∈ looks A all o := by
  have key : ∀ {u : Nat}, 2 * t ∈ lookT A u → 2 * b ∈ lookT A u := by
    intro u hu
    unfold lookT at hu ⊢
    cases hbu : A.base u with
    | none =>
      simp only [hbu, List.mem_singleton] at hu
      have : t = u := by omega
      subst this; rw [hb] at hbu; cases hbu
    | some c =>
      simp only [hbu, List.mem_cons, List.not_mem_nil, or_false] at hu ⊢
      rcases hu with hu | hu | hu
      · have : t = u := by omega
        subst this; rw [hb] at hbu; injection hbu with hbu; subst hbu; exact .inr (.inl rfl)
      · have : t = c := by omega
        subst this
        have := wf u t hbu
        rw [hb] at this; injection this with this; subst this; exact .inr (.inl rfl)
      · omega
  simp only [looks, List.mem_append, List.mem_flatMap] at h ⊢
  rcases h with ⟨x, hx, hm⟩ | h | h
  · refine .inl ⟨x, hx, ?_⟩
    cases x with
    | tmp u => exact key hm
    | _ => simp [lookX] at hm
  · refine .inr (.inl ?_)
    unfold lookG at h ⊢
    split at h
    · rename_i j bb hg
      split at h
      · rename_i oj hj
        split at h
        · rename_i d hd
          exact key h
        · cases h
      · cases h
    · cases h
  · refine .inr (.inr ?_)
    unfold lookD at h ⊢
    split at h
    · rename_i d hd
      split at h
      · rename_i c hc
        split at h
        · cases h
        · rename_i hne
          simp only [List.mem_singleton] at h
          have : t = c := by omega
          subst this
          have := wf d t hc
          rw [hb] at this; injection this with this; subst this
          simp [hc, hne]
      · cases h
    · cases h
theorem purge_getElem (A : Ann) (b : Nat) : ∀ (os : List (Option Nat)) (i t : Nat), (purge A b i os)[t]? = os[t]?.map fun o => if A.base (i + t) = some b then none else o
  | [], i, t => by simp [purge]
  | o :: os, i, 0 => by simp [purge]
  | o :: os, i, t + 1 => by
    simp only [purge, List.getElem?_cons_succ]
    rw [purge_getElem A b os (i + 1) t, show i + 1 + t = i + (t + 1) by omega]
theorem app_agree {A : Ann} (wf : ∀ t b, A.base t = some b → A.base b = some b) {all : List Oper} {x y : Oper} {u : PU} {fr : AFr} (hu : u.within A all x) (hd : ∀ r ∈ lays A x, r ∉ looks A all y) : Agree (looks A all y) fr (u.app A fr) := by
  intro t
  cases u with
  | nop => exact ⟨fun _ => ⟨rfl, rfl⟩, fun _ => rfl⟩
  | tm d v =>
    refine ⟨fun hr => ⟨?_, rfl⟩, fun _ => rfl⟩
    have : d ≠ t := by rintro rfl; exact hd _ hu.1 hr
    simp [PU.app, List.getElem?_set_ne this]
  | ofs d o' =>
    refine ⟨fun hr => ⟨rfl, ?_⟩, fun _ => rfl⟩
    have : d ≠ t := by rintro rfl; exact hd _ hu.1 hr
    simp [PU.app, List.getElem?_set_ne this]
  | bx d cs =>
    refine ⟨fun hr => ⟨rfl, ?_⟩, fun hr => ?_⟩
    · have : d ≠ t := by rintro rfl; exact hd _ hu.1 hr
      have hb : A.base t ≠ some d := fun hb => hd _ hu.1 (looks_closed wf hr hb)
      simp only [PU.app]
      rw [List.getElem?_set_ne this, purge_getElem]
      simp [hb]
    · have : d ≠ t := by rintro rfl; exact hd _ hu.2.1 hr
      simp [PU.app, List.getElem?_set_ne this]
  | lb b cs =>
    refine ⟨fun hr => ⟨rfl, rfl⟩, fun hr => ?_⟩
    have : b ≠ t := by rintro rfl; exact hd _ hu.1 hr
    simp [PU.app, List.getElem?_set_ne this]

theorem purge_set (A : Ann) (b t : Nat) (os : List (Option Nat)) (o : Option Nat) (h : A.base t ≠ some b) : purge A b 0 (os.set t o) = (purge A b 0 os).set t o := by
  apply List.ext_getElem?
  intro i
  rw [purge_getElem, List.getElem?_set, List.getElem?_set, purge_getElem, purge_len]
  simp only [Nat.zero_add]
  by_cases hi : t = i
  · subst hi
    simp only [if_true, if_neg h]
    split <;> rfl
  · simp only [if_neg hi]
theorem purge_comm (A : Ann) (b c : Nat) (os : List (Option Nat)) : purge A b 0 (purge A c 0 os) = purge A c 0 (purge A b 0 os) := by
  apply List.ext_getElem?
  intro i
  simp only [purge_getElem, Option.map_map, Nat.zero_add]
  congr 1
  funext o
  simp only [Function.comp]
  split <;> split <;> rfl
theorem app_comm {A : Ann} {all : List Oper} {x y : Oper} {u v : PU} {fr : AFr} (hu : u.within A all x) (hv : v.within A all y)
    (h1 : ∀ r ∈ lays A x, r ∉ looks A all y ∧ r ∉ lays A y) (h2 : ∀ r ∈ lays A y, r ∉ looks A all x) : v.app A (u.app A fr) = u.app A (v.app A fr) := by
  cases u with
  | nop => rfl
  | tm d p =>
    cases v with
    | tm d' q =>
      have : d ≠ d' := by rintro rfl; exact (h1 _ hu.1).2 hv.1
      simp only [PU.app]; rw [List.set_comm _ _ this]
    | _ => rfl
  | ofs d p =>
    obtain ⟨hu1, b, hu2, hu3⟩ := hu
    cases v with
    | ofs d' q =>
      have : d ≠ d' := by rintro rfl; exact (h1 _ hu1).2 hv.1
      simp only [PU.app]; rw [List.set_comm _ _ this]
    | bx d' cs =>
      have hd : d ≠ d' := by rintro rfl; exact (h1 _ hu1).2 hv.1
      have hb : A.base d ≠ some d' := by
        intro e
        rw [hu2] at e; injection e with e; subst e
        exact h2 _ hv.1 (hu3 (fun e => hd e.symm))
      simp only [PU.app]
      rw [purge_set _ _ _ _ _ hb, List.set_comm _ _ hd]
    | _ => rfl
  | bx d cs =>
    obtain ⟨hu1, hu2, hu3⟩ := hu
    cases v with
    | ofs d' q =>
      obtain ⟨hv1, b, hv2, hv3⟩ := hv
      have hd : d ≠ d' := by rintro rfl; exact (h1 _ hu1).2 hv1
      have hb : A.base d' ≠ some d := by
        intro e
        rw [hv2] at e; injection e with e; subst e
        exact (h1 _ hu1).1 (hv3 hd)
      simp only [PU.app]
      rw [purge_set _ _ _ _ _ hb, List.set_comm _ _ hd]
    | bx d' cs' =>
      obtain ⟨hv1, hv2, hv3⟩ := hv
      have hd : d ≠ d' := by rintro rfl; exact (h1 _ hu1).2 hv1
      simp only [PU.app]
      rw [purge_set _ _ _ _ _ (by rw [hu3]; exact fun e => hd (Option.some.inj e)), purge_set _ _ _ _ _ (by rw [hv3]; exact fun e => hd (Option.some.inj e).symm), purge_comm, List.set_comm _ _ hd, List.set_comm _ _ hd]
    | lb b cs' =>
      have : d ≠ b := by rintro rfl; exact (h1 _ hu2).2 hv.1
      simp only [PU.app]; rw [List.set_comm _ _ this]
    | _ => rfl
  | lb b cs =>
    cases v with
    | bx d' cs' =>
      have : b ≠ d' := by rintro rfl; exact (h1 _ hu.1).2 hv.2.1
      simp only [PU.app]; rw [List.set_comm _ _ this]
    | lb b' cs' =>
      have : b ≠ b' := by rintro rfl; exact (h1 _ hu.1).2 hv.1
      simp only [PU.app]; rw [List.set_comm _ _ this]
    | _ => rfl

section
variable {E : Env} {call : Caller} {A : Ann}
/-- What an operation comes to, and what it does to the store. -/
def outS (E : Env) (call : Caller) (A : Ann) (rid : Nat) (all : List Oper) (i : Nat) (o : Oper) (fr : AFr) (st : Store) : Option (Option Out × Store × Nat) :=
  match aWanted A all fr o with
  | some true => (match aevals E.globals A fr o.op.operands.toList with
    | none => none
    | some ins => (match aout E call (A.mode rid i) o ins st with
      | some r => some (some r.1, r.2, labOp E.L (A.mode rid i) o.op ins)
      | none => none))
  | some false => some (none, st, 0)
  | none => none
def stepL (E : Env) (call : Caller) (A : Ann) (rid : Nat) (all : List Oper) (i : Nat) (l : Nat) (fr : AFr) (st : Store) : Option (AFr × Store) :=
  match all[i]? with
  | none => none
  | some o => (match outS E call A rid all i o fr st with
    | some q => if q.2.2 = l then (match putU A fr o.op o.dst q.1 with
        | some u => some (u.app A fr, q.2.1)
        | none => none) else none
    | none => none)
def opsL (E : Env) (call : Caller) (A : Ann) (rid : Nat) (all : List Oper) (lab : Nat → Nat) : List Nat → AFr → Store → Option (AFr × Store)
  | [], fr, st => some (fr, st)
  | i :: L, fr, st => match stepL E call A rid all i (lab i) fr st with
    | some r => opsL E call A rid all lab L r.1 r.2
    | none => none
theorem stepL_some {rid i l : Nat} {all : List Oper} {fr : AFr} {st : Store} {r : AFr × Store} (h : stepL E call A rid all i l fr st = some r) :
    ∃ o out u, all[i]? = some o ∧ outS E call A rid all i o fr st = some (out, r.2, l) ∧ putU A fr o.op o.dst out = some u ∧ r.1 = u.app A fr := by
  unfold stepL at h
  split at h
  · cases h
  · rename_i o ho
    split at h
    · rename_i q hq
      split at h
      · rename_i hl
        split at h
        · rename_i u hu
          injection h with h; subst h
          obtain ⟨q1, q2, q3⟩ := q
          simp only at hl; subst hl
          exact ⟨o, q1, u, ho, hq, hu, rfl⟩
        · cases h
      · cases h
    · cases h
theorem stepL_mk {rid i l : Nat} {all : List Oper} {fr : AFr} {st st' : Store} {o : Oper} {out : Option Out} {u : PU} (ho : all[i]? = some o) (hq : outS E call A rid all i o fr st = some (out, st', l)) (hu : putU A fr o.op o.dst out = some u) :
    stepL E call A rid all i l fr st = some (u.app A fr, st') := by
  simp [stepL, ho, hq, hu]
theorem outS_local {rid i : Nat} {all : List Oper} {o : Oper} {fr fr' : AFr} {st : Store} (h : Agree (looks A all o) fr fr') : outS E call A rid all i o fr st = outS E call A rid all i o fr' st := by
  unfold outS
  rw [aWanted_local (fr' := fr') (h.sub fun r hr => by simp [looks, hr]), aevals_local (fr' := fr') (h.sub fun r hr => List.mem_append_left _ hr)]
theorem outS_lab {rid i l : Nat} {all : List Oper} {o : Oper} {fr : AFr} {st st' : Store} {out : Option Out} (h : outS E call A rid all i o fr st = some (out, st', l)) :
    (l = 0 → st' = st ∧ ∀ s, outS E call A rid all i o fr s = some (out, s, 0)) ∧ (l = 1 → st' = st) := by
  unfold outS at h
  split at h
  · rename_i hw
    split at h
    · cases h
    · rename_i ins hins
      split at h
      · rename_i r hr
        simp only [Option.some.injEq, Prod.mk.injEq] at h
        obtain ⟨rfl, rfl, rfl⟩ := h
        obtain ⟨h1, h2⟩ := aout_lab hr
        refine ⟨fun h0 => ?_, h2⟩
        obtain ⟨h3, h4⟩ := h1 h0
        refine ⟨h3, fun s => ?_⟩
        simp only [outS, hw, hins, h4 s, h0]
      · cases h
  · rename_i hw
    simp only [Option.some.injEq, Prod.mk.injEq] at h
    obtain ⟨rfl, rfl, rfl⟩ := h
    exact ⟨fun _ => ⟨rfl, fun s => by simp only [outS, hw]⟩, fun hh => by cases hh⟩
  · cases h
theorem apart_some {all : List Oper} {x y : Oper} (h : apartOps A all x y = true) : (∀ r ∈ lays A x, r ∉ looks A all y ∧ r ∉ lays A y) ∧ (∀ r ∈ lays A y, r ∉ looks A all x) := by
  simpa [apartOps] using h
/-- Two that are apart may be turned round. -/
theorem swap_ok (wf : ∀ t b, A.base t = some b → A.base b = some b) {rid i j : Nat} {all : List Oper} {x y : Oper} {lab : Nat → Nat} {fr : AFr} {st : Store} {L : List Nat} {r : AFr × Store}
    (hx : all[i]? = some x) (hy : all[j]? = some y) (hl : labsOk (lab i) (lab j) = true) (hap : apartOps A all x y = true) (h : opsL E call A rid all lab (i :: j :: L) fr st = some r) :
    opsL E call A rid all lab (j :: i :: L) fr st = some r := by
  simp only [opsL] at h
  split at h
  · rename_i r1 hr1
    split at h
    · rename_i r2 hr2
      obtain ⟨o1, out1, u, ho1, hq1, hu, e1⟩ := stepL_some hr1
      obtain ⟨o2, out2, v, ho2, hq2, hv, e2⟩ := stepL_some hr2
      rw [hx] at ho1; injection ho1 with ho1; subst ho1
      rw [hy] at ho2; injection ho2 with ho2; subst ho2
      obtain ⟨h1, h2⟩ := apart_some hap
      have wu := putU_within (all := all) hu
      have wv := putU_within (all := all) hv
      have ag1 : Agree (looks A all y) fr r1.1 := by rw [e1]; exact app_agree wf wu fun r hr => (h1 r hr).1
      have agsym : Agree (looks A all y) r1.1 fr := fun t => ⟨fun hr => ⟨((ag1 t).1 hr).1.symm, ((ag1 t).1 hr).2.symm⟩, fun hr => ((ag1 t).2 hr).symm⟩
      have ag2 : Agree (looks A all x) fr (v.app A fr) := app_agree wf wv h2
      have hv' : putU A fr y.op y.dst out2 = some v := putU_local hv agsym
      have hu' : putU A (v.app A fr) x.op x.dst out1 = some u := putU_local hu ag2
      have hq2' : outS E call A rid all j y fr r1.2 = some (out2, r2.2, lab j) := by rw [outS_local ag1]; exact hq2
      obtain ⟨a0, a1⟩ := outS_lab hq1
      obtain ⟨b0, b1⟩ := outS_lab hq2'
      -- the stores
      have key : ∃ s1, outS E call A rid all j y fr st = some (out2, s1, lab j) ∧ outS E call A rid all i x fr s1 = some (out1, r2.2, lab i) := by
        by_cases hi0 : lab i = 0
        · obtain ⟨e, f⟩ := a0 hi0
          rw [e] at hq2'
          exact ⟨r2.2, hq2', by rw [f r2.2, hi0]⟩
        · by_cases hj0 : lab j = 0
          · obtain ⟨e, f⟩ := b0 hj0
            exact ⟨st, by rw [f st, hj0], by rw [e]; exact hq1⟩
          · have h11 : lab i = 1 ∧ lab j = 1 := by
              simp only [labsOk, Bool.or_eq_true, beq_iff_eq, Bool.and_eq_true] at hl
              omega
            have e := a1 h11.1
            have e' := b1 h11.2
            rw [e] at hq2' e'
            rw [e'] at hq2' ⊢
            refine ⟨st, hq2', ?_⟩
            rw [e] at hq1; exact hq1
      obtain ⟨s1, k1, k2⟩ := key
      have k2' : outS E call A rid all i x (v.app A fr) s1 = some (out1, r2.2, lab i) := by rw [← outS_local ag2]; exact k2
      have s1' := stepL_mk hy k1 hv'
      have s2' := stepL_mk hx k2' hu'
      simp only [opsL, s1', s2']
      rw [← app_comm wu wv h1 h2, ← e1, ← e2]
      exact h
    · cases h
  · cases h
theorem front_ok (wf : ∀ t b, A.base t = some b → A.base b = some b) {rid i : Nat} {all : List Oper} {x : Oper} {lab : Nat → Nat} {L : List Nat} {r : AFr × Store} (hx : all[i]? = some x) :
    ∀ (pre : List Nat) (fr : AFr) (st : Store), (∀ p ∈ pre, ∃ y, all[p]? = some y ∧ labsOk (lab p) (lab i) = true ∧ apartOps A all y x = true) →
      opsL E call A rid all lab (pre ++ i :: L) fr st = some r → opsL E call A rid all lab (i :: (pre ++ L)) fr st = some r
  | [], _, _, _, h => h
  | p :: pre, fr, st, hp, h => by
    obtain ⟨y, hy, hl, hap⟩ := hp p (List.mem_cons_self)
    refine swap_ok wf hy hx hl hap ?_
    simp only [List.cons_append, opsL] at h ⊢
    cases hs : stepL E call A rid all p (lab p) fr st with
    | none => simp [hs] at h
    | some r1 =>
      simp only [hs] at h
      have := front_ok wf hx pre r1.1 r1.2 (fun q hq => hp q (List.mem_cons_of_mem _ hq)) h
      rw [List.append_eq]
      simpa only [opsL] using this
end
end Go.Sim

namespace Go.Sim

section
variable {E : Env} {call : Caller} {A : Ann} {g g0 : Gh} {B : Nat → Nat} {w w0 : World} {a : Act} {rd : Option Nat}

theorem pairsFrom_ok {all : List Oper} {cl fs : List Nat} {i : Nat} {x : Oper} {fx : Nat} : ∀ (r : List Oper) (j : Nat), pairsFrom A all cl fs i x fx r j = true → ∀ k y, r[k]? = some y →
    (cl.getD (j + k) 0).testBit i = true ∨ (labsOk fx (fs.getD (j + k) 2) = true ∧ apartOps A all x y = true)
  | [], _, _, k, y, h => by simp at h
  | z :: r, j, hp, 0, y, h => by
    simp only [List.getElem?_cons_zero, Option.some.injEq] at h; subst h
    simp only [pairsFrom, Bool.and_eq_true, Bool.or_eq_true] at hp
    simpa using hp.1
  | z :: r, j, hp, k + 1, y, h => by
    simp only [pairsFrom, Bool.and_eq_true] at hp
    have := pairsFrom_ok r (j + 1) hp.2 k y (by simpa using h)
    rwa [show j + 1 + k = j + (k + 1) by omega] at this
theorem pairsOk_ok {all : List Oper} {cl fs : List Nat} (r : List Oper) : ∀ (i : Nat), pairsOk A all cl fs r i = true → ∀ k l x y, k < l → r[k]? = some x → r[l]? = some y →
    (cl.getD (i + l) 0).testBit (i + k) = true ∨ (labsOk (fs.getD (i + k) 2) (fs.getD (i + l) 2) = true ∧ apartOps A all x y = true) := by
  induction r with
  | nil => intro i _ k l x y _ h _; simp at h
  | cons z r ih =>
    intro i hp k l x y hkl hx hy
    rw [pairsOk, Bool.and_eq_true] at hp
    obtain ⟨l', rfl⟩ : ∃ l', l = l' + 1 := ⟨l - 1, by omega⟩
    rw [List.getElem?_cons_succ] at hy
    cases k with
    | zero =>
      rw [List.getElem?_cons_zero] at hx
      injection hx with hx
      have := pairsFrom_ok r (i + 1) hp.1 l' y hy
      rw [show i + 1 + l' = i + (l' + 1) from by omega] at this
      rw [← hx]
      exact this
    | succ k =>
      rw [List.getElem?_cons_succ] at hx
      have := ih (i + 1) hp.2 k l' x y (by omega) hx hy
      rw [show i + 1 + l' = i + (l' + 1) from by omega, show i + 1 + k = i + (k + 1) from by omega] at this
      exact this
theorem getD_app_l {α : Type} {a b : List α} {k : Nat} {d : α} (h : k < a.length) : (a ++ b).getD k d = a.getD k d := by
  simp [List.getD, List.getElem?_append_left h]
theorem getD_app_r {α : Type} {a b : List α} {k : Nat} {d : α} (h : a.length ≤ k) : (a ++ b).getD k d = b.getD (k - a.length) d := by
  simp [List.getD, List.getElem?_append_right h]
theorem fold_bit (acc : List Nat) (p : Nat) : ∀ (e : List Nat) (m : Nat), (e.foldl (fun m j => m ||| 2 ^ j ||| acc.getD j 0) m).testBit p = true → m.testBit p = true ∨ ∃ x ∈ e, x = p ∨ (acc.getD x 0).testBit p = true
  | [], m, h => .inl h
  | x :: e, m, h => by
    simp only [List.foldl_cons] at h
    rcases fold_bit acc p e _ h with h | ⟨y, hy, h⟩
    · rw [Nat.testBit_or, Nat.testBit_or, Nat.testBit_two_pow] at h
      simp only [Bool.or_eq_true, decide_eq_true_eq] at h
      rcases h with (h | h) | h
      · exact .inl h
      · exact .inr ⟨x, List.mem_cons_self, .inl h⟩
      · exact .inr ⟨x, List.mem_cons_self, .inr h⟩
    · exact .inr ⟨y, List.mem_cons_of_mem _ hy, h⟩
theorem closure_ok {full : List (List Nat)} {D : Nat → Prop} (hD : ∀ k, D k → ∀ e ∈ full.getD k [], D e) : ∀ (rest : List (List Nat)) (acc : List Nat), (∀ k, rest[k]? = full[acc.length + k]?) → (∀ k p, (acc.getD k 0).testBit p = true → (∀ e ∈ full.getD k [], D e) → D p) →
    ∀ k p, ((closure acc rest).getD k 0).testBit p = true → (∀ e ∈ full.getD k [], D e) → D p
  | [], acc, _, hi => hi
  | e :: rest, acc, hr, hi => by
    simp only [closure]
    refine closure_ok hD rest _ (fun k => ?_) (fun k p h he => ?_)
    · have := hr (k + 1)
      simp only [List.getElem?_cons_succ] at this
      rw [this, List.length_append]
      simp only [List.length_cons, List.length_nil]
      congr 1; omega
    · rcases Nat.lt_trichotomy k acc.length with hk | hk | hk
      · rw [getD_app_l hk] at h
        exact hi k p h he
      · subst hk
        rw [getD_app_r (Nat.le_refl _)] at h
        simp only [Nat.sub_self, List.getD_cons_zero] at h
        have h0 : full.getD acc.length [] = e := by
          have := hr 0
          simp only [List.getElem?_cons_zero, Nat.add_zero] at this
          simp [List.getD, ← this]
        rw [h0] at he
        rcases fold_bit acc p e 0 h with h | ⟨x, hx, h⟩
        · simp at h
        · rcases h with h | h
          · subst h; exact he x hx
          · exact hi x p h (hD x (he x hx))
      · rw [getD_app_r (by omega)] at h
        have : ([e.foldl (fun m j => m ||| 2 ^ j ||| acc.getD j 0) 0].getD (k - acc.length) 0) = 0 := by
          have : ∃ j, k - acc.length = j + 1 := ⟨k - acc.length - 1, by omega⟩
          obtain ⟨j, hj⟩ := this
          rw [hj]; rfl
        rw [this] at h
        simp at h
theorem backOk_ok : ∀ (es : List (List Nat)) (i : Nat), backOk i es = true → ∀ k e, e ∈ es.getD k [] → e < i + k
  | [], i, _, k, e, he => by simp at he
  | x :: es, i, h, 0, e, he => by
    simp only [backOk, Bool.and_eq_true] at h
    simp only [List.getD_cons_zero] at he
    have := List.all_eq_true.1 h.1 e he
    simpa using this
  | x :: es, i, h, k + 1, e, he => by
    simp only [backOk, Bool.and_eq_true] at h
    simp only [List.getD_cons_succ] at he
    have := backOk_ok es (i + 1) h.2 k e he
    omega

theorem aopsF_L {rid : Nat} {all : List Oper} {lab : Nat → Nat} : ∀ (n i : Nat) (fr : AFr) (st : Store) (q : AFr × Store × List Nat), i + n = all.length → aopsF E call A rid all (all.drop i) i fr st = some q → (∀ k, lab (i + k) = q.2.2.getD k 2) →
    opsL E call A rid all lab (List.range' i n) fr st = some (q.1, q.2.1)
  | 0, i, fr, st, q, h, hq, hl => by
    rw [List.drop_of_length_le (by omega)] at hq
    simp only [aopsF, Option.some.injEq] at hq; subst hq
    rfl
  | n + 1, i, fr, st, q, h, hq, hl => by
    have hlt : i < all.length := by omega
    rw [List.drop_eq_getElem_cons hlt] at hq
    have hget : all[i]? = some all[i] := List.getElem?_eq_getElem hlt
    simp only [aopsF] at hq
    rw [List.range'_succ]
    simp only [opsL]
    split at hq
    · rename_i hw
      split at hq
      · cases hq
      · rename_i ins hins
        split at hq
        · rename_i r hr
          split at hq
          · rename_i fr1 hp
            split at hq
            · rename_i q' hq'
              injection hq with hq; subst hq
              have hput := putO_eq A fr all[i].op all[i].dst (some r.1)
              simp only [putO, hp] at hput
              cases hu : putU A fr all[i].op all[i].dst (some r.1) with
              | none => simp [hu] at hput
              | some u =>
                simp only [hu, Option.map_some, Option.some.injEq] at hput
                have h0 := hl 0
                simp only [Nat.add_zero, List.getD_cons_zero] at h0
                have hout : outS E call A rid all i all[i] fr st = some (some r.1, r.2, lab i) := by
                  simp only [outS, hw, hins, hr, h0]
                rw [stepL_mk hget hout hu]
                simp only [← hput]
                exact aopsF_L n (i + 1) fr1 r.2 q' (by omega) hq' (fun k => by have := hl (k + 1); simp only [List.getD_cons_succ] at this; rw [← this]; congr 1; omega)
            · cases hq
          · cases hq
        · cases hq
    · rename_i hw
      split at hq
      · rename_i fr1 hp
        split at hq
        · rename_i q' hq'
          injection hq with hq; subst hq
          have hput := putO_eq A fr all[i].op all[i].dst none
          simp only [putO, hp] at hput
          cases hu : putU A fr all[i].op all[i].dst none with
          | none => simp [hu] at hput
          | some u =>
            simp only [hu, Option.map_some, Option.some.injEq] at hput
            have h0 := hl 0
            simp only [Nat.add_zero, List.getD_cons_zero] at h0
            have hout : outS E call A rid all i all[i] fr st = some (none, st, lab i) := by
              simp only [outS, hw, h0]
            rw [stepL_mk hget hout hu]
            simp only [← hput]
            exact aopsF_L n (i + 1) fr1 st q' (by omega) hq' (fun k => by have := hl (k + 1); simp only [List.getD_cons_succ] at this; rw [← this]; congr 1; omega)
        · cases hq
      · cases hq
    · cases hq
theorem stepL_astep {rid i l : Nat} {all : List Oper} {fr : AFr} {st : Store} {r : AFr × Store} (h : stepL E call A rid all i l fr st = some r) : astep E call A rid all i fr st = some r := by
  obtain ⟨o, out, u, ho, hq, hu, e⟩ := stepL_some h
  have hput := putO_eq A fr o.op o.dst out
  rw [hu] at hput
  simp only [astep, ho]
  unfold outS at hq
  split at hq
  · rename_i hw
    simp only [hw]
    split at hq
    · cases hq
    · rename_i ins hins
      split at hq
      · rename_i r1 hr1
        simp only [Option.some.injEq, Prod.mk.injEq] at hq
        obtain ⟨rfl, h2, _⟩ := hq
        simp only [putO, Option.map_some] at hput
        simp only [aoper, hins, hr1, hput, ← e, h2]
      · cases hq
  · rename_i hw
    simp only [hw]
    simp only [Option.some.injEq, Prod.mk.injEq] at hq
    obtain ⟨rfl, h2, _⟩ := hq
    simp only [putO, Option.map_some] at hput
    simp only [hput, ← e, h2]
  · cases hq
theorem opsL_I {rid : Nat} {all : List Oper} {lab : Nat → Nat} : ∀ (L : List Nat) (fr : AFr) (st : Store) (r : AFr × Store), opsL E call A rid all lab L fr st = some r → aopsI E call A rid all L fr st = some r
  | [], _, _, _, h => h
  | i :: L, fr, st, r, h => by
    simp only [opsL] at h
    split at h
    · rename_i r1 hr1
      simp only [aopsI, stepL_astep hr1]
      exact opsL_I L r1.1 r1.2 r h
    · cases h
/-- What is not yet done, in text order. -/
def left (n : Nat) (listed : Array Bool) : List Nat := (List.range n).filter fun i => !listed.getD i true
theorem lin_ok (wf : ∀ t b, A.base t = some b → A.base b = some b) {rid : Nat} {ops : Array Oper} {lab : Nat → Nat} {cl fs : List Nat} (hback : backOk 0 (ops.toList.map anyEdges) = true) (hcl : cl = closure [] (ops.toList.map anyEdges)) (hlab : ∀ i, lab i = fs.getD i 2) (hp : pairsOk A ops.toList cl fs ops.toList 0 = true) :
    ∀ (fuel t : Nat) (listed : Array Bool) (fr : AFr) (st : Store) (r : AFr × Store), listed.size = ops.size → (∀ i o, ops[i]? = some o → listed.getD i true = true → ∀ e ∈ anyEdges o, listed.getD e false = true) → (left ops.size listed).length ≤ fuel →
      opsL E call A rid ops.toList lab (left ops.size listed) fr st = some r → opsL E call A rid ops.toList lab (Region.linearise.go .any ops fuel t listed []) fr st = some r := by
  have hes : ∀ k, (ops.toList.map anyEdges).getD k [] = ((ops[k]?).map anyEdges).getD [] := by
    intro k
    simp only [List.getD, List.getElem?_map, Array.getElem?_toList]
  have hready : ∀ (listed : Array Bool) i, i ∈ Region.ready .any ops listed ↔ i < ops.size ∧ listed.getD i true = false ∧ ∀ o, ops[i]? = some o → ∀ e ∈ anyEdges o, listed.getD e false = true := by
    intro listed i
    simp only [Region.ready, List.mem_filter, List.mem_range, Bool.and_eq_true, Bool.not_eq_true']
    constructor
    · rintro ⟨h1, h2, h3⟩
      refine ⟨h1, h2, fun o ho e he => ?_⟩
      rw [ho] at h3
      simp only [Option.map_some, Option.getD_some, Array.all_eq_true_iff_forall_mem] at h3
      simp only [anyEdges, List.mem_map, List.mem_filter] at he
      obtain ⟨ed, ⟨he1, he2⟩, rfl⟩ := he
      have := h3 ed (by simpa using he1)
      rw [he2] at this
      simpa using this
    · rintro ⟨h1, h2, h3⟩
      refine ⟨h1, h2, ?_⟩
      have ho : ops[i]? = some ops[i] := Array.getElem?_eq_getElem h1
      rw [ho]
      simp only [Option.map_some, Option.getD_some, Array.all_eq_true_iff_forall_mem]
      intro ed hed
      by_cases hb : Region.binds .any ed = true
      · rw [hb]
        simp only [Bool.not_true, Bool.false_or]
        exact h3 _ ho _ (by simp only [anyEdges, List.mem_map, List.mem_filter]; exact ⟨ed, ⟨by simpa using hed, hb⟩, rfl⟩)
      · simp [hb]
  have getD_tf : ∀ (listed : Array Bool) i, i < listed.size → listed.getD i true = listed.getD i false := by
    intro listed i hi
    simp [Array.getD, hi]
  intro fuel
  induction fuel with
  | zero =>
    intro t listed fr st r _ _ hlen h
    have : left ops.size listed = [] := List.eq_nil_of_length_eq_zero (by omega)
    rw [this] at h
    exact h
  | succ fuel ih =>
    intro t listed fr st r hsz hclosed hlen h
    simp only [Region.linearise.go]
    change opsL E call A rid ops.toList lab (match (Region.ready .any ops listed)[t % (Region.ready .any ops listed).length]? with
      | some i => Region.linearise.go .any ops fuel (t / (Region.ready .any ops listed).length) (listed.setIfInBounds i true) [i]
      | none => [].reverse) fr st = some r
    cases hi : (Region.ready .any ops listed)[t % (Region.ready .any ops listed).length]? with
    | none =>
      have hnil : Region.ready .any ops listed = [] := by
        cases hr : Region.ready .any ops listed with
        | nil => rfl
        | cons x xs =>
          rw [hr] at hi
          have hlt : t % (x :: xs).length < (x :: xs).length := Nat.mod_lt _ (by simp)
          simp at hi
          simp at hlt
          omega
      cases hS : left ops.size listed with
      | nil => rw [hS] at h; exact h
      | cons m S =>
        exfalso
        have hm : m ∈ left ops.size listed := by rw [hS]; exact List.mem_cons_self
        simp only [left, List.mem_filter, List.mem_range, Bool.not_eq_true'] at hm
        have hleast : ∀ e, e < m → listed.getD e true = true := by
          intro e he
          cases hle : listed.getD e true with
          | true => rfl
          | false =>
            have hem : e ∈ left ops.size listed := by
              simp only [left, List.mem_filter, List.mem_range, Bool.not_eq_true']
              exact ⟨by omega, hle⟩
            have hpw : (left ops.size listed).Pairwise (· < ·) := List.Pairwise.filter _ List.pairwise_lt_range
            rw [hS] at hem hpw
            rcases List.mem_cons.1 hem with h | h
            · omega
            · have := (List.pairwise_cons.1 hpw).1 e h
              omega
        have : m ∈ Region.ready .any ops listed := by
          refine (hready listed m).2 ⟨hm.1, hm.2, fun o ho e he => ?_⟩
          have hlt := backOk_ok _ 0 hback m e (by rw [hes m, ho]; exact he)
          rw [← getD_tf listed e (by omega)]
          exact hleast e (by omega)
        rw [hnil] at this
        cases this
    | some i =>
      simp only []
      rw [linearise_go_acc, List.reverse_singleton, List.singleton_append]
      obtain ⟨hin, hun, hed⟩ := (hready listed i).1 (List.mem_of_getElem? hi)
      have hget : ops.toList[i]? = some ops[i] := by rw [Array.getElem?_toList]; exact Array.getElem?_eq_getElem hin
      have hmem : i ∈ left ops.size listed := by
        simp only [left, List.mem_filter, List.mem_range, Bool.not_eq_true']
        exact ⟨hin, hun⟩
      have hpw : (left ops.size listed).Pairwise (· < ·) := List.Pairwise.filter _ List.pairwise_lt_range
      obtain ⟨pre, post, hS⟩ := List.append_of_mem hmem
      have hpre : ∀ p ∈ pre, p < i ∧ p < ops.size ∧ listed.getD p true = false := by
        intro p hpm
        rw [hS] at hpw
        have h1 := (List.pairwise_append.1 hpw).2.2 p hpm i List.mem_cons_self
        have h2 : p ∈ left ops.size listed := by rw [hS]; exact List.mem_append_left _ hpm
        simp only [left, List.mem_filter, List.mem_range, Bool.not_eq_true'] at h2
        exact ⟨h1, h2⟩
      rw [hS] at h
      have hfront := front_ok wf hget pre fr st (fun p hpm => by
        obtain ⟨h1, h2, h3⟩ := hpre p hpm
        have hgp : ops.toList[p]? = some ops[p] := by rw [Array.getElem?_toList]; exact Array.getElem?_eq_getElem h2
        refine ⟨_, hgp, ?_⟩
        have := pairsOk_ok ops.toList 0 hp p i _ _ h1 hgp hget
        simp only [Nat.zero_add] at this
        rcases this with hb | hb
        · exfalso
          have hD := closure_ok (full := ops.toList.map anyEdges) (D := fun k => listed.getD k false = true) (fun k hk e he => by
              rw [hes k] at he
              cases ho : ops[k]? with
              | none => rw [ho] at he; cases he
              | some o =>
                rw [ho] at he
                have hlt : k < ops.size := (Array.getElem?_eq_some_iff.1 ho).1
                exact hclosed k o ho (by rw [getD_tf listed k (by omega)]; exact hk) e he)
            (ops.toList.map anyEdges) [] (fun k => by simp) (fun k p h _ => by simp at h) i p (by rw [← hcl]; exact hb) (fun e he => by
              rw [hes i, Array.getElem?_eq_getElem hin] at he
              exact hed _ (Array.getElem?_eq_getElem hin) e he)
          rw [getD_tf listed p (by omega)] at h3
          rw [h3] at hD; cases hD
        · rw [hlab p, hlab i]; exact hb) h
      simp only [opsL] at hfront ⊢
      split at hfront
      · rename_i r1 hr1
        have hleft : left ops.size (listed.setIfInBounds i true) = pre ++ post := by
          have h1 : left ops.size (listed.setIfInBounds i true) = (left ops.size listed).filter (fun k => k != i) := by
            simp only [left, List.filter_filter]
            apply List.filter_congr
            intro k hk
            by_cases hki : k = i
            · subst hki; simp [Array.getD, hsz, hin]
            · have : (listed.setIfInBounds i true).getD k true = listed.getD k true := by
                simp only [Array.getD_eq_getD_getElem?]
                rw [Array.getElem?_setIfInBounds_ne (fun e => hki e.symm)]
              rw [this]; simp [hki]
          rw [h1, hS, List.filter_append, List.filter_cons]
          have hpo : ∀ p ∈ post, p ≠ i := by
            intro p hpm
            rw [hS] at hpw
            have := (List.pairwise_cons.1 (List.pairwise_append.1 hpw).2.1).1 p hpm
            omega
          have f1 : pre.filter (fun k => k != i) = pre := List.filter_eq_self.2 fun p hpm => by have := (hpre p hpm).1; simp; omega
          have f2 : post.filter (fun k => k != i) = post := List.filter_eq_self.2 fun p hpm => by simpa using hpo p hpm
          rw [f1, f2]; simp
        refine ih _ _ r1.1 r1.2 r (by simp [hsz]) ?_ ?_ (by rw [hleft]; exact hfront)
        · intro k o ho hk e he
          have mono : ∀ z, listed.getD z false = true → (listed.setIfInBounds i true).getD z false = true := by
            intro z hz
            simp only [Array.getD_eq_getD_getElem?, Array.getElem?_setIfInBounds] at hz ⊢
            split
            · split <;> simp_all
            · exact hz
          apply mono
          by_cases hki : k = i
          · subst hki; exact hed o ho e he
          · refine hclosed k o ho ?_ e he
            simp only [Array.getD_eq_getD_getElem?] at hk ⊢
            rwa [Array.getElem?_setIfInBounds_ne (fun e => hki e.symm)] at hk
        · rw [hleft]
          have := congrArg List.length hS
          simp only [List.length_append, List.length_cons] at this ⊢
          omega
      · cases hfront
theorem adraw_wp (hcall : CallOk E call) (hmix : E.P.follows .mixedOrders = true) {rid : Nat} {ops : Array Oper} {Q : Exit → Act → World → Prop} {fr fr' : AFr} {st st' : Store} (h : adraw E call A rid ops.toList fr st = some (fr', st')) (hfs : FS E A g0 w0 g B st w fr a) (hk : Goes E A g0 w0 st' fr' (Q .normal)) :
    (Code.region rid ops true).wpIn (FW rd) 0 E.P Q a w := by
  unfold adraw at h
  split at h
  · rename_i hback
    split at h
    · rename_i q hq
      split at h
      · rename_i hp
        simp only [Option.some.injEq, Prod.mk.injEq] at h
        obtain ⟨rfl, rfl⟩ := h
        refine wpIn_region_draw fun t => ?_
        have hsch : Region.schedule (E.P.follows .mixedOrders) ops t = Region.linearise .any ops t := by
          simp only [Region.schedule, hmix, Bool.true_or, if_true]
        rw [hsch]
        have hL := aopsF_L (E := E) (call := call) (A := A) (rid := rid) (all := ops.toList) (lab := fun i => q.2.2.getD i 2) ops.toList.length 0 fr st q (by simp) (by rw [List.drop_zero]; exact hq) (fun k => by simp)
        have hleft : left ops.size (Array.replicate ops.size false) = List.range' 0 ops.toList.length := by
          unfold left
          have hf : (List.range ops.size).filter (fun i => !(Array.replicate ops.size false).getD i true) = List.range ops.size := by
            apply List.filter_eq_self.2
            intro i hi
            have := List.mem_range.1 hi
            simp [Array.getD, this]
          rw [hf, List.range_eq_range']
          simp
        have hlin := lin_ok (E := E) (call := call) (rid := rid) hfs.fr.wf hback rfl (fun i => rfl) hp ops.size t (Array.replicate ops.size false) fr st (q.1, q.2.1) (by simp) (fun i o ho hh => by
            have hlt : i < ops.size := (Array.getElem?_eq_some_iff.1 ho).1
            simp [Array.getD, hlt] at hh) (by rw [hleft]; simp) (by rw [hleft]; exact hL)
        refine aopsI_wp hcall (rid := rid) _ fr st g B _ a (opsL_I _ _ _ _ hlin) ?_ hk
        exact hfs.adv' (Adv.drew g w _) (hfs.inv.same fun _ _ => rfl)
      · cases h
    · cases h
  · cases h
end
end Go.Sim

namespace Go.Sim

def exitOf : AEx → Exit
  | .normal => .normal
  | .exit id => .exit id
  | .ret => .ret
section
variable {E : Env} {call : Caller} {A : Ann} {g g0 : Gh} {B : Nat → Nat} {w w0 : World} {a : Act} {st st' : Store} {fr fr' : AFr}

theorem putObj_upd {b : Nat} {o : Obj} (h : b < w.heap.size) : Upd w b o (w.putObj b o) :=
  ⟨World.putObj_heap_same h, fun _ hi => World.putObj_heap_other hi, World.putObj_size, rfl, rfl, rfl⟩
theorem snap_get (A : Ann) : ∀ (xs : List AV) (i t : Nat) (x : AV), (snap A i xs)[t]? = some x → ∃ y, xs[t]? = some y ∧ ((A.base (i + t) = none ∧ x = y) ∨ x = .junk)
  | [], i, t, x, h => by simp [snap] at h
  | y :: ys, i, 0, x, h => by
    simp only [snap, List.getElem?_cons_zero, Option.some.injEq] at h
    refine ⟨y, rfl, ?_⟩
    rw [Nat.add_zero]
    split at h
    · rename_i hb; exact .inl ⟨hb, h.symm⟩
    · exact .inr h.symm
  | y :: ys, i, t + 1, x, h => by
    simp only [snap, List.getElem?_cons_succ] at h
    obtain ⟨z, h1, h2⟩ := snap_get A ys (i + 1) t x h
    exact ⟨z, by simpa using h1, by rwa [show i + (t + 1) = i + 1 + t by omega]⟩
theorem snap_len (A : Ann) : ∀ (i : Nat) (xs : List AV), (snap A i xs).length = xs.length
  | _, [] => rfl
  | i, _ :: xs => by simp [snap, snap_len A (i + 1) xs]
theorem Reps.of_get {vs : List Value} : ∀ {xs : List AV}, vs.length = xs.length → (∀ (t : Nat) (v : Value) (x : AV), vs[t]? = some v → xs[t]? = some x → Rep g v x) → Reps g vs xs := by
  induction vs with
  | nil =>
    intro xs hl _
    match xs, hl with
    | [], _ => exact .nil
  | cons v vs ih =>
    intro xs hl h
    match xs, hl with
    | x :: xs, hl => exact .cons _ _ _ _ (h 0 v x rfl rfl) (ih (by simpa using hl) fun t u y h1 h2 => h (t + 1) u y (by simpa using h1) (by simpa using h2))
theorem FR.snap {n0 : Nat} (h : FR A n0 g B w fr a) : Reps g a.tmps.toList (snap A 0 fr.tmps) := by
  refine Reps.of_get (by rw [snap_len, h.lt]; simp) fun t v x hv hx => ?_
  obtain ⟨y, h1, h2⟩ := snap_get A fr.tmps 0 t x hx
  rcases h2 with ⟨hb, rfl⟩ | rfl
  · have := h.tmp t x (by simpa using hb) h1
    rwa [Array.getD_eq_getD_getElem?, ← Array.getElem?_toList, hv] at this
  · exact .junk v
/-- A live loop's record. -/
theorem Inv.loopAt (hi : Inv g st w) {b o : Nat} (hl : Live g b o) {s : LoopState} {pend : Option Code} {f : FuncId} {tmps : List AV} {ps : List Tmp} {as bd : Code} (hg : st.get o = some (.loop s pend f tmps ps as bd)) :
    ∃ tot, g.blk b = some (.obj o tot) ∧ ∃ l : Loop, w.heap[b]? = some (.loop l) ∧ l.state = s ∧ l.pending = pend ∧ Reps g l.tmps.toList tmps ∧ l.params = ps.toArray ∧ l.assign = as ∧ l.body = bd := by
  rcases hl with hd | ⟨tot, hb, _⟩
  · rw [hi.dead o hd] at hg; cases hg
  · obtain ⟨x, h1, h2⟩ := hi.obj b o tot hb
    rw [hg] at h1; injection h1 with h1; subst h1
    exact ⟨tot, hb, h2⟩
/-- The record is written. -/
theorem Inv.setLoop (hi : Inv g st w) {b o : Nat} {tot : Nat} (hb : g.blk b = some (.obj o tot)) {l : Loop} (hl : w.heap[b]? = some (.loop l)) {tmps : List AV} {ps : List Tmp} {as bd : Code}
    (h1 : Reps g l.tmps.toList tmps) (h2 : l.params = ps.toArray) (h3 : l.assign = as) (h4 : l.body = bd) (s : LoopState) (pend : Option Code) (f : FuncId) :
    Inv g (st.set o (.loop s pend f tmps ps as bd)) (w.putObj b (.loop { l with state := s, pending := pend })) ∧ Adv g w g (w.putObj b (.loop { l with state := s, pending := pend })) := by
  have hlt := (Array.getElem?_eq_some_iff.1 hl).1
  exact hi.write hb (putObj_upd hlt) _ ⟨_, World.putObj_heap_same hlt, rfl, rfl, h1, h2, h3, h4⟩
theorem jumpEx_some {pend : Option Code} {ex : AEx} (h : jumpEx pend = some ex) : (pend = none ∧ ex = .normal) ∨ (pend = some .ret ∧ ex = .ret) ∨ ∃ id, pend = some (.exit id) ∧ ex = .exit id := by
  unfold jumpEx at h
  split at h
  · injection h with h; exact .inl ⟨rfl, h.symm⟩
  · injection h with h; exact .inr (.inl ⟨rfl, h.symm⟩)
  · injection h with h; exact .inr (.inr ⟨_, rfl, h.symm⟩)
  · cases h
theorem Marks.lt {n0 : Nat} : ∀ {ds : List Deferred}, Marks n0 g w ds → ∀ d ∈ ds, ∃ r, d.target = .collected r ∧ r < w.heap.size
  | [], _, d, h => by cases h
  | x :: ds, ⟨⟨r, h1, h2, h3, h4, h5⟩, h6⟩, d, h => by
    rcases List.mem_cons.1 h with h | h
    · subst h; exact ⟨r, by rw [h1], (Array.getElem?_eq_some_iff.1 h4).1⟩
    · exact Marks.lt h6 d h
theorem range_wp (hcall : CallOk E call) (hname : ∀ (f : Nat) fn, E.P.funcs[f]? = some fn → fn.body ≠ none → fn.name ≠ "runtime.NumGoroutine") {it : Operand} {ps : Array Tmp} {assign body : Code} {f k : FuncId} {first cap : List AV} {r : AV × Store} {ex : AEx} {Q : Exit → Act → World → Prop}
    (hc : aeval E.globals A fr it = some (.val (.func (.func k) first cap))) (hk : entersF E k = true)
    (hr : call (.func (.func k) first cap) [.func (.yield st.nobj) [] []] (st.new (.loop .ready none f (snap A 0 fr.tmps) ps.toList assign body)) = some r)
    (he : endLoopA fr r.2 st.nobj = some (ex, fr', st')) (hfs : FS E A g0 w0 g B st w fr a) (hg : Goes E A g0 w0 st' fr' (Q (exitOf ex))) :
    (Code.rangeFunc it ps assign body).wpIn (FW none) 0 E.P Q a w := by
  refine wpIn_rangeFunc fun fn _ => ?_
  have hi := hfs.inv
  -- the two blocks
  let rec0 : Loop := { state := .ready, pending := none, fn, tmps := a.tmps, params := ps, assign, body, defers := w.heap.size }
  let wd := w.alloc (.deferred (some []))
  have hid : Inv g st wd := hi.alloc _
  have hwd : wd.heap.size = w.heap.size + 1 := by simp [wd]
  have ad : Adv g w g wd := Adv.alloc g w _ (fun b hb => hi.none_of_ge hb)
  let w1 := wd.alloc (.loop rec0)
  let g1 := g.upd wd.heap.size (.obj st.nobj 0)
  have hle1 : Le g g1 := Le.upd_new g _ (hid.none_of_ge (Nat.le_refl _))
  have a1 : Adv g wd g1 w1 := Adv.alloc_upd hid _ _
  have i1 : Inv g1 (st.new (.loop .ready none f (snap A 0 fr.tmps) ps.toList assign body)) w1 :=
    hid.alloc_obj _ _ _ ⟨rec0, heap_alloc_new wd _, rfl, rfl, (FR.snap hfs.fr).mono hle1, by simp [rec0], rfl, rfl⟩
  have hlive : Live g1 wd.heap.size st.nobj := .inr ⟨0, Gh.upd_same _ _ _, Nat.zero_le _⟩
  -- the function
  have hfv := aeval_ok hfs.fr hfs.glob hc
  have hfv' : Rep g (a.eval it) (.func (.func k) first cap) := hfv
  generalize hev : a.eval it = fv at hfv'
  cases hfv' with
  | func _ fa ca _ _ hp ha hb =>
    have hap := hcall _ _ _ _ _ hr g1 w1 _ #[.func (.yield wd.heap.size) #[] #[]] (.func (.func k) fa ca _ _ hp (ha.mono hle1) (hb.mono hle1)) (.cons _ _ _ _ (.yield _ _ hlive) .nil) i1 (hfs.glob.mono hle1)
    unfold entersF at hk
    split at hk
    · rename_i fnk hfk
      have hfk' : E.P.funcs[k]? = some fnk := by rw [E.hL] at hfk; exact hfk
      have hbk : fnk.body ≠ none := by intro e; rw [e] at hk; cases hk
      have hn : ¬ (fnk.name = "runtime.NumGoroutine") := hname k fnk hfk' hbk
      have hrun : (callFunc k (fa ++ #[.func (.yield wd.heap.size) #[] #[]] ++ ca)).run E.P w1 = .ok (.enter k (fa ++ #[.func (.yield wd.heap.size) #[] #[]] ++ ca)) w1 := by
        cases hbb : fnk.body with
        | none => exact absurd hbb hbk
        | some c => simp [callFunc, hfk', hn, hbb]
      have e : (do let d ← Deferred.ofValue (.func (.func k) fa ca) #[.func (.yield wd.heap.size) #[] #[]]; invoke d.target d.args : Sem Next) = callFunc k (fa ++ #[.func (.yield wd.heap.size) #[] #[]] ++ ca) := rfl
      unfold Applies at hap
      rw [e, hrun] at hap
      refine ⟨wd.heap.size, [{ target := .collected w.heap.size, args := #[] }], w1, { target := .fn (.func k) ca, args := fa ++ #[.func (.yield wd.heap.size) #[] #[]] }, w1, k, _, w1, ?_, ?_, fun _ _ => trivial, hrun, fun hd => by simp [FW, Fence.wide] at hd, hap.mono ?_⟩
      · have := run_enterLoop_outer (P := E.P) (w := w) fn a.tmps ps assign body
        rw [hwd]
        exact this
      · have hev' : a.eval it = .func (.func k) fa ca := hev
        have hm : #[Operand.const (Value.func (Fn.yield wd.heap.size) #[] #[])].map a.eval = #[Value.func (Fn.yield wd.heap.size) #[] #[]] := by simp [Act.eval]
        simp only [resolve, rangeCall, hev', Deferred.ofValue, hm]
        rfl
      · intro en w3 hh
        cases en with
        | panicked ch => exact hh.elim
        | outgrown => exact hh.elim
        | returned v =>
          obtain ⟨g3, a3, i3, _⟩ := hh
          unfold endLoopA at he
          split at he
          · rename_i s pend f' tmps ps' as bd hget
            obtain ⟨tot, hblk, L, hL, hs, hpd, ht, hpa, has, hbd⟩ := i3.loopAt (hlive.mono a3.le) hget
            have hnb : L.state ≠ .busy := by rw [hs]; rintro rfl; cases he
            have he' : ∃ ex', jumpEx pend = some ex' ∧ some (ex', fr, r.2.set st.nobj (.loop .exhausted pend f' tmps ps' as bd)) = some (ex, fr', st') := by
              split at he
              · cases he
              · split at he
                · rename_i ex' hj; exact ⟨ex', hj, he⟩
                · cases he
            obtain ⟨ex', hj, he'⟩ := he'
            simp only [Option.some.injEq, Prod.mk.injEq] at he'
            obtain ⟨rfl, rfl, rfl⟩ := he'
            obtain ⟨i4, a4⟩ := i3.setLoop hblk hL ht hpa has hbd .exhausted L.pending f'
            have hrec : ({ L with state := .exhausted, pending := L.pending } : Loop) = { L with state := .exhausted } := rfl
            rw [hrec] at i4 a4
            have adv4 : Adv g w g3 _ := ((ad.trans a1).trans a3).trans a4
            -- the frame
            have hdr : g1.blk w.heap.size = none := by
              rw [Gh.upd_other _ _ (by omega)]; exact hi.none_of_ge (Nat.le_refl _)
            have hw1r : w1.heap[w.heap.size]? = some (.deferred (some [])) := by
              show ((w.alloc (.deferred (some []))).alloc (.loop rec0)).heap[w.heap.size]? = _
              rw [heap_alloc_old _ _ (by simp)]
              exact heap_alloc_new w _
            have adv14 : Adv g1 w1 g3 _ := a3.trans a4
            obtain ⟨k1, k2⟩ := adv14.keep w.heap.size (Array.getElem?_eq_some_iff.1 hw1r).1 hdr
            have hfs4 : FS E A g0 w0 g3 B (r.2.set st.nobj (.loop .exhausted pend f' tmps ps' as bd)) (w3.putObj wd.heap.size (.loop { L with state := .exhausted })) fr { a with defers := [{ target := .collected w.heap.size, args := #[] }] ++ a.defers } := by
              have hf := hfs.fr.adv adv4
              refine ⟨⟨hf.lt, hf.lo, hf.ll, hf.wf, hf.tmp, hf.off, hf.box, hf.inj⟩, by rw [← hpd]; exact i4, hfs.adv.trans adv4, hfs.glob.mono adv4.le, ⟨w.heap.size, rfl, hfs.adv.size, k2, k1.trans hw1r, fun d hd => ?_⟩, hfs.df.adv adv4⟩
              obtain ⟨rr, q1, q2⟩ := hfs.df.lt d hd
              rw [q1]; intro e; injection e with e; omega
            have hend := run_endLoop (P := E.P) hL hnb
            generalize w3.putObj wd.heap.size (.loop { L with state := .exhausted }) = W4 at hend hfs4
            refine ⟨L.pending, W4, hend, ?_⟩
            rw [hpd]
            rcases jumpEx_some hj with ⟨rfl, rfl⟩ | ⟨rfl, rfl⟩ | ⟨id, rfl, rfl⟩
            · exact hg _ _ _ _ hfs4
            · exact wpIn_ret (hg _ _ _ _ hfs4)
            · exact wpIn_exit (hg _ _ _ _ hfs4)
          · cases he
    · cases hk
end
end Go.Sim
