/- Regions whose order is drawn: two operations that may be turned round. -/
import Derived.Test.YtnplidplamoejaaGreatDoorSimV
set_option linter.unusedVariables false
set_option linter.unusedSimpArgs false
set_option linter.unnecessarySimpa false
namespace Go.Sim

/-- What is laid down. -/
inductive PU where
  | nop
  | tm (d : Nat) (v : AV)
  | ofs (d : Nat) (x : Option Nat)
  | bx (d : Nat) (cs : List AV)
  | lb (b : Nat) (cs : List AV)
def PU.app (A : Ann) : PU → AFr → AFr
  | .nop, fr => fr
  | .tm d v, fr => { fr with tmps := fr.tmps.set d v }
  | .ofs d x, fr => { fr with offs := fr.offs.set d x }
  | .bx d cs, fr => { fr with offs := (purge A d 0 fr.offs).set d (some 0), lbs := fr.lbs.set d cs }
  | .lb b cs, fr => { fr with lbs := fr.lbs.set b cs }
def putU (A : Ann) (fr : AFr) (op : Op) (dst : Option Tmp) : Option Out → Option PU
  | .none => (match dst with
    | none => some .nop
    | some d => (match A.base d with
      | none => some (.tm d aundef)
      | some _ => some (.ofs d none)))
  | .some out => (match out, dst with
    | .val v, some d => (match A.base d with
      | none => some (.tm d v)
      | some _ => none)
    | .val _, none => some .nop
    | .loc b off, some d => (match fr.offs[b]? with
      | some (some _) => if A.base d = some b ∧ d ≠ b then some (.ofs d (some off)) else none
      | _ => none)
    | .box cs, some d => if A.base d = some d then some (.bx d cs) else none
    | .lst b cs, none => (match op with
      | .store _ (.tmp t) _ => (match fr.offs[b]? with
        | some (some _) => if A.base t = some b ∧ A.base b = some b then some (.lb b cs) else none
        | _ => none)
      | _ => none)
    | _, _ => none)
def putO (A : Ann) (fr : AFr) (op : Op) (dst : Option Tmp) : Option Out → Option AFr
  | .none => aputNone A fr dst
  | .some out => aput A fr op dst out
theorem putO_eq (A : Ann) (fr : AFr) (op : Op) (dst : Option Tmp) (out : Option Out) : putO A fr op dst out = (putU A fr op dst out).map (PU.app A · fr) := by
  cases out with
  | none =>
    cases dst with
    | none => rfl
    | some d =>
      simp only [putO, aputNone, putU]
      cases A.base d <;> rfl
  | some out =>
    cases out with
    | val v =>
      cases dst with
      | none => rfl
      | some d =>
        simp only [putO, aput, putU]
        cases A.base d <;> rfl
    | loc b off =>
      cases dst with
      | none => rfl
      | some d =>
        cases hx : fr.offs[b]? with
        | none => simp [putO, aput, putU, hx]
        | some q =>
          cases q with
          | none => simp [putO, aput, putU, hx]
          | some ob =>
            simp only [putO, aput, putU, hx]
            split <;> rfl
    | box cs =>
      cases dst with
      | none => rfl
      | some d =>
        simp only [putO, aput, putU]
        split <;> rfl
    | lst b cs =>
      cases dst with
      | some d => rfl
      | none =>
        cases op with
        | store ty a v =>
          cases a with
          | tmp t =>
            cases hx : fr.offs[b]? with
            | none => simp [putO, aput, putU, hx]
            | some q =>
              cases q with
              | none => simp [putO, aput, putU, hx]
              | some ob =>
                simp only [putO, aput, putU, hx]
                split <;> rfl
          | _ => rfl
        | _ => rfl
/-- What is laid down lies in the operation's own places. -/
def PU.within (A : Ann) (all : List Oper) (o : Oper) : PU → Prop
  | .nop => True
  | .tm d _ => 2 * d ∈ lays A o ∧ A.base d = .none
  | .ofs d _ => 2 * d ∈ lays A o ∧ ∃ b, A.base d = .some b ∧ (b ≠ d → 2 * b ∈ looks A all o)
  | .bx d _ => 2 * d ∈ lays A o ∧ 2 * d + 1 ∈ lays A o ∧ A.base d = .some d
  | .lb b _ => 2 * b + 1 ∈ lays A o ∧ 2 * b ∈ looks A all o ∧ A.base b = .some b
theorem lay_dst {A : Ann} {o : Oper} {d : Nat} (h : o.dst = some d) : 2 * d ∈ lays A o ∧ 2 * d + 1 ∈ lays A o := by
  simp [lays, layD, h]
theorem look_dst {A : Ann} {all : List Oper} {o : Oper} {d b : Nat} (h : o.dst = some d) (hb : A.base d = some b) (hne : b ≠ d) : 2 * b ∈ looks A all o := by
  simp [looks, lookD, h, hb, hne]
theorem putU_within {A : Ann} {all : List Oper} {fr : AFr} {o : Oper} {out : Option Out} {u : PU} (h : putU A fr o.op o.dst out = some u) : u.within A all o := by
  cases out with
  | none =>
    simp only [putU] at h
    split at h
    · injection h with h; subst h; trivial
    · rename_i d hd
      split at h
      · rename_i hb; injection h with h; subst h; exact ⟨(lay_dst hd).1, hb⟩
      · rename_i b hb; injection h with h; subst h; exact ⟨(lay_dst hd).1, b, hb, look_dst hd hb⟩
  | some out =>
    simp only [putU] at h
    split at h
    · rename_i v d hd
      split at h
      · rename_i hb; injection h with h; subst h; exact ⟨(lay_dst hd).1, hb⟩
      · cases h
    · injection h with h; subst h; trivial
    · rename_i b off d hd
      split at h
      · split at h
        · rename_i hb; injection h with h; subst h; exact ⟨(lay_dst hd).1, b, hb.1, look_dst hd hb.1⟩
        · cases h
      · cases h
    · rename_i cs d hd
      split at h
      · rename_i hb; injection h with h; subst h; exact ⟨(lay_dst hd).1, (lay_dst hd).2, hb⟩
      · cases h
    · rename_i b cs hd
      split at h
      · rename_i ty t v hop
        split at h
        · split at h
          · rename_i hb; injection h with h; subst h
            refine ⟨?_, ?_, hb.2⟩
            · simp [lays, layS, hop, hb.1]
            · simp only [looks, hop, Op.operands, List.mem_append]
              exact .inl (by simp [lookX, lookT, hb.1])
          · cases h
        · cases h
      · cases h
    · cases h

/-- The same, where it is looked at. -/
def Agree (L : List Nat) (fr fr' : AFr) : Prop := ∀ t, (2 * t ∈ L → fr.tmps[t]? = fr'.tmps[t]? ∧ fr.offs[t]? = fr'.offs[t]?) ∧ (2 * t + 1 ∈ L → fr.lbs[t]? = fr'.lbs[t]?)
theorem Agree.sub {L L' : List Nat} {fr fr' : AFr} (h : Agree L fr fr') (hs : ∀ r ∈ L', r ∈ L) : Agree L' fr fr' := fun t => ⟨fun hr => (h t).1 (hs _ hr), fun hr => (h t).2 (hs _ hr)⟩
theorem aeval_local {G : Nat → Option AV} {A : Ann} {fr fr' : AFr} {x : Operand} (h : Agree (lookX A x) fr fr') : aeval G A fr x = aeval G A fr' x := by
  cases x with
  | tmp t =>
    simp only [aeval]
    cases hb : A.base t with
    | none =>
      have : lookX A (.tmp t) = [2 * t] := by simp [lookX, lookT, hb]
      rw [this] at h
      simp only [((h t).1 (by simp)).1]
    | some b =>
      have : lookX A (.tmp t) = [2 * t, 2 * b, 2 * b + 1] := by simp [lookX, lookT, hb]
      rw [this] at h
      simp only [((h b).1 (by simp)).2, ((h t).1 (by simp)).2, (h b).2 (by simp)]
  | _ => rfl
theorem aevals_local {G : Nat → Option AV} {A : Ann} {fr fr' : AFr} : ∀ {xs : List Operand}, Agree (xs.flatMap (lookX A)) fr fr' → aevals G A fr xs = aevals G A fr' xs
  | [], _ => rfl
  | x :: xs, h => by
    simp only [aevals]
    rw [aeval_local (fr' := fr') (h.sub fun r hr => by simp [hr]), aevals_local (fr' := fr') (h.sub fun r hr => by
      rw [List.flatMap_cons]; exact List.mem_append_right _ hr)]
theorem aYield_local {A : Ann} {all : List Oper} {fr fr' : AFr} {j : Nat} {b : Bool} (h : Agree (lookG A all (some (j, b))) fr fr') : aYield all fr A j = aYield all fr' A j := by
  unfold aYield
  simp only [lookG] at h
  cases hj : all[j]? with
  | none => rfl
  | some o =>
    simp only [hj] at h
    cases hd : o.dst with
    | none => simp only [hd]
    | some d =>
      simp only [hd] at h ⊢
      cases hb : A.base d with
      | some b => rfl
      | none =>
        have : lookT A d = [2 * d] := by simp [lookT, hb]
        rw [this] at h
        simp only [((h d).1 (by simp)).1]
theorem aWanted_local {A : Ann} {all : List Oper} {fr fr' : AFr} {o : Oper} (h : Agree (lookG A all o.guard) fr fr') : aWanted A all fr o = aWanted A all fr' o := by
  unfold aWanted
  cases hg : o.guard with
  | none => rfl
  | some p =>
    obtain ⟨j, b⟩ := p
    rw [hg] at h
    simp only
    rw [aYield_local h]
theorem putU_local {A : Ann} {all : List Oper} {fr fr' : AFr} {o : Oper} {out : Option Out} {u : PU} (h : putU A fr o.op o.dst out = some u) (ha : Agree (looks A all o) fr fr') : putU A fr' o.op o.dst out = some u := by
  cases out with
  | none => exact h
  | some out =>
    simp only [putU] at h ⊢
    split at h
    · exact h
    · exact h
    · rename_i b off d hd
      split at h
      · rename_i ob hl
        split at h
        · rename_i hb
          have := ((ha b).1 (look_dst hd hb.1 (fun e => hb.2 e.symm))).2
          rw [hl] at this
          simp only [← this, if_pos hb]; exact h
        · cases h
      · cases h
    · exact h
    · rename_i b cs hd
      split at h
      · rename_i ty t v hop
        split at h
        · rename_i ob hl
          split at h
          · rename_i hb
            have hm : 2 * b ∈ looks A all o := by
              simp only [looks, hop, Op.operands, List.mem_append]
              exact .inl (by simp [lookX, lookT, hb.1])
            have := ((ha b).1 hm).2
            rw [hl] at this
            simp only [← this, if_pos hb]; exact h
          · cases h
        · cases h
      · cases h
    · cases h
/-- Where a pointer into a box is looked at, its box is. -/
theorem looks_closed {A : Ann} (wf : ∀ t b, A.base t = some b → A.base b = some b) {all : List Oper} {o : Oper} {t b : Nat} (h : 2 * t ∈ looks A all o) (hb : A.base t = some b) : 2 * b ∈ looks A all o := by
  have key : ∀ {u : Nat}, 2 * t ∈ lookT A u → 2 * b ∈ lookT A u := by
    intro u hu
    unfold lookT at hu ⊢
    cases hbu : A.base u with
    | none =>
      simp only [hbu, List.mem_singleton] at hu
      have : t = u := by omega
      subst this; rw [hb] at hbu; cases hbu
    | some c =>
      simp only [hbu, List.mem_cons, List.not_mem_nil, or_false] at hu ⊢
      rcases hu with hu | hu | hu
      · have : t = u := by omega
        subst this; rw [hb] at hbu; injection hbu with hbu; subst hbu; exact .inr (.inl rfl)
      · have : t = c := by omega
        subst this
        have := wf u t hbu
        rw [hb] at this; injection this with this; subst this; exact .inr (.inl rfl)
      · omega
  simp only [looks, List.mem_append, List.mem_flatMap] at h ⊢
  rcases h with ⟨x, hx, hm⟩ | h | h
  · refine .inl ⟨x, hx, ?_⟩
    cases x with
    | tmp u => exact key hm
    | _ => simp [lookX] at hm
  · refine .inr (.inl ?_)
    unfold lookG at h ⊢
    split at h
    · rename_i j bb hg
      split at h
      · rename_i oj hj
        split at h
        · rename_i d hd
          exact key h
        · cases h
      · cases h
    · cases h
  · refine .inr (.inr ?_)
    unfold lookD at h ⊢
    split at h
    · rename_i d hd
      split at h
      · rename_i c hc
        split at h
        · cases h
        · rename_i hne
          simp only [List.mem_singleton] at h
          have : t = c := by omega
          subst this
          have := wf d t hc
          rw [hb] at this; injection this with this; subst this
          simp [hc, hne]
      · cases h
    · cases h
theorem purge_getElem (A : Ann) (b : Nat) : ∀ (os : List (Option Nat)) (i t : Nat), (purge A b i os)[t]? = os[t]?.map fun o => if A.base (i + t) = some b then none else o
  | [], i, t => by simp [purge]
  | o :: os, i, 0 => by simp [purge]
  | o :: os, i, t + 1 => by
    simp only [purge, List.getElem?_cons_succ]
    rw [purge_getElem A b os (i + 1) t, show i + 1 + t = i + (t + 1) by omega]
theorem app_agree {A : Ann} (wf : ∀ t b, A.base t = some b → A.base b = some b) {all : List Oper} {x y : Oper} {u : PU} {fr : AFr} (hu : u.within A all x) (hd : ∀ r ∈ lays A x, r ∉ looks A all y) : Agree (looks A all y) fr (u.app A fr) := by
  intro t
  cases u with
  | nop => exact ⟨fun _ => ⟨rfl, rfl⟩, fun _ => rfl⟩
  | tm d v =>
    refine ⟨fun hr => ⟨?_, rfl⟩, fun _ => rfl⟩
    have : d ≠ t := by rintro rfl; exact hd _ hu.1 hr
    simp [PU.app, List.getElem?_set_ne this]
  | ofs d o' =>
    refine ⟨fun hr => ⟨rfl, ?_⟩, fun _ => rfl⟩
    have : d ≠ t := by rintro rfl; exact hd _ hu.1 hr
    simp [PU.app, List.getElem?_set_ne this]
  | bx d cs =>
    refine ⟨fun hr => ⟨rfl, ?_⟩, fun hr => ?_⟩
    · have : d ≠ t := by rintro rfl; exact hd _ hu.1 hr
      have hb : A.base t ≠ some d := fun hb => hd _ hu.1 (looks_closed wf hr hb)
      simp only [PU.app]
      rw [List.getElem?_set_ne this, purge_getElem]
      simp [hb]
    · have : d ≠ t := by rintro rfl; exact hd _ hu.2.1 hr
      simp [PU.app, List.getElem?_set_ne this]
  | lb b cs =>
    refine ⟨fun hr => ⟨rfl, rfl⟩, fun hr => ?_⟩
    have : b ≠ t := by rintro rfl; exact hd _ hu.1 hr
    simp [PU.app, List.getElem?_set_ne this]

theorem purge_set (A : Ann) (b t : Nat) (os : List (Option Nat)) (o : Option Nat) (h : A.base t ≠ some b) : purge A b 0 (os.set t o) = (purge A b 0 os).set t o := by
  apply List.ext_getElem?
  intro i
  rw [purge_getElem, List.getElem?_set, List.getElem?_set, purge_getElem, purge_len]
  simp only [Nat.zero_add]
  by_cases hi : t = i
  · subst hi
    simp only [if_true, if_neg h]
    split <;> rfl
  · simp only [if_neg hi]
theorem purge_comm (A : Ann) (b c : Nat) (os : List (Option Nat)) : purge A b 0 (purge A c 0 os) = purge A c 0 (purge A b 0 os) := by
  apply List.ext_getElem?
  intro i
  simp only [purge_getElem, Option.map_map, Nat.zero_add]
  congr 1
  funext o
  simp only [Function.comp]
  split <;> split <;> rfl
theorem app_comm {A : Ann} {all : List Oper} {x y : Oper} {u v : PU} {fr : AFr} (hu : u.within A all x) (hv : v.within A all y)
    (h1 : ∀ r ∈ lays A x, r ∉ looks A all y ∧ r ∉ lays A y) (h2 : ∀ r ∈ lays A y, r ∉ looks A all x) : v.app A (u.app A fr) = u.app A (v.app A fr) := by
  cases u with
  | nop => rfl
  | tm d p =>
    cases v with
    | tm d' q =>
      have : d ≠ d' := by rintro rfl; exact (h1 _ hu.1).2 hv.1
      simp only [PU.app]; rw [List.set_comm _ _ this]
    | _ => rfl
  | ofs d p =>
    obtain ⟨hu1, b, hu2, hu3⟩ := hu
    cases v with
    | ofs d' q =>
      have : d ≠ d' := by rintro rfl; exact (h1 _ hu1).2 hv.1
      simp only [PU.app]; rw [List.set_comm _ _ this]
    | bx d' cs =>
      have hd : d ≠ d' := by rintro rfl; exact (h1 _ hu1).2 hv.1
      have hb : A.base d ≠ some d' := by
        intro e
        rw [hu2] at e; injection e with e; subst e
        exact h2 _ hv.1 (hu3 (fun e => hd e.symm))
      simp only [PU.app]
      rw [purge_set _ _ _ _ _ hb, List.set_comm _ _ hd]
    | _ => rfl
  | bx d cs =>
    obtain ⟨hu1, hu2, hu3⟩ := hu
    cases v with
    | ofs d' q =>
      obtain ⟨hv1, b, hv2, hv3⟩ := hv
      have hd : d ≠ d' := by rintro rfl; exact (h1 _ hu1).2 hv1
      have hb : A.base d' ≠ some d := by
        intro e
        rw [hv2] at e; injection e with e; subst e
        exact (h1 _ hu1).1 (hv3 hd)
      simp only [PU.app]
      rw [purge_set _ _ _ _ _ hb, List.set_comm _ _ hd]
    | bx d' cs' =>
      obtain ⟨hv1, hv2, hv3⟩ := hv
      have hd : d ≠ d' := by rintro rfl; exact (h1 _ hu1).2 hv1
      simp only [PU.app]
      rw [purge_set _ _ _ _ _ (by rw [hu3]; exact fun e => hd (Option.some.inj e)), purge_set _ _ _ _ _ (by rw [hv3]; exact fun e => hd (Option.some.inj e).symm), purge_comm, List.set_comm _ _ hd, List.set_comm _ _ hd]
    | lb b cs' =>
      have : d ≠ b := by rintro rfl; exact (h1 _ hu2).2 hv.1
      simp only [PU.app]; rw [List.set_comm _ _ this]
    | _ => rfl
  | lb b cs =>
    cases v with
    | bx d' cs' =>
      have : b ≠ d' := by rintro rfl; exact (h1 _ hu.1).2 hv.2.1
      simp only [PU.app]; rw [List.set_comm _ _ this]
    | lb b' cs' =>
      have : b ≠ b' := by rintro rfl; exact (h1 _ hu.1).2 hv.1
      simp only [PU.app]; rw [List.set_comm _ _ this]
    | _ => rfl

section
variable {E : Env} {call : Caller} {A : Ann}
/-- What an operation comes to, and what it does to the store. -/
def outS (E : Env) (call : Caller) (A : Ann) (rid : Nat) (all : List Oper) (i : Nat) (o : Oper) (fr : AFr) (st : Store) : Option (Option Out × Store × Nat) :=
  match aWanted A all fr o with
  | some true => (match aevals E.globals A fr o.op.operands.toList with
    | none => none
    | some ins => (match aout E call (A.mode rid i) o ins st with
      | some r => some (some r.1, r.2, labOp E.L (A.mode rid i) o.op ins)
      | none => none))
  | some false => some (none, st, 0)
  | none => none
def stepL (E : Env) (call : Caller) (A : Ann) (rid : Nat) (all : List Oper) (i : Nat) (l : Nat) (fr : AFr) (st : Store) : Option (AFr × Store) :=
  match all[i]? with
  | none => none
  | some o => (match outS E call A rid all i o fr st with
    | some q => if q.2.2 = l then (match putU A fr o.op o.dst q.1 with
        | some u => some (u.app A fr, q.2.1)
        | none => none) else none
    | none => none)
def opsL (E : Env) (call : Caller) (A : Ann) (rid : Nat) (all : List Oper) (lab : Nat → Nat) : List Nat → AFr → Store → Option (AFr × Store)
  | [], fr, st => some (fr, st)
  | i :: L, fr, st => match stepL E call A rid all i (lab i) fr st with
    | some r => opsL E call A rid all lab L r.1 r.2
    | none => none
theorem stepL_some {rid i l : Nat} {all : List Oper} {fr : AFr} {st : Store} {r : AFr × Store} (h : stepL E call A rid all i l fr st = some r) :
    ∃ o out u, all[i]? = some o ∧ outS E call A rid all i o fr st = some (out, r.2, l) ∧ putU A fr o.op o.dst out = some u ∧ r.1 = u.app A fr := by
  unfold stepL at h
  split at h
  · cases h
  · rename_i o ho
    split at h
    · rename_i q hq
      split at h
      · rename_i hl
        split at h
        · rename_i u hu
          injection h with h; subst h
          obtain ⟨q1, q2, q3⟩ := q
          simp only at hl; subst hl
          exact ⟨o, q1, u, ho, hq, hu, rfl⟩
        · cases h
      · cases h
    · cases h
theorem stepL_mk {rid i l : Nat} {all : List Oper} {fr : AFr} {st st' : Store} {o : Oper} {out : Option Out} {u : PU} (ho : all[i]? = some o) (hq : outS E call A rid all i o fr st = some (out, st', l)) (hu : putU A fr o.op o.dst out = some u) :
    stepL E call A rid all i l fr st = some (u.app A fr, st') := by
  simp [stepL, ho, hq, hu]
theorem outS_local {rid i : Nat} {all : List Oper} {o : Oper} {fr fr' : AFr} {st : Store} (h : Agree (looks A all o) fr fr') : outS E call A rid all i o fr st = outS E call A rid all i o fr' st := by
  unfold outS
  rw [aWanted_local (fr' := fr') (h.sub fun r hr => by simp [looks, hr]), aevals_local (fr' := fr') (h.sub fun r hr => List.mem_append_left _ hr)]
theorem outS_lab {rid i l : Nat} {all : List Oper} {o : Oper} {fr : AFr} {st st' : Store} {out : Option Out} (h : outS E call A rid all i o fr st = some (out, st', l)) :
    (l = 0 → st' = st ∧ ∀ s, outS E call A rid all i o fr s = some (out, s, 0)) ∧ (l = 1 → st' = st) := by
  unfold outS at h
  split at h
  · rename_i hw
    split at h
    · cases h
    · rename_i ins hins
      split at h
      · rename_i r hr
        simp only [Option.some.injEq, Prod.mk.injEq] at h
        obtain ⟨rfl, rfl, rfl⟩ := h
        obtain ⟨h1, h2⟩ := aout_lab hr
        refine ⟨fun h0 => ?_, h2⟩
        obtain ⟨h3, h4⟩ := h1 h0
        refine ⟨h3, fun s => ?_⟩
        simp only [outS, hw, hins, h4 s, h0]
      · cases h
  · rename_i hw
    simp only [Option.some.injEq, Prod.mk.injEq] at h
    obtain ⟨rfl, rfl, rfl⟩ := h
    exact ⟨fun _ => ⟨rfl, fun s => by simp only [outS, hw]⟩, fun hh => by cases hh⟩
  · cases h
theorem apart_some {all : List Oper} {x y : Oper} (h : apartOps A all x y = true) : (∀ r ∈ lays A x, r ∉ looks A all y ∧ r ∉ lays A y) ∧ (∀ r ∈ lays A y, r ∉ looks A all x) := by
  simpa [apartOps] using h
/-- Two that are apart may be turned round. -/
theorem swap_ok (wf : ∀ t b, A.base t = some b → A.base b = some b) {rid i j : Nat} {all : List Oper} {x y : Oper} {lab : Nat → Nat} {fr : AFr} {st : Store} {L : List Nat} {r : AFr × Store}
    (hx : all[i]? = some x) (hy : all[j]? = some y) (hl : labsOk (lab i) (lab j) = true) (hap : apartOps A all x y = true) (h : opsL E call A rid all lab (i :: j :: L) fr st = some r) :
    opsL E call A rid all lab (j :: i :: L) fr st = some r := by
  simp only [opsL] at h
  split at h
  · rename_i r1 hr1
    split at h
    · rename_i r2 hr2
      obtain ⟨o1, out1, u, ho1, hq1, hu, e1⟩ := stepL_some hr1
      obtain ⟨o2, out2, v, ho2, hq2, hv, e2⟩ := stepL_some hr2
      rw [hx] at ho1; injection ho1 with ho1; subst ho1
      rw [hy] at ho2; injection ho2 with ho2; subst ho2
      obtain ⟨h1, h2⟩ := apart_some hap
      have wu := putU_within (all := all) hu
      have wv := putU_within (all := all) hv
      have ag1 : Agree (looks A all y) fr r1.1 := by rw [e1]; exact app_agree wf wu fun r hr => (h1 r hr).1
      have agsym : Agree (looks A all y) r1.1 fr := fun t => ⟨fun hr => ⟨((ag1 t).1 hr).1.symm, ((ag1 t).1 hr).2.symm⟩, fun hr => ((ag1 t).2 hr).symm⟩
      have ag2 : Agree (looks A all x) fr (v.app A fr) := app_agree wf wv h2
      have hv' : putU A fr y.op y.dst out2 = some v := putU_local hv agsym
      have hu' : putU A (v.app A fr) x.op x.dst out1 = some u := putU_local hu ag2
      have hq2' : outS E call A rid all j y fr r1.2 = some (out2, r2.2, lab j) := by rw [outS_local ag1]; exact hq2
      obtain ⟨a0, a1⟩ := outS_lab hq1
      obtain ⟨b0, b1⟩ := outS_lab hq2'
      -- the stores
      have key : ∃ s1, outS E call A rid all j y fr st = some (out2, s1, lab j) ∧ outS E call A rid all i x fr s1 = some (out1, r2.2, lab i) := by
        by_cases hi0 : lab i = 0
        · obtain ⟨e, f⟩ := a0 hi0
          rw [e] at hq2'
          exact ⟨r2.2, hq2', by rw [f r2.2, hi0]⟩
        · by_cases hj0 : lab j = 0
          · obtain ⟨e, f⟩ := b0 hj0
            exact ⟨st, by rw [f st, hj0], by rw [e]; exact hq1⟩
          · have h11 : lab i = 1 ∧ lab j = 1 := by
              simp only [labsOk, Bool.or_eq_true, beq_iff_eq, Bool.and_eq_true] at hl
              omega
            have e := a1 h11.1
            have e' := b1 h11.2
            rw [e] at hq2' e'
            rw [e'] at hq2' ⊢
            refine ⟨st, hq2', ?_⟩
            rw [e] at hq1; exact hq1
      obtain ⟨s1, k1, k2⟩ := key
      have k2' : outS E call A rid all i x (v.app A fr) s1 = some (out1, r2.2, lab i) := by rw [← outS_local ag2]; exact k2
      have s1' := stepL_mk hy k1 hv'
      have s2' := stepL_mk hx k2' hu'
      simp only [opsL, s1', s2']
      rw [← app_comm wu wv h1 h2, ← e1, ← e2]
      exact h
    · cases h
  · cases h
theorem front_ok (wf : ∀ t b, A.base t = some b → A.base b = some b) {rid i : Nat} {all : List Oper} {x : Oper} {lab : Nat → Nat} {L : List Nat} {r : AFr × Store} (hx : all[i]? = some x) :
    ∀ (pre : List Nat) (fr : AFr) (st : Store), (∀ p ∈ pre, ∃ y, all[p]? = some y ∧ labsOk (lab p) (lab i) = true ∧ apartOps A all y x = true) →
      opsL E call A rid all lab (pre ++ i :: L) fr st = some r → opsL E call A rid all lab (i :: (pre ++ L)) fr st = some r
  | [], _, _, _, h => h
  | p :: pre, fr, st, hp, h => by
    obtain ⟨y, hy, hl, hap⟩ := hp p (List.mem_cons_self)
    refine swap_ok wf hy hx hl hap ?_
    simp only [List.cons_append, opsL] at h ⊢
    cases hs : stepL E call A rid all p (lab p) fr st with
    | none => simp [hs] at h
    | some r1 =>
      simp only [hs] at h
      have := front_ok wf hx pre r1.1 r1.2 (fun q hq => hp q (List.mem_cons_of_mem _ hq)) h
      rw [List.append_eq]
      simpa only [opsL] using this
end
end Go.Sim
