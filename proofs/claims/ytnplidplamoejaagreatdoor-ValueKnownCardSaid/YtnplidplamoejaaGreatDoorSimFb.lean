/- The reading made for the kernel: code, functions, calls. -/
import Derived.Test.YtnplidplamoejaaGreatDoorSimFa
set_option linter.unusedVariables false
set_option linter.unusedSimpArgs false
set_option linter.unnecessarySimpa false
namespace Go.Sim

noncomputable def floop (body : FFr → Store → Option (AEx × FFr × Store)) : Nat → FFr → Store → Option (AEx × FFr × Store)
  | 0, _, _ => none
  | n + 1, fr, st => match body fr st with
    | some (.normal, fr', st') => floop body n fr' st'
    | r => r
/-- Temporaries as a loop over a function keeps them. -/
noncomputable def fsnap (A : FAnn) (t : Tr AV) : Nat → Nat → List AV
  | 0, _ => []
  | n + 1, i => (match A.base i with | none => (match t.get i with | some v => v | none => aundef) | some _ => .junk) :: fsnap A t n (i + 1)
def endLoopF (fr : FFr) (st : Store) (o : Nat) : Option (AEx × FFr × Store) := match st.get o with
  | some (.loop s pend f tmps ps as b) => (match s with
    | .busy => none
    | _ => (match jumpEx pend with
      | some ex => some (ex, fr, st.set o (.loop .exhausted pend f tmps ps as b))
      | none => none))
  | _ => none
noncomputable def fcode (E : Env) (call : Caller) (A : FAnn) (f : FuncId) (n : Nat) (rd : Bool) : Code → FFr → Store → Option (AEx × FFr × Store)
  | .skip, fr, st => some (.normal, fr, st)
  | .label _, fr, st => some (.normal, fr, st)
  | .region id ops d, fr, st => (match d with
    | false => (match fops E call A id ops.toList ops.toList 0 fr st with
      | some r => some (.normal, r.1, r.2)
      | none => none)
    | true => (match fdraw E call A id ops.toList fr st with
      | some r => some (.normal, r.1, r.2)
      | none => none))
  | .seq a b, fr, st => (match fcode E call A f n rd a fr st with
    | some (.normal, fr', st') => fcode E call A f n rd b fr' st'
    | r => r)
  | .cond c a b, fr, st => (match feval E.globals A fr c with
    | some (.val (.bool true)) => fcode E call A f n rd a fr st
    | some (.val (.bool false)) => fcode E call A f n rd b fr st
    | _ => none)
  | .block id body, fr, st => (match fcode E call A f n rd body fr st with
    | some (.exit i, fr', st') => if i == id then some (.normal, fr', st') else some (.exit i, fr', st')
    | r => r)
  | .loop body, fr, st => floop (fcode E call A f n rd body) n fr st
  | .exit id, fr, st => some (.exit id, fr, st)
  | .ret, fr, st => some (.ret, fr, st)
  | .rangeFunc it ps assign body, fr, st => (match rd with
    | true => none
    | false => (match feval E.globals A fr it with
      | some (.val (.func (.func k) first cap)) => (match entersF E k with
        | true => (match call (.func (.func k) first cap) [.func (.yield st.nobj) [] []] (st.new (.loop .ready none f (fsnap A fr.t fr.n 0) ps.toList assign body)) with
          | some r => endLoopF fr r.2 st.nobj
          | none => none)
        | false => none)
      | _ => none))
  | _, _, _ => none
/-- All drawn regions are in order. -/
def codeOk (A : FAnn) : Code → Bool
  | .region id ops true => drawOk A id ops.toList
  | .seq a b => codeOk A a && codeOk A b
  | .cond _ a b => codeOk A a && codeOk A b
  | .block _ a => codeOk A a
  | .loop a => codeOk A a
  | _ => true
noncomputable def fresult (E : Env) (A : FAnn) (fr : FFr) (st : Store) : ResultVar → Option AV
  | .tmp t => (match A.base t with
    | none => fr.t.get t
    | some _ => none)
  | .cell a t => (match sizeT E.L t with
    | none => none
    | some sz => (match (match A.base a with
        | some b => (match fr.bx.get b with
          | some cs => (match fr.of.get a with
            | some off => cut cs off sz
            | none => none)
          | none => none)
        | none => (match fr.t.get a with
          | some (.ptr o off) => (st.getCells o).bind (cut · off sz)
          | _ => none) : Option (List AV)) with
      | some cs => mkT E.L t cs
      | none => none))
noncomputable def fresults (E : Env) (A : FAnn) (fr : FFr) (st : Store) : List ResultVar → Option (List AV)
  | [] => some []
  | r :: rs => (match fresult E A fr st r with
    | some v => (match fresults E A fr st rs with
      | some vs => some (v :: vs)
      | none => none)
    | none => none)
noncomputable def argTr : List AV → Nat → Tr AV → Tr AV
  | [], _, t => t
  | v :: vs, i, t => argTr vs (i + 1) (t.set i v)
noncomputable def fenter (fn : Func) (args : List AV) : FFr :=
  { n := max args.length fn.ntmps, t := argTr args 0 .e, of := .e, bx := .e }
noncomputable def ffun (E : Env) (An : FuncId → FAnn) (call : Caller) (n : Nat) (f : FuncId) (args : List AV) (st : Store) : Option (AV × Store) :=
  match E.L.fn f with
  | none => none
  | some fn => (match fn.body with
    | none => none
    | some c => if max args.length fn.ntmps ≤ 8000 then (match fcode E call (An f) f n false c (fenter fn args) st with
      | some (.exit _, _, _) => none
      | some (_, fr, st') => (match fresults E (An f) fr st' fn.results.toList with
        | some [v] => some (v, st')
        | some vs => some (.tuple vs, st')
        | none => none)
      | none => none) else none)
noncomputable def fyield (E : Env) (An : FuncId → FAnn) (call : Caller) (n : Nat) (l : Nat) (args : List AV) (st : Store) : Option (AV × Store) :=
  match st.get l with
  | some (.loop _ _ f tmps params assign body) => (match setParams params args tmps with
    | none => none
    | some tmps' => if tmps'.length ≤ 8000 ∧ codeOk (An f) assign = true then (match fcode E call (An f) f n true assign { n := tmps'.length, t := argTr tmps' 0 .e, of := .e, bx := .e } st with
      | some (.normal, fr1, st1) => (match st1.get l with
        | some (.loop .ready pend f1 tmps1 ps1 as1 b1) => if codeOk (An f) body = true then
          (match fcode E call (An f) f n true body fr1 (st1.set l (.loop .busy pend f1 tmps1 ps1 as1 b1)) with
          | some r => endRoundA r.2.2 l r.1
          | none => none) else none
        | _ => none)
      | _ => none) else none)
  | _ => none
noncomputable def fcall (E : Env) (An : FuncId → FAnn) (pr : Prims) : Nat → AV → List AV → Store → Option (AV × Store)
  | 0, _, _, _ => none
  | n + 1, fv, args, st => (match fv with
    | .func fn first cap => (match fn with
      | .func f => (match pr f with
        | some p => (match p (first ++ args ++ cap) st with
          | some r => some r
          | none => ffun E An (fcall E An pr n) n f (first ++ args ++ cap) st)
        | none => ffun E An (fcall E An pr n) n f (first ++ args ++ cap) st)
      | .yield l => (match first with
        | [] => (match cap with
          | [] => fyield E An (fcall E An pr n) n l args st
          | _ => none)
        | _ => none)
      | _ => none)
    | _ => none)

section
variable {E : Env} {call call' : Caller} {A : FAnn} {ff ff' : FFr} {fr : AFr}
def Refines (call call' : Caller) : Prop := ∀ f args st r, call f args st = some r → call' f args st = some r
theorem aout_mono (hc : Refines call call') {md : Nat} {o : Oper} {ins : List In} {st : Store} {r : Out × Store} (h : aout E call md o ins st = some r) : aout E call' md o ins st = some r := by
  unfold aout at h ⊢
  split at h
  · split at h
    · split at h
      · split at h
        · rename_i q hq
          simp only [hc _ _ _ _ hq]; exact h
        · cases h
      · cases h
    · cases h
    · exact h
  · exact h
theorem fops_mono (hc : Refines call call') {rid : Nat} {all : List Oper} : ∀ {rest : List Oper} {i : Nat} {ff : FFr} {st : Store} {r : FFr × Store}, fops E call A rid all rest i ff st = some r → fops E call' A rid all rest i ff st = some r
  | [], _, _, _, _, h => h
  | o :: rest, i, ff, st, r, h => by
    simp only [fops] at h ⊢
    split at h
    · split at h
      · cases h
      · rename_i ins hins
        split at h
        · rename_i q hq
          split at h
          · rename_i f1 hp
            simp only [aout_mono hc hq, hp]; exact fops_mono hc h
          · cases h
        · cases h
    · split at h
      · rename_i f1 hp; exact fops_mono hc h
      · cases h
    · cases h
theorem fopsL_mono (hc : Refines call call') {rid : Nat} {all : List Oper} : ∀ {rest : List Oper} {ls : List Nat} {i : Nat} {ff : FFr} {st : Store} {r : FFr × Store}, fopsL E call A rid all rest ls i ff st = some r → fopsL E call' A rid all rest ls i ff st = some r
  | [], _, _, _, _, _, h => h
  | o :: rest, [], i, ff, st, r, h => by simp [fopsL] at h
  | o :: rest, l :: ls, i, ff, st, r, h => by
    simp only [fopsL] at h ⊢
    split at h
    · split at h
      · cases h
      · rename_i ins hins
        split at h
        · rename_i q hq
          split at h
          · rename_i f1 hp
            simp only [aout_mono hc hq, hp]
            cases h2 : Nat.beq l 2 with
            | true => rw [h2] at h; exact fopsL_mono hc h
            | false =>
              rw [h2] at h
              cases h3 : Nat.ble (labOp E.L (A.mode rid i) o.op ins) l with
              | true => rw [h3] at h; exact fopsL_mono hc h
              | false => rw [h3] at h; cases h
          · cases h
        · cases h
    · split at h
      · rename_i f1 hp; exact fopsL_mono hc h
      · cases h
    · cases h
theorem fsnap_eq (h : FRel A ff fr) : ∀ (n i : Nat) (xs : List AV), xs.length = n → (∀ t, t < n → xs[t]? = some (match ff.t.get (i + t) with | some v => v | none => aundef)) → fsnap A ff.t n i = snap A.ann i xs
  | 0, i, xs, hl, _ => by
    match xs, hl with
    | [], _ => rfl
  | n + 1, i, xs, hl, hx => by
    match xs, hl with
    | x :: xs, hl =>
      have h0 := hx 0 (by omega)
      simp only [List.getElem?_cons_zero, Option.some.injEq, Nat.add_zero] at h0
      simp only [fsnap, snap, FAnn.ann]
      rw [fsnap_eq h n (i + 1) xs (by simpa using hl) (fun t ht => by
        have := hx (t + 1) (by omega)
        rwa [List.getElem?_cons_succ, show i + (t + 1) = i + 1 + t by omega] at this), ← h0]
      rfl
theorem fcode_ok (hA : A.Ok) (hc : Refines call call') {f n : Nat} {rd : Bool} : ∀ (c : Code), codeOk A c = true → ∀ {ff : FFr} {fr : AFr} {st : Store} {ex : AEx} {ff' : FFr} {st' : Store}, FRel A ff fr → fcode E call A f n rd c ff st = some (ex, ff', st') →
    ∃ fr', acode E call' A.ann f n rd c fr st = some (ex, fr', st') ∧ FRel A ff' fr' := by
  intro c
  induction c with
  | skip =>
    intro _ ff fr st ex ff' st' h he
    simp only [fcode, Option.some.injEq, Prod.mk.injEq] at he
    obtain ⟨rfl, rfl, rfl⟩ := he
    exact ⟨fr, rfl, h⟩
  | label l =>
    intro _ ff fr st ex ff' st' h he
    simp only [fcode, Option.some.injEq, Prod.mk.injEq] at he
    obtain ⟨rfl, rfl, rfl⟩ := he
    exact ⟨fr, rfl, h⟩
  | region id ops d =>
    intro hd ff fr st ex ff' st' h he
    cases d with
    | false =>
      simp only [fcode] at he
      split at he
      · rename_i r hr
        simp only [Option.some.injEq, Prod.mk.injEq] at he
        obtain ⟨rfl, rfl, rfl⟩ := he
        obtain ⟨fr', h1, h2⟩ := fops_ok hA h (fops_mono hc hr)
        exact ⟨fr', by simp only [acode, h1], h2⟩
      · cases he
    | true =>
      simp only [fcode] at he
      split at he
      · rename_i r hr
        simp only [Option.some.injEq, Prod.mk.injEq] at he
        obtain ⟨rfl, rfl, rfl⟩ := he
        have hr' : fdraw E call' A id ops.toList ff st = some r := by
          unfold fdraw at hr ⊢
          split at hr
          · cases hr
          · rename_i ls hls
            exact fopsL_mono hc hr
        obtain ⟨fr', h1, h2⟩ := fdraw_ok hA hd h hr'
        exact ⟨fr', by simp only [acode, h1], h2⟩
      · cases he
  | seq x y ihx ihy =>
    intro hd ff fr st ex ff' st' h he
    simp only [codeOk, Bool.and_eq_true] at hd
    simp only [fcode] at he
    cases hr : fcode E call A f n rd x ff st with
    | none => simp [hr] at he
    | some r =>
      obtain ⟨e1, ff1, st1⟩ := r
      rw [hr] at he
      obtain ⟨fr1, h1, h2⟩ := ihx hd.1 h hr
      cases e1 with
      | normal =>
        obtain ⟨fr2, h3, h4⟩ := ihy hd.2 h2 he
        exact ⟨fr2, by simp only [acode, h1]; exact h3, h4⟩
      | exit id =>
        simp only [Option.some.injEq, Prod.mk.injEq] at he
        obtain ⟨rfl, rfl, rfl⟩ := he
        exact ⟨fr1, by simp only [acode, h1], h2⟩
      | ret =>
        simp only [Option.some.injEq, Prod.mk.injEq] at he
        obtain ⟨rfl, rfl, rfl⟩ := he
        exact ⟨fr1, by simp only [acode, h1], h2⟩
  | cond c x y ihx ihy =>
    intro hd ff fr st ex ff' st' h he
    simp only [codeOk, Bool.and_eq_true] at hd
    simp only [fcode] at he
    split at he
    · rename_i hcv
      obtain ⟨fr1, h1, h2⟩ := ihx hd.1 h he
      exact ⟨fr1, by simp only [acode, feval_ok h hcv]; exact h1, h2⟩
    · rename_i hcv
      obtain ⟨fr1, h1, h2⟩ := ihy hd.2 h he
      exact ⟨fr1, by simp only [acode, feval_ok h hcv]; exact h1, h2⟩
    · cases he
  | block id body ih =>
    intro hd ff fr st ex ff' st' h he
    simp only [fcode] at he
    cases hr : fcode E call A f n rd body ff st with
    | none => simp [hr] at he
    | some r =>
      obtain ⟨e1, ff1, st1⟩ := r
      rw [hr] at he
      obtain ⟨fr1, h1, h2⟩ := ih hd h hr
      cases e1 with
      | normal =>
        simp only [Option.some.injEq, Prod.mk.injEq] at he
        obtain ⟨rfl, rfl, rfl⟩ := he
        exact ⟨fr1, by simp only [acode, h1], h2⟩
      | ret =>
        simp only [Option.some.injEq, Prod.mk.injEq] at he
        obtain ⟨rfl, rfl, rfl⟩ := he
        exact ⟨fr1, by simp only [acode, h1], h2⟩
      | exit i =>
        refine ⟨fr1, ?_, ?_⟩
        · simp only [acode, h1]
          simp only at he
          split at he <;> rename_i hi <;> simp only [Option.some.injEq, Prod.mk.injEq] at he <;> obtain ⟨rfl, rfl, rfl⟩ := he
          · rw [if_pos hi]
          · rw [if_neg hi]
        · simp only at he
          split at he <;> rename_i hi <;> simp only [Option.some.injEq, Prod.mk.injEq] at he <;> obtain ⟨rfl, rfl, rfl⟩ := he <;> exact h2
  | loop body ih =>
    intro hd ff fr st ex ff' st' h he
    simp only [fcode] at he
    simp only [acode]
    have key : ∀ (k : Nat) {ff : FFr} {fr : AFr} {st : Store}, FRel A ff fr → floop (fcode E call A f n rd body) k ff st = some (ex, ff', st') → ∃ fr', aloop (acode E call' A.ann f n rd body) k fr st = some (ex, fr', st') ∧ FRel A ff' fr' := by
      intro k
      induction k with
      | zero => intro ff fr st _ he; simp [floop] at he
      | succ k ihk =>
        intro ff fr st h he
        simp only [floop] at he
        cases hr : fcode E call A f n rd body ff st with
        | none => simp [hr] at he
        | some r =>
          obtain ⟨e1, ff1, st1⟩ := r
          rw [hr] at he
          obtain ⟨fr1, h1, h2⟩ := ih hd h hr
          cases e1 with
          | normal =>
            obtain ⟨fr2, h3, h4⟩ := ihk h2 he
            exact ⟨fr2, by simp only [aloop, h1]; exact h3, h4⟩
          | exit id =>
            simp only [Option.some.injEq, Prod.mk.injEq] at he
            obtain ⟨rfl, rfl, rfl⟩ := he
            exact ⟨fr1, by simp only [aloop, h1], h2⟩
          | ret =>
            simp only [Option.some.injEq, Prod.mk.injEq] at he
            obtain ⟨rfl, rfl, rfl⟩ := he
            exact ⟨fr1, by simp only [aloop, h1], h2⟩
    exact key n h he
  | exit id =>
    intro _ ff fr st ex ff' st' h he
    simp only [fcode, Option.some.injEq, Prod.mk.injEq] at he
    obtain ⟨rfl, rfl, rfl⟩ := he
    exact ⟨fr, rfl, h⟩
  | ret =>
    intro _ ff fr st ex ff' st' h he
    simp only [fcode, Option.some.injEq, Prod.mk.injEq] at he
    obtain ⟨rfl, rfl, rfl⟩ := he
    exact ⟨fr, rfl, h⟩
  | rangeFunc it ps assign body _ _ =>
    intro _ ff fr st ex ff' st' h he
    simp only [fcode] at he
    cases rd with
    | true => cases he
    | false =>
      simp only at he
      split at he
      · rename_i k first cap hcv
        split at he
        · rename_i hent
          split at he
          · rename_i r hr
            have hs : fsnap A ff.t ff.n 0 = snap A.ann 0 fr.tmps := by
              refine fsnap_eq h ff.n 0 fr.tmps (by rw [h.lt]) fun t ht => ?_
              rw [Nat.zero_add]; exact h.ex t ht
            rw [hs] at hr
            refine ⟨fr, ?_, ?_⟩
            · simp only [acode, Bool.false_eq_true, if_false, feval_ok h hcv, hent, if_true, hc _ _ _ _ hr]
              unfold endLoopF at he
              unfold endLoopA
              split at he
              · rename_i s pend f' tmps ps' as b hg
                simp only [hg]
                split at he
                · cases he
                · rename_i hnb
                  split at he
                  · rename_i ex' hj
                    simp only [Option.some.injEq, Prod.mk.injEq] at he
                    obtain ⟨rfl, rfl, rfl⟩ := he
                    cases s <;> first | exact absurd rfl hnb | simp only [hj]
                  · cases he
              · cases he
            · unfold endLoopF at he
              split at he
              · split at he
                · cases he
                · split at he
                  · simp only [Option.some.injEq, Prod.mk.injEq] at he
                    obtain ⟨_, rfl, _⟩ := he
                    exact h
                  · cases he
              · cases he
          · cases he
        · cases he
      · cases he
  | _ =>
    intro _ ff fr st ex ff' st' h he
    simp [fcode] at he
theorem fresult_ok (h : FRel A ff fr) {st : Store} {r : ResultVar} {v : AV} (he : fresult E A ff st r = some v) : aresult E A.ann fr st r = some v := by
  cases r with
  | tmp t =>
    simp only [fresult] at he
    split at he
    · rename_i hb
      have hb' : A.ann.base t = none := hb
      simp only [aresult, hb']; exact h.t t v he
    · cases he
  | cell a t =>
    simp only [fresult] at he
    split at he
    · cases he
    · rename_i sz hsz
      split at he
      · rename_i cs hcs
        split at hcs
        · rename_i b hb
          have hb' : A.ann.base a = some b := hb
          split at hcs
          · rename_i cs1 hcs1
            split at hcs
            · rename_i off hoff
              obtain ⟨_, h1, o, h2⟩ := h.bx b cs1 hcs1
              simp only [aresult, hsz, hb', h2, h.of a off hoff, h1, hcs]; exact he
            · cases hcs
          · cases hcs
        · rename_i hb
          have hb' : A.ann.base a = none := hb
          split at hcs
          · rename_i o off ho
            simp only [aresult, hsz, hb', h.t a _ ho, hcs]; exact he
          · cases hcs
      · cases he
theorem fresults_ok (h : FRel A ff fr) {st : Store} : ∀ {rs : List ResultVar} {vs : List AV}, fresults E A ff st rs = some vs → aresults E A.ann fr st rs = some vs
  | [], vs, he => he
  | r :: rs, vs, he => by
    simp only [fresults] at he
    split at he
    · rename_i v hv
      split at he
      · rename_i ws hws
        simp only [aresults, fresult_ok h hv, fresults_ok h hws]; exact he
      · cases he
    · cases he
theorem argTr_get : ∀ (vs : List AV) (i : Nat) (t : Tr AV) (k : Nat), i + vs.length ≤ 8000 → (argTr vs i t).get k = if i ≤ k ∧ k < i + vs.length then vs[k - i]? else t.get k
  | [], i, t, k, _ => by
    rw [if_neg (by simp only [List.length_nil]; omega)]; rfl
  | v :: vs, i, t, k, hl => by
    simp only [List.length_cons] at hl ⊢
    rw [argTr, argTr_get vs (i + 1) (t.set i v) k (by omega)]
    by_cases h1 : i + 1 ≤ k ∧ k < i + 1 + vs.length
    · rw [if_pos h1, if_pos (by omega), show k - i = (k - (i + 1)) + 1 by omega, List.getElem?_cons_succ]
    · rw [if_neg h1, Tr.set, Tr.get_put_if _ _ (by omega)]
      by_cases h2 : k = i
      · subst h2
        rw [if_pos rfl, if_pos (by omega)]; simp
      · rw [if_neg h2, if_neg (by omega)]
theorem fenter_ok {fn : Func} {args : List AV} (hl : max args.length fn.ntmps ≤ 8000) : FRel A (fenter fn args) (aenter fn args) := by
  have hget : ∀ t, (argTr args 0 (.e : Tr AV)).get t = if t < args.length then args[t]? else none := by
    intro t
    rw [argTr_get args 0 .e t (by omega), Tr.get_e]
    by_cases h : t < args.length
    · rw [if_pos (by omega), if_pos h, Nat.sub_zero]
    · rw [if_neg (by omega), if_neg h]
  refine ⟨hl, by simp [aenter, fenter]; omega, by simp [aenter, fenter], by simp [aenter, fenter], fun t ht => ?_, fun t v ht => ?_, fun t o ht => ?_, fun b cs hb => ?_⟩
  rotate_left 2
  · cases ht
  · cases hb
  · simp only [aenter, fenter, hget]
    by_cases h : t < args.length
    · rw [if_pos h, List.getElem?_append_left h, List.getElem?_eq_getElem h]
    · rw [if_neg h, List.getElem?_append_right (by omega)]
      have : t < max args.length fn.ntmps := ht
      rw [List.getElem?_replicate, if_pos (by omega)]
  · have h1 : (argTr args 0 (.e : Tr AV)).get t = some v := ht
    rw [hget] at h1
    show t < max args.length fn.ntmps
    split at h1
    · omega
    · cases h1
theorem fround_ok {tmps : List AV} (hl : tmps.length ≤ 8000) : FRel A { n := tmps.length, t := argTr tmps 0 .e, of := .e, bx := .e } { tmps := tmps, offs := List.replicate tmps.length none, lbs := List.replicate tmps.length [] } := by
  have hget : ∀ t, (argTr tmps 0 (.e : Tr AV)).get t = if t < tmps.length then tmps[t]? else none := by
    intro t
    rw [argTr_get tmps 0 .e t (by omega), Tr.get_e]
    by_cases h : t < tmps.length
    · rw [if_pos (by omega), if_pos h, Nat.sub_zero]
    · rw [if_neg (by omega), if_neg h]
  refine ⟨hl, rfl, by simp, by simp, fun t ht => ?_, fun t v ht => ?_, fun t o ht => ?_, fun b cs hb => ?_⟩
  rotate_left 2
  · cases ht
  · cases hb
  · have h : t < tmps.length := ht
    simp only [hget]
    rw [if_pos h, List.getElem?_eq_getElem h]
  · have h1 : (argTr tmps 0 (.e : Tr AV)).get t = some v := ht
    rw [hget] at h1
    split at h1
    · assumption
    · cases h1
/-- How all functions are read, and that it is in order. -/
structure FOk (E : Env) (An : FuncId → FAnn) : Prop where
  ann : ∀ f, (An f).Ok
  code : ∀ f fn c, E.L.fn f = some fn → fn.body = some c → codeOk (An f) c = true
theorem ffun_ok {An : FuncId → FAnn} (hO : FOk E An) (hc : Refines call call') {n f : Nat} {args : List AV} {st : Store} {r : AV × Store} (h : ffun E An call n f args st = some r) : afun E (fun f => (An f).ann) call' n f args st = some r := by
  unfold ffun at h
  unfold afun
  split at h
  · cases h
  · rename_i fn hf
    simp only [hf]
    split at h
    · cases h
    · rename_i c hb
      simp only [hb]
      split at h
      · rename_i hl
        split at h
        · cases h
        · rename_i ex fr st' hne hcode
          obtain ⟨fr', h1, h2⟩ := fcode_ok (hO.ann f) hc (f := f) c (hO.code f fn c hf hb) (fenter_ok hl) hcode
          simp only [h1]
          cases ex with
          | exit id => exact absurd rfl (hne id)
          | normal =>
            split at h
            · rename_i v hv; simp only [fresults_ok h2 hv]; exact h
            · rename_i vs hns hv
              rw [fresults_ok h2 hv]
              split
              · rename_i v e; injection e with e; subst e; exact absurd rfl (hns v)
              · rename_i vs' _ e; injection e with e; subst e; exact h
              · rename_i e; cases e
            · cases h
          | ret =>
            split at h
            · rename_i v hv; simp only [fresults_ok h2 hv]; exact h
            · rename_i vs hns hv
              rw [fresults_ok h2 hv]
              split
              · rename_i v e; injection e with e; subst e; exact absurd rfl (hns v)
              · rename_i vs' _ e; injection e with e; subst e; exact h
              · rename_i e; cases e
            · cases h
        · cases h
      · cases h
theorem fyield_ok {An : FuncId → FAnn} (hO : FOk E An) (hc : Refines call call') {n l : Nat} {args : List AV} {st : Store} {r : AV × Store} (h : fyield E An call n l args st = some r) : ayield E (fun f => (An f).ann) call' n l args st = some r := by
  unfold fyield at h
  unfold ayield
  split at h
  · rename_i s pend f tmps ps assign body hg
    simp only [hg]
    split at h
    · cases h
    · rename_i tmps' hset
      simp only [hset]
      split at h
      · rename_i hl
        split at h
        · rename_i fr1 st1 hac
          obtain ⟨fa1, h1, h2⟩ := fcode_ok (hO.ann f) hc (f := f) assign hl.2 (fround_ok hl.1) hac
          simp only [h1]
          split at h
          · rename_i pend1 f1 tmps1 ps1 as1 b1 hg1
            simp only [hg1]
            split at h
            · rename_i hb
              split at h
              · rename_i q hq
                obtain ⟨fa2, h3, h4⟩ := fcode_ok (hO.ann f) hc (f := f) body hb h2 (ex := q.1) (ff' := q.2.1) (st' := q.2.2) hq
                simp only [h3]; exact h
              · cases h
            · cases h
          · cases h
        · cases h
      · cases h
  · cases h
/-- **WHAT THE KERNEL READS IS WHAT IS READ.** -/
theorem fcall_ok {An : FuncId → FAnn} (hO : FOk E An) {pr : Prims} : ∀ n, Refines (fcall E An pr n) (acall E (fun f => (An f).ann) pr n)
  | 0 => fun f args st r h => by simp [fcall] at h
  | n + 1 => by
    intro fv args st r h
    have ih := fcall_ok hO (pr := pr) n
    simp only [fcall] at h
    split at h
    · rename_i fn first cap
      split at h
      · rename_i f
        change (match pr f with
          | some p => (match p (first ++ args ++ cap) st with
            | some r => some r
            | none => afun E (fun f => (An f).ann) (acall E (fun f => (An f).ann) pr n) n f (first ++ args ++ cap) st)
          | none => afun E (fun f => (An f).ann) (acall E (fun f => (An f).ann) pr n) n f (first ++ args ++ cap) st) = some r
        split at h
        · split at h
          · exact h
          · exact ffun_ok hO ih h
        · exact ffun_ok hO ih h
      · rename_i l
        split at h
        · split at h
          · exact fyield_ok hO ih h
          · cases h
        · cases h
      · cases h
    · cases h
end
end Go.Sim
